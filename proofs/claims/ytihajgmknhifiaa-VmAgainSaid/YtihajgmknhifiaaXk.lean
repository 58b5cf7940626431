/- The call of VmAgain: where the input is too long, and where New refuses. -/
import Derived.Test.YtihajgmknhifiaaWj
namespace Go.Proofs.Ytihajgmknhifiaa
open Go.RowKit
set_option linter.unusedVariables false

set_option maxHeartbeats 4000000 in
set_option maxRecDepth 100000 in
theorem again_big {w : World} {A B D : Option Addr} {n1 n2 n3 c1 c2 c3 : Nat} {c : Cf} (h : 200 < n1 ∨ 100 < n2 ∨ 200 < n3) :
    Calls Try.prog 7 #[.slice A n1 c1, c.val, .slice B n2 c2, .slice D n3 c3] w fun e w' => e = .returned (.bool true) ∧ Below w.heap.size w w' := by
  have hw := works_c (w.alloc (.cells #[.int .i64 c.slots, .int .i64 c.reads, .int .i64 c.writes, .int .i64 c.stack] 24))
  have HW := Lib.hid hw
  clear hw
  unfold Cf.val
  by_cases h1 : 200 < n1
  · have d1 : decide ((200 : Int) < (n1 : Int)) = true := by simp; omega
    clear h
    go_enter Try.func7, Try.ntmps7
    go_wp2_with (go_at_call 8; refine HW.out.mono ?_; rintro e w1 ⟨rfl, hb⟩; have HB := Lib.hid hb; clear hb)
    go_ret
    exact ⟨rfl, ((Below.refl _ _).alloc (Nat.le_refl _) _).trans (HB.out.mono (by simp))⟩
  · have d1 : decide ((200 : Int) < (n1 : Int)) = false := by simp; omega
    by_cases h2 : 100 < n2
    · have d2 : decide ((100 : Int) < (n2 : Int)) = true := by simp; omega
      clear h
      go_enter Try.func7, Try.ntmps7
      go_wp2_with (go_at_call 8; refine HW.out.mono ?_; rintro e w1 ⟨rfl, hb⟩; have HB := Lib.hid hb; clear hb)
      go_ret
      exact ⟨rfl, ((Below.refl _ _).alloc (Nat.le_refl _) _).trans (HB.out.mono (by simp))⟩
    · have d2 : decide ((100 : Int) < (n2 : Int)) = false := by simp; omega
      have d3 : decide ((200 : Int) < (n3 : Int)) = true := by simp; omega
      clear h
      go_enter Try.func7, Try.ntmps7
      go_wp2_with (go_at_call 8; refine HW.out.mono ?_; rintro e w1 ⟨rfl, hb⟩; have HB := Lib.hid hb; clear hb)
      go_ret
      exact ⟨rfl, ((Below.refl _ _).alloc (Nat.le_refl _) _).trans (HB.out.mono (by simp))⟩

set_option maxHeartbeats 8000000 in
set_option maxRecDepth 100000 in
theorem again_bad {w : World} {A B D : Option Addr} {c1 c2 n3 c3 : Nat} {l : List In} {ins : List Int} {c : Cf} {er : Int} (h1 : l.length ≤ 200) (h2 : ins.length ≤ 100) (h3 : n3 ≤ 200)
    (hl : Rd w (.slice A l.length c1) l.length 2 (insV l)) (hi : Rd w (.slice B ins.length c2) ins.length 1 (ints ins)) (hN : NewSays l c ins er) (her : er ≠ 0) :
    Calls Try.prog 7 #[.slice A l.length c1, c.val, .slice B ins.length c2, .slice D n3 c3] w fun e w' => e = .returned (.bool true) ∧ Below w.heap.size w w' := by
  have d1 : decide ((200 : Int) < (l.length : Int)) = false := by simp; omega
  have d2 : decide ((100 : Int) < (ins.length : Int)) = false := by simp; omega
  have d3 : decide ((200 : Int) < (n3 : Int)) = false := by simp; omega
  have hne : (er != 0) = true := bne_iff_ne.2 her
  have bx : Below w.heap.size w (w.alloc (.cells #[.int .i64 c.slots, .int .i64 c.reads, .int .i64 c.writes, .int .i64 c.stack] 24)).drew := ((Below.refl _ _).alloc (Nat.le_refl _) _).drew
  have HL := Lib.hid hl
  have HI := Lib.hid hi
  have HN := Lib.hid hN
  have BX := Lib.hid bx
  clear hl hi hN bx
  unfold Cf.val
  go_enter Try.func7, Try.ntmps7
  go_upto_region 3 with (fail)
  go_region_with (first
    | (go_at_call 10; refine (copied_c (HL.out.below BX.out) (by omega)).mono ?_; rintro e w4 ⟨A4, a4, rfl, q4⟩; have B4 := Lib.hid (BX.out.trans (q4.below.mono (by simp))); have k0 := (q4.below.cell (p := ⟨w.heap.size, 0, none⟩) (by simp)).trans (World.cell?_alloc_new _ _ _ 0); have k1 := (q4.below.cell (p := ⟨w.heap.size, 1, none⟩) (by simp)).trans (World.cell?_alloc_new _ _ _ 1); have k2 := (q4.below.cell (p := ⟨w.heap.size, 2, none⟩) (by simp)).trans (World.cell?_alloc_new _ _ _ 2); have k3 := (q4.below.cell (p := ⟨w.heap.size, 3, none⟩) (by simp)).trans (World.cell?_alloc_new _ _ _ 3); simp at k0 k1 k2 k3; have Q4 := Lib.hid q4; clear q4)
    | (go_at_call 11; refine (numbers_c (HI.out.below B4.out) (by omega)).mono ?_; rintro e w5 ⟨A5, a5, rfl, q5⟩; have B5 := Lib.hid (B4.out.trans (q5.below.mono B4.out.size)); have j0 := cell_go q5.below k0; have j1 := cell_go q5.below k1; have j2 := cell_go q5.below k2; have j3 := cell_go q5.below k3; clear k0 k1 k2 k3; have k0 := j0; have k1 := j1; have k2 := j2; have k3 := j3; clear j0 j1 j2 j3; have Q5 := Lib.hid q5; clear q5)
    | (go_at_call 9; refine (HN.out _ _ _ _ _ (Rd.of_own (own_gn Q4.out.own Q5.out.below)) (Rd.of_own Q5.out.own)).mono ?_; rintro e w6 ⟨rfl, b6⟩; have B6 := Lib.hid (B5.out.trans (b6.mono B5.out.size)); clear b6))
  all_goals
    go_wp2_with (go_at_call 8; refine (works_c _).mono ?_; rintro e w7 ⟨rfl, b7⟩; have B7 := Lib.hid (B6.out.trans (b7.mono B6.out.size)); clear b7)
    go_ret
    exact ⟨rfl, B7.out⟩

end Go.Proofs.Ytihajgmknhifiaa
