/- The call of VmOwn: where the input is too long, and where New refuses. -/
import Derived.Test.YtihajgmknhifiaaWi
import Derived.Test.YtihajgmknhifiaaWh
import Derived.Test.YtihajgmknhifiaaVs
namespace Go.Proofs.Ytihajgmknhifiaa
open Go.RowKit
set_option linter.unusedVariables false

set_option maxHeartbeats 4000000 in
set_option maxRecDepth 8000 in
theorem own_big {w : World} {A B : Option Addr} {n1 n2 c1 c2 : Nat} {c : Cf} {bud : Int} (h : 200 < n1 ∨ 100 < n2) :
    Calls Try.prog 5 #[.slice A n1 c1, c.val, .slice B n2 c2, .int .u8 bud] w fun e w' => e = .returned (.bool true) ∧ Below w.heap.size w w' := by
  have hw := works_c (w.alloc (.cells #[.int .i64 c.slots, .int .i64 c.reads, .int .i64 c.writes, .int .i64 c.stack] 24))
  have HW := Lib.hid hw
  clear hw
  unfold Cf.val
  by_cases h1 : 200 < n1
  · have d1 : decide ((200 : Int) < (n1 : Int)) = true := by simp; omega
    clear h
    go_enter Try.func5, Try.ntmps5
    go_wp2_with (go_at_call 8; refine HW.out.mono ?_; rintro e w1 ⟨rfl, hb⟩; have HB := Lib.hid hb; clear hb)
    go_ret
    exact ⟨rfl, ((Below.refl _ _).alloc (Nat.le_refl _) _).trans (HB.out.mono (by simp))⟩
  · have d1 : decide ((200 : Int) < (n1 : Int)) = false := by simp; omega
    have d2 : decide ((100 : Int) < (n2 : Int)) = true := by simp; omega
    clear h
    go_enter Try.func5, Try.ntmps5
    go_wp2_with (go_at_call 8; refine HW.out.mono ?_; rintro e w1 ⟨rfl, hb⟩; have HB := Lib.hid hb; clear hb)
    go_ret
    exact ⟨rfl, ((Below.refl _ _).alloc (Nat.le_refl _) _).trans (HB.out.mono (by simp))⟩

theorem cell_go {W W' : World} {p : Addr} {v : Value} (b : Below W.heap.size W W') (hp : W.cell? p = some v) : W'.cell? p = some v := by rw [b.cell (World.block_lt_of_cell? _ _ hp)]; exact hp

def NewSays (l : List In) (c : Cf) (ins : List Int) (er : Int) : Prop :=
  ∀ (W : World) (X Y : Option Addr) (x y : Nat), Rd W (.slice X l.length x) l.length 2 (insV l) → Rd W (.slice Y ins.length y) ins.length 1 (ints ins) →
    Calls Try.prog 9 #[.slice X l.length x, .agg #[.int .i64 c.slots, .int .i64 c.reads, .int .i64 c.writes, .int .i64 c.stack], .slice Y ins.length y] W fun e w' => e = .returned (.tuple #[.pointer none, .int .i64 er]) ∧ Below W.heap.size W w'

set_option maxHeartbeats 4000000 in
set_option maxRecDepth 8000 in
theorem own_bad {w : World} {A B : Option Addr} {c1 c2 : Nat} {l : List In} {ins : List Int} {c : Cf} {bud er : Int} (h1 : l.length ≤ 200) (h2 : ins.length ≤ 100)
    (hl : Rd w (.slice A l.length c1) l.length 2 (insV l)) (hi : Rd w (.slice B ins.length c2) ins.length 1 (ints ins)) (hN : NewSays l c ins er) (her : er ≠ 0) :
    Calls Try.prog 5 #[.slice A l.length c1, c.val, .slice B ins.length c2, .int .u8 bud] w fun e w' => e = .returned (.bool true) ∧ Below w.heap.size w w' := by
  have d1 : decide ((200 : Int) < (l.length : Int)) = false := by simp; omega
  have d2 : decide ((100 : Int) < (ins.length : Int)) = false := by simp; omega
  have hne : (er != 0) = true := bne_iff_ne.2 her
  have hee : (er == er) = true := by simp
  have bx : Below w.heap.size w (w.alloc (.cells #[.int .i64 c.slots, .int .i64 c.reads, .int .i64 c.writes, .int .i64 c.stack] 24)) := (Below.refl _ _).alloc (Nat.le_refl _) _
  have HL := Lib.hid hl
  have HI := Lib.hid hi
  have HN := Lib.hid hN
  have BX := Lib.hid bx
  clear hl hi hN bx
  unfold Cf.val
  go_enter Try.func5, Try.ntmps5
  go_wp2_with (go_at_call 10; refine (copied_c (HL.out.below BX.out) (by omega)).mono ?_; rintro e w1 ⟨A1, a1, rfl, q1⟩; have Q1 := Lib.hid q1; have B1 := Lib.hid (BX.out.trans (q1.below.mono (by simp))); have k0 := (q1.below.cell (p := ⟨w.heap.size, 0, none⟩) (by simp)).trans (World.cell?_alloc_new _ _ _ 0); have k1 := (q1.below.cell (p := ⟨w.heap.size, 1, none⟩) (by simp)).trans (World.cell?_alloc_new _ _ _ 1); have k2 := (q1.below.cell (p := ⟨w.heap.size, 2, none⟩) (by simp)).trans (World.cell?_alloc_new _ _ _ 2); have k3 := (q1.below.cell (p := ⟨w.heap.size, 3, none⟩) (by simp)).trans (World.cell?_alloc_new _ _ _ 3); simp at k0 k1 k2 k3; clear q1)
  refine (numbers_c (HI.out.below B1.out) (by omega)).mono ?_
  rintro e w2 ⟨A2, a2, rfl, q2⟩
  have e2 : ∀ {p : Addr} {v : Value}, w1.cell? p = some v → w2.cell? p = some v := fun hp => by rw [q2.below.cell (World.block_lt_of_cell? _ _ hp)]; exact hp
  have K2 := Lib.hid (And.intro (e2 k0) (And.intro (e2 k1) (And.intro (e2 k2) (e2 k3))))
  have B2 := Lib.hid (B1.out.trans (q2.below.mono B1.out.size))
  have Q2 := Lib.hid q2
  clear q2 e2 k0 k1 k2 k3
  obtain ⟨k0, k1, k2, k3⟩ := K2.out
  go_wp2_with (fail)
  refine (HN.out _ _ _ _ _ (Rd.of_own (own_gn Q1.out.own Q2.out.below)) (Rd.of_own Q2.out.own)).mono ?_
  rintro e w3 ⟨rfl, b3⟩
  have e3 : ∀ {p : Addr} {v : Value}, w2.cell? p = some v → w3.cell? p = some v := fun hp => by rw [b3.cell (World.block_lt_of_cell? _ _ hp)]; exact hp
  have K3 := Lib.hid (And.intro (e3 k0) (And.intro (e3 k1) (And.intro (e3 k2) (e3 k3))))
  have B3 := Lib.hid (B2.out.trans (b3.mono B2.out.size))
  clear b3 e3 k0 k1 k2 k3
  obtain ⟨k0, k1, k2, k3⟩ := K3.out
  go_wp2_with (fail)
  go_region_with (first
    | (go_at_call 10; refine (copied_c (HL.out.below B3.out.drew) (by omega)).mono ?_; rintro e w4 ⟨A4, a4, rfl, q4⟩; have B4 := Lib.hid (B3.out.drew.trans (q4.below.mono B3.out.size)); have j0 := cell_go q4.below k0; have j1 := cell_go q4.below k1; have j2 := cell_go q4.below k2; have j3 := cell_go q4.below k3; clear k0 k1 k2 k3; have k0 := j0; have k1 := j1; have k2 := j2; have k3 := j3; clear j0 j1 j2 j3; have Q4 := Lib.hid q4; clear q4)
    | (go_at_call 11; refine (numbers_c (HI.out.below B4.out) (by omega)).mono ?_; rintro e w5 ⟨A5, a5, rfl, q5⟩; have B5 := Lib.hid (B4.out.trans (q5.below.mono B4.out.size)); have j0 := cell_go q5.below k0; have j1 := cell_go q5.below k1; have j2 := cell_go q5.below k2; have j3 := cell_go q5.below k3; clear k0 k1 k2 k3; have k0 := j0; have k1 := j1; have k2 := j2; have k3 := j3; clear j0 j1 j2 j3; have Q5 := Lib.hid q5; clear q5)
    | (go_at_call 9; refine (HN.out _ _ _ _ _ (Rd.of_own (own_gn Q4.out.own Q5.out.below)) (Rd.of_own Q5.out.own)).mono ?_; rintro e w6 ⟨rfl, b6⟩; have B6 := Lib.hid (B5.out.trans (b6.mono B5.out.size)); clear b6))
  all_goals
    go_wp2_with (go_at_call 8; refine (works_c _).mono ?_; rintro e w7 ⟨rfl, b7⟩; have B7 := Lib.hid (B6.out.trans (b7.mono B6.out.size)); clear b7)
    go_ret
    exact ⟨rfl, B7.out⟩

theorem says_bad {l : List In} {c : Cf} {ins : List Int} (hl : l.length ≤ 200) (hv : (verM l c).2 ≠ 0) : NewSays l c ins (verM l c).2 := fun W X Y x y h1 h2 => new_bad h1 (by omega) hv
theorem says_len {l : List In} {c : Cf} {ins : List Int} (hv : (verM l c).2 = 0) (hr : (ins.length : Int) ≠ c.reads) : NewSays l c ins 2 := fun W X Y x y h1 h2 => new_len h1 hv hr

end Go.Proofs.Ytihajgmknhifiaa
