/- The call of the law's works. -/
import Derived.Test.YtihajgmknhifiaaVq
import Derived.Test.YtihajgmknhifiaaVr
import Derived.Test.YtihajgmknhifiaaVh
namespace Go.Proofs.Ytihajgmknhifiaa
open Go.RowKit
set_option linter.unusedVariables false

def wkL : List In := [⟨4, 0⟩, ⟨1, 2⟩, ⟨10, 0⟩, ⟨5, 0⟩, ⟨23, 0⟩]
def wkC : Cf := ⟨0, 1, 1, 2⟩
def wk1 : Vs := ⟨wkC, wkL, 1, [21], [], [21], [0], 2, false⟩
def wk2 : Vs := ⟨wkC, wkL, 4, [], [], [21], [42], 9, true⟩
theorem wk_ver : (verM wkL wkC).2 = 0 := by kernel_rfl
theorem wk_run1 : runS (1 + 1) 1 0 (newS wkL wkC [21]) = some (2, wk1) := by kernel_rfl
theorem wk_run2 : runS (9 + 1) 100 0 wk1 = some (7, wk2) := by kernel_rfl

theorem own_head {w : World} {base n : Nat} {A : Option Addr} {c : Nat} {x : Int} {xs : List Int} (h : w.ownsRow base 2 1 (.slice A (n + 1) c) (n + 1) (ints (x :: xs))) : ∃ g, A = some ⟨g, 0, none⟩ ∧ w.cell? ⟨g, 0, none⟩ = some (.int .i64 x) := by
  have hc := h
  rcases h.2 with ⟨h', h2⟩ | ⟨g, cap, cur, h', _⟩
  · cases h2
  · injection h' with e1 e2 e3
    subst e1 e3
    exact ⟨g, rfl, by rw [hc.cellAt 0 (by omega)]; rfl⟩

theorem RunQ.at' {base b : Nat} {w w' : World} {m : Vm} {s : Vs} (h : RunQ base w b m s w') : ∃ m', VmAt base w' b m' ∧ m'.s = s ∧ (base ≤ w.heap.size → VmAt base w b m → Below base w w') := by
  obtain ⟨m', hg, hs⟩ := h
  exact ⟨m', hg.at', hs, fun hb ha => hg.upd.below hb fun k hk => (ha.foot_base k hk).1⟩

set_option maxHeartbeats 4000000 in
set_option maxRecDepth 8000 in
theorem works_c (w : World) : Calls Try.prog 8 #[] w fun e w' => e = .returned (.bool true) ∧ Below w.heap.size w w' := by
  have hW : ∃ W : World, W = (((w.alloc (.cells #[.int .u8 4, .int .i64 0, .int .u8 1, .int .i64 2, .int .u8 10, .int .i64 0, .int .u8 5, .int .i64 0, .int .u8 23, .int .i64 0] 53)).alloc (.cells #[.int .i64 0, .int .i64 1, .int .i64 1, .int .i64 2] 24)).alloc (.cells #[.int .i64 21] 2)) := ⟨_, rfl⟩
  obtain ⟨W, hW⟩ := hW
  have hsz : W.heap.size = w.heap.size + 1 + 1 + 1 := by rw [hW]; simp
  have hbW : Below w.heap.size w W := by
    rw [hW]
    exact (((Below.refl _ _).alloc (Nat.le_refl _) _).alloc (by simp) _).alloc (by simp; omega) _
  have r1 : Rd W (.slice (some ⟨w.heap.size, 0, none⟩) 5 5) wkL.length 2 (insV wkL) := by
    rw [hW]
    refine Rd.alloc (Rd.alloc (Rd.of_own (base := w.heap.size) (e := 53) ?_) _) _
    exact World.ownsRow_lit w _ 5 (Nat.le_refl _) (by unfold maxLen; omega) (by simp)
  have r2 : Rd W (.slice (some ⟨w.heap.size + 1 + 1, 0, none⟩) 1 1) [(21 : Int)].length 1 (ints [21]) := by
    rw [hW]
    refine Rd.of_own (base := w.heap.size) (e := 2) ?_
    have := World.ownsRow_lit (base := w.heap.size) ((w.alloc (.cells #[.int .u8 4, .int .i64 0, .int .u8 1, .int .i64 2, .int .u8 10, .int .i64 0, .int .u8 5, .int .i64 0, .int .u8 23, .int .i64 0] 53)).alloc (.cells #[.int .i64 0, .int .i64 1, .int .i64 1, .int .i64 2] 24)) #[.int .i64 21] (e := 2) (size := 1) 1 (by simp; omega) (by unfold maxLen; omega) (by simp)
    rw [World.size_alloc, World.size_alloc] at this
    exact this
  have hnew : Calls Try.prog 9 #[.slice (some ⟨w.heap.size, 0, none⟩) 5 5, .agg #[.int .i64 0, .int .i64 1, .int .i64 1, .int .i64 2], .slice (some ⟨w.heap.size + 1 + 1, 0, none⟩) 1 1] W fun e w' => ∃ b m, e = .returned (.tuple #[.pointer (some ⟨b, 0, none⟩), .int .i64 0]) ∧ NewQ W wkL wkC [21] b m w' :=
    new_ok (c := wkC) r1 r2 wk_ver rfl rfl
  rw [hW] at hnew
  have HN := Lib.hid hnew
  have HbW := Lib.hid hbW
  clear r1 r2 hnew hbW
  go_enter Try.func8, Try.ntmps8
  go_wp2_with (go_at_call 9; refine HN.out.mono ?_; rintro e w1 ⟨b, m, rfl, hq⟩; rw [← hW] at hq; have HQ := Lib.hid hq; clear hq)
  have he : m.ended = false := congrArg Vs.ended HQ.out.s
  refine (show Calls Try.prog 18 _ _ (fun e w' => e = .returned (.tuple #[.int .i64 2, .bool false, .int .i64 0]) ∧ RunQ _ _ _ _ wk1 w') from run_c (c := 1) (k := 1) HQ.out.at_ he (by decide) (by rw [HQ.out.s]; exact wk_run1)).mono ?_
  rintro e w2 ⟨rfl, hr⟩
  obtain ⟨m2, a2, s2, b2⟩ := hr.at'
  have B2 : Below W.heap.size W w2 := HQ.out.below.trans (b2 HQ.out.below.size HQ.out.at_)
  have A2 := Lib.hid a2
  have B2 := Lib.hid B2
  clear hr a2 b2
  go_wp2_with (fail)
  have he2 : m2.ended = false := congrArg Vs.ended s2
  refine (show Calls Try.prog 18 _ _ (fun e w' => e = .returned (.tuple #[.int .i64 7, .bool true, .int .i64 0]) ∧ RunQ _ _ _ _ wk2 w') from run_c (c := 100) (k := 9) A2.out he2 (by decide) (by rw [s2]; exact wk_run2)).mono ?_
  rintro e w3 ⟨rfl, hr⟩
  obtain ⟨m3, a3, s3, b3⟩ := hr.at'
  have B3 : Below W.heap.size W w3 := B2.out.trans (b3 B2.out.size A2.out)
  have A3 := Lib.hid a3
  have B3 := Lib.hid B3
  clear hr a3 b3
  go_wp2_with (fail)
  have he3 : m3.ended = true := congrArg Vs.ended s3
  have ho3 : m3.outs = [42] := congrArg Vs.outs s3
  have hp3 : m3.spent = 9 := congrArg Vs.spent s3
  have hos := outs_c A3.out he3 (by rw [ho3]; decide)
  rw [ho3] at hos
  refine hos.mono ?_
  rintro e w4 ⟨A, c, rfl, hq⟩
  obtain ⟨g, rfl, hg⟩ := own_head (n := 0) (xs := []) hq.own
  have a4 : VmAt W.heap.size w4 b m3 := A3.out.upd (Upd.of_below (F := fun _ => False) hq.below) fun _ _ => id
  have B4 : Below W.heap.size W w4 := B3.out.trans (hq.below.mono B3.out.size)
  have A4 := Lib.hid a4
  have B4 := Lib.hid B4
  have hstep := step_ended a4 he3
  have hsp := spent_c a4
  rw [hp3] at hsp
  have HST := Lib.hid hstep
  have HSP := Lib.hid hsp
  have hfz : w4.frozen? ⟨g, 0, none⟩ = false := hq.own.frozenAt 0
  clear hq a4 hstep hsp hos
  go_wp2_with (first | (go_at_call 20; refine HST.out.mono ?_; rintro e w' ⟨rfl, rfl⟩) | (go_at_call 15; refine HSP.out.mono ?_; rintro e w' ⟨rfl, rfl⟩))
  go_ret
  exact ⟨rfl, (HbW.out).trans (B4.out.mono (by omega))⟩

end Go.Proofs.Ytihajgmknhifiaa
