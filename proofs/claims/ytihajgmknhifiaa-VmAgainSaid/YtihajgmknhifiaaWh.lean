/- The calls of vm's New where it refuses. -/
import Derived.Test.YtihajgmknhifiaaVq
namespace Go.Proofs.Ytihajgmknhifiaa
open Go.RowKit
set_option linter.unusedVariables false

set_option maxHeartbeats 2000000 in
set_option maxRecDepth 8000 in
theorem new_bad {w : World} {A : Option Addr} {vi : Value} {n1 c1 : Nat} {l : List In} {c : Cf} (hl : Rd w (.slice A n1 c1) l.length 2 (insV l)) (hl1 : l.length ≤ 9223372036854775807) (hv : (verM l c).2 ≠ 0) :
    Calls Try.prog 9 #[.slice A n1 c1, c.val, vi] w fun e w' => e = .returned (.tuple #[.pointer none, .int .i64 (verM l c).2]) ∧ Below w.heap.size w w' := by
  have hl2 : Rd (w.alloc (.cells #[.int .i64 c.slots, .int .i64 c.reads, .int .i64 c.writes, .int .i64 c.stack] 24)) (.slice A n1 c1) l.length 2 (insV l) := hl.alloc _
  have hver := verify_c (c := c) hl2 hl1
  unfold Cf.val at hver
  have HVER := Lib.hid hver
  have hne : ((verM l c).2 != 0) = true := bne_iff_ne.2 hv
  clear hl hl2 hver hv
  unfold Cf.val
  go_enter Try.func9, Try.ntmps9
  go_wp2_with (go_at_call 27; refine HVER.out.mono ?_; rintro e w1 ⟨rfl, hb⟩; have HB := Lib.hid hb; clear hb)
  go_ret2
  exact ⟨rfl, ((Below.refl _ _).alloc (Nat.le_refl _) _).trans (HB.out.mono (by simp))⟩

set_option maxHeartbeats 2000000 in
set_option maxRecDepth 8000 in
theorem new_len {w : World} {A B : Option Addr} {n1 n2 c1 c2 : Nat} {l : List In} {c : Cf} (hl : Rd w (.slice A n1 c1) l.length 2 (insV l)) (hv : (verM l c).2 = 0) (hr : (n2 : Int) ≠ c.reads) :
    Calls Try.prog 9 #[.slice A n1 c1, c.val, .slice B n2 c2] w fun e w' => e = .returned (.tuple #[.pointer none, .int .i64 2]) ∧ Below w.heap.size w w' := by
  obtain ⟨hm, hl1, hl0, _⟩ := verM_ok hv
  have hl2 : Rd (w.alloc (.cells #[.int .i64 c.slots, .int .i64 c.reads, .int .i64 c.writes, .int .i64 c.stack] 24)) (.slice A n1 c1) l.length 2 (insV l) := hl.alloc _
  have hver := verify_c (c := c) hl2 (by omega)
  rw [hv] at hver
  unfold Cf.val at hver
  have HVER := Lib.hid hver
  have hne : ((n2 : Int) != c.reads) = true := bne_iff_ne.2 hr
  clear hl hl2 hver hv
  unfold Cf.val
  go_enter Try.func9, Try.ntmps9
  go_wp2_with (go_at_call 27; refine HVER.out.mono ?_; rintro e w1 ⟨rfl, hb⟩; have hk1 := hb.cell (p := ⟨w.heap.size, 1, none⟩) (by simp); rw [World.cell?_alloc_new] at hk1; simp at hk1; have HB := Lib.hid hb; clear hb)
  go_ret2
  exact ⟨rfl, ((Below.refl _ _).alloc (Nat.le_refl _) _).trans (HB.out.mono (by simp))⟩

end Go.Proofs.Ytihajgmknhifiaa
