/- The calls of verify's checks, way by way. -/
import Derived.Test.YtihajgmknhifiaaVi
namespace Go.Proofs.Ytihajgmknhifiaa
open Go.RowKit
set_option linter.unusedVariables false

theorem takes_bd (op : Int) : 0 ≤ takes op ∧ takes op ≤ 2 := by
  unfold takes
  split
  · omega
  · split <;> omega
theorem gives_bd (op : Int) : 0 ≤ gives op ∧ gives op ≤ 1 := by unfold gives; split <;> omega
theorem w64 {x : Int} (h0 : -1000000 ≤ x) (h1 : x ≤ 1000000) : IntKind.i64.wrap x = x := IntWalk.i64_in _ (by omega)

def chkBoxes (w : World) (op arg : Int) (c : Cf) : World :=
  ((w.alloc (.cells #[.int .u8 op, .int .i64 arg] 53)).alloc (.cells #[.int .i64 c.slots, .int .i64 c.reads, .int .i64 c.writes, .int .i64 c.stack] 24)).alloc (.cells #[.int .u8 op, .int .i64 arg] 53)

set_option maxHeartbeats 4000000 in
set_option maxRecDepth 8000 in
theorem chk_op {w : World} {b : Nat} {s : St} {c : Cf} {op arg : Int} (h : StAt w b s) (hm : mayI ⟨op, arg⟩ = false) :
    Calls Try.prog 50 #[.pointer (some ⟨b, 0, none⟩), .agg #[.int .u8 op, .int .i64 arg], c.val] w fun e w' => e = .returned (.int .i64 180) ∧ ChkQ w b (180, s) w' := by
  clear h
  unfold Cf.val
  go_enter Try.func50, Try.ntmps50
  go_wp2_with (first | (go_at_call 44; refine (may_c _ _ _).mono ?_; rintro e w' ⟨rfl, rfl⟩))
  go_ret
  exact ⟨rfl, (((Upd.refl _ _).alloc _).alloc _).alloc _, fun e => by simp at e⟩

set_option maxHeartbeats 4000000 in
set_option maxRecDepth 8000 in
theorem chk_under {w : World} {b : Nat} {s : St} {c : Cf} {op arg : Int} (h : StAt w b s) (hm : mayI ⟨op, arg⟩ = true) (h0 : 0 ≤ s.high) (h1 : s.high ≤ 1000) (hst : c.stack ≤ 256) (hc0 : 0 ≤ c.stack) (hne : s.high < takes op) :
    Calls Try.prog 50 #[.pointer (some ⟨b, 0, none⟩), .agg #[.int .u8 op, .int .i64 arg], c.val] w fun e w' => e = .returned (.int .i64 191) ∧ ChkQ w b (191, s) w' := by
  have e0 := h.c0
  have e9 := h.c9
  have f0 := h.fz 0
  have f9 := h.fz 9
  have hlt := h.lt
  have hlt1 : b < w.heap.size + 1 := by omega
  have hlt2 : b < w.heap.size + 1 + 1 := by omega
  have tk := takes_bd op
  have gv := gives_bd op
  have tk0 := tk.1
  have tk1 := tk.2
  have gv0 := gv.1
  have gv1 := gv.2
  clear tk gv
  have dd : decide (s.high < takes op) = true := by simp; omega
  have H := Lib.hid h
  clear h
  have W1 := w64 (x := s.high - takes op) (by omega) (by omega)
  have W2 := w64 (x := s.high - takes op + gives op) (by omega) (by omega)
  unfold Cf.val
  go_enter Try.func50, Try.ntmps50
  go_wp2_with (first | (go_at_call 44; refine (may_c _ _ _).mono ?_; rintro e w' ⟨rfl, rfl⟩) | (go_at_call 74; refine (effect_c _ _).mono ?_; rintro e w' ⟨rfl, rfl⟩))
  go_quiet (fail)
  clear W1 W2
  go_wp2
  go_ret
  exact ⟨rfl, ((((Upd.refl _ _).alloc _).alloc _).alloc _).drewN _, fun e => by simp at e⟩

set_option maxHeartbeats 4000000 in
set_option maxRecDepth 8000 in
theorem chk_over {w : World} {b : Nat} {s : St} {c : Cf} {op arg : Int} (h : StAt w b s) (hm : mayI ⟨op, arg⟩ = true) (h0 : 0 ≤ s.high) (h1 : s.high ≤ 1000) (hst : c.stack ≤ 256) (hc0 : 0 ≤ c.stack) (hne : takes op ≤ s.high) (hno : c.stack < s.high - takes op + gives op) :
    Calls Try.prog 50 #[.pointer (some ⟨b, 0, none⟩), .agg #[.int .u8 op, .int .i64 arg], c.val] w fun e w' => e = .returned (.int .i64 191) ∧ ChkQ w b (191, s) w' := by
  have e0 := h.c0
  have e9 := h.c9
  have f0 := h.fz 0
  have f9 := h.fz 9
  have hlt := h.lt
  have hlt1 : b < w.heap.size + 1 := by omega
  have hlt2 : b < w.heap.size + 1 + 1 := by omega
  have tk := takes_bd op
  have gv := gives_bd op
  have tk0 := tk.1
  have tk1 := tk.2
  have gv0 := gv.1
  have gv1 := gv.2
  clear tk gv
  have dd : decide (s.high < takes op) = false := by simp; omega
  have H := Lib.hid h
  clear h
  have W1 := w64 (x := s.high - takes op) (by omega) (by omega)
  have W2 := w64 (x := s.high - takes op + gives op) (by omega) (by omega)
  unfold Cf.val
  go_enter Try.func50, Try.ntmps50
  go_wp2_with (first | (go_at_call 44; refine (may_c _ _ _).mono ?_; rintro e w' ⟨rfl, rfl⟩) | (go_at_call 74; refine (effect_c _ _).mono ?_; rintro e w' ⟨rfl, rfl⟩))
  go_quiet (fail)
  clear W1 W2
  go_wp2
  go_ret
  exact ⟨rfl, ((((Upd.refl _ _).alloc _).alloc _).alloc _).drewN _, fun e => by simp at e⟩

set_option maxHeartbeats 4000000 in
set_option maxRecDepth 8000 in
theorem chk4_bad {w : World} {b : Nat} {s : St} {c : Cf} {arg : Int} (h : StAt w b s) (hm : mayI ⟨4, arg⟩ = true) (h0 : 0 ≤ s.high) (h1 : s.high ≤ 1000) (hst : c.stack ≤ 256) (hc0 : 0 ≤ c.stack) (hne : takes 4 ≤ s.high) (hno : s.high - takes 4 + gives 4 ≤ c.stack) (ha : c.reads ≤ arg) :
    Calls Try.prog 50 #[.pointer (some ⟨b, 0, none⟩), .agg #[.int .u8 4, .int .i64 arg], c.val] w fun e w' => e = .returned (.int .i64 193) ∧ ChkQ w b (193, s) w' := by
  have e0 := h.c0
  have e9 := h.c9
  have f0 := h.fz 0
  have f9 := h.fz 9
  have hlt := h.lt
  have hlt1 : b < w.heap.size + 1 := by omega
  have hlt2 : b < w.heap.size + 1 + 1 := by omega
  have tk := takes_bd 4
  have gv := gives_bd 4
  have tk0 := tk.1
  have tk1 := tk.2
  have gv0 := gv.1
  have gv1 := gv.2
  clear tk gv
  have dd : decide (s.high < takes 4) = false := by simp; omega
  have H := Lib.hid h
  clear h
  have W1 := w64 (x := s.high - takes 4) (by omega) (by omega)
  have W2 := w64 (x := s.high - takes 4 + gives 4) (by omega) (by omega)
  unfold Cf.val
  go_enter Try.func50, Try.ntmps50
  go_wp2_with (first | (go_at_call 44; refine (may_c _ _ _).mono ?_; rintro e w' ⟨rfl, rfl⟩) | (go_at_call 74; refine (effect_c _ _).mono ?_; rintro e w' ⟨rfl, rfl⟩))
  go_quiet (fail)
  clear W1 W2
  go_wp2
  go_ret
  exact ⟨rfl, Upd.setCell (F := fun k => k = b) (((((Upd.refl _ _).alloc _).alloc _).alloc _).drewN _) ⟨b, 0, none⟩ (.inl rfl) _, fun e => by simp at e⟩

set_option maxHeartbeats 4000000 in
set_option maxRecDepth 8000 in
theorem chk4_ok {w : World} {b : Nat} {s : St} {c : Cf} {arg : Int} (h : StAt w b s) (hm : mayI ⟨4, arg⟩ = true) (h0 : 0 ≤ s.high) (h1 : s.high ≤ 1000) (hst : c.stack ≤ 256) (hc0 : 0 ≤ c.stack) (hne : takes 4 ≤ s.high) (hno : s.high - takes 4 + gives 4 ≤ c.stack) (ha : arg < c.reads) :
    Calls Try.prog 50 #[.pointer (some ⟨b, 0, none⟩), .agg #[.int .u8 4, .int .i64 arg], c.val] w fun e w' => e = .returned (.int .i64 0) ∧ ChkQ w b (0, { s with high := s.high + (gives 4 - takes 4) }) w' := by
  have e0 := h.c0
  have e9 := h.c9
  have f0 := h.fz 0
  have f9 := h.fz 9
  have hlt := h.lt
  have hlt1 : b < w.heap.size + 1 := by omega
  have hlt2 : b < w.heap.size + 1 + 1 := by omega
  have tk := takes_bd 4
  have gv := gives_bd 4
  have tk0 := tk.1
  have tk1 := tk.2
  have gv0 := gv.1
  have gv1 := gv.2
  clear tk gv
  have dd : decide (s.high < takes 4) = false := by simp; omega
  have H := Lib.hid h
  clear h
  have W1 := w64 (x := s.high - takes 4) (by omega) (by omega)
  have W2 := w64 (x := s.high - takes 4 + gives 4) (by omega) (by omega)
  unfold Cf.val
  go_enter Try.func50, Try.ntmps50
  go_wp2_with (first | (go_at_call 44; refine (may_c _ _ _).mono ?_; rintro e w' ⟨rfl, rfl⟩) | (go_at_call 74; refine (effect_c _ _).mono ?_; rintro e w' ⟨rfl, rfl⟩))
  go_quiet (fail)
  clear W1 W2
  go_wp2
  go_ret
  exact ⟨rfl, Upd.setCell (F := fun k => k = b) (((((Upd.refl _ _).alloc _).alloc _).alloc _).drewN _) ⟨b, 0, none⟩ (.inl rfl) _, fun _ => ((((H.out.alloc _).alloc _).alloc _).drewN _).setHigh _⟩

set_option maxHeartbeats 4000000 in
set_option maxRecDepth 8000 in
theorem chkN_ok {w : World} {b : Nat} {s : St} {c : Cf} {op arg : Int} (h : StAt w b s) (hm : mayI ⟨op, arg⟩ = true) (h0 : 0 ≤ s.high) (h1 : s.high ≤ 1000) (hst : c.stack ≤ 256) (hc0 : 0 ≤ c.stack) (hne : takes op ≤ s.high) (hno : s.high - takes op + gives op ≤ c.stack) (o2 : op ≠ 2) (o3 : op ≠ 3) (o4 : op ≠ 4) (o5 : op ≠ 5) (o23 : op ≠ 23) :
    Calls Try.prog 50 #[.pointer (some ⟨b, 0, none⟩), .agg #[.int .u8 op, .int .i64 arg], c.val] w fun e w' => e = .returned (.int .i64 0) ∧ ChkQ w b (0, { s with high := s.high + (gives op - takes op) }) w' := by
  have e0 := h.c0
  have e9 := h.c9
  have f0 := h.fz 0
  have f9 := h.fz 9
  have hlt := h.lt
  have hlt1 : b < w.heap.size + 1 := by omega
  have hlt2 : b < w.heap.size + 1 + 1 := by omega
  have tk := takes_bd op
  have gv := gives_bd op
  have tk0 := tk.1
  have tk1 := tk.2
  have gv0 := gv.1
  have gv1 := gv.2
  clear tk gv
  have o2b : (op == 2) = false := by rw [beq_eq_false_iff_ne]; exact o2
  have o3b : (op == 3) = false := by rw [beq_eq_false_iff_ne]; exact o3
  have o4b : (op == 4) = false := by rw [beq_eq_false_iff_ne]; exact o4
  have o5b : (op == 5) = false := by rw [beq_eq_false_iff_ne]; exact o5
  have o23b : (op == 23) = false := by rw [beq_eq_false_iff_ne]; exact o23
  have dd : decide (s.high < takes op) = false := by simp; omega
  have H := Lib.hid h
  clear h
  have W1 := w64 (x := s.high - takes op) (by omega) (by omega)
  have W2 := w64 (x := s.high - takes op + gives op) (by omega) (by omega)
  unfold Cf.val
  go_enter Try.func50, Try.ntmps50
  go_wp2_with (first | (go_at_call 44; refine (may_c _ _ _).mono ?_; rintro e w' ⟨rfl, rfl⟩) | (go_at_call 74; refine (effect_c _ _).mono ?_; rintro e w' ⟨rfl, rfl⟩))
  go_quiet (fail)
  clear W1 W2
  go_wp2
  go_ret
  exact ⟨rfl, Upd.setCell (F := fun k => k = b) (((((Upd.refl _ _).alloc _).alloc _).alloc _).drewN _) ⟨b, 0, none⟩ (.inl rfl) _, fun _ => ((((H.out.alloc _).alloc _).alloc _).drewN _).setHigh _⟩

set_option maxHeartbeats 4000000 in
set_option maxRecDepth 8000 in
theorem chk2_bad1 {w : World} {b : Nat} {s : St} {c : Cf} {arg : Int} (h : StAt w b s) (hm : mayI ⟨2, arg⟩ = true) (h0 : 0 ≤ s.high) (h1 : s.high ≤ 1000) (hst : c.stack ≤ 256) (hc0 : 0 ≤ c.stack) (hne : takes 2 ≤ s.high) (hno : s.high - takes 2 + gives 2 ≤ c.stack) (ha : 0 ≤ arg) (hb : arg < 512) (hs : c.slots ≤ arg) :
    Calls Try.prog 50 #[.pointer (some ⟨b, 0, none⟩), .agg #[.int .u8 2, .int .i64 arg], c.val] w fun e w' => e = .returned (.int .i64 192) ∧ ChkQ w b (192, s) w' := by
  have e0 := h.c0
  have e9 := h.c9
  have f0 := h.fz 0
  have f9 := h.fz 9
  have hlt := h.lt
  have hlt1 : b < w.heap.size + 1 := by omega
  have hlt2 : b < w.heap.size + 1 + 1 := by omega
  have tk := takes_bd 2
  have gv := gives_bd 2
  have tk0 := tk.1
  have tk1 := tk.2
  have gv0 := gv.1
  have gv1 := gv.2
  clear tk gv
  have ek := h.ck (arg / 64) (by omega) (by omega)
  have fk := h.fz (1 + (arg / 64).toNat)
  have k0 : 0 ≤ arg / 64 := by omega
  have k1 : arg / 64 < 8 := by omega
  have dd : decide (s.high < takes 2) = false := by simp; omega
  have H := Lib.hid h
  clear h
  have W1 := w64 (x := s.high - takes 2) (by omega) (by omega)
  have W2 := w64 (x := s.high - takes 2 + gives 2) (by omega) (by omega)
  unfold Cf.val
  go_enter Try.func50, Try.ntmps50
  go_wp2_with (first | (go_at_call 44; refine (may_c _ _ _).mono ?_; rintro e w' ⟨rfl, rfl⟩) | (go_at_call 74; refine (effect_c _ _).mono ?_; rintro e w' ⟨rfl, rfl⟩))
  go_quiet (fail)
  clear W1 W2
  go_wp2_with (go_at_call 77; refine (slot_c _ ha hb _).mono ?_; rintro e w' ⟨rfl, ⟨nd, rfl⟩⟩)
  go_ret
  exact ⟨rfl, Upd.drewN (Upd.setCell (F := fun k => k = b) (((((Upd.refl _ _).alloc _).alloc _).alloc _).drewN _) ⟨b, 0, none⟩ (.inl rfl) _) nd, fun e => by simp at e⟩

set_option maxHeartbeats 4000000 in
set_option maxRecDepth 8000 in
theorem chk2_bad2 {w : World} {b : Nat} {s : St} {c : Cf} {arg : Int} (h : StAt w b s) (hm : mayI ⟨2, arg⟩ = true) (h0 : 0 ≤ s.high) (h1 : s.high ≤ 1000) (hst : c.stack ≤ 256) (hc0 : 0 ≤ c.stack) (hne : takes 2 ≤ s.high) (hno : s.high - takes 2 + gives 2 ≤ c.stack) (ha : 0 ≤ arg) (hb : arg < 512) (hs : arg < c.slots) (hbit : (bits .and .u64 (wd s (arg / 64)) (bitOf (arg % 64)) == 0) = true) :
    Calls Try.prog 50 #[.pointer (some ⟨b, 0, none⟩), .agg #[.int .u8 2, .int .i64 arg], c.val] w fun e w' => e = .returned (.int .i64 192) ∧ ChkQ w b (192, s) w' := by
  have e0 := h.c0
  have e9 := h.c9
  have f0 := h.fz 0
  have f9 := h.fz 9
  have hlt := h.lt
  have hlt1 : b < w.heap.size + 1 := by omega
  have hlt2 : b < w.heap.size + 1 + 1 := by omega
  have tk := takes_bd 2
  have gv := gives_bd 2
  have tk0 := tk.1
  have tk1 := tk.2
  have gv0 := gv.1
  have gv1 := gv.2
  clear tk gv
  have ek := h.ck (arg / 64) (by omega) (by omega)
  have fk := h.fz (1 + (arg / 64).toNat)
  have k0 : 0 ≤ arg / 64 := by omega
  have k1 : arg / 64 < 8 := by omega
  have dd : decide (s.high < takes 2) = false := by simp; omega
  have H := Lib.hid h
  clear h
  have W1 := w64 (x := s.high - takes 2) (by omega) (by omega)
  have W2 := w64 (x := s.high - takes 2 + gives 2) (by omega) (by omega)
  unfold Cf.val
  go_enter Try.func50, Try.ntmps50
  go_wp2_with (first | (go_at_call 44; refine (may_c _ _ _).mono ?_; rintro e w' ⟨rfl, rfl⟩) | (go_at_call 74; refine (effect_c _ _).mono ?_; rintro e w' ⟨rfl, rfl⟩))
  go_quiet (fail)
  clear W1 W2
  go_wp2_with (go_at_call 77; refine (slot_c _ ha hb _).mono ?_; rintro e w' ⟨rfl, ⟨nd, rfl⟩⟩)
  go_ret
  exact ⟨rfl, Upd.drewN (Upd.setCell (F := fun k => k = b) (((((Upd.refl _ _).alloc _).alloc _).alloc _).drewN _) ⟨b, 0, none⟩ (.inl rfl) _) nd, fun e => by simp at e⟩

set_option maxHeartbeats 4000000 in
set_option maxRecDepth 8000 in
theorem chk2_ok {w : World} {b : Nat} {s : St} {c : Cf} {arg : Int} (h : StAt w b s) (hm : mayI ⟨2, arg⟩ = true) (h0 : 0 ≤ s.high) (h1 : s.high ≤ 1000) (hst : c.stack ≤ 256) (hc0 : 0 ≤ c.stack) (hne : takes 2 ≤ s.high) (hno : s.high - takes 2 + gives 2 ≤ c.stack) (ha : 0 ≤ arg) (hb : arg < 512) (hs : arg < c.slots) (hbit : (bits .and .u64 (wd s (arg / 64)) (bitOf (arg % 64)) == 0) = false) :
    Calls Try.prog 50 #[.pointer (some ⟨b, 0, none⟩), .agg #[.int .u8 2, .int .i64 arg], c.val] w fun e w' => e = .returned (.int .i64 0) ∧ ChkQ w b (0, { s with high := s.high + (gives 2 - takes 2), has := s.has.set (arg / 64).toNat (orU (wd s (arg / 64)) (bitOf (arg % 64))) }) w' := by
  have e0 := h.c0
  have e9 := h.c9
  have f0 := h.fz 0
  have f9 := h.fz 9
  have hlt := h.lt
  have hlt1 : b < w.heap.size + 1 := by omega
  have hlt2 : b < w.heap.size + 1 + 1 := by omega
  have tk := takes_bd 2
  have gv := gives_bd 2
  have tk0 := tk.1
  have tk1 := tk.2
  have gv0 := gv.1
  have gv1 := gv.2
  clear tk gv
  have ek := h.ck (arg / 64) (by omega) (by omega)
  have fk := h.fz (1 + (arg / 64).toNat)
  have k0 : 0 ≤ arg / 64 := by omega
  have k1 : arg / 64 < 8 := by omega
  have dd : decide (s.high < takes 2) = false := by simp; omega
  have H := Lib.hid h
  clear h
  have W1 := w64 (x := s.high - takes 2) (by omega) (by omega)
  have W2 := w64 (x := s.high - takes 2 + gives 2) (by omega) (by omega)
  unfold Cf.val
  go_enter Try.func50, Try.ntmps50
  go_wp2_with (first | (go_at_call 44; refine (may_c _ _ _).mono ?_; rintro e w' ⟨rfl, rfl⟩) | (go_at_call 74; refine (effect_c _ _).mono ?_; rintro e w' ⟨rfl, rfl⟩))
  go_quiet (fail)
  clear W1 W2
  go_wp2_with (go_at_call 77; refine (slot_c _ ha hb _).mono ?_; rintro e w' ⟨rfl, ⟨nd, rfl⟩⟩)
  go_region
  go_wp2
  go_ret
  exact ⟨rfl, Upd.setCell (F := fun k => k = b) (Upd.drew (Upd.drewN (Upd.setCell (F := fun k => k = b) (((((Upd.refl _ _).alloc _).alloc _).alloc _).drewN _) ⟨b, 0, none⟩ (.inl rfl) _) nd)) ⟨b, 1 + (arg / 64).toNat, none⟩ (.inl rfl) _, fun _ => (((((((H.out.alloc _).alloc _).alloc _).drewN _).setHigh _).drewN nd).drew).setHas (arg / 64) (by omega) (by omega) _⟩

set_option maxHeartbeats 4000000 in
set_option maxRecDepth 8000 in
theorem chk3_bad {w : World} {b : Nat} {s : St} {c : Cf} {arg : Int} (h : StAt w b s) (hm : mayI ⟨3, arg⟩ = true) (h0 : 0 ≤ s.high) (h1 : s.high ≤ 1000) (hst : c.stack ≤ 256) (hc0 : 0 ≤ c.stack) (hne : takes 3 ≤ s.high) (hno : s.high - takes 3 + gives 3 ≤ c.stack) (ha : 0 ≤ arg) (hb : arg < 512) (hs : c.slots ≤ arg) :
    Calls Try.prog 50 #[.pointer (some ⟨b, 0, none⟩), .agg #[.int .u8 3, .int .i64 arg], c.val] w fun e w' => e = .returned (.int .i64 192) ∧ ChkQ w b (192, s) w' := by
  have e0 := h.c0
  have e9 := h.c9
  have f0 := h.fz 0
  have f9 := h.fz 9
  have hlt := h.lt
  have hlt1 : b < w.heap.size + 1 := by omega
  have hlt2 : b < w.heap.size + 1 + 1 := by omega
  have tk := takes_bd 3
  have gv := gives_bd 3
  have tk0 := tk.1
  have tk1 := tk.2
  have gv0 := gv.1
  have gv1 := gv.2
  clear tk gv
  have ek := h.ck (arg / 64) (by omega) (by omega)
  have fk := h.fz (1 + (arg / 64).toNat)
  have k0 : 0 ≤ arg / 64 := by omega
  have k1 : arg / 64 < 8 := by omega
  have dd : decide (s.high < takes 3) = false := by simp; omega
  have H := Lib.hid h
  clear h
  have W1 := w64 (x := s.high - takes 3) (by omega) (by omega)
  have W2 := w64 (x := s.high - takes 3 + gives 3) (by omega) (by omega)
  unfold Cf.val
  go_enter Try.func50, Try.ntmps50
  go_wp2_with (first | (go_at_call 44; refine (may_c _ _ _).mono ?_; rintro e w' ⟨rfl, rfl⟩) | (go_at_call 74; refine (effect_c _ _).mono ?_; rintro e w' ⟨rfl, rfl⟩))
  go_quiet (fail)
  clear W1 W2
  go_wp2_with (go_at_call 77; refine (slot_c _ ha hb _).mono ?_; rintro e w' ⟨rfl, ⟨nd, rfl⟩⟩)
  go_ret
  exact ⟨rfl, Upd.drewN (Upd.setCell (F := fun k => k = b) (((((Upd.refl _ _).alloc _).alloc _).alloc _).drewN _) ⟨b, 0, none⟩ (.inl rfl) _) nd, fun e => by simp at e⟩

set_option maxHeartbeats 4000000 in
set_option maxRecDepth 8000 in
theorem chk3_ok {w : World} {b : Nat} {s : St} {c : Cf} {arg : Int} (h : StAt w b s) (hm : mayI ⟨3, arg⟩ = true) (h0 : 0 ≤ s.high) (h1 : s.high ≤ 1000) (hst : c.stack ≤ 256) (hc0 : 0 ≤ c.stack) (hne : takes 3 ≤ s.high) (hno : s.high - takes 3 + gives 3 ≤ c.stack) (ha : 0 ≤ arg) (hb : arg < 512) (hs : arg < c.slots) :
    Calls Try.prog 50 #[.pointer (some ⟨b, 0, none⟩), .agg #[.int .u8 3, .int .i64 arg], c.val] w fun e w' => e = .returned (.int .i64 0) ∧ ChkQ w b (0, { s with high := s.high + (gives 3 - takes 3), has := s.has.set (arg / 64).toNat (orU (wd s (arg / 64)) (bitOf (arg % 64))) }) w' := by
  have e0 := h.c0
  have e9 := h.c9
  have f0 := h.fz 0
  have f9 := h.fz 9
  have hlt := h.lt
  have hlt1 : b < w.heap.size + 1 := by omega
  have hlt2 : b < w.heap.size + 1 + 1 := by omega
  have tk := takes_bd 3
  have gv := gives_bd 3
  have tk0 := tk.1
  have tk1 := tk.2
  have gv0 := gv.1
  have gv1 := gv.2
  clear tk gv
  have ek := h.ck (arg / 64) (by omega) (by omega)
  have fk := h.fz (1 + (arg / 64).toNat)
  have k0 : 0 ≤ arg / 64 := by omega
  have k1 : arg / 64 < 8 := by omega
  have dd : decide (s.high < takes 3) = false := by simp; omega
  have H := Lib.hid h
  clear h
  have W1 := w64 (x := s.high - takes 3) (by omega) (by omega)
  have W2 := w64 (x := s.high - takes 3 + gives 3) (by omega) (by omega)
  unfold Cf.val
  go_enter Try.func50, Try.ntmps50
  go_wp2_with (first | (go_at_call 44; refine (may_c _ _ _).mono ?_; rintro e w' ⟨rfl, rfl⟩) | (go_at_call 74; refine (effect_c _ _).mono ?_; rintro e w' ⟨rfl, rfl⟩))
  go_quiet (fail)
  clear W1 W2
  go_wp2_with (go_at_call 77; refine (slot_c _ ha hb _).mono ?_; rintro e w' ⟨rfl, ⟨nd, rfl⟩⟩)
  go_region
  go_wp2
  go_ret
  exact ⟨rfl, Upd.setCell (F := fun k => k = b) (Upd.drew (Upd.drewN (Upd.setCell (F := fun k => k = b) (((((Upd.refl _ _).alloc _).alloc _).alloc _).drewN _) ⟨b, 0, none⟩ (.inl rfl) _) nd)) ⟨b, 1 + (arg / 64).toNat, none⟩ (.inl rfl) _, fun _ => (((((((H.out.alloc _).alloc _).alloc _).drewN _).setHigh _).drewN nd).drew).setHas (arg / 64) (by omega) (by omega) _⟩

set_option maxHeartbeats 4000000 in
set_option maxRecDepth 8000 in
theorem chk5_bad1 {w : World} {b : Nat} {s : St} {c : Cf} {arg : Int} (h : StAt w b s) (hm : mayI ⟨5, arg⟩ = true) (h0 : 0 ≤ s.high) (h1 : s.high ≤ 1000) (hst : c.stack ≤ 256) (hc0 : 0 ≤ c.stack) (hne : takes 5 ≤ s.high) (hno : s.high - takes 5 + gives 5 ≤ c.stack) (ha : 0 ≤ arg) (hb : arg < 64) (hs : c.writes ≤ arg) :
    Calls Try.prog 50 #[.pointer (some ⟨b, 0, none⟩), .agg #[.int .u8 5, .int .i64 arg], c.val] w fun e w' => e = .returned (.int .i64 193) ∧ ChkQ w b (193, s) w' := by
  have e0 := h.c0
  have e9 := h.c9
  have f0 := h.fz 0
  have f9 := h.fz 9
  have hlt := h.lt
  have hlt1 : b < w.heap.size + 1 := by omega
  have hlt2 : b < w.heap.size + 1 + 1 := by omega
  have tk := takes_bd 5
  have gv := gives_bd 5
  have tk0 := tk.1
  have tk1 := tk.2
  have gv0 := gv.1
  have gv1 := gv.2
  clear tk gv
  have dd : decide (s.high < takes 5) = false := by simp; omega
  have H := Lib.hid h
  clear h
  have W1 := w64 (x := s.high - takes 5) (by omega) (by omega)
  have W2 := w64 (x := s.high - takes 5 + gives 5) (by omega) (by omega)
  unfold Cf.val
  go_enter Try.func50, Try.ntmps50
  go_wp2_with (first | (go_at_call 44; refine (may_c _ _ _).mono ?_; rintro e w' ⟨rfl, rfl⟩) | (go_at_call 74; refine (effect_c _ _).mono ?_; rintro e w' ⟨rfl, rfl⟩))
  go_quiet (fail)
  clear W1 W2
  go_wp2
  go_ret
  exact ⟨rfl, Upd.setCell (F := fun k => k = b) (((((Upd.refl _ _).alloc _).alloc _).alloc _).drewN _) ⟨b, 0, none⟩ (.inl rfl) _, fun e => by simp at e⟩

set_option maxHeartbeats 4000000 in
set_option maxRecDepth 8000 in
theorem chk5_bad2 {w : World} {b : Nat} {s : St} {c : Cf} {arg : Int} (h : StAt w b s) (hm : mayI ⟨5, arg⟩ = true) (h0 : 0 ≤ s.high) (h1 : s.high ≤ 1000) (hst : c.stack ≤ 256) (hc0 : 0 ≤ c.stack) (hne : takes 5 ≤ s.high) (hno : s.high - takes 5 + gives 5 ≤ c.stack) (ha : 0 ≤ arg) (hb : arg < 64) (hs : arg < c.writes) (hbit : (bits .and .u64 s.wrote (IntKind.u64.wrap (2 ^ arg.toNat)) != 0) = true) :
    Calls Try.prog 50 #[.pointer (some ⟨b, 0, none⟩), .agg #[.int .u8 5, .int .i64 arg], c.val] w fun e w' => e = .returned (.int .i64 193) ∧ ChkQ w b (193, s) w' := by
  have e0 := h.c0
  have e9 := h.c9
  have f0 := h.fz 0
  have f9 := h.fz 9
  have hlt := h.lt
  have hlt1 : b < w.heap.size + 1 := by omega
  have hlt2 : b < w.heap.size + 1 + 1 := by omega
  have tk := takes_bd 5
  have gv := gives_bd 5
  have tk0 := tk.1
  have tk1 := tk.2
  have gv0 := gv.1
  have gv1 := gv.2
  clear tk gv
  have dd : decide (s.high < takes 5) = false := by simp; omega
  have H := Lib.hid h
  clear h
  have W1 := w64 (x := s.high - takes 5) (by omega) (by omega)
  have W2 := w64 (x := s.high - takes 5 + gives 5) (by omega) (by omega)
  unfold Cf.val
  go_enter Try.func50, Try.ntmps50
  go_wp2_with (first | (go_at_call 44; refine (may_c _ _ _).mono ?_; rintro e w' ⟨rfl, rfl⟩) | (go_at_call 74; refine (effect_c _ _).mono ?_; rintro e w' ⟨rfl, rfl⟩))
  go_quiet (fail)
  clear W1 W2
  go_wp2
  go_ret
  exact ⟨rfl, Upd.setCell (F := fun k => k = b) (((((Upd.refl _ _).alloc _).alloc _).alloc _).drewN _) ⟨b, 0, none⟩ (.inl rfl) _, fun e => by simp at e⟩

set_option maxHeartbeats 4000000 in
set_option maxRecDepth 8000 in
theorem chk5_ok {w : World} {b : Nat} {s : St} {c : Cf} {arg : Int} (h : StAt w b s) (hm : mayI ⟨5, arg⟩ = true) (h0 : 0 ≤ s.high) (h1 : s.high ≤ 1000) (hst : c.stack ≤ 256) (hc0 : 0 ≤ c.stack) (hne : takes 5 ≤ s.high) (hno : s.high - takes 5 + gives 5 ≤ c.stack) (ha : 0 ≤ arg) (hb : arg < 64) (hs : arg < c.writes) (hbit : (bits .and .u64 s.wrote (IntKind.u64.wrap (2 ^ arg.toNat)) != 0) = false) :
    Calls Try.prog 50 #[.pointer (some ⟨b, 0, none⟩), .agg #[.int .u8 5, .int .i64 arg], c.val] w fun e w' => e = .returned (.int .i64 0) ∧ ChkQ w b (0, { s with high := s.high + (gives 5 - takes 5), wrote := orU s.wrote (bitOf arg) }) w' := by
  have e0 := h.c0
  have e9 := h.c9
  have f0 := h.fz 0
  have f9 := h.fz 9
  have hlt := h.lt
  have hlt1 : b < w.heap.size + 1 := by omega
  have hlt2 : b < w.heap.size + 1 + 1 := by omega
  have tk := takes_bd 5
  have gv := gives_bd 5
  have tk0 := tk.1
  have tk1 := tk.2
  have gv0 := gv.1
  have gv1 := gv.2
  clear tk gv
  have dd : decide (s.high < takes 5) = false := by simp; omega
  have H := Lib.hid h
  clear h
  have W1 := w64 (x := s.high - takes 5) (by omega) (by omega)
  have W2 := w64 (x := s.high - takes 5 + gives 5) (by omega) (by omega)
  unfold Cf.val
  go_enter Try.func50, Try.ntmps50
  go_wp2_with (first | (go_at_call 44; refine (may_c _ _ _).mono ?_; rintro e w' ⟨rfl, rfl⟩) | (go_at_call 74; refine (effect_c _ _).mono ?_; rintro e w' ⟨rfl, rfl⟩))
  go_quiet (fail)
  clear W1 W2
  go_wp2
  go_ret
  exact ⟨rfl, Upd.setCell (F := fun k => k = b) (Upd.setCell (F := fun k => k = b) (((((Upd.refl _ _).alloc _).alloc _).alloc _).drewN _) ⟨b, 0, none⟩ (.inl rfl) _) ⟨b, 9, none⟩ (.inl rfl) _, fun _ => (((((H.out.alloc _).alloc _).alloc _).drewN _).setHigh _).setWrote _⟩

set_option maxHeartbeats 4000000 in
set_option maxRecDepth 8000 in
theorem chk23_bad1 {w : World} {b : Nat} {s : St} {c : Cf} {arg : Int} (h : StAt w b s) (hm : mayI ⟨23, arg⟩ = true) (h0 : 0 ≤ s.high) (h1 : s.high ≤ 1000) (hst : c.stack ≤ 256) (hc0 : 0 ≤ c.stack) (hne : takes 23 ≤ s.high) (hno : s.high - takes 23 + gives 23 ≤ c.stack) (hz : 0 < s.high + (gives 23 - takes 23)) :
    Calls Try.prog 50 #[.pointer (some ⟨b, 0, none⟩), .agg #[.int .u8 23, .int .i64 arg], c.val] w fun e w' => e = .returned (.int .i64 191) ∧ ChkQ w b (191, s) w' := by
  have e0 := h.c0
  have e9 := h.c9
  have f0 := h.fz 0
  have f9 := h.fz 9
  have hlt := h.lt
  have hlt1 : b < w.heap.size + 1 := by omega
  have hlt2 : b < w.heap.size + 1 + 1 := by omega
  have tk := takes_bd 23
  have gv := gives_bd 23
  have tk0 := tk.1
  have tk1 := tk.2
  have gv0 := gv.1
  have gv1 := gv.2
  clear tk gv
  have dd : decide (s.high < takes 23) = false := by simp; omega
  have H := Lib.hid h
  clear h
  have W1 := w64 (x := s.high - takes 23) (by omega) (by omega)
  have W2 := w64 (x := s.high - takes 23 + gives 23) (by omega) (by omega)
  unfold Cf.val
  go_enter Try.func50, Try.ntmps50
  go_wp2_with (first | (go_at_call 44; refine (may_c _ _ _).mono ?_; rintro e w' ⟨rfl, rfl⟩) | (go_at_call 74; refine (effect_c _ _).mono ?_; rintro e w' ⟨rfl, rfl⟩))
  go_quiet (fail)
  clear W1 W2
  go_wp2
  go_ret
  exact ⟨rfl, Upd.setCell (F := fun k => k = b) (((((Upd.refl _ _).alloc _).alloc _).alloc _).drewN _) ⟨b, 0, none⟩ (.inl rfl) _, fun e => by simp at e⟩

set_option maxHeartbeats 4000000 in
set_option maxRecDepth 8000 in
theorem chk23_bad2 {w : World} {b : Nat} {s : St} {c : Cf} {arg : Int} (h : StAt w b s) (hm : mayI ⟨23, arg⟩ = true) (h0 : 0 ≤ s.high) (h1 : s.high ≤ 1000) (hst : c.stack ≤ 256) (hc0 : 0 ≤ c.stack) (hne : takes 23 ≤ s.high) (hno : s.high - takes 23 + gives 23 ≤ c.stack) (hz : s.high + (gives 23 - takes 23) ≤ 0) (hw0 : 0 ≤ c.writes) (hw1 : c.writes ≤ 64) (hbit : (s.wrote != allBits c.writes) = true) :
    Calls Try.prog 50 #[.pointer (some ⟨b, 0, none⟩), .agg #[.int .u8 23, .int .i64 arg], c.val] w fun e w' => e = .returned (.int .i64 193) ∧ ChkQ w b (193, s) w' := by
  have e0 := h.c0
  have e9 := h.c9
  have f0 := h.fz 0
  have f9 := h.fz 9
  have hlt := h.lt
  have hlt1 : b < w.heap.size + 1 := by omega
  have hlt2 : b < w.heap.size + 1 + 1 := by omega
  have tk := takes_bd 23
  have gv := gives_bd 23
  have tk0 := tk.1
  have tk1 := tk.2
  have gv0 := gv.1
  have gv1 := gv.2
  clear tk gv
  unfold allBits at hbit
  have dd : decide (s.high < takes 23) = false := by simp; omega
  have H := Lib.hid h
  clear h
  have W1 := w64 (x := s.high - takes 23) (by omega) (by omega)
  have W2 := w64 (x := s.high - takes 23 + gives 23) (by omega) (by omega)
  unfold Cf.val
  go_enter Try.func50, Try.ntmps50
  go_wp2_with (first | (go_at_call 44; refine (may_c _ _ _).mono ?_; rintro e w' ⟨rfl, rfl⟩) | (go_at_call 74; refine (effect_c _ _).mono ?_; rintro e w' ⟨rfl, rfl⟩))
  go_quiet (fail)
  clear W1 W2
  go_wp2
  go_quiet (fail)
  go_wp2
  go_ret
  exact ⟨rfl, Upd.drewN (Upd.setCell (F := fun k => k = b) (((((Upd.refl _ _).alloc _).alloc _).alloc _).drewN _) ⟨b, 0, none⟩ (.inl rfl) _) _, fun e => by simp at e⟩

set_option maxHeartbeats 4000000 in
set_option maxRecDepth 8000 in
theorem chk23_ok {w : World} {b : Nat} {s : St} {c : Cf} {arg : Int} (h : StAt w b s) (hm : mayI ⟨23, arg⟩ = true) (h0 : 0 ≤ s.high) (h1 : s.high ≤ 1000) (hst : c.stack ≤ 256) (hc0 : 0 ≤ c.stack) (hne : takes 23 ≤ s.high) (hno : s.high - takes 23 + gives 23 ≤ c.stack) (hz : s.high + (gives 23 - takes 23) ≤ 0) (hw0 : 0 ≤ c.writes) (hw1 : c.writes ≤ 64) (hbit : (s.wrote != allBits c.writes) = false) :
    Calls Try.prog 50 #[.pointer (some ⟨b, 0, none⟩), .agg #[.int .u8 23, .int .i64 arg], c.val] w fun e w' => e = .returned (.int .i64 0) ∧ ChkQ w b (0, { s with high := s.high + (gives 23 - takes 23) }) w' := by
  have e0 := h.c0
  have e9 := h.c9
  have f0 := h.fz 0
  have f9 := h.fz 9
  have hlt := h.lt
  have hlt1 : b < w.heap.size + 1 := by omega
  have hlt2 : b < w.heap.size + 1 + 1 := by omega
  have tk := takes_bd 23
  have gv := gives_bd 23
  have tk0 := tk.1
  have tk1 := tk.2
  have gv0 := gv.1
  have gv1 := gv.2
  clear tk gv
  unfold allBits at hbit
  have dd : decide (s.high < takes 23) = false := by simp; omega
  have H := Lib.hid h
  clear h
  have W1 := w64 (x := s.high - takes 23) (by omega) (by omega)
  have W2 := w64 (x := s.high - takes 23 + gives 23) (by omega) (by omega)
  unfold Cf.val
  go_enter Try.func50, Try.ntmps50
  go_wp2_with (first | (go_at_call 44; refine (may_c _ _ _).mono ?_; rintro e w' ⟨rfl, rfl⟩) | (go_at_call 74; refine (effect_c _ _).mono ?_; rintro e w' ⟨rfl, rfl⟩))
  go_quiet (fail)
  clear W1 W2
  go_wp2
  go_quiet (fail)
  go_wp2
  go_ret
  exact ⟨rfl, Upd.drewN (Upd.setCell (F := fun k => k = b) (((((Upd.refl _ _).alloc _).alloc _).alloc _).drewN _) ⟨b, 0, none⟩ (.inl rfl) _) _, fun _ => (((((H.out.alloc _).alloc _).alloc _).drewN _).setHigh _).drewN _⟩

end Go.Proofs.Ytihajgmknhifiaa
