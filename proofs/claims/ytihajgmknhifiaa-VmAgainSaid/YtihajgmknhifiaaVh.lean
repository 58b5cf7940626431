/- The calls of slices.Clone, and of vm's Outs. -/
import Derived.Test.YtihajgmknhifiaaVg
import Derived.Lib.SliceRun
namespace Go.Proofs.Ytihajgmknhifiaa
open Go.RowKit
set_option linter.unusedVariables false

/-- A row of one's own, made by a call. -/
structure CloneQ (w : World) (e size : Nat) (v : Value) (n : Nat) (xs : List Value) (w' : World) : Prop where
  own : w'.ownsRow w.heap.size e size v n xs
  below : Below w.heap.size w w'

theorem grown_nil_below {w w' : World} {o : Obj} (h : (w.alloc o).grownBy w' (some w.heap.size)) : Below w.heap.size w w' :=
  ⟨h.os, h.tape, h.output, by have := h.size; simp at this; omega, fun k hk => by rw [h.block k (by simp; omega) (by simp; omega)]; exact Below.heap_alloc _ _ _ hk⟩

theorem own_empty (w : World) (e size : Nat) : (w.alloc (.cells #[] e)).ownsRow w.heap.size e size (.slice (some ⟨w.heap.size, 0, none⟩) 0 0) 0 [] :=
  ⟨by simp, .inr ⟨w.heap.size, 0, #[], rfl, Nat.le_refl _, (by show (w.heap.push _)[_]? = _; simp), Nat.le_refl _, Nat.zero_le _, by simp, by simp⟩⟩

set_option maxHeartbeats 1000000 in
set_option maxRecDepth 8000 in
theorem clone2_c {w : World} {v : Value} {n : Nat} {xs : List Int} (h : Rd w v n 1 (ints xs)) (hn : n * 8 ≤ 140737488355328) :
    Calls Try.prog 28 #[v] w fun e w' => ∃ A c, e = .returned (.slice A n c) ∧ CloneQ w 2 1 (.slice A n c) n (ints xs) w' := by
  have hq := h
  obtain ⟨a, c, rfl, h1, h2, h3⟩ := h.form
  cases a with
  | none =>
    obtain ⟨rfl, rfl⟩ := h2 rfl
    have hnil : ∀ W, (binOp .eql 25 (.slice none 0 0) (.slice none 0 0)).run Try.prog W = .ok (.bool true) W := fun W => Lib.run_eql_slice_nil W _ _ none 0 0 0 0 Try.underlying25
    have hx : ints xs = [] := List.eq_nil_of_length_eq_zero (by simpa using h.len)
    clear h h1 h2 h3 hq
    go_enter Try.func28, Try.ntmps28
    go_wp2
    go_ret
    exact ⟨none, 0, rfl, by rw [hx]; exact World.ownsRow_nil _ _ _ _, Below.refl _ _⟩
  | some a =>
    have hnil : ∀ W, (binOp .eql 25 (.slice (some a) n c) (.slice none 0 0)).run Try.prog W = .ok (.bool false) W := fun W => Lib.run_eql_slice_nil W _ _ (some a) n c 0 0 Try.underlying25
    obtain ⟨i0, hi, hz0, hz1, hz2⟩ := info_parts info2
    have hown := own_empty w 2 1
    have hrd := hq.alloc (.cells #[] 2)
    clear h h1 h2 h3 hq
    go_enter Try.func28, Try.ntmps28
    go_wp2_with (at_builtin; refine wpList_append2 rfl _ _ 25 rfl w.heap.size 2 i0 (.int .i64 0) 1 8 Try.underlying25 hi hz0 hz1 hz2 rfl (by decide) _ _ _ rfl hown _ n (ints xs) rfl hrd (one_ints _) ?c3 ?c4 ?c5 ?_)
    case c3 => unfold maxLen; omega
    case c4 => omega
    case c5 => rw [World.size_alloc]; omega
    intro A c1 w1 hown1 hgrow hv'
    have hb := grown_nil_below hgrow
    clear hv' hgrow hown hrd
    go_wp2
    go_ret
    exact ⟨A, c1, rfl, hown1, hb⟩

set_option maxHeartbeats 1000000 in
set_option maxRecDepth 8000 in
theorem clone53_c {w : World} {v : Value} {n : Nat} {xs : List In} (h : Rd w v n 2 (insV xs)) (hn : n * 16 ≤ 140737488355328) :
    Calls Try.prog 29 #[v] w fun e w' => ∃ A c, e = .returned (.slice A n c) ∧ CloneQ w 53 2 (.slice A n c) n (insV xs) w' := by
  have hq := h
  obtain ⟨a, c, rfl, h1, h2, h3⟩ := h.form
  cases a with
  | none =>
    obtain ⟨rfl, rfl⟩ := h2 rfl
    have hnil : ∀ W, (binOp .eql 22 (.slice none 0 0) (.slice none 0 0)).run Try.prog W = .ok (.bool true) W := fun W => Lib.run_eql_slice_nil W _ _ none 0 0 0 0 Try.underlying22
    have hx : insV xs = [] := List.eq_nil_of_length_eq_zero (by simpa using h.len)
    clear h h1 h2 h3 hq
    go_enter Try.func29, Try.ntmps29
    go_wp2
    go_ret
    exact ⟨none, 0, rfl, by rw [hx]; exact World.ownsRow_nil _ _ _ _, Below.refl _ _⟩
  | some a =>
    have hnil : ∀ W, (binOp .eql 22 (.slice (some a) n c) (.slice none 0 0)).run Try.prog W = .ok (.bool false) W := fun W => Lib.run_eql_slice_nil W _ _ (some a) n c 0 0 Try.underlying22
    obtain ⟨i0, hi, hz0, hz1, hz2⟩ := info_parts info53
    have hown := own_empty w 53 2
    have hrd := hq.alloc (.cells #[] 53)
    clear h h1 h2 h3 hq
    go_enter Try.func29, Try.ntmps29
    go_wp2_with (at_builtin; refine wpList_append2 rfl _ _ 22 rfl w.heap.size 53 i0 (.agg #[.int .u8 0, .int .i64 0]) 2 16 Try.underlying22 hi hz0 hz1 hz2 rfl (by decide) _ _ _ rfl hown _ n (insV xs) rfl hrd (one_insV _) ?c3 ?c4 ?c5 ?_)
    case c3 => unfold maxLen; omega
    case c4 => omega
    case c5 => rw [World.size_alloc]; omega
    intro A c1 w1 hown1 hgrow hv'
    have hb := grown_nil_below hgrow
    clear hv' hgrow hown hrd
    go_wp2
    go_ret
    exact ⟨A, c1, rfl, hown1, hb⟩

set_option maxHeartbeats 1000000 in
theorem outs_no {base : Nat} {w : World} {b : Nat} {m : Vm} (h : VmAt base w b m) (he : m.ended = false) :
    Calls Try.prog 16 #[.pointer (some ⟨b, 0, none⟩)] w fun e w' => e = .returned (.tuple #[.slice none 0 0, .bool false]) ∧ w = w' := by
  have hc := h.c11
  rw [he] at hc
  clear h
  go_enter Try.func16, Try.ntmps16
  go_wp2
  go_ret2
  exact ⟨rfl, rfl⟩
theorem outs_nil (w : World) : Calls Try.prog 16 #[.pointer none] w fun e w' => e = .returned (.tuple #[.slice none 0 0, .bool false]) ∧ w = w' := by
  go_enter Try.func16, Try.ntmps16
  go_wp2
  go_ret2
  exact ⟨rfl, rfl⟩
set_option maxHeartbeats 1000000 in
theorem outs_c {base : Nat} {w : World} {b : Nat} {m : Vm} (h : VmAt base w b m) (he : m.ended = true) (hn : m.outs.length ≤ 1000000) :
    Calls Try.prog 16 #[.pointer (some ⟨b, 0, none⟩)] w fun e w' => ∃ A c, e = .returned (.tuple #[.slice A m.outs.length c, .bool true]) ∧ CloneQ w 2 1 (.slice A m.outs.length c) m.outs.length (ints m.outs) w' := by
  have hc := h.c11
  rw [he] at hc
  have h9 := h.c9
  have hrd := Lib.hid (Rd.of_own h.ro)
  clear h
  go_enter Try.func16, Try.ntmps16
  go_wp2_with (go_at_call 28; refine (clone2_c hrd.out (by omega)).mono ?_; rintro e w1 ⟨A, c, rfl, hq⟩)
  go_ret2
  exact ⟨_, _, rfl, by assumption⟩

end Go.Proofs.Ytihajgmknhifiaa
