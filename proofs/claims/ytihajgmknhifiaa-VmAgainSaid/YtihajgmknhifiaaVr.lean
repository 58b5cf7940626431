/- The calls of vm's Save at nil, and of the law's own helpers: copied, numbers, equal. -/
import Derived.Test.YtihajgmknhifiaaVo
import Derived.Laws.ResultCell
namespace Go.Proofs.Ytihajgmknhifiaa
open Go.RowKit
set_option linter.unusedVariables false

def noCtx : Value := .agg #[.int .i64 0, .slice none 0 0, .slice none 0 0, .slice none 0 0, .slice none 0 0, .int .i64 0, .bool false]

set_option maxHeartbeats 1000000 in
set_option maxRecDepth 8000 in
theorem save_nil (w : World) : Calls Try.prog 13 #[.pointer none] w fun e w' => e = .returned (.tuple #[noCtx, .int .i64 1]) ∧ Below w.heap.size w w' := by
  go_enter Try.func13, Try.ntmps13
  go_wp2
  (try simp only [Exit.inBlock, Exit.then])
  refine bodyPost_ret (by rw [results_cell_tmp rfl]; go_simp; rfl) rfl ?_
  exact ⟨rfl, (Below.refl _ _).alloc (Nat.le_refl _) _⟩

set_option maxHeartbeats 1000000 in
set_option maxRecDepth 8000 in
theorem numbers_c {w : World} {v : Value} {n : Nat} {xs : List Int} (h : Rd w v n 1 (ints xs)) (hn : n * 8 ≤ 140737488355328) :
    Calls Try.prog 11 #[v] w fun e w' => ∃ A c, e = .returned (.slice A n c) ∧ CloneQ w 2 1 (.slice A n c) n (ints xs) w' := by
  obtain ⟨i0, hi, hz0, hz1, hz2⟩ := info_parts info2
  have hown : w.ownsRow w.heap.size 2 1 (.slice none 0 0) 0 [] := World.ownsRow_nil _ _ _ _
  go_enter Try.func11, Try.ntmps11
  go_wp2_with (at_builtin; refine wpList_append2 rfl _ _ 25 rfl w.heap.size 2 i0 (.int .i64 0) 1 8 Try.underlying25 hi hz0 hz1 hz2 rfl (by decide) _ _ _ rfl hown _ n (ints xs) rfl h (one_ints _) ?c3 ?c4 ?c5 ?_)
  case c3 => unfold maxLen; omega
  case c4 => omega
  case c5 => omega
  intro A c1 w1 hown1 hgrow hv'
  have hb : Below w.heap.size w w1 := (Below.refl _ _).grown hgrow (Nat.le_refl _) (by intro k hk; cases hk)
  clear hv' hgrow hown h
  go_wp2
  go_ret
  exact ⟨A, c1, rfl, by simpa using hown1, hb⟩

set_option maxHeartbeats 1000000 in
set_option maxRecDepth 8000 in
theorem copied_c {w : World} {v : Value} {n : Nat} {xs : List In} (h : Rd w v n 2 (insV xs)) (hn : n * 16 ≤ 140737488355328) :
    Calls Try.prog 10 #[v] w fun e w' => ∃ A c, e = .returned (.slice A n c) ∧ CloneQ w 53 2 (.slice A n c) n (insV xs) w' := by
  obtain ⟨i0, hi, hz0, hz1, hz2⟩ := info_parts info53
  have hown : w.ownsRow w.heap.size 53 2 (.slice none 0 0) 0 [] := World.ownsRow_nil _ _ _ _
  go_enter Try.func10, Try.ntmps10
  go_wp2_with (at_builtin; refine wpList_append2 rfl _ _ 22 rfl w.heap.size 53 i0 (.agg #[.int .u8 0, .int .i64 0]) 2 16 Try.underlying22 hi hz0 hz1 hz2 rfl (by decide) _ _ _ rfl hown _ n (insV xs) rfl h (one_insV _) ?c3 ?c4 ?c5 ?_)
  case c3 => unfold maxLen; omega
  case c4 => omega
  case c5 => omega
  intro A c1 w1 hown1 hgrow hv'
  have hb : Below w.heap.size w w1 := (Below.refl _ _).grown hgrow (Nat.le_refl _) (by intro k hk; cases hk)
  clear hv' hgrow hown h
  go_wp2
  go_ret
  exact ⟨A, c1, rfl, by simpa using hown1, hb⟩

end Go.Proofs.Ytihajgmknhifiaa
