/- The call of cost's follows, and the contract of the iterator that it hands back. -/
import Derived.Test.YtihajgmknhifiaaXc
import Derived.RangeFuncBox
import Derived.RangeFuncNested
import Derived.RangeFuncBound
import Derived.RangeFuncCalls
import Derived.RangeFuncLeaves
import Derived.RangeFuncFrom
import Derived.Shelf.Abstract
import Derived.WalkKit
import Derived.OwnWalkIn
import Derived.TacticsInMore
import Derived.LoopNIn
import Derived.LoopIn
namespace Go.Proofs.Ytihajgmknhifiaa
open Go.RowKit Go.Shelf
set_option linter.unusedVariables false

attribute [local go_sem] Oper.semAt_some

set_option maxHeartbeats 1000000 in
theorem cfollows_c (F : Fence) (n : Nat) (hF : F.fn 46) (hro : F.round = none) {w : World} {g o cap len : Nat} {op arg : Int} {a : Nat} (h0 : a < len) (hc : len ≤ cap) (hm : cap ≤ 9223372036854775807)
    (hop : w.cell? ⟨g, o + a * 2, none⟩ = some (.int .u8 op)) (harg : w.cell? ⟨g, o + a * 2 + 1, none⟩ = some (.int .i64 arg)) :
    CallsIn F n Try.prog 46 #[.slice (some ⟨g, o, none⟩) len cap, .int .i64 a] w fun e w' => e = .returned (.func (.func 75) #[] #[.pointer (some ⟨w.heap.size + 1, 0, none⟩), .pointer (some ⟨w.heap.size, 0, none⟩)]) ∧
      w' = (w.alloc (.cells #[.int .i64 a] 3)).alloc (.cells #[.int .u8 op, .int .i64 arg] 53) := by
  have hg := World.block_lt_of_cell? w _ hop
  dsimp only at hg
  have i0 : (0 : Int) ≤ (a : Int) := by omega
  have i1 : (a : Int) < (len : Int) := by omega
  refine callsIn_of_wp Try.func46 rfl hF ?_ hro
  simp only [Try.ntmps46, List.size_toArray, List.length_cons, List.length_nil, Nat.reduceAdd, Nat.reduceSub, Array.replicate_succ, Array.replicate_zero, List.push_toArray, List.append_toArray, List.nil_append, List.cons_append]
  gi_wp2
  go_ret
  exact ⟨rfl, rfl⟩

/-- A place that follows, and the error beyond. -/
abbrev Fol (i : In) (a : Int) := { x : Int × Int // Succ i a x.1 }
abbrev Fol.enc {i : In} {a : Int} (x : Fol i a) : Array Value := #[.int .i64 x.1.1, .int .i64 x.1.2]
def KeepAB (b3 b5 : Nat) (W W' : World) : Prop := W'.heap[b3]? = W.heap[b3]? ∧ W'.heap[b5]? = W.heap[b5]?
def AllFol (i : In) (a : Int) (xs : List (Fol i a)) : Prop := ∀ q, Succ i a q → ∃ x ∈ xs, x.1.1 = q

set_option maxRecDepth 100000 in
set_option maxHeartbeats 2000000 in
theorem follows_stops (F : Fence) (n : Nat) (h75 : F.fn 75) (hro : F.round = none) (hn : 1 ≤ n) {w : World} {b3 b5 : Nat} {op arg : Int} {a : Nat} (ha : a ≤ 4096) (hm : mayI ⟨op, arg⟩ = true)
    (k3 : w.heap[b3]? = some (.cells #[.int .i64 a] 3 (0, 0))) (k5 : w.heap[b5]? = some (.cells #[.int .u8 op, .int .i64 arg] 53 (0, 0))) :
    SeqStopsK F n Try.prog 75 #[.pointer (some ⟨b5, 0, none⟩), .pointer (some ⟨b3, 0, none⟩)] (Fol.enc (i := ⟨op, arg⟩) (a := a)) (KeepAB b3 b5) (AllFol ⟨op, arg⟩ a) (fun _ => True) 2 w := fun l J Jx W hW _ _ hY h0 => by
  have q3 : W.heap[b3]? = some (.cells #[.int .i64 a] 3 (0, 0)) := (hW.block b3 (Array.getElem?_eq_some_iff.1 k3).1).trans k3
  have q5 : W.heap[b5]? = some (.cells #[.int .u8 op, .int .i64 arg] 53 (0, 0)) := (hW.block b5 (Array.getElem?_eq_some_iff.1 k5).1).trans k5
  have c3 := cell_blk q3 0
  have c50 := cell_blk q5 0
  have c51 := cell_blk q5 1
  simp at c3 c50 c51
  have Q3 := Lib.hid q3
  have Q5 := Lib.hid q5
  have HM := Lib.hid hm
  clear k3 k5 hW q3 q5 hm
  refine callsIn_of_wp Try.func75 rfl h75 ?_ hro
  simp only [Try.ntmps75, List.size_toArray, List.length_cons, List.length_nil, Nat.reduceAdd, Nat.reduceSub, Array.replicate_succ, Array.replicate_zero, List.push_toArray, List.append_toArray, List.nil_append, List.cons_append]
  by_cases e23 : op = 23
  · subst e23
    gi_wp2
    refine bodyPost_ret (results_none rfl _ _ _) rfl ?_
    refine ⟨⟨_, rfl⟩, .inl ⟨[], ?_, h0⟩⟩
    intro q hq
    rcases hq with ⟨h1, _⟩ | ⟨h1, _⟩
    · exact absurd rfl h1
    · simp at h1
  have f23 : (op == 23) = false := by simp; omega
  by_cases e21 : op = 21
  · subst e21
    obtain ⟨a0, a1⟩ := mayI_jump HM.out (.inl rfl)
    obtain ⟨fn, tmps, assign, body, hy, hR⟩ := hY [] ⟨((a : Int) + arg, 190), .inr ⟨.inl rfl, rfl⟩⟩ W h0 (by simp)
    dsimp only [Fol.enc] at hy
    gi_wp2
    refine ⟨fun _ h => (by cases h), ?_⟩
    gi_wp2
    refine hR.mono ?_
    rintro e W1 (⟨rfl, hJ1, _⟩ | ⟨rfl, hx1⟩)
    · gi_wp2
      go_end0
      refine ⟨⟨_, rfl⟩, .inl ⟨_, ?_, hJ1⟩⟩
      intro q hq
      refine ⟨_, List.mem_singleton_self _, ?_⟩
      rcases hq with ⟨_, h2, _⟩ | ⟨_, rfl⟩
      · exact absurd rfl h2
      · rfl
    · gi_wp2
      go_end0
      exact ⟨⟨_, rfl⟩, .inr ⟨_, trivial, hx1⟩⟩
  have f21 : (op != 21) = true := by simpa using e21
  have f21' : (op == 21) = false := by simpa using e21
  obtain ⟨fn, tmps, assign, body, hy, hR⟩ := hY [] ⟨((a : Int) + 1, 195), .inl ⟨e23, e21, rfl⟩⟩ W h0 (by simp)
  dsimp only [Fol.enc] at hy
  by_cases e22 : op = 22
  · subst e22
    obtain ⟨a0, a1⟩ := mayI_jump HM.out (.inr rfl)
    gi_wp2
    refine hR.mono ?_
    rintro e W1 (⟨rfl, hJ1, hk1⟩ | ⟨rfl, hx1⟩)
    · obtain ⟨fn2, tmps2, assign2, body2, hy2, hR2⟩ := hY [⟨((a : Int) + 1, 195), .inl ⟨e23, e21, rfl⟩⟩] ⟨((a : Int) + arg, 190), .inr ⟨.inr rfl, rfl⟩⟩ W1 hJ1 (by simp)
      dsimp only [Fol.enc] at hy2
      have d3 := cell_blk (hk1.1.trans Q3.out) 0
      have d50 := cell_blk (hk1.2.trans Q5.out) 0
      have d51 := cell_blk (hk1.2.trans Q5.out) 1
      simp at d3 d50 d51
      gi_wp2
      refine hR2.mono ?_
      rintro e W2 (⟨rfl, hJ2, _⟩ | ⟨rfl, hx2⟩)
      · gi_wp2
        go_end0
        refine ⟨⟨_, rfl⟩, .inl ⟨_, ?_, hJ2⟩⟩
        intro q hq
        rcases hq with ⟨_, _, rfl⟩ | ⟨_, rfl⟩
        · exact ⟨_, List.mem_append_left _ (List.mem_singleton_self _), rfl⟩
        · exact ⟨_, List.mem_append_right _ (List.mem_singleton_self _), rfl⟩
      · gi_wp2
        go_end0
        exact ⟨⟨_, rfl⟩, .inr ⟨_, trivial, hx2⟩⟩
    · gi_wp2
      refine bodyPost_ret (results_none rfl _ _ _) rfl ?_
      exact ⟨⟨_, rfl⟩, .inr ⟨_, trivial, hx1⟩⟩
  · have f22 : (op == 22) = false := by simpa using e22
    gi_wp2
    refine hR.mono ?_
    rintro e W1 (⟨rfl, hJ1, hk1⟩ | ⟨rfl, hx1⟩)
    · have d3 := cell_blk (hk1.1.trans Q3.out) 0
      have d50 := cell_blk (hk1.2.trans Q5.out) 0
      have d51 := cell_blk (hk1.2.trans Q5.out) 1
      simp at d3 d50 d51
      gi_wp2
      go_end0
      refine ⟨⟨_, rfl⟩, .inl ⟨_, ?_, hJ1⟩⟩
      intro q hq
      refine ⟨_, List.mem_singleton_self _, ?_⟩
      rcases hq with ⟨_, _, rfl⟩ | ⟨h1, _⟩
      · rfl
      · dsimp only at h1; omega
    · gi_wp2
      refine bodyPost_ret (results_none rfl _ _ _) rfl ?_
      exact ⟨⟨_, rfl⟩, .inr ⟨_, trivial, hx1⟩⟩

end Go.Proofs.Ytihajgmknhifiaa
