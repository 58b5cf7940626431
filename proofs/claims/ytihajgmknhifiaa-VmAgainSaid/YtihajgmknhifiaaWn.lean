/- What the law's runs leave, whatever the memory. -/
import Derived.Test.YtihajgmknhifiaaWl
import Derived.Test.YtihajgmknhifiaaWm
namespace Go.Proofs.Ytihajgmknhifiaa
open Go.RowKit
set_option linter.unusedVariables false

/-- A call of Run from the state s to the state s'; what it answers is let go. -/
def RunTo (c : Int) (s s' : Vs) : Prop := ∀ (B : Nat) (W : World) (b : Nat) (m : Vm), VmAt B W b m → m.s = s →
  Calls Try.prog 18 #[.pointer (some ⟨b, 0, none⟩), .int .i64 c] W fun e w' => (∃ v, e = .returned v) ∧ RunQ B W b m s' w'

theorem own_runs {l : List In} {c : Cf} {ins : List Int} {bud : Int} (hv : (verM l c).2 = 0) (hr : (ins.length : Int) = c.reads) (hb : 0 ≤ bud) :
    ∃ (H : Int → Int) (s1 s2 : Vs), RunTo bud (newS l c ins) s1 ∧ Safe l c H s1 ∧ RunTo 1099511627776 s1 s2 ∧ Safe l c H s2 ∧ s2.ended = true := by
  obtain ⟨H, k, sum, s1, r1, f1, g⟩ := two_runs (bud := bud) hv hr hb
  have R1 : RunTo bud (newS l c ins) s1 := by
    intro B W b m h hs
    refine (run_c h (congrArg Vs.ended hs) hb (by rw [hs]; exact r1)).mono ?_
    rintro e w' ⟨rfl, q⟩
    exact ⟨⟨_, rfl⟩, q⟩
  cases he : s1.ended with
  | true =>
    refine ⟨H, s1, s1, R1, f1, ?_, f1, he⟩
    intro B W b m h hs
    have he1 : m.ended = true := (congrArg Vs.ended hs).trans he
    refine (run_ended _ h he1).mono ?_
    rintro e w' ⟨rfl, rfl⟩
    exact ⟨⟨_, rfl⟩, by rw [← hs]; exact RunQ.refl h⟩
  | false =>
    obtain ⟨k2, sum2, s2, r2, f2, e2⟩ := g he
    refine ⟨H, s1, s2, R1, f1, ?_, f2, e2⟩
    intro B W b m h hs
    have he1 : m.ended = false := (congrArg Vs.ended hs).trans he
    refine (run_c h he1 (by decide) (by rw [hs]; exact r2)).mono ?_
    rintro e w' ⟨rfl, q⟩
    exact ⟨⟨_, rfl⟩, q⟩

/-- A row of numbers that a call has made. -/
structure MadeN (W : World) (v : Value) (n : Nat) (w' : World) : Prop where
  row : ∃ xs : List Int, w'.ownsRow W.heap.size 2 1 v n (ints xs)
  below : Below W.heap.size W w'

theorem outs_any {B : Nat} {W : World} {b : Nat} {m : Vm} (h : VmAt B W b m) (hn : m.outs.length ≤ 1000000) :
    Calls Try.prog 16 #[.pointer (some ⟨b, 0, none⟩)] W fun e w' => ∃ A n c z, e = .returned (.tuple #[.slice A n c, .bool z]) ∧ n ≤ 1000000 ∧ MadeN W (.slice A n c) n w' := by
  cases he : m.ended with
  | true =>
    refine (outs_c h he hn).mono ?_
    rintro e w' ⟨A, c, rfl, q⟩
    exact ⟨_, _, _, _, rfl, hn, ⟨_, q.own⟩, q.below⟩
  | false =>
    refine (outs_no h he).mono ?_
    rintro e w' ⟨rfl, rfl⟩
    exact ⟨_, _, _, _, rfl, Nat.zero_le _, ⟨[], World.ownsRow_nil _ _ _ _⟩, Below.refl _ _⟩

/-- What a saved context holds: rows of numbers that nobody else has. -/
structure SavedN (W : World) (v1 v2 : Value) (n1 n2 : Nat) (w' : World) : Prop where
  r1 : ∃ xs : List Int, w'.ownsRow W.heap.size 2 1 v1 n1 (ints xs)
  r2 : ∃ xs : List Int, w'.ownsRow W.heap.size 2 1 v2 n2 (ints xs)
  far : Far v1 v2
  below : Below W.heap.size W w'

theorem save_any {B : Nat} {W : World} {b : Nat} {m : Vm} (h : VmAt B W b m) (b1 : m.stack.length ≤ 1000000 ∧ m.slots.length ≤ 1000000 ∧ m.ins.length ≤ 1000000 ∧ m.outs.length ≤ 1000000) :
    Calls Try.prog 13 #[.pointer (some ⟨b, 0, none⟩)] W fun e w' => ∃ n1 n2 A1 c1 A2 c2 A3 n3 c3 A4 n4 c4, e = .returned (.tuple #[.agg #[.int .i64 m.at_, .slice A1 n1 c1, .slice A2 n2 c2, .slice A3 n3 c3, .slice A4 n4 c4, .int .i64 m.spent, .bool m.ended], .int .i64 0]) ∧
      n1 ≤ 1000000 ∧ n2 ≤ 1000000 ∧ SavedN W (.slice A1 n1 c1) (.slice A2 n2 c2) n1 n2 w' := by
  obtain ⟨b1, b2, b3, b4⟩ := b1
  refine (save_c h b1 b2 b3 b4).mono ?_
  rintro e w' ⟨v1, v2, v3, v4, rfl, q⟩
  obtain ⟨A1, c1, rfl⟩ := own_slice q.o1
  obtain ⟨A2, c2, rfl⟩ := own_slice q.o2
  obtain ⟨A3, c3, rfl⟩ := own_slice q.o3
  obtain ⟨A4, c4, rfl⟩ := own_slice q.o4
  exact ⟨_, _, A1, c1, A2, c2, A3, _, c3, A4, _, c4, rfl, b1, b2, ⟨_, q.o1⟩, ⟨_, q.o2⟩, q.f12, q.below⟩

theorem vm_small {m : Vm} {s : Vs} (h : m.s = s) (hs : s.stack.length ≤ 1000000 ∧ s.slots.length ≤ 1000000 ∧ s.ins.length ≤ 1000000 ∧ s.outs.length ≤ 1000000) :
    m.stack.length ≤ 1000000 ∧ m.slots.length ≤ 1000000 ∧ m.ins.length ≤ 1000000 ∧ m.outs.length ≤ 1000000 := by subst h; exact hs

theorem outs_end {B : Nat} {W : World} {b : Nat} {m : Vm} {s : Vs} (h : VmAt B W b m) (hs : m.s = s) (he : s.ended = true) (hn : s.outs.length ≤ 1000000) :
    Calls Try.prog 16 #[.pointer (some ⟨b, 0, none⟩)] W fun e w' => ∃ A c, e = .returned (.tuple #[.slice A s.outs.length c, .bool true]) ∧ CloneQ W 2 1 (.slice A s.outs.length c) s.outs.length (ints s.outs) w' := by
  subst hs
  exact outs_c h he hn
theorem spent_end {B : Nat} {W : World} {b : Nat} {m : Vm} {s : Vs} (h : VmAt B W b m) (hs : m.s = s) :
    Calls Try.prog 15 #[.pointer (some ⟨b, 0, none⟩)] W fun e w' => e = .returned (.int .i64 s.spent) ∧ W = w' := by
  subst hs
  exact spent_c h

theorem Upd.one (W : World) (g i : Nat) (v : Value) : Upd (fun k => k = g) W (W.setCell ⟨g, i, none⟩ v) := Upd.setCell (F := fun k => k = g) (Upd.refl _ _) ⟨g, i, none⟩ (.inl rfl) v

/-- At the head of a round over a row of a saved context. -/
structure Rel3 (B : Nat) (w0 : World) (b1 : Nat) (m1 : Vm) (b2 : Nat) (m2 : Vm) (x : Nat) (cs : Array Value) (v1 v2 : Value) (n1 n2 n k : Nat) (v : Value) (W : World) : Prop where
  j : ∃ j : Nat, j + k = n ∧ v = .int .i64 j
  blk : W.heap[x]? = some (.cells cs 37 (0, 0))
  r1 : RowN B (Feet b1 m1 b2 m2) W v1 n1
  r2 : RowN B (Feet b1 m1 b2 m2) W v2 n2
  far : Far v1 v2
  two : Two B w0 W b1 m1 b2 m2

theorem own_not37 {W : World} {B n x : Nat} {v : Value} {xs : List Value} {cs : Array Value} (h : W.ownsRow B 2 1 v n xs) (hx : W.heap[x]? = some (.cells cs 37 (0, 0))) : ∀ k, v.ownBlock = some k → x ≠ k := by
  intro k hk e
  subst e
  rcases h.2 with ⟨rfl, _⟩ | ⟨g, cap, cur, rfl, _, hg, _⟩
  · simp [Value.ownBlock] at hk
  · have e1 : g = x := by simpa [Value.ownBlock] using hk
    subst e1
    rw [hx] at hg
    simp at hg

section
variable {B : Nat} {w0 : World} {b1 : Nat} {m1 : Vm} {b2 : Nat} {m2 : Vm} {x : Nat} {cs : Array Value} {v1 v2 : Value} {n1 n2 n k : Nat} {v : Value} {W : World}
theorem Rel3.again (h : Rel3 B w0 b1 m1 b2 m2 x cs v1 v2 n1 n2 n k v W) {n' k' : Nat} {v' : Value} (hj : ∃ j : Nat, j + k' = n' ∧ v' = .int .i64 j) : Rel3 B w0 b1 m1 b2 m2 x cs v1 v2 n1 n2 n' k' v' W := ⟨hj, h.blk, h.r1, h.r2, h.far, h.two⟩
theorem Rel3.swap (h : Rel3 B w0 b1 m1 b2 m2 x cs v1 v2 n1 n2 n k v W) : Rel3 B w0 b1 m1 b2 m2 x cs v2 v1 n2 n1 n k v W := ⟨h.j, h.blk, h.r2, h.r1, h.far.symm, h.two⟩
theorem Rel3.set {A1 : Option Addr} {a1 : Nat} (h : Rel3 B w0 b1 m1 b2 m2 x cs (.slice A1 n1 a1) v2 n1 n2 n k v W) {j : Nat} (hj : j < n1) :
    ∃ g y, A1 = some ⟨g, 0, none⟩ ∧ n1 ≤ a1 ∧ a1 ≤ maxLen ∧ g < W.heap.size ∧ W.cell? ⟨g, j, none⟩ = some (.int .i64 y) ∧ W.frozen? ⟨g, j, none⟩ = false ∧
      ∀ y n' k' v', (∃ j : Nat, j + k' = n' ∧ v' = .int .i64 j) → Rel3 B w0 b1 m1 b2 m2 x cs (.slice A1 n1 a1) v2 n1 n2 n' k' v' (W.setCell ⟨g, j, none⟩ (.int .i64 y)) := by
  obtain ⟨g, y, hA, h1, h2, h3, h4, h5, h6, h7, h8⟩ := h.r1.at_ hj
  refine ⟨g, y, hA, h1, h2, h4, h6, h7, fun y n' k' v' hj' => ⟨hj', ?_, h8 y, ?_, h.far, ?_⟩⟩
  · obtain ⟨xs, hx⟩ := h.r1.row
    have hne := own_not37 hx h.blk g (by rw [hA]; rfl)
    rw [(Upd.one W g j (.int .i64 y)).block x (Array.getElem?_eq_some_iff.1 h.blk).1 hne]
    exact h.blk
  · refine h.r2.upd (Upd.one _ _ _ _) fun k hk e => ?_
    subst e
    rcases h.far with hf | hf
    · rw [hA] at hf; simp [Value.ownBlock] at hf
    · exact hf (by rw [hk, hA]; rfl)
  · exact h.two.upd (Upd.one _ _ _ _) (fun k hk => by rw [hk]; exact h5) (fun k hk => by rw [hk]; exact h3)
end

structure Rel5 (B : Nat) (w0 : World) (b1 : Nat) (m1 : Vm) (b2 : Nat) (m2 : Vm) (v1 : Value) (n1 n k : Nat) (v : Value) (W : World) : Prop where
  j : ∃ j : Nat, j + k = n ∧ v = .int .i64 j
  r1 : RowN B (Feet b1 m1 b2 m2) W v1 n1
  two : Two B w0 W b1 m1 b2 m2
theorem Rel5.set {B : Nat} {w0 : World} {b1 : Nat} {m1 : Vm} {b2 : Nat} {m2 : Vm} {n1 n k : Nat} {v : Value} {W : World} {A1 : Option Addr} {a1 : Nat} (h : Rel5 B w0 b1 m1 b2 m2 (.slice A1 n1 a1) n1 n k v W) {j : Nat} (hj : j < n1) :
    ∃ g y, A1 = some ⟨g, 0, none⟩ ∧ n1 ≤ a1 ∧ a1 ≤ maxLen ∧ g < W.heap.size ∧ W.cell? ⟨g, j, none⟩ = some (.int .i64 y) ∧ W.frozen? ⟨g, j, none⟩ = false ∧
      ∀ y n' k' v', (∃ j : Nat, j + k' = n' ∧ v' = .int .i64 j) → Rel5 B w0 b1 m1 b2 m2 (.slice A1 n1 a1) n1 n' k' v' (W.setCell ⟨g, j, none⟩ (.int .i64 y)) := by
  obtain ⟨g, y, hA, h1, h2, h3, h4, h5, h6, h7, h8⟩ := h.r1.at_ hj
  exact ⟨g, y, hA, h1, h2, h4, h6, h7, fun y n' k' v' hj' => ⟨hj', h8 y, h.two.upd (Upd.one _ _ _ _) (fun k hk => by rw [hk]; exact h5) (fun k hk => by rw [hk]; exact h3)⟩⟩

theorem Rel3.start {B : Nat} {w0 w5 w6 : World} {b1 : Nat} {m1 : Vm} {b2 : Nat} {m2 : Vm} {v1 v2 : Value} {n1 n2 : Nat} (T : Two B w0 w5 b1 m1 b2 m2) (q : SavedN w5 v1 v2 n1 n2 w6) (cs : Array Value) :
    Rel3 B w0 b1 m1 b2 m2 w6.heap.size cs v1 v2 n1 n2 n1 n1 (.int .i64 0) (w6.alloc (.cells cs 37)) := by
  have g : Below w6.heap.size w6 (w6.alloc (.cells cs 37)) := (Below.refl _ _).alloc (Nat.le_refl _) _
  obtain ⟨x1, r1⟩ := q.r1
  obtain ⟨x2, r2⟩ := q.r2
  exact ⟨⟨0, by omega, rfl⟩, heap_alloc_new w6 _, RowN.new (own_gn r1 g) T.size T.lt, RowN.new (own_gn r2 g) T.size T.lt, q.far, (T.grow q.below).grow g⟩
theorem Rel5.start {B : Nat} {w0 W W' : World} {b1 : Nat} {m1 : Vm} {b2 : Nat} {m2 : Vm} {v1 : Value} {n1 : Nat} (T : Two B w0 W b1 m1 b2 m2) (q : MadeN W v1 n1 W') : Rel5 B w0 b1 m1 b2 m2 v1 n1 n1 n1 (.int .i64 0) W' := by
  obtain ⟨x1, r1⟩ := q.row
  exact ⟨⟨0, by omega, rfl⟩, RowN.new r1 T.size T.lt, T.grow q.below⟩

theorem Safe.small' {l : List In} {c : Cf} {H : Int → Int} {s : Vs} (h : Safe l c H s) (hm : mayC c = true) : s.stack.length ≤ 1000000 ∧ s.slots.length ≤ 1000000 ∧ s.ins.length ≤ 1000000 ∧ s.outs.length ≤ 1000000 := by
  have hb := mayC_bd hm
  have h1 := h.small
  have h2 := h.slots
  have h3 := h.ins
  have h4 := h.outs
  refine ⟨h1, ?_, ?_, ?_⟩ <;> omega

end Go.Proofs.Ytihajgmknhifiaa
