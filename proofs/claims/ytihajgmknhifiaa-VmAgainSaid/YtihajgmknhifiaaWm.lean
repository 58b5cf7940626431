/- Two machines in one memory that share nothing, and rows of one's own beside them. No program in sight. -/
import Derived.Test.YtihajgmknhifiaaVd
namespace Go.Proofs.Ytihajgmknhifiaa
open Go.RowKit
set_option linter.unusedVariables false

theorem VmAt.mono {B B' : Nat} {W : World} {b : Nat} {m : Vm} (h : VmAt B W b m) (hB : B' ≤ B) : VmAt B' W b m :=
  { blk := h.blk, does := h.does, rc := own_mono h.rc hB, rs := own_mono h.rs hB, rl := own_mono h.rl hB, ri := own_mono h.ri hB, ro := own_mono h.ro hB,
    bb := Nat.le_trans hB h.bb, bm := Nat.le_trans hB h.bm, sl_ := h.sl_, si_ := h.si_, so_ := h.so_, li_ := h.li_, lo_ := h.lo_, io_ := h.io_ }

structure Two (B : Nat) (w0 W : World) (b1 : Nat) (m1 : Vm) (b2 : Nat) (m2 : Vm) : Prop where
  below : Below B w0 W
  size : B ≤ W.heap.size
  v1 : VmAt B W b1 m1
  v2 : VmAt B W b2 m2
  far : ∀ k, m1.foot b1 k → ¬ m2.foot b2 k

/-- A row of numbers of one's own, away from F. -/
structure RowN (B : Nat) (F : Nat → Prop) (W : World) (v : Value) (n : Nat) : Prop where
  row : ∃ xs : List Int, W.ownsRow B 2 1 v n (ints xs)
  far : ∀ k, v.ownBlock = some k → ¬ F k
/-- A row of instructions of one's own, away from F. -/
structure RowI (B : Nat) (F : Nat → Prop) (W : World) (v : Value) (n : Nat) : Prop where
  row : ∃ xs : List In, W.ownsRow B 53 2 v n (insV xs)
  far : ∀ k, v.ownBlock = some k → ¬ F k

def Feet (b1 : Nat) (m1 : Vm) (b2 : Nat) (m2 : Vm) (k : Nat) : Prop := m1.foot b1 k ∨ m2.foot b2 k

section
variable {B : Nat} {w0 W W' : World} {b1 b2 : Nat} {m1 m2 m1' m2' : Vm}
theorem Two.upd (h : Two B w0 W b1 m1 b2 m2) {F : Nat → Prop} (hu : Upd F W W') (hn : ∀ k, F k → ¬ Feet b1 m1 b2 m2 k) (hB : ∀ k, F k → B ≤ k) : Two B w0 W' b1 m1 b2 m2 :=
  { below := h.below.trans (hu.below h.size hB), size := Nat.le_trans h.size hu.size
    v1 := h.v1.upd hu fun k hk hf => hn k hf (.inl hk), v2 := h.v2.upd hu fun k hk hf => hn k hf (.inr hk), far := h.far }
theorem Two.grow (h : Two B w0 W b1 m1 b2 m2) (hu : Below W.heap.size W W') : Two B w0 W' b1 m1 b2 m2 :=
  h.upd (F := fun _ => False) (Upd.of_below hu) (fun _ => False.elim) (fun _ => False.elim)
theorem Two.go1 (h : Two B w0 W b1 m1 b2 m2) (hg : VmGo B b1 W m1 W' m1') : Two B w0 W' b1 m1' b2 m2 :=
  { below := h.below.trans (hg.upd.below h.size fun k hk => (h.v1.foot_base k hk).1), size := Nat.le_trans h.size hg.upd.size
    v1 := hg.at', v2 := h.v2.upd hg.upd fun k hk hf => h.far k hf hk
    far := fun k hk hf => by
      rcases hg.foot k hk with h1 | h1
      · exact h.far k h1 hf
      · have := (h.v2.foot_base k hf).2; omega }
theorem Two.go2 (h : Two B w0 W b1 m1 b2 m2) (hg : VmGo B b2 W m2 W' m2') : Two B w0 W' b1 m1 b2 m2' :=
  { below := h.below.trans (hg.upd.below h.size fun k hk => (h.v2.foot_base k hk).1), size := Nat.le_trans h.size hg.upd.size
    v2 := hg.at', v1 := h.v1.upd hg.upd fun k hk hf => h.far k hk hf
    far := fun k hk hf => by
      rcases hg.foot k hf with h1 | h1
      · exact h.far k hk h1
      · have := (h.v1.foot_base k hk).2; omega }
theorem Two.lt (h : Two B w0 W b1 m1 b2 m2) (k : Nat) (hk : Feet b1 m1 b2 m2 k) : k < W.heap.size := by
  rcases hk with hk | hk
  · exact (h.v1.foot_base k hk).2
  · exact (h.v2.foot_base k hk).2
end

section
variable {B : Nat} {F : Nat → Prop} {W W' : World} {v : Value} {n : Nat}
theorem RowN.upd (h : RowN B F W v n) {G : Nat → Prop} (hu : Upd G W W') (hn : ∀ k, v.ownBlock = some k → ¬ G k) : RowN B F W' v n := by
  obtain ⟨xs, hx⟩ := h.row
  exact ⟨⟨xs, own_upd hx hu hn⟩, h.far⟩
theorem RowI.upd (h : RowI B F W v n) {G : Nat → Prop} (hu : Upd G W W') (hn : ∀ k, v.ownBlock = some k → ¬ G k) : RowI B F W' v n := by
  obtain ⟨xs, hx⟩ := h.row
  exact ⟨⟨xs, own_upd hx hu hn⟩, h.far⟩
theorem RowN.grow (h : RowN B F W v n) (hu : Below W.heap.size W W') : RowN B F W' v n := h.upd (G := fun _ => False) (Upd.of_below hu) fun _ _ => id
theorem RowI.grow (h : RowI B F W v n) (hu : Below W.heap.size W W') : RowI B F W' v n := h.upd (G := fun _ => False) (Upd.of_below hu) fun _ _ => id
/-- A row that was made behind F. -/
theorem RowN.new {w1 : World} {xs : List Int} (h : W.ownsRow w1.heap.size 2 1 v n (ints xs)) (hB : B ≤ w1.heap.size) (hF : ∀ k, F k → k < w1.heap.size) : RowN B F W v n :=
  ⟨⟨xs, own_mono h hB⟩, fun k hk hf => by have := (h.lt k hk).1; have := hF k hf; omega⟩

theorem own_far {w : World} {b1 b2 : Nat} {e e' : TypeId} {s s' n n' : Nat} {v v' : Value} {xs xs' : List Value} {g c : Nat} (h : w.ownsRow b1 e s v n xs) (h' : w.ownsRow b2 e' s' v' n' xs') (hne : e ≠ e') (hv : v = .slice (some ⟨g, 0, none⟩) n c) : ∀ k, v'.ownBlock = some k → ¬ k = g := by
  intro k hk e1
  subst e1 hv
  rcases own_ne_type h h' hne with hf | hf
  · simp [Value.ownBlock] at hf
  · exact hf (by rw [hk]; rfl)

/-- What a round of a loop over a row of numbers wants. -/
theorem RowN.at_ {A : Option Addr} {c : Nat} (h : RowN B F W (.slice A n c) n) {j : Nat} (hj : j < n) : ∃ g x, A = some ⟨g, 0, none⟩ ∧ n ≤ c ∧ c ≤ maxLen ∧ B ≤ g ∧ g < W.heap.size ∧ ¬ F g ∧ W.cell? ⟨g, j, none⟩ = some (.int .i64 x) ∧ W.frozen? ⟨g, j, none⟩ = false ∧
    ∀ y, RowN B F (W.setCell ⟨g, j, none⟩ (.int .i64 y)) (.slice A n c) n := by
  obtain ⟨xs, hx⟩ := h.row
  have hc := hx
  have hl : xs.length = n := by have := hx.1; rw [ints_length] at this; omega
  rcases hx.2 with ⟨h', h2⟩ | ⟨g, cap, cur, h', hb, hg, h3, h4, h5, h6⟩
  · injection h' with _ e2 _
    omega
  · injection h' with e1 e2 e3
    subst e1 e3
    have hlt := (hx.lt g rfl).2
    refine ⟨g, xs.getD j 0, rfl, h3, h4, hb, hlt, h.far g rfl, ?_, hc.frozenAt j, fun y => ⟨⟨xs.set j y, ?_⟩, h.far⟩⟩
    · rw [hc.cellAt j (by omega), ints_get xs j (by omega)]
    · have e := (World.ownsRow.stored (base := B) (e := 2) (size := 1) hc j (.int .i64 y)).1
      simpa [ints, List.map_set] using e

theorem insV_set {l : List In} {j : Nat} {x : In} : (insV (l.set j x)) = ((insV l).set (j * 2) (.int .u8 x.op)).set (j * 2 + 1) (.int .i64 x.arg) := by
  induction l generalizing j with
  | nil => simp [insV]
  | cons a l ih =>
    cases j with
    | zero => simp [insV]
    | succ j =>
      have e : (j + 1) * 2 = j * 2 + 1 + 1 := by omega
      rw [List.set_cons_succ, insV_cons, insV_cons, ih, e, List.set_cons_succ, List.set_cons_succ, List.set_cons_succ, List.set_cons_succ]

theorem RowI.at_ {A : Option Addr} {c : Nat} (h : RowI B F W (.slice A n c) n) {j : Nat} (hj : j < n) : ∃ g x y, A = some ⟨g, 0, none⟩ ∧ n ≤ c ∧ c ≤ maxLen ∧ B ≤ g ∧ g < W.heap.size ∧ ¬ F g ∧ W.cell? ⟨g, j * 2, none⟩ = some (.int .u8 x) ∧ W.cell? ⟨g, j * 2 + 1, none⟩ = some (.int .i64 y) ∧ W.frozen? ⟨g, j * 2, none⟩ = false ∧ W.frozen? ⟨g, j * 2 + 1, none⟩ = false ∧
    ∀ x y, RowI B F ((W.setCell ⟨g, j * 2, none⟩ (.int .u8 x)).setCell ⟨g, j * 2 + 1, none⟩ (.int .i64 y)) (.slice A n c) n := by
  obtain ⟨xs, hx⟩ := h.row
  have hc := hx
  have hl : xs.length = n := by have := hx.1; rw [insV_length] at this; omega
  rcases hx.2 with ⟨h', h2⟩ | ⟨g, cap, cur, h', hb, hg, h3, h4, h5, h6⟩
  · injection h' with _ e2 _
    omega
  · injection h' with e1 e2 e3
    subst e1 e3
    have hlt := (hx.lt g rfl).2
    have gi := insV_get xs j (by omega)
    refine ⟨g, _, _, rfl, h3, h4, hb, hlt, h.far g rfl, (hc.cellAt (j * 2) (by omega)).trans gi.1, (hc.cellAt (j * 2 + 1) (by omega)).trans gi.2, hc.frozenAt _, hc.frozenAt _, fun x y => ⟨⟨xs.set j ⟨x, y⟩, ?_⟩, h.far⟩⟩
    rw [insV_set]
    exact (World.ownsRow.stored (World.ownsRow.stored hc (j * 2) (.int .u8 x)).1 (j * 2 + 1) (.int .i64 y)).1
end

end Go.Proofs.Ytihajgmknhifiaa
