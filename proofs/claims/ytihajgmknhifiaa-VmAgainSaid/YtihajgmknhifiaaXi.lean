/- Bound's two rows, xa its rounds leave them. No walk. -/
import Derived.Test.YtihajgmknhifiaaXg
namespace Go.Proofs.Ytihajgmknhifiaa
open Go.RowKit Go.Shelf
set_option linter.unusedVariables false

/-- From k on the rows tell what a path may cost; before k they are 0. -/
structure GoodB (l : List In) (k : Nat) (xa xb : List Int) : Prop where
  zero : ∀ p : Nat, p < k → xa.getD p 0 = 0 ∧ xb.getD p 0 = 0
  a0 : ∀ p : Nat, p < l.length → 0 ≤ xa.getD p 0 ∧ 0 ≤ xb.getD p 0
  a1 : ∀ p : Nat, k ≤ p → p < l.length → xa.getD p 0 + 8 * p ≤ 8 * l.length ∧ xb.getD p 0 + 8 * p ≤ 8 * l.length
  cost : ∀ p : Nat, k ≤ p → p < l.length → ∀ t, Cost l p t → xa.getD p 0 ≤ t ∧ t ≤ xb.getD p 0

structure BoundW (w WB : World) (l : List In) (ga gb k bat : Nat) (ds : List Deferred) (wr : World) : Prop where
  upd : Upd (fun j => j = ga ∨ j = gb) WB wr
  at_ : ∃ x : Int, x = (k : Int) - 1 ∧ wr.heap[bat]? = some (.cells #[.int .i64 x] 3 (0, 0))
  new : WB.heap.size ≤ bat
  rows : ∃ xa xb : List Int, wr.ownsRow w.heap.size 2 1 (.slice (some ⟨ga, 0, none⟩) l.length l.length) l.length (ints xa) ∧ wr.ownsRow w.heap.size 2 1 (.slice (some ⟨gb, 0, none⟩) l.length l.length) l.length (ints xb) ∧ GoodB l k xa xb
  marks : Marks w.heap.size ds wr

structure BoundI (w WS : World) (l : List In) (ga gb bf j : Nat) (xa xb : List Int) (i : In) (pre : List (Fol i j)) (W : World) : Prop where
  upd : Upd (fun q => q = ga ∨ q = gb ∨ q = bf) WS W
  fst : W.heap[bf]? = some (.cells #[.bool pre.isEmpty] 4 (0, 0))
  rows : ∃ xa' xb' : List Int, W.ownsRow w.heap.size 2 1 (.slice (some ⟨ga, 0, none⟩) l.length l.length) l.length (ints xa') ∧ W.ownsRow w.heap.size 2 1 (.slice (some ⟨gb, 0, none⟩) l.length l.length) l.length (ints xb') ∧
    (∀ p : Nat, p ≠ j → xa'.getD p 0 = xa.getD p 0 ∧ xb'.getD p 0 = xb.getD p 0) ∧ (pre = [] → xa'.getD j 0 = 0) ∧
    0 ≤ xa'.getD j 0 ∧ 0 ≤ xb'.getD j 0 ∧ xa'.getD j 0 + 8 * (j + 1 : Nat) ≤ 8 * l.length ∧ xb'.getD j 0 + 8 * (j + 1 : Nat) ≤ 8 * l.length ∧
    ∀ x ∈ pre, ∀ q : Nat, x.1.1 = q → xa'.getD j 0 ≤ xa.getD q 0 ∧ xb.getD q 0 ≤ xb'.getD j 0

theorem BoundI.own {w WS : World} {l : List In} {ga gb bf j : Nat} {xa xb : List Int} {i : In} (h1 : ga < WS.heap.size) (h2 : gb < WS.heap.size) (h3 : bf < WS.heap.size) : OwnFrom WS.heap.size (BoundI w WS l ga gb bf j xa xb i) := by
  intro s W W' row h hg hr
  have hu : Upd (fun k => row = some k) W W' := Upd.of_grown hg fun k e => e
  obtain ⟨xa', xb', r1, r2, rest⟩ := h.rows
  have hn : ∀ k, k < WS.heap.size → ¬ row = some k := fun k hk e => by have := (hr k e).1; omega
  refine ⟨h.upd.trans' hu fun k e => .inr (hr k e).1, (hu.block bf (Array.getElem?_eq_some_iff.1 h.fst).1 (hn bf h3)).trans h.fst, xa', xb', own_upd r1 hu fun k hk e => ?_, own_upd r2 hu fun k hk e => ?_, rest⟩
  · have e1 : ga = k := by simpa [Value.ownBlock] using hk
    exact hn k (by omega) e
  · have e1 : gb = k := by simpa [Value.ownBlock] using hk
    exact hn k (by omega) e
theorem BoundI.drew {w WS W : World} {l : List In} {ga gb bf j : Nat} {xa xb : List Int} {i : In} {pre : List (Fol i j)} (h : BoundI w WS l ga gb bf j xa xb i pre W) : BoundI w WS l ga gb bf j xa xb i pre W.drew :=
  ⟨h.upd.drew, h.fst, by obtain ⟨xa', xb', r1, r2, rest⟩ := h.rows; exact ⟨xa', xb', r1, r2, rest⟩⟩

theorem getD_set_same {xs : List Int} {j : Nat} {x : Int} (h : j < xs.length) : (xs.set j x).getD j 0 = x := by
  rw [List.getD_eq_getElem?_getD, List.getElem?_set_self h]; rfl
theorem getD_set_other {xs : List Int} {j p : Nat} {x : Int} (h : p ≠ j) : (xs.set j x).getD p 0 = xs.getD p 0 := by
  rw [List.getD_eq_getElem?_getD, List.getElem?_set_ne (by omega), ← List.getD_eq_getElem?_getD]

theorem own_store {W : World} {B n g j : Nat} {xs : List Int} {x : Int} (h : W.ownsRow B 2 1 (.slice (some ⟨g, 0, none⟩) n n) n (ints xs)) : (W.setCell ⟨g, j, none⟩ (.int .i64 x)).ownsRow B 2 1 (.slice (some ⟨g, 0, none⟩) n n) n (ints (xs.set j x)) := by
  have e := (World.ownsRow.stored (base := B) (e := 2) (size := 1) h j (.int .i64 x)).1
  simpa [ints, List.map_set] using e
theorem own_other {W : World} {B n g g' j : Nat} {xs : List Value} {x : Value} (h : W.ownsRow B 2 1 (.slice (some ⟨g, 0, none⟩) n n) n xs) (hne : g ≠ g') : (W.setCell ⟨g', j, none⟩ x).ownsRow B 2 1 (.slice (some ⟨g, 0, none⟩) n n) n xs :=
  own_upd h (F := fun k => k = g') (Upd.setCell (F := fun k => k = g') (Upd.refl _ _) ⟨g', j, none⟩ (.inl rfl) x) fun k hk e => by
    have e1 : g = k := by simpa [Value.ownBlock] using hk
    omega

section
variable {w WS W : World} {l : List In} {ga gb bf j : Nat} {xa xb : List Int} {i : In} {pre : List (Fol i j)}
theorem BoundI.ne (h : BoundI w WS l ga gb bf j xa xb i pre W) : ga ≠ bf ∧ gb ≠ bf := by
  obtain ⟨xa', xb', r1, r2, _⟩ := h.rows
  have key : ∀ {g : Nat} {xs : List Value}, W.ownsRow w.heap.size 2 1 (.slice (some ⟨g, 0, none⟩) l.length l.length) l.length xs → g ≠ bf := by
    intro g xs hr e
    subst e
    rcases hr.2 with ⟨h', _⟩ | ⟨g', cap', cur, h', _, hg, _⟩
    · simp at h'
    · simp only [Value.slice.injEq, Option.some.injEq, Addr.mk.injEq, and_true, true_and] at h'
      obtain ⟨rfl, rfl⟩ := h'
      rw [h.fst] at hg
      simp at hg
  exact ⟨key r1, key r2⟩

/-- What a round reads. -/
theorem BoundI.read (h : BoundI w WS l ga gb bf j xa xb i pre W) (hj : j < l.length) : ∃ x y : Int, (∀ p : Nat, p < l.length → p ≠ j → W.cell? ⟨ga, p, none⟩ = some (.int .i64 (xa.getD p 0)) ∧ W.cell? ⟨gb, p, none⟩ = some (.int .i64 (xb.getD p 0))) ∧
    W.cell? ⟨ga, j, none⟩ = some (.int .i64 x) ∧ W.cell? ⟨gb, j, none⟩ = some (.int .i64 y) ∧ W.frozen? ⟨ga, j, none⟩ = false ∧ W.frozen? ⟨gb, j, none⟩ = false ∧ 0 ≤ x ∧ x ≤ 8 * l.length ∧ 0 ≤ y ∧ y ≤ 8 * l.length ∧
    ∀ {x1 : Fol i j} {q : Nat}, x1.1.1 = q → j < q → q < l.length → GoodB l (j + 1) xa xb → ga ≠ gb →
      ((pre = [] ∨ xa.getD q 0 < x) → BoundI w WS l ga gb bf j xa xb i (pre ++ [x1]) (((W.setCell ⟨ga, j, none⟩ (.int .i64 (xa.getD q 0))).setCell ⟨gb, j, none⟩ (.int .i64 (max y (xb.getD q 0)))).setCell ⟨bf, 0, none⟩ (.bool false))) ∧
      (pre ≠ [] → x ≤ xa.getD q 0 → BoundI w WS l ga gb bf j xa xb i (pre ++ [x1]) ((W.setCell ⟨gb, j, none⟩ (.int .i64 (max y (xb.getD q 0)))).setCell ⟨bf, 0, none⟩ (.bool false))) := by
  obtain ⟨na, nb⟩ := h.ne
  obtain ⟨xa', xb', r1, r2, o1, o2, o3, o4, o5, o6, o7⟩ := h.rows
  have la : xa'.length = l.length := by have := r1.1; rw [ints_length] at this; omega
  have lb : xb'.length = l.length := by have := r2.1; rw [ints_length] at this; omega
  have ca : ∀ p : Nat, p < l.length → W.cell? ⟨ga, p, none⟩ = some (.int .i64 (xa'.getD p 0)) := fun p hp => by rw [r1.cellAt p (by omega)]; exact ints_get xa' p (by omega)
  have cb : ∀ p : Nat, p < l.length → W.cell? ⟨gb, p, none⟩ = some (.int .i64 (xb'.getD p 0)) := fun p hp => by rw [r2.cellAt p (by omega)]; exact ints_get xb' p (by omega)
  refine ⟨xa'.getD j 0, xb'.getD j 0, fun p hp hpj => ⟨by rw [← (o1 p hpj).1]; exact ca p hp, by rw [← (o1 p hpj).2]; exact cb p hp⟩, ca j hj, cb j hj, r1.frozenAt j, r2.frozenAt j, o3, by omega, o4, by omega, ?_⟩
  intro x1 q hq hjq hql hG hne
  have g0 := hG.a0 q hql
  have g1 := hG.a1 q (by omega) hql
  have hmx : 0 ≤ max (xb'.getD j 0) (xb.getD q 0) ∧ max (xb'.getD j 0) (xb.getD q 0) + 8 * (j + 1 : Nat) ≤ 8 * l.length ∧ xb'.getD j 0 ≤ max (xb'.getD j 0) (xb.getD q 0) ∧ xb.getD q 0 ≤ max (xb'.getD j 0) (xb.getD q 0) := by omega
  obtain ⟨m0, m1, m2, m3⟩ := hmx
  have hemp : (pre ++ [x1]).isEmpty = false := by simp
  generalize max (xb'.getD j 0) (xb.getD q 0) = mx at *
  constructor
  · intro hc
    refine ⟨h.upd.trans (((Upd.refl (fun q => q = ga ∨ q = gb ∨ q = bf) W).setCell _ (.inl (.inl rfl)) _).setCell _ (.inl (.inr (.inl rfl))) _ |>.setCell _ (.inl (.inr (.inr rfl))) _), ?_, xa'.set j (xa.getD q 0), xb'.set j mx, own_other (own_other (own_store r1) hne) na, own_other (own_store (own_other r2 (Ne.symm hne))) nb, ?_, fun e => by simp at e, ?_, ?_, ?_, ?_, ?_⟩
    · have e1 := (Below.heap_setCell W ⟨ga, j, none⟩ (.int .i64 (xa.getD q 0)) bf (Ne.symm na)).trans h.fst
      have e2 := (Below.heap_setCell (W.setCell ⟨ga, j, none⟩ (.int .i64 (xa.getD q 0))) ⟨gb, j, none⟩ (.int .i64 mx) bf (Ne.symm nb)).trans e1
      rw [hemp]
      exact heap_setCell _ _ _ _ _ e2 0 (.bool false)
    · intro p hp
      rw [getD_set_other hp, getD_set_other hp]
      exact o1 p hp
    · rw [getD_set_same (by omega)]; exact g0.1
    · rw [getD_set_same (by omega)]; exact m0
    · rw [getD_set_same (by omega)]; omega
    · rw [getD_set_same (by omega)]; exact m1
    · intro x' hx' q' hq'
      rw [getD_set_same (by omega), getD_set_same (by omega)]
      rcases List.mem_append.1 hx' with hx' | hx'
      · obtain ⟨z1, z2⟩ := o7 x' hx' q' hq'
        refine ⟨?_, by omega⟩
        rcases hc with hc | hc
        · subst hc; cases hx'
        · omega
      · rw [List.mem_singleton] at hx'
        subst hx'
        have : q' = q := by omega
        subst this
        exact ⟨Int.le_refl _, m3⟩
  · intro hp hc
    refine ⟨h.upd.trans (((Upd.refl (fun q => q = ga ∨ q = gb ∨ q = bf) W).setCell _ (.inl (.inr (.inl rfl))) _).setCell _ (.inl (.inr (.inr rfl))) _), ?_, xa', xb'.set j mx, own_other (own_other r1 hne) na, own_other (own_store r2) nb, ?_, fun e => by simp at e, o3, ?_, o5, ?_, ?_⟩
    · have e2 := (Below.heap_setCell W ⟨gb, j, none⟩ (.int .i64 mx) bf (Ne.symm nb)).trans h.fst
      rw [hemp]
      exact heap_setCell _ _ _ _ _ e2 0 (.bool false)
    · intro p hp
      rw [getD_set_other hp]
      exact o1 p hp
    · rw [getD_set_same (by omega)]; exact m0
    · rw [getD_set_same (by omega)]; exact m1
    · intro x' hx' q' hq'
      rw [getD_set_same (by omega)]
      rcases List.mem_append.1 hx' with hx' | hx'
      · obtain ⟨z1, z2⟩ := o7 x' hx' q' hq'
        exact ⟨z1, by omega⟩
      · rw [List.mem_singleton] at hx'
        subst hx'
        have : q' = q := by omega
        subst this
        exact ⟨hc, m3⟩

/-- Behind the range: what a path from j may cost. -/
theorem BoundI.cost (hI : BoundI w WS l ga gb bf j xa xb i pre W) (hG : GoodB l (j + 1) xa xb) (hj : j < l.length) (hi : insAt l j = i) (hm : mayI i = true) (hn : ∀ q, Succ i j q → q < l.length) (hall : AllFol i j pre) :
    ∃ xa' xb' : List Int, W.ownsRow w.heap.size 2 1 (.slice (some ⟨ga, 0, none⟩) l.length l.length) l.length (ints xa') ∧ W.ownsRow w.heap.size 2 1 (.slice (some ⟨gb, 0, none⟩) l.length l.length) l.length (ints xb') ∧
      0 ≤ xa'.getD j 0 ∧ xa'.getD j 0 ≤ 8 * l.length ∧ 0 ≤ xb'.getD j 0 ∧ xb'.getD j 0 ≤ 8 * l.length ∧ GoodB l j (xa'.set j (xa'.getD j 0 + cyc i.op)) (xb'.set j (xb'.getD j 0 + cyc i.op)) := by
  obtain ⟨xa', xb', r1, r2, o1, o2, o3, o4, o5, o6, o7⟩ := hI.rows
  have la : xa'.length = l.length := by have := r1.1; rw [ints_length] at this; omega
  have lb : xb'.length = l.length := by have := r2.1; rw [ints_length] at this; omega
  have cy := cyc_le i.op
  refine ⟨xa', xb', r1, r2, o3, by omega, o4, by omega, ?_, ?_, ?_, ?_⟩
  · intro p hp
    rw [getD_set_other (by omega), getD_set_other (by omega), (o1 p (by omega)).1, (o1 p (by omega)).2]
    exact hG.zero p (by omega)
  · intro p hp
    by_cases e : p = j
    · subst e
      rw [getD_set_same (by omega), getD_set_same (by omega)]
      omega
    · rw [getD_set_other e, getD_set_other e, (o1 p e).1, (o1 p e).2]
      exact hG.a0 p hp
  · intro p hp hpl
    by_cases e : p = j
    · subst e
      rw [getD_set_same (by omega), getD_set_same (by omega)]
      omega
    · rw [getD_set_other e, getD_set_other e, (o1 p e).1, (o1 p e).2]
      exact hG.a1 p (by omega) hpl
  · intro p hp hpl t ht
    by_cases e : p = j
    · subst e
      rw [getD_set_same (by omega), getD_set_same (by omega)]
      cases ht with
      | stop h =>
        rw [hi] at h
        have hpre : pre = [] := by
          cases pre with
          | nil => rfl
          | cons x _ =>
            rcases x.2 with ⟨h1, _⟩ | ⟨h1, _⟩
            · exact absurd h h1
            · omega
        rw [h]
        have := o2 hpre
        omega
      | go h k =>
        rename_i q t'
        rw [hi] at h ⊢
        have hgt := succ_gt hm h
        have hql := hn q h
        obtain ⟨x, hx, hxq⟩ := hall q h
        obtain ⟨qn, hqn⟩ : ∃ qn : Nat, q = qn := ⟨q.toNat, by omega⟩
        subst hqn
        obtain ⟨z1, z2⟩ := o7 x hx qn hxq
        have hc := hG.cost qn (by omega) (by omega) t' k
        omega
    · rw [getD_set_other e, getD_set_other e, (o1 p e).1, (o1 p e).2]
      exact hG.cost p (by omega) hpl t ht
/-- A round's end, behind some draws. -/
theorem BoundI.fin {b3 b5 : Nat} {x : Fol i j} {W1 W' : World} {a : Act} (h : BoundI w WS l ga gb bf j xa xb i (pre ++ [x]) W1) (hk : KeepsOthers W W1) (hu : Upd (fun q => q = ga ∨ q = gb ∨ q = bf) W W1) (l3 : b3 < W.heap.size) (l5 : b5 < W.heap.size)
    (n3 : ¬ (b3 = ga ∨ b3 = gb ∨ b3 = bf)) (n5 : ¬ (b5 = ga ∨ b5 = gb ∨ b5 = bf)) (e : W'.heap = W1.heap) (eo : W'.os = W1.os) (et : W'.tape = W1.tape) (eu : W'.output = W1.output) :
    ownPostK (KeepAB b3 b5) (fun pre W => BoundI w WS l ga gb bf j xa xb i pre W) (fun _ _ _ => False) (pre ++ [x]) W .normal a W' := by
  have hz : W'.heap.size = W1.heap.size := by rw [e]
  refine ⟨⟨by rw [hz]; exact hk.size, fun k o ho hc => by rw [e]; exact hk.same k o ho hc⟩, ⟨by rw [e]; exact hu.block b3 l3 n3, by rw [e]; exact hu.block b5 l5 n5⟩, ?_⟩
  have hw : Upd (fun _ => False) W1 W' := ⟨eo, et, eu, by rw [hz]; exact Nat.le_refl _, fun k _ _ => by rw [e]⟩
  obtain ⟨xa', xb', r1, r2, rest⟩ := h.rows
  exact ⟨h.upd.trans (hw.mono fun _ => False.elim), by rw [e]; exact h.fst, xa', xb', own_upd r1 hw (fun _ _ => id), own_upd r2 hw (fun _ _ => id), rest⟩

theorem BoundI.fin1 {b3 b5 : Nat} {x : Fol i j} {v1 v2 v3 : Value} {W' : World} {a : Act} (h : BoundI w WS l ga gb bf j xa xb i (pre ++ [x]) (((W.setCell ⟨ga, j, none⟩ v1).setCell ⟨gb, j, none⟩ v2).setCell ⟨bf, 0, none⟩ v3)) (l3 : b3 < W.heap.size) (l5 : b5 < W.heap.size)
    (n3 : ¬ (b3 = ga ∨ b3 = gb ∨ b3 = bf)) (n5 : ¬ (b5 = ga ∨ b5 = gb ∨ b5 = bf)) (e : W'.heap = (((W.setCell ⟨ga, j, none⟩ v1).setCell ⟨gb, j, none⟩ v2).setCell ⟨bf, 0, none⟩ v3).heap) (eo : W'.os = W.os) (et : W'.tape = W.tape) (eu : W'.output = W.output) :
    ownPostK (KeepAB b3 b5) (fun pre W => BoundI w WS l ga gb bf j xa xb i pre W) (fun _ _ _ => False) (pre ++ [x]) W .normal a W' :=
  h.fin (((KeepsOthers.setCell _ _ _).trans (KeepsOthers.setCell _ _ _)).trans (KeepsOthers.setCell _ _ _)) (((Upd.refl (fun q => q = ga ∨ q = gb ∨ q = bf) W).setCell _ (.inl (.inl rfl)) _).setCell _ (.inl (.inr (.inl rfl))) _ |>.setCell _ (.inl (.inr (.inr rfl))) _) l3 l5 n3 n5 e eo et eu
theorem BoundI.fin2 {b3 b5 : Nat} {x : Fol i j} {v2 v3 : Value} {W' : World} {a : Act} (h : BoundI w WS l ga gb bf j xa xb i (pre ++ [x]) ((W.setCell ⟨gb, j, none⟩ v2).setCell ⟨bf, 0, none⟩ v3)) (l3 : b3 < W.heap.size) (l5 : b5 < W.heap.size)
    (n3 : ¬ (b3 = ga ∨ b3 = gb ∨ b3 = bf)) (n5 : ¬ (b5 = ga ∨ b5 = gb ∨ b5 = bf)) (e : W'.heap = ((W.setCell ⟨gb, j, none⟩ v2).setCell ⟨bf, 0, none⟩ v3).heap) (eo : W'.os = W.os) (et : W'.tape = W.tape) (eu : W'.output = W.output) :
    ownPostK (KeepAB b3 b5) (fun pre W => BoundI w WS l ga gb bf j xa xb i pre W) (fun _ _ _ => False) (pre ++ [x]) W .normal a W' :=
  h.fin ((KeepsOthers.setCell _ _ _).trans (KeepsOthers.setCell _ _ _)) (((Upd.refl (fun q => q = ga ∨ q = gb ∨ q = bf) W).setCell _ (.inl (.inr (.inl rfl))) _).setCell _ (.inl (.inr (.inr rfl))) _) l3 l5 n3 n5 e eo et eu
end

end Go.Proofs.Ytihajgmknhifiaa
