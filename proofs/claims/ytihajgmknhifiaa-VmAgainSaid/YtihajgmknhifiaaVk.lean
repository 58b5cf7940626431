/- A map from places to states, in memory: look-ups, new keys, keys struck. -/
import Derived.Test.YtihajgmknhifiaaVj
namespace Go.Proofs.Ytihajgmknhifiaa
open Go.RowKit Go.MapKept
set_option linter.unusedVariables false

/-- An entry: the place, the block of its state, the state. -/
structure Ent where
  k : Int
  b : Nat
  s : St

def Ent.kv (x : Ent) : Value × Value := (.int .i64 x.k, .pointer (some ⟨x.b, 0, none⟩))
def kvs (es : Array MapEntry) : List (Value × Value) := es.toList.map fun e => (e.key, e.val)

structure AllAt (base : Nat) (w : World) (gm : Nat) (L : List Ent) : Prop where
  map : ∃ es clock, w.heap[gm]? = some (.map es clock) ∧ kvs es = L.map Ent.kv
  st : ∀ x ∈ L, StAt w x.b x.s
  blocks : (L.map (·.b)).Nodup
  keys : (L.map (·.k)).Nodup
  lo : ∀ x ∈ L, base ≤ x.b
  bm : base ≤ gm

/-- The blocks that it owns. -/
def own (gm : Nat) (L : List Ent) (k : Nat) : Prop := k = gm ∨ ∃ x ∈ L, x.b = k

theorem AllAt.upd {base : Nat} {w w' : World} {gm : Nat} {L : List Ent} {F : Nat → Prop} (h : AllAt base w gm L) (hu : Upd F w w') (hn : ∀ k, own gm L k → ¬ F k) : AllAt base w' gm L := by
  obtain ⟨es, clock, h1, h2⟩ := h.map
  exact ⟨⟨es, clock, (hu.block gm (Array.getElem?_eq_some_iff.1 h1).1 (hn gm (.inl rfl))).trans h1, h2⟩, fun x hx => (h.st x hx).upd hu (hn x.b (.inr ⟨x, hx, rfl⟩)), h.blocks, h.keys, h.lo, h.bm⟩
theorem AllAt.lt {base : Nat} {w : World} {gm : Nat} {L : List Ent} (h : AllAt base w gm L) (k : Nat) (hk : own gm L k) : base ≤ k ∧ k < w.heap.size := by
  obtain ⟨es, clock, h1, _⟩ := h.map
  rcases hk with rfl | ⟨x, hx, rfl⟩
  · exact ⟨h.bm, (Array.getElem?_eq_some_iff.1 h1).1⟩
  · exact ⟨h.lo x hx, (h.st x hx).lt⟩
theorem AllAt.gm_ne {base : Nat} {w : World} {gm : Nat} {L : List Ent} (h : AllAt base w gm L) : ∀ x ∈ L, x.b ≠ gm := by
  obtain ⟨es, clock, h1, _⟩ := h.map
  intro x hx e
  have := (h.st x hx).blk
  rw [e, h1] at this
  cases this

def findE (L : List Ent) (k : Int) : Option Ent := L.find? fun x => x.k == k

theorem findNow_of (k : Int) : ∀ (es : List MapEntry) (L : List Ent) (i : Nat), (es.map fun e => (e.key, e.val)) = L.map Ent.kv →
    match findE L k with
    | some x => ∃ j, i ≤ j ∧ Instr.findNow (.int .i64) (.int .i64 k) es i = some (some (j, .pointer (some ⟨x.b, 0, none⟩))) ∧ L[j - i]? = some x
    | none => Instr.findNow (.int .i64) (.int .i64 k) es i = some none
  | [], L, i, h => by
    have : L = [] := by simpa using h.symm
    subst this
    rfl
  | e :: es, [], i, h => by simp at h
  | e :: es, y :: L, i, h => by
    simp only [List.map_cons, List.cons.injEq] at h
    obtain ⟨h1, h2⟩ := h
    have hk : e.key = .int .i64 y.k := congrArg Prod.fst h1
    have hv : e.val = .pointer (some ⟨y.b, 0, none⟩) := congrArg Prod.snd h1
    have ih := findNow_of k es L (i + 1) h2
    unfold findE at *
    rw [List.find?_cons]
    by_cases hy : y.k = k
    · subst hy
      simp only [beq_self_eq_true]
      refine ⟨i, Nat.le_refl _, ?_, by simp⟩
      simp [Instr.findNow, hk, hv, Instr.sameNow]
    · have hne : (y.k == k) = false := beq_eq_false_iff_ne.2 hy
      have hne2 : (k == y.k) = false := beq_eq_false_iff_ne.2 (Ne.symm hy)
      rw [hne]
      dsimp only
      have hstep : Instr.findNow (.int .i64) (.int .i64 k) (e :: es) i = Instr.findNow (.int .i64) (.int .i64 k) es (i + 1) := by
        simp [Instr.findNow, hk, Instr.sameNow, hne2]
      rw [hstep]
      cases hf : L.find? (fun x => x.k == k) with
      | none => rw [hf] at ih; exact ih
      | some x =>
        rw [hf] at ih
        obtain ⟨j, hj, h3, h4⟩ := ih
        refine ⟨j, by omega, h3, ?_⟩
        rw [show j - i = (j - (i + 1)) + 1 by omega]
        exact h4

theorem findE_some {L : List Ent} {k : Int} {x : Ent} (h : findE L k = some x) : x ∈ L ∧ x.k = k := by
  unfold findE at h
  exact ⟨List.mem_of_find?_eq_some h, by simpa using List.find?_some h⟩
theorem findE_none {L : List Ent} {k : Int} (h : findE L k = none) : ∀ x ∈ L, x.k ≠ k := by
  unfold findE at h
  rw [List.find?_eq_none] at h
  intro x hx
  simpa using h x hx

section
variable {base : Nat} {w : World} {gm : Nat} {L : List Ent}

theorem look_some {k : Int} {x : Ent} (h : AllAt base w gm L) (hf : findE L k = some x) : (Instr.lookup 99 (.map (some gm)) (.int .i64 k) false).run Try.prog w = .ok (.pointer (some ⟨x.b, 0, none⟩)) w := by
  obtain ⟨es, clock, h1, h2⟩ := h.map
  have hh := findNow_of k es.toList L 0 h2
  rw [hf] at hh
  obtain ⟨j, _, h3, _⟩ := hh
  exact run_look Try.underlying99 Try.underlying3 h1 rfl h3

theorem info94 : (Try.prog.info? 94).map (fun i => i.zero) = some (some (.pointer none)) := by kernel_rfl
theorem look_none {k : Int} (h : AllAt base w gm L) (hf : findE L k = none) : (Instr.lookup 99 (.map (some gm)) (.int .i64 k) false).run Try.prog w = .ok (.pointer none) w := by
  obtain ⟨es, clock, h1, h2⟩ := h.map
  have hh := findNow_of k es.toList L 0 h2
  rw [hf] at hh
  have e1 : (getObj gm).run Try.prog w = .ok (.map es clock) w := MapKept.run_getObj_map h1
  obtain ⟨i, hi, hz⟩ := Option.map_eq_some_iff.1 info94
  have hzv : (zeroValue 94).run Try.prog w = .ok (.pointer none) w := by
    simp [zeroValue, typeInfo, hi, hz, Result.andThen]
  simp [Instr.lookup, run_underlying Try.underlying99, e1, run_checkKey (k := .int .i64 k) Try.underlying3 rfl, run_findKey Try.underlying3 hh, hzv, Result.andThen]

theorem set_obj_upd (w : World) (r : Nat) (o : Obj) : Upd (fun k => k = r) w { w with heap := w.heap.setIfInBounds r o } :=
  ⟨rfl, rfl, rfl, by simp, fun k hk hn => by
    show (w.heap.setIfInBounds r o)[k]? = _
    rw [Array.getElem?_setIfInBounds, if_neg (fun e => hn e.symm)]⟩

/-- A new key. -/
theorem map_put {k : Int} {b : Nat} {s : St} (h : AllAt base w gm L) (hf : findE L k = none) (hb : StAt w b s) (hbb : base ≤ b) (hnew : ¬ own gm L b) :
    ∃ w', (Instr.mapUpdate 99 (.map (some gm)) (.int .i64 k) (.pointer (some ⟨b, 0, none⟩))).run Try.prog w = .ok () w' ∧ AllAt base w' gm (L ++ [⟨k, b, s⟩]) ∧ Upd (fun i => i = gm) w w' := by
  obtain ⟨es, clock, h1, h2⟩ := h.map
  have hh := findNow_of k es.toList L 0 h2
  rw [hf] at hh
  have e1 : (getObj gm).run Try.prog w = .ok (.map es clock) w := MapKept.run_getObj_map h1
  have hlt := (Array.getElem?_eq_some_iff.1 h1).1
  refine ⟨{ w with heap := w.heap.setIfInBounds gm (.map (es.push { key := .int .i64 k, val := .pointer (some ⟨b, 0, none⟩), born := clock }) (clock + 1)) }, ?_, ?_, set_obj_upd _ _ _⟩
  · simp [Instr.mapUpdate, run_underlying Try.underlying99, e1, run_checkKey (k := .int .i64 k) Try.underlying3 rfl, run_findKey Try.underlying3 hh, run_setObj_map _ h1, Result.andThen]
  · have hu := set_obj_upd w gm (.map (es.push { key := .int .i64 k, val := .pointer (some ⟨b, 0, none⟩), born := clock }) (clock + 1))
    have hbg : b ≠ gm := fun e => hnew (.inl e)
    refine ⟨⟨_, _, (by show (w.heap.setIfInBounds gm _)[gm]? = _; rw [Array.getElem?_setIfInBounds_self_of_lt hlt]), ?_⟩, ?_, ?_, ?_, ?_, h.bm⟩
    · rw [List.map_append, ← h2]
      simp [kvs, Ent.kv]
    · intro x hx
      rcases List.mem_append.1 hx with hx | hx
      · exact (h.st x hx).upd hu (h.gm_ne x hx)
      · simp only [List.mem_singleton] at hx
        subst hx
        exact hb.upd hu hbg
    · rw [List.map_append]
      refine List.nodup_append.2 ⟨h.blocks, by simp, ?_⟩
      intro x hx y hy e
      simp only [List.map_cons, List.map_nil, List.mem_singleton] at hy
      obtain ⟨z, hz, rfl⟩ := List.mem_map.1 hx
      exact hnew (.inr ⟨z, hz, e.trans hy⟩)
    · rw [List.map_append]
      refine List.nodup_append.2 ⟨h.keys, by simp, ?_⟩
      intro x hx y hy e
      simp only [List.map_cons, List.map_nil, List.mem_singleton] at hy
      obtain ⟨z, hz, rfl⟩ := List.mem_map.1 hx
      exact findE_none hf z hz (e.trans hy)
    · intro x hx
      rcases List.mem_append.1 hx with hx | hx
      · exact h.lo x hx
      · simp only [List.mem_singleton] at hx
        subst hx
        exact hbb

/-- A key struck. -/
theorem map_cut {k : Int} {x : Ent} {ty : TypeId} (h : AllAt base w gm L) (hf : findE L k = some x) :
    ∃ w' L', (Builtin.delete_ #[99, 3] ty #[.map (some gm), .int .i64 k]).run Try.prog w = .ok (.tuple #[]) w' ∧ AllAt base w' gm L' ∧ Upd (fun i => i = gm) w w' ∧ L' = L.filter fun y => y.k != k := by
  obtain ⟨es, clock, h1, h2⟩ := h.map
  have hh := findNow_of k es.toList L 0 h2
  rw [hf] at hh
  obtain ⟨j, _, h3, h4⟩ := hh
  have e1 : (getObj gm).run Try.prog w = .ok (.map es clock) w := MapKept.run_getObj_map h1
  have hlt := (Array.getElem?_eq_some_iff.1 h1).1
  have hxk := (findE_some hf).2
  have hj : L[j]? = some x := by simpa using h4
  have hjl : j < L.length := (List.getElem?_eq_some_iff.1 hj).1
  have hjes : j < es.size := by
    have := congrArg List.length h2
    simp [kvs] at this
    omega
  have hu := set_obj_upd w gm (.map (es.eraseIdxIfInBounds j) clock)
  have hL : L.eraseIdx j = L.filter fun y => y.k != k := by
    have hxj : L[j] = x := (List.getElem?_eq_some_iff.1 hj).2
    have hsplit : L = L.take j ++ x :: L.drop (j + 1) := by
      rw [← hxj, List.getElem_cons_drop, List.take_append_drop]
    have hk := h.keys
    rw [hsplit] at hk
    simp only [List.map_append, List.map_cons] at hk
    rw [List.nodup_append] at hk
    obtain ⟨_, k2, k3⟩ := hk
    rw [List.nodup_cons] at k2
    rw [List.eraseIdx_eq_take_drop_succ]
    conv => rhs; rw [hsplit]
    rw [List.filter_append, List.filter_cons_of_neg (by simp [hxk])]
    congr 1
    · rw [List.filter_eq_self.2]
      intro y hy
      have := k3 y.k (List.mem_map.2 ⟨y, hy, rfl⟩) x.k (.head _)
      simp only [bne_iff_ne, ne_eq]
      rw [← hxk]
      exact this
    · rw [List.filter_eq_self.2]
      intro y hy
      simp only [bne_iff_ne, ne_eq]
      intro e
      exact k2.1 (List.mem_map.2 ⟨y, hy, e.trans hxk.symm⟩)
  refine ⟨{ w with heap := w.heap.setIfInBounds gm (.map (es.eraseIdxIfInBounds j) clock) }, L.eraseIdx j, ?_, ?_, hu, hL⟩
  · simp [Builtin.delete_, run_underlying Try.underlying99, e1, run_checkKey (k := .int .i64 k) Try.underlying3 rfl, run_findKey Try.underlying3 h3, run_setObj_map _ h1, Result.andThen]
  · have hsub : (L.eraseIdx j).Sublist L := List.eraseIdx_sublist _ _
    refine ⟨⟨_, _, (by show (w.heap.setIfInBounds gm _)[gm]? = _; rw [Array.getElem?_setIfInBounds_self_of_lt hlt]), ?_⟩, fun y hy => (h.st y (hsub.subset hy)).upd hu (h.gm_ne y (hsub.subset hy)), (hsub.map _).nodup h.blocks, (hsub.map _).nodup h.keys, fun y hy => h.lo y (hsub.subset hy), h.bm⟩
    unfold kvs at *
    unfold Array.eraseIdxIfInBounds
    rw [dif_pos hjes, Array.toList_eraseIdx, List.eraseIdx_eq_take_drop_succ, List.eraseIdx_eq_take_drop_succ, List.map_append, List.map_append, List.map_take, List.map_take, List.map_drop, List.map_drop, h2]
end

end Go.Proofs.Ytihajgmknhifiaa
