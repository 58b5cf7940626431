/- The call of cost's reached on verified code: every instruction is. -/
import Derived.Test.YtihajgmknhifiaaXf
import Derived.Test.YtihajgmknhifiaaVp
namespace Go.Proofs.Ytihajgmknhifiaa
open Go.RowKit Go.Shelf
set_option linter.unusedVariables false

attribute [local go_sem] Oper.semAt_some

/-- The marks that ranges over functions have left among a call's deferred calls. -/
def Marks (B : Nat) (ds : List Deferred) (W : World) : Prop :=
  ∃ Ds : List Nat, ds = Ds.map (fun D => ({ target := .collected D, args := #[] } : Deferred)) ∧ Ds.Nodup ∧ ∀ D ∈ Ds, B ≤ D ∧ W.heap[D]? = some (.deferred (some []))

theorem Marks.nil (B : Nat) (W : World) : Marks B [] W := ⟨[], rfl, List.nodup_nil, fun D h => by cases h⟩
theorem Marks.upd {B : Nat} {ds : List Deferred} {W W' : World} {F : Nat → Prop} (h : Marks B ds W) (hu : Upd F W W') (hn : ∀ k o, W.heap[k]? = some o → o.isCells = false → ¬ F k) : Marks B ds W' := by
  obtain ⟨Ds, h1, h2, h3⟩ := h
  refine ⟨Ds, h1, h2, fun D hD => ⟨(h3 D hD).1, ?_⟩⟩
  have e := (h3 D hD).2
  rw [hu.block D (Array.getElem?_eq_some_iff.1 e).1 (hn D _ e rfl)]
  exact e
theorem Marks.cons {B D : Nat} {ds : List Deferred} {W0 W : World} (h : Marks B ds W) (h0 : Marks B ds W0) (hD : W0.heap.size ≤ D) (hB : B ≤ D) (hd : W.heap[D]? = some (.deferred (some []))) : Marks B ({ target := .collected D, args := #[] } :: ds) W := by
  obtain ⟨Ds, h1, h2, h3⟩ := h
  obtain ⟨Ds', h1', _, h3'⟩ := h0
  have e : Ds = Ds' := by
    rw [h1] at h1'
    have inj : ∀ {a b : List Nat}, a.map (fun D => ({ target := .collected D, args := #[] } : Deferred)) = b.map (fun D => ({ target := .collected D, args := #[] } : Deferred)) → a = b := by
      intro a
      induction a with
      | nil => intro b hb; cases b with | nil => rfl | cons _ _ => simp at hb
      | cons x a ih => intro b hb; cases b with | nil => simp at hb | cons y b => simp at hb; rw [hb.1, ih (by simpa using hb.2)]
    exact inj h1'
  refine ⟨D :: Ds, by rw [h1]; rfl, List.nodup_cons.2 ⟨fun hm => ?_, h2⟩, fun k hk => ?_⟩
  · rw [e] at hm
    have := (Array.getElem?_eq_some_iff.1 (h3' D hm).2).1
    omega
  · rcases List.mem_cons.1 hk with rfl | hk
    · exact ⟨hB, hd⟩
    · exact h3 k hk

theorem putObj_upd (W : World) (D : Nat) (o : Obj) : Upd (fun k => k = D) W (W.putObj D o) :=
  ⟨rfl, rfl, rfl, by simp [World.putObj], fun k _ hn => World.putObj_heap_other (fun e => hn e)⟩

/-- A call that leaves, marks and all: its blocks for deferred calls are shut; nothing else turns. -/
theorem leaves_marks {F : Fence} {n : Nat} {P : Program} {fn : Func} {tmps : Array Value} {R : Ending → World → Prop} {B : Nat} : ∀ {ds : List Deferred} {W : World}, Marks B ds W →
    (∀ W', Upd (fun k => B ≤ k ∧ ∃ o, W.heap[k]? = some o ∧ o.isCells = false) W W' → LeavesIn F n P fn tmps R [] .returning W') → LeavesInM F n P fn tmps R ds .returning W := by
  intro ds W ⟨Ds, h1, h2, h3⟩
  subst h1
  induction Ds generalizing W with
  | nil => intro hR; exact hR W (Upd.refl _ _)
  | cons D Ds ih =>
    intro hR
    obtain ⟨n1, n2⟩ := List.nodup_cons.1 h2
    have hD := (h3 D (by simp)).2
    refine ⟨by simp, .inl ⟨D, _, rfl, run_takeDeferred hD, ih n2 (fun k hk => ?_) (fun W' hu => hR W' ?_)⟩⟩
    · refine ⟨(h3 k (by simp [hk])).1, ?_⟩
      rw [World.putObj_heap_other (by rintro rfl; exact n1 hk)]
      exact (h3 k (by simp [hk])).2
    · refine (((putObj_upd W D _).mono fun k e => ?_).trans (hu.mono fun k e => ?_))
      · subst e; exact ⟨(h3 k (by simp)).1, _, hD, rfl⟩
      · obtain ⟨e1, o, e2, e3⟩ := e
        refine ⟨e1, ?_⟩
        by_cases ek : k = D
        · subst ek; exact ⟨_, hD, rfl⟩
        · rw [World.putObj_heap_other (by exact fun h => ek h)] at e2
          exact ⟨o, e2, e3⟩

theorem info4 : (Try.prog.info? 4).map (fun i => (i.zero, i.size, i.bytes)) = some (some (.bool false), 1, 1) := by kernel_rfl

def bools (bs : List Bool) : List Value := bs.map Value.bool

structure MadeB (w : World) (v : Value) (n : Nat) (w' : World) : Prop where
  own : w'.ownsRow w.heap.size 4 1 v n (bools (List.replicate n true))
  below : Below w.heap.size w w'

theorem own_cells {w : World} {base g n c : Nat} {e : TypeId} {size : Nat} {xs : List Value} (h : w.ownsRow base e size (.slice (some ⟨g, 0, none⟩) n c) n xs) {o : Obj} (ho : w.heap[g]? = some o) : o.isCells = true := by
  rcases h.2 with ⟨h', _⟩ | ⟨g', cap', cur, h', _, hg, _⟩
  · simp at h'
  · simp only [Value.slice.injEq, Option.some.injEq, Addr.mk.injEq, and_true, true_and] at h'
    obtain ⟨rfl, rfl⟩ := h'
    rw [hg] at ho
    cases ho
    rfl

structure ReachW (w W0 : World) (l : List In) (at_ : Nat) (ds : List Deferred) (W : World) : Prop where
  upd : Upd (fun k => k = w.heap.size + 1 + 1 + 1) W0 W
  row : ∃ bs : List Bool, W.ownsRow w.heap.size 4 1 (.slice (some ⟨w.heap.size + 1 + 1 + 1, 0, none⟩) l.length l.length) l.length (bools bs) ∧
    ∀ q : Nat, q < l.length → ((q : Int) = 0 ∨ ∃ p : Int, 0 ≤ p ∧ p < at_ ∧ Succ (insAt l p) p q) → bs[q]? = some true
  marks : Marks w.heap.size ds W

structure ReachI (w WS : World) (l : List In) (at_ : Nat) (i : In) (pre : List (Fol i at_)) (W : World) : Prop where
  upd : Upd (fun k => k = w.heap.size + 1 + 1 + 1) WS W
  row : ∃ bs : List Bool, W.ownsRow w.heap.size 4 1 (.slice (some ⟨w.heap.size + 1 + 1 + 1, 0, none⟩) l.length l.length) l.length (bools bs) ∧
    (∀ q : Nat, q < l.length → ((q : Int) = 0 ∨ ∃ p : Int, 0 ≤ p ∧ p < at_ ∧ Succ (insAt l p) p q) → bs[q]? = some true) ∧ ∀ x ∈ pre, ∀ q : Nat, x.1.1 = q → bs[q]? = some true

theorem ReachI.own {w WS : World} {l : List In} {at_ : Nat} {i : In} (hlt : w.heap.size + 1 + 1 + 1 < WS.heap.size) : OwnFrom WS.heap.size (ReachI w WS l at_ i) := by
  intro s W W' row h hg hr
  have hu : Upd (fun k => row = some k) W W' := Upd.of_grown hg fun k e => e
  obtain ⟨bs, h1, h2, h3⟩ := h.row
  refine ⟨h.upd.trans' hu fun k e => .inr (hr k e).1, bs, own_upd h1 hu fun k hk e => ?_, h2, h3⟩
  have e1 : w.heap.size + 1 + 1 + 1 = k := by simpa [Value.ownBlock] using hk
  have := (hr k e).1
  omega

theorem bools_get {bs : List Bool} {q : Nat} {b : Bool} (h : bs[q]? = some b) : (bools bs)[q]? = some (.bool b) := by simp [bools, h]

theorem ReachI.set {w WS W : World} {l : List In} {at_ : Nat} {i : In} {pre : List (Fol i at_)} {x : Fol i at_} (h : ReachI w WS l at_ i pre W) {q : Nat} (hq : x.1.1 = q) (hql : q < l.length) :
    ReachI w WS l at_ i (pre ++ [x]) (W.setCell ⟨w.heap.size + 1 + 1 + 1, q, none⟩ (.bool true)) := by
  obtain ⟨bs, h1, h2, h3⟩ := h.row
  have hlen : bs.length = l.length := by have := h1.1; simpa [bools] using this
  have hset : ∀ j : Nat, bs[j]? = some true → (bs.set q true)[j]? = some true := by
    intro j hj
    rw [List.getElem?_set]
    split
    · split
      · rfl
      · omega
    · exact hj
  refine ⟨h.upd.trans (Upd.setCell (F := fun k => k = w.heap.size + 1 + 1 + 1) (Upd.refl _ _) ⟨w.heap.size + 1 + 1 + 1, q, none⟩ (.inl rfl) _), bs.set q true, ?_, fun j hj hc => hset j (h2 j hj hc), fun y hy j hyj => ?_⟩
  · have e := (World.ownsRow.stored (base := w.heap.size) (e := 4) (size := 1) h1 q (.bool true)).1
    simpa [bools, List.map_set] using e
  · rcases List.mem_append.1 hy with hy | hy
    · exact hset j (h3 y hy j hyj)
    · rw [List.mem_singleton] at hy
      subst hy
      rw [hq] at hyj
      have : q = j := by omega
      subst this
      rw [List.getElem?_set_self (by omega)]

set_option maxRecDepth 100000 in
set_option maxHeartbeats 8000000 in
theorem reached_in {w : World} {A : Option Addr} {cap : Nat} {l : List In} {c : Cf} {H : Int → Int} (hl : Rd w (.slice A l.length cap) l.length 2 (insV l)) (hv : (verM l c).2 = 0)
    (hS : ∀ p : Int, 0 ≤ p → p < l.length → Sure l c H p) (hcap : cap ≤ 9223372036854775807) :
    CallsIn Fence.wide 10 Try.prog 45 #[.slice A l.length cap] w fun e w' => ∃ A' c', e = .returned (.tuple #[.slice A' l.length c', .int .i64 0]) ∧ MadeB w (.slice A' l.length c') l.length w' := by
  obtain ⟨hm, hl1, hl0, _⟩ := verM_ok hv
  obtain ⟨i0, hi0, hz0, hz1, hz2⟩ := info_parts info4
  have hmk : ∀ W : World, (Instr.makeSlice 88 (.int .i64 (l.length : Int)) (.int .i64 (l.length : Int))).run Try.prog W = .ok (.slice (some ⟨W.heap.size, 0, none⟩) l.length l.length) (W.alloc (.cells (madeCells #[.bool false] l.length) 4)) := by
    intro W
    have := run_make (P := Try.prog) W 88 4 i0 (.bool false) Try.underlying88 hi0 hz0 .i64 .i64 l.length l.length (by omega) (by omega) (by rw [hz2]; omega) (by omega)
    simpa [hz1, Value.cells] using this
  obtain ⟨Wm, hWm⟩ : ∃ Wm, Wm = (((w.alloc (.cells #[.slice A l.length cap] 22)).alloc (.cells #[.slice none 0 0] 88)).alloc (.cells #[.int .i64 0] 28)).alloc (.cells (madeCells #[.bool false] l.length) 4) := ⟨_, rfl⟩
  have hrun := hmk (((w.alloc (.cells #[.slice A l.length cap] 22)).alloc (.cells #[.slice none 0 0] 88)).alloc (.cells #[.int .i64 0] 28))
  rw [← hWm] at hrun
  simp only [World.size_alloc] at hrun
  have hbm : Below w.heap.size w Wm := by
    rw [hWm]
    exact ((((Below.refl _ _).alloc (Nat.le_refl _) _).alloc (by simp) _).alloc (by simp <;> omega) _).alloc (by simp <;> omega) _
  have hsm : Wm.heap.size = w.heap.size + 1 + 1 + 1 + 1 := by rw [hWm]; simp
  have k1 : Wm.heap[w.heap.size]? = some (.cells #[.slice A l.length cap] 22 (0, 0)) := by
    rw [hWm, Below.heap_alloc _ _ _ (by simp <;> omega), Below.heap_alloc _ _ _ (by simp <;> omega), Below.heap_alloc _ _ _ (by simp)]
    exact heap_alloc_new w _
  have k2 : Wm.heap[w.heap.size + 1]? = some (.cells #[.slice none 0 0] 88 (0, 0)) := by
    rw [hWm, Below.heap_alloc _ _ _ (by simp <;> omega), Below.heap_alloc _ _ _ (by simp)]
    have := heap_alloc_new (w.alloc (.cells #[.slice A l.length cap] 22)) (.cells #[.slice none 0 0] 88)
    rw [World.size_alloc] at this
    exact this
  have k3 : Wm.heap[w.heap.size + 1 + 1]? = some (.cells #[.int .i64 0] 28 (0, 0)) := by
    rw [hWm, Below.heap_alloc _ _ _ (by simp)]
    have := heap_alloc_new ((w.alloc (.cells #[.slice A l.length cap] 22)).alloc (.cells #[.slice none 0 0] 88)) (.cells #[.int .i64 0] 28)
    rw [World.size_alloc, World.size_alloc] at this
    exact this
  have hrow : Wm.ownsRow w.heap.size 4 1 (.slice (some ⟨w.heap.size + 1 + 1 + 1, 0, none⟩) l.length l.length) l.length (bools (List.replicate l.length false)) := by
    rw [hWm]
    have := World.ownsRow_lit (base := w.heap.size) (e := 4) (size := 1) (((w.alloc (.cells #[.slice A l.length cap] 22)).alloc (.cells #[.slice none 0 0] 88)).alloc (.cells #[.int .i64 0] 28)) (madeCells #[.bool false] l.length) l.length (by simp <;> omega) (by unfold maxLen; omega) (by rw [size_madeCells]; simp)
    simp only [World.size_alloc] at this
    rw [toList_madeCells_one] at this
    simpa [bools] using this
  have f0 : Wm.cell? ⟨w.heap.size + 1 + 1 + 1, 0, none⟩ = some (.bool false) := by
    rw [hrow.cellAt 0 (by omega)]
    obtain ⟨k, hk⟩ : ∃ k, l.length = k + 1 := ⟨l.length - 1, by omega⟩
    rw [hk]
    rfl
  have f1 : Wm.frozen? ⟨w.heap.size + 1 + 1 + 1, 0, none⟩ = false := hrow.frozenAt 0
  have f2 : Wm.cell? ⟨w.heap.size, 0, none⟩ = some (.slice A l.length cap) := cell_blk k1 0
  have hnz : (0 : Int) < (l.length : Int) := by omega
  have HK := Lib.hid (And.intro k1 (And.intro k2 (And.intro k3 (And.intro hrow hbm))))
  have HWm := Lib.hid hWm
  clear k1 k2 k3 hrow hbm hWm hmk
  obtain ⟨sm, hsm'⟩ : ∃ sm, sm = Wm.heap.size := ⟨_, rfl⟩
  have hsm1 : sm = w.heap.size + 1 + 1 + 1 + 1 := hsm'.trans hsm
  have HL := Lib.hid hl
  have HV := Lib.hid hv
  have HS := Lib.hid hS
  clear hl hv hS hm hi0 hz0 hz1 hz2
  refine callsIn_of_wp_marks Try.func45 rfl trivial ?_ rfl
  simp only [Try.ntmps45, List.size_toArray, List.length_cons, List.length_nil, Nat.reduceAdd, Nat.reduceSub, Array.replicate_succ, Array.replicate_zero, List.push_toArray, List.append_toArray, List.nil_append, List.cons_append]
  gi_wp2
  obtain ⟨g, o, c0, e0, hcp, hg, hcells⟩ := HL.out.ins_at (by omega)
  injection e0 with eA _ ec
  subst eA ec
  obtain ⟨W0, hW0⟩ : ∃ W0, W0 = (Wm.setCell ⟨w.heap.size + 1 + 1 + 1, 0, none⟩ (.bool true)).alloc (.cells #[.slice (some ⟨w.heap.size + 1 + 1 + 1, 0, none⟩) l.length l.length] 88) := ⟨_, rfl⟩
  rw [← hW0]
  obtain ⟨k1, k2, k3, hrow, hbm⟩ := HK.out
  have hu0 : Upd (fun k => k = w.heap.size + 1 + 1 + 1) Wm W0 := by
    rw [hW0]
    exact (Upd.setCell (F := fun k => k = w.heap.size + 1 + 1 + 1) (Upd.refl _ _) ⟨w.heap.size + 1 + 1 + 1, 0, none⟩ (.inl rfl) _).alloc _
  have q1 : W0.heap[w.heap.size]? = some (.cells #[.slice (some ⟨g, o, none⟩) l.length cap] 22 (0, 0)) := (hu0.block _ (by omega) (by omega)).trans k1
  have q2 : W0.heap[w.heap.size + 1]? = some (.cells #[.slice none 0 0] 88 (0, 0)) := (hu0.block _ (by omega) (by omega)).trans k2
  have q3 : W0.heap[w.heap.size + 1 + 1]? = some (.cells #[.int .i64 0] 28 (0, 0)) := (hu0.block _ (by omega) (by omega)).trans k3
  have q4 : W0.heap[w.heap.size + 1 + 1 + 1 + 1]? = some (.cells #[.slice (some ⟨w.heap.size + 1 + 1 + 1, 0, none⟩) l.length l.length] 88 (0, 0)) := by
    rw [hW0]
    have := heap_alloc_new (Wm.setCell ⟨w.heap.size + 1 + 1 + 1, 0, none⟩ (.bool true)) (.cells #[.slice (some ⟨w.heap.size + 1 + 1 + 1, 0, none⟩) l.length l.length] 88)
    rw [show (Wm.setCell ⟨w.heap.size + 1 + 1 + 1, 0, none⟩ (.bool true)).heap.size = w.heap.size + 1 + 1 + 1 + 1 by simp [World.setCell, hsm]] at this
    exact this
  have row0 : W0.ownsRow w.heap.size 4 1 (.slice (some ⟨w.heap.size + 1 + 1 + 1, 0, none⟩) l.length l.length) l.length (bools ((List.replicate l.length false).set 0 true)) := by
    rw [hW0]
    have e := (World.ownsRow.stored (base := w.heap.size) (e := 4) (size := 1) hrow 0 (.bool true)).1
    have e2 := e.alloc (.cells #[.slice (some ⟨w.heap.size + 1 + 1 + 1, 0, none⟩) l.length l.length] 88)
    simpa [bools, List.map_set] using e2
  have hb0 : Below w.heap.size w W0 := hbm.trans (hu0.below hbm.size fun k e => by omega)
  have hs0 : w.heap.size + 1 + 1 + 1 + 1 < W0.heap.size := (Array.getElem?_eq_some_iff.1 q4).1
  have HQ := Lib.hid (And.intro q1 (And.intro q2 (And.intro q3 (And.intro q4 hb0))))
  have HROW := Lib.hid row0
  have HCL := Lib.hid hcells
  clear hrun hsm f0 f1 f2 hW0 k1 k2 k3 hrow hbm hu0 q1 q2 q3 q4 row0 hb0 HK HWm hcells HL hsm' hsm1 sm Wm
  refine wpIn_loop (fun a' w' => ∃ (k : Nat) (ds : List Deferred) (u5 u6 u7 u8 u9 u10 u11 u12 u13 u16 u17 u18 u19 u20 u21 u22 u23 u24 u25 u26 u27 u28 u29 u30 u31 u32 u33 u34 u35 u36 u37 : Value), a' = { tmps := #[.slice (some ⟨g, o, none⟩) l.length cap, .pointer (some ⟨w.heap.size, 0, none⟩), .pointer (some ⟨w.heap.size + 1, 0, none⟩), .pointer (some ⟨w.heap.size + 1 + 1, 0, none⟩), .pointer (some ⟨w.heap.size + 1 + 1 + 1 + 1, 0, none⟩), u5, u6, u7, u8, u9, u10, u11, u12, u13, .int .i64 (l.length : Nat), .int .i64 (k : Nat), u16, u17, u18, u19, u20, u21, u22, u23, u24, u25, u26, u27, u28, u29, u30, u31, u32, u33, u34, u35, u36, u37], defers := ds } ∧ k ≤ l.length ∧ ReachW w W0 l k ds w') (fun a' _ => l.length - (intOf (a'.tmps.getD 15 undef)).toNat) ?start ?round
  case start =>
    refine ⟨0, [], _, _, _, _, _, _, _, _, _, _, _, _, _, _, _, _, _, _, _, _, _, _, _, _, _, _, _, _, _, _, _, rfl, by omega, Upd.refl _ _, ⟨_, HROW.out, ?_⟩, Marks.nil _ _⟩
    intro q hq hc
    rcases hc with hc | ⟨p, p0, p1, _⟩
    · obtain rfl : q = 0 := by omega
      rw [List.getElem?_set_self (by simp <;> omega)]
    · omega
  case round =>
    rintro a' wr ⟨k, ds, u5, u6, u7, u8, u9, u10, u11, u12, u13, u16, u17, u18, u19, u20, u21, u22, u23, u24, u25, u26, u27, u28, u29, u30, u31, u32, u33, u34, u35, u36, u37, ha, hk, hR⟩
    subst ha
    obtain ⟨q1, q2, q3, q4, hb0⟩ := HQ.out
    have c1 := cell_blk ((hR.upd.block w.heap.size (by omega) (by omega)).trans q1) 0
    have c4 := cell_blk ((hR.upd.block (w.heap.size + 1 + 1 + 1 + 1) (by omega) (by omega)).trans q4) 0
    have z2 := (hR.upd.block (w.heap.size + 1) (by omega) (by omega)).trans q2
    have z3 := (hR.upd.block (w.heap.size + 1 + 1) (by omega) (by omega)).trans q3
    have hbr : Below w.heap.size w wr := hb0.trans (hR.upd.below hb0.size fun k e => by omega)
    have hsr : w.heap.size + 1 + 1 + 1 + 1 < wr.heap.size := Nat.lt_of_lt_of_le hs0 hR.upd.size
    simp at c1 c4
    by_cases hkn : k < l.length
    · obtain ⟨bs, hrw, hbs⟩ := hR.row
      have hbk := bools_get (hbs k hkn (ver_come HV.out k (by omega) (by omega)))
      have hcell : wr.cell? ⟨w.heap.size + 1 + 1 + 1, k, none⟩ = some (.bool true) := by rw [hrw.cellAt k (by omega)]; exact hbk
      obtain ⟨cop, carg⟩ := HCL.out k hkn
      rw [← hbr.cell (p := ⟨g, o + k * 2, none⟩) hg] at cop
      rw [← hbr.cell (p := ⟨g, o + k * 2 + 1, none⟩) hg] at carg
      have su := HS.out k (by omega) (by omega)
      have hmay := su.may
      have hnext := su.next
      obtain ⟨i, hi⟩ : ∃ i, insAt l k = i := ⟨_, rfl⟩
      rw [hi] at cop carg hmay hnext
      obtain ⟨op, arg⟩ := i
      dsimp only at cop carg
      have i0 : (0 : Int) ≤ (k : Int) := by omega
      have i1 : (k : Int) < (l.length : Int) := by omega
      have hgw : w.heap.size + 1 + 1 + 1 < wr.heap.size := by omega
      have HR := Lib.hid hR
      have HBS := Lib.hid hbs
      have HRW := Lib.hid hrw
      have HI := Lib.hid hi
      have HN := Lib.hid hnext
      have HM := Lib.hid hmay
      have HZ := Lib.hid (And.intro z2 (And.intro z3 hbr))
      clear hR hbs hrw hi hnext hmay hbk su z2 z3 hbr q1 q2 q3 q4 hb0
      gi_wp2_with (refine ⟨trivial, ?_⟩; gi_at_call 46; refine (cfollows_c Fence.wide _ trivial rfl hkn hcp hcap cop carg).mono ?_; rintro e w' ⟨rfl, rfl⟩)
      obtain ⟨WS, hWS⟩ : ∃ WS, WS = (wr.alloc (.cells #[.int .i64 k] 3)).alloc (.cells #[.int .u8 op, .int .i64 arg] 53) := ⟨_, rfl⟩
      rw [← hWS]
      have s3 : WS.heap[wr.heap.size]? = some (.cells #[.int .i64 k] 3 (0, 0)) := by
        rw [hWS, Below.heap_alloc _ _ _ (by simp)]
        exact heap_alloc_new wr _
      have s5 : WS.heap[wr.heap.size + 1]? = some (.cells #[.int .u8 op, .int .i64 arg] 53 (0, 0)) := by
        rw [hWS]
        have := heap_alloc_new (wr.alloc (.cells #[.int .i64 k] 3)) (.cells #[.int .u8 op, .int .i64 arg] 53)
        rw [World.size_alloc] at this
        exact this
      have bS : Below wr.heap.size wr WS := by
        rw [hWS]
        exact ((Below.refl _ _).alloc (Nat.le_refl _) _).alloc (by simp) _
      have zS : wr.heap.size + 1 < WS.heap.size := (Array.getElem?_eq_some_iff.1 s5).1
      have d1 := cell_blk ((bS.block w.heap.size (by omega)).trans ((HR.out.upd.block w.heap.size (by omega) (by omega)).trans HQ.out.1)) 0
      have d4 := cell_blk ((bS.block (w.heap.size + 1 + 1 + 1 + 1) (by omega)).trans ((HR.out.upd.block (w.heap.size + 1 + 1 + 1 + 1) (by omega) (by omega)).trans HQ.out.2.2.2.1)) 0
      simp at d1 d4
      have HD1 := Lib.hid (And.intro d1 d4)
      have B_S := Lib.hid bS
      have HS3 := Lib.hid s3
      have HS5 := Lib.hid s5
      clear hWS s3 s5 bS d1 d4 c1 c4
      refine wpIn_rangeFunc_ownF rfl (by omega) (gf := 75) (lb := #[.pointer (some ⟨wr.heap.size + 1, 0, none⟩), .pointer (some ⟨wr.heap.size, 0, none⟩)]) rfl trivial (enters_of Try.func75 (by kernel_rfl) rfl)
        (follows_stops Fence.wide _ trivial rfl (by omega) (by omega) HM.out HS3.out HS5.out) (fun a b => ⟨b.1.trans a.1, b.2.trans a.2⟩)
        (fun W l o o' h1 h2 h3 h4 => ⟨World.putObj_heap_other (by omega), World.putObj_heap_other (by omega)⟩) (Below.refl _ _) (fun _ => rfl)
        (fun pre W => ReachI w WS l k ⟨op, arg⟩ pre W) (fun _ _ _ => False) (ReachI.own (by omega)) (fun _ _ _ _ _ hs _ _ => hs)
        ⟨Upd.refl _ _, bs, own_go HRW.out B_S.out, HBS.out, fun x hx => (by cases hx)⟩
        (fun x => { tmps := #[.slice (some ⟨g, o, none⟩) l.length cap, .pointer (some ⟨w.heap.size, 0, none⟩), .pointer (some ⟨w.heap.size + 1, 0, none⟩), .pointer (some ⟨w.heap.size + 1 + 1, 0, none⟩), .pointer (some ⟨w.heap.size + 1 + 1 + 1 + 1, 0, none⟩), .int .i64 (k : Nat), .int .i64 x.1.1, .int .i64 x.1.2, u8, u9, u10, u11, u12, u13, .int .i64 (l.length : Nat), .int .i64 (k : Nat), .bool true, .int .i64 (k : Nat), .slice (some ⟨w.heap.size + 1 + 1 + 1, 0, none⟩) l.length l.length, .int .i64 (k : Nat), .pointer (some ⟨w.heap.size + 1 + 1 + 1, k, none⟩), .bool true, .bool false, .slice (some ⟨g, o, none⟩) l.length cap, .int .i64 (k : Nat), .func (.func 75) #[] #[.pointer (some ⟨wr.heap.size + 1, 0, none⟩), .pointer (some ⟨wr.heap.size, 0, none⟩)], .int .i64 x.1.1, .int .i64 x.1.2, u28, u29, u30, u31, u32, u33, u34, u35, u36, u37], defers := [] }) ?assign ?body ?done ?stop
      case assign =>
        intro l' x W K hK
        gi_wp2
        exact hK
      case body =>
        rintro l' pre ⟨⟨tp, ey⟩, hx⟩ W hI _
        have hnx := (HN.out tp hx).1
        have hgt := succ_gt HM.out hx
        dsimp only at hnx hgt
        obtain ⟨q, hq⟩ : ∃ q : Nat, tp = q := ⟨tp.toNat, by omega⟩
        subst hq
        have hql : q < l.length := by omega
        obtain ⟨bs2, r1, r2, r3⟩ := hI.row
        have hlen : bs2.length = l.length := by have := r1.1; simpa [bools] using this
        have hcell : W.cell? ⟨w.heap.size + 1 + 1 + 1, q, none⟩ = some (.bool (bs2[q]'(by omega))) := by
          rw [r1.cellAt q (by omega)]
          exact bools_get (List.getElem?_eq_getElem (by omega))
        have hfz : W.frozen? ⟨w.heap.size + 1 + 1 + 1, q, none⟩ = false := r1.frozenAt q
        have d1 : W.cell? ⟨w.heap.size, 0, none⟩ = some (.slice (some ⟨g, o, none⟩) l.length cap) := hI.upd.cell HD1.out.1 (by dsimp only; omega)
        have d4 : W.cell? ⟨w.heap.size + 1 + 1 + 1 + 1, 0, none⟩ = some (.slice (some ⟨w.heap.size + 1 + 1 + 1, 0, none⟩) l.length l.length) := hI.upd.cell HD1.out.2 (by dsimp only; omega)
        have j0 : (0 : Int) ≤ (q : Int) := by omega
        have j1 : (q : Int) < (l.length : Int) := by omega
        have HII := Lib.hid hI
        clear r1 r2 r3 hI
        gi_wp2
        exact ⟨KeepsOthers.setCell _ _ _, ⟨Below.heap_setCell _ _ _ _ (by dsimp only; omega), Below.heap_setCell _ _ _ _ (by dsimp only; omega)⟩, HII.out.set rfl hql⟩
      case done =>
        rintro D xs W hD hall hI hK
        obtain ⟨bs2, r1, r2, r3⟩ := hI.row
        have hmS : Marks w.heap.size ds WS := HR.out.marks.upd (F := fun _ => False) (Upd.of_below B_S.out) (fun _ _ _ _ => id)
        have hmW : Marks w.heap.size ds W := hmS.upd hI.upd (fun k o ho hc e => by subst e; rw [own_cells (own_go HRW.out B_S.out) ho] at hc; cases hc)
        have fin : ReachW w W0 l (k + 1) ({ target := .collected D, args := #[] } :: ds) W := by
          refine ⟨(HR.out.upd.trans (Upd.of_below B_S.out)).trans hI.upd, ⟨bs2, r1, fun q hq hc => ?_⟩, hmW.cons hmS hD (by omega) hK⟩
          rcases hc with hc | ⟨p, p0, p1, p2⟩
          · exact r2 q hq (.inl hc)
          · by_cases ep : p = k
            · subst ep
              rw [HI.out] at p2
              obtain ⟨x, hx, hxq⟩ := hall q p2
              exact r3 x hx q hxq
            · exact r2 q hq (.inr ⟨p, p0, by omega, p2⟩)
        have FIN := Lib.hid fin
        clear r1 r2 r3 hI hK hmS hmW fin hall
        gi_wp2
        refine ⟨⟨k + 1, _, _, _, _, _, _, _, _, _, _, _, _, _, _, _, _, _, _, _, _, _, _, _, _, _, _, _, _, _, _, _, _, rfl, by omega, FIN.out⟩, ?_⟩
        simp [intOf]
        omega
      case stop =>
        rintro D c pre W _ _ h _
        exact h.elim
    · have hke : k = l.length := by omega
      subst hke
      obtain ⟨bs, hrw, hbs⟩ := hR.row
      have HRR := Lib.hid hR
      have HZ := Lib.hid (And.intro z2 (And.intro z3 hbr))
      have e2 := cell_blk z2 0
      have e3 := cell_blk z3 0
      have e2' := frozen_blk z2 0
      have e3' := frozen_blk z3 0
      simp at e2 e3
      have hrc : ∀ o, wr.heap[w.heap.size + 1 + 1 + 1]? = some o → o.isCells = true := fun o ho => own_cells hrw ho
      have hbs' : bs = List.replicate l.length true := by
        have hlen : bs.length = l.length := by have := hrw.1; simpa [bools] using this
        apply List.ext_getElem?
        intro q
        by_cases hq : q < l.length
        · rw [List.getElem?_replicate, if_pos hq]
          refine hbs q hq ?_
          rcases ver_come HV.out q (by omega) (by omega) with h | ⟨p, p0, p1, p2⟩
          · exact .inl h
          · exact .inr ⟨p, p0, by omega, p2⟩
        · rw [List.getElem?_eq_none (by omega), List.getElem?_eq_none (by simp; omega)]
      rw [hbs'] at hrw
      have HRW := Lib.hid hrw
      have HRC := Lib.hid hrc
      clear hbs hbs' hrw hrc hR z2 z3 hbr q1 q2 q3 q4 hb0
      gi_wp2
      obtain ⟨z2, z3, hbr⟩ := HZ.out
      have u1 : Upd (fun k => k = w.heap.size + 1 ∨ k = w.heap.size + 1 + 1) wr ((wr.setCell ⟨w.heap.size + 1, 0, none⟩ (.slice (some ⟨w.heap.size + 1 + 1 + 1, 0, none⟩) l.length l.length)).setCell ⟨w.heap.size + 1 + 1, 0, none⟩ (.int .i64 0)) :=
        ((Upd.refl (fun k => k = w.heap.size + 1 ∨ k = w.heap.size + 1 + 1) wr).setCell _ (.inl (.inl rfl)) _).setCell _ (.inl (.inr rfl)) _
      have y2 := heap_setCell wr _ _ _ _ z2 0 (.slice (some ⟨w.heap.size + 1 + 1 + 1, 0, none⟩) l.length l.length)
      have y2' := (Below.heap_setCell (wr.setCell ⟨w.heap.size + 1, 0, none⟩ (.slice (some ⟨w.heap.size + 1 + 1 + 1, 0, none⟩) l.length l.length)) ⟨w.heap.size + 1 + 1, 0, none⟩ (.int .i64 0) (w.heap.size + 1) (by dsimp only; omega)).trans y2
      have y3 := (Below.heap_setCell wr ⟨w.heap.size + 1, 0, none⟩ (.slice (some ⟨w.heap.size + 1 + 1 + 1, 0, none⟩) l.length l.length) (w.heap.size + 1 + 1) (by dsimp only; omega)).trans z3
      have y3' := heap_setCell _ _ _ _ _ y3 0 (.int .i64 0)
      have yg : ∀ o, ((wr.setCell ⟨w.heap.size + 1, 0, none⟩ (.slice (some ⟨w.heap.size + 1 + 1 + 1, 0, none⟩) l.length l.length)).setCell ⟨w.heap.size + 1 + 1, 0, none⟩ (.int .i64 0)).heap[w.heap.size + 1 + 1 + 1]? = some o → o.isCells = true := by
        intro o ho
        rw [u1.block _ (by omega) (by omega)] at ho
        exact HRC.out o ho
      have mk := HRR.out.marks.upd u1 (fun k o ho hc e => by
        rcases e with e | e
        · subst e; rw [z2] at ho; cases ho; cases hc
        · subst e; rw [z3] at ho; cases ho; cases hc)
      have rw1 := own_upd HRW.out u1 (fun k hk e => by
        have e1 : w.heap.size + 1 + 1 + 1 = k := by simpa [Value.ownBlock] using hk
        omega)
      have bl1 : Below w.heap.size w _ := hbr.trans (u1.below hbr.size fun k e => by omega)
      have HRWS := Lib.hid (And.intro rw1 bl1)
      clear u1 y2 y3 rw1 bl1 z2 z3
      refine leaves_marks (B := w.heap.size) mk (fun W' hu => ?_)
      have x2 := (hu.block (w.heap.size + 1) (Array.getElem?_eq_some_iff.1 y2').1 (fun h => by obtain ⟨_, o, ho, hc⟩ := h; rw [y2'] at ho; cases ho; cases hc)).trans y2'
      have x3 := (hu.block (w.heap.size + 1 + 1) (Array.getElem?_eq_some_iff.1 y3').1 (fun h => by obtain ⟨_, o, ho, hc⟩ := h; rw [y3'] at ho; cases ho; cases hc)).trans y3'
      have v2 := cell_blk x2 0
      have v3 := cell_blk x3 0
      simp at v2 v3
      refine ⟨.tuple #[.slice (some ⟨w.heap.size + 1 + 1 + 1, 0, none⟩) l.length l.length, .int .i64 0], by simp [results, Try.results45, go_sem, v2, v3], _, _, rfl, ?_, ?_⟩
      · refine own_upd HRWS.out.1 hu (fun k hk h => ?_)
        have e1 : w.heap.size + 1 + 1 + 1 = k := by simpa [Value.ownBlock] using hk
        subst e1
        obtain ⟨_, o, ho, hc⟩ := h
        rw [yg o ho] at hc
        cases hc
      · exact HRWS.out.2.trans (hu.below HRWS.out.2.size fun k h => h.1)

end Go.Proofs.Ytihajgmknhifiaa
