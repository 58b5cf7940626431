/- Where an instruction goes on to: the calls of verify's Verify$1 (goes) and follows. -/
import Derived.Test.YtihajgmknhifiaaVk
namespace Go.Proofs.Ytihajgmknhifiaa
open Go.RowKit Go.MapKept
set_option linter.unusedVariables false

/-! ### What they reckon -/
def findS (M : List (Int × St)) (k : Int) : Option (Int × St) := M.find? fun x => x.1 == k
def setS (M : List (Int × St)) (k : Int) (s : St) : List (Int × St) := M.map fun x => if x.1 == k then (x.1, s) else x
/-- Where a state is there. -/
def meetG (M : List (Int × St)) (k : Int) (y s : St) : Int × List (Int × St) := ((meetM y s).1, if (meetM y s).1 = 0 then setS M k (meetM y s).2 else M)
def goesM (M : List (Int × St)) (s : St) (n to_ beyond : Int) : Int × List (Int × St) :=
  if n ≤ to_ then (beyond, M)
  else match findS M to_ with
    | some y => meetG M to_ y.2 s
    | none => (0, M ++ [(to_, s)])
def followsM (M : List (Int × St)) (s : St) (n : Int) (i : In) (at_ : Int) : Int × List (Int × St) :=
  if i.op = 23 then (0, M)
  else if i.op = 21 then goesM M s n (at_ + i.arg) 190
  else if i.op ≠ 22 ∨ (goesM M s n (at_ + 1) 195).1 ≠ 0 then goesM M s n (at_ + 1) 195
  else goesM (goesM M s n (at_ + 1) 195).2 s n (at_ + i.arg) 190

def proj (L : List Ent) : List (Int × St) := L.map fun x => (x.k, x.s)
def updE (L : List Ent) (k : Int) (s : St) : List Ent := L.map fun x => if x.k == k then { x with s := s } else x

theorem findS_proj (L : List Ent) (k : Int) : findS (proj L) k = (findE L k).map fun x => (x.k, x.s) := by
  induction L with
  | nil => rfl
  | cons x L ih =>
    unfold findS findE proj at *
    rw [List.map_cons, List.find?_cons, List.find?_cons]
    by_cases h : (x.k == k) = true
    · simp [h]
    · have h' : (x.k == k) = false := by simpa using h
      simp only [h']
      exact ih
theorem setS_proj (L : List Ent) (k : Int) (s : St) : setS (proj L) k s = proj (updE L k s) := by
  unfold setS proj updE
  rw [List.map_map, List.map_map]
  apply List.map_congr_left
  intro x _
  simp only [Function.comp]
  by_cases h : (x.k == k) = true
  · rw [if_pos h, if_pos h]
  · rw [if_neg h, if_neg h]

theorem updE_b (L : List Ent) (k : Int) (s : St) : (updE L k s).map (·.b) = L.map (·.b) := by
  unfold updE
  rw [List.map_map]
  apply List.map_congr_left
  intro x _
  simp only [Function.comp]
  split <;> rfl
theorem updE_k (L : List Ent) (k : Int) (s : St) : (updE L k s).map (·.k) = L.map (·.k) := by
  unfold updE
  rw [List.map_map]
  apply List.map_congr_left
  intro x _
  simp only [Function.comp]
  split <;> rfl
theorem updE_kv (L : List Ent) (k : Int) (s : St) : (updE L k s).map Ent.kv = L.map Ent.kv := by
  unfold updE
  rw [List.map_map]
  apply List.map_congr_left
  intro x _
  simp only [Function.comp]
  split <;> rfl
theorem own_updE {gm : Nat} {L : List Ent} {k : Int} {s : St} {i : Nat} : own gm (updE L k s) i ↔ own gm L i := by
  have h : (∃ x ∈ updE L k s, x.b = i) ↔ (∃ x ∈ L, x.b = i) := by
    have e := updE_b L k s
    constructor
    · rintro ⟨x, hx, rfl⟩
      have : x.b ∈ (updE L k s).map (·.b) := List.mem_map.2 ⟨x, hx, rfl⟩
      rw [e] at this
      obtain ⟨y, hy, h⟩ := List.mem_map.1 this
      exact ⟨y, hy, h⟩
    · rintro ⟨x, hx, rfl⟩
      have : x.b ∈ L.map (·.b) := List.mem_map.2 ⟨x, hx, rfl⟩
      rw [← e] at this
      obtain ⟨y, hy, h⟩ := List.mem_map.1 this
      exact ⟨y, hy, h⟩
  unfold own
  rw [h]

theorem nodup_b {L : List Ent} (h : (L.map (·.b)).Nodup) {x y : Ent} (hx : x ∈ L) (hy : y ∈ L) (e : x.b = y.b) : x = y := by
  induction L with
  | nil => cases hx
  | cons z L ih =>
    rw [List.map_cons, List.nodup_cons] at h
    cases hx with
    | head =>
      cases hy with
      | head => rfl
      | tail _ hy => exact absurd (List.mem_map.2 ⟨y, hy, e.symm⟩) h.1
    | tail _ hx =>
      cases hy with
      | head => exact absurd (List.mem_map.2 ⟨x, hx, e⟩) h.1
      | tail _ hy => exact ih h.2 hx hy
theorem nodup_k {L : List Ent} (h : (L.map (·.k)).Nodup) {x y : Ent} (hx : x ∈ L) (hy : y ∈ L) (e : x.k = y.k) : x = y := by
  induction L with
  | nil => cases hx
  | cons z L ih =>
    rw [List.map_cons, List.nodup_cons] at h
    cases hx with
    | head =>
      cases hy with
      | head => rfl
      | tail _ hy => exact absurd (List.mem_map.2 ⟨y, hy, e.symm⟩) h.1
    | tail _ hx =>
      cases hy with
      | head => exact absurd (List.mem_map.2 ⟨x, hx, e⟩) h.1
      | tail _ hy => exact ih h.2 hx hy

/-- One state has turned. -/
theorem AllAt.put {base : Nat} {w w' : World} {gm : Nat} {L : List Ent} {x : Ent} {s : St} (h : AllAt base w gm L) (hx : x ∈ L) (hu : Upd (fun i => i = x.b) w w') (hs : StAt w' x.b s) : AllAt base w' gm (updE L x.k s) := by
  obtain ⟨es, clock, h1, h2⟩ := h.map
  refine ⟨⟨es, clock, (hu.block gm (Array.getElem?_eq_some_iff.1 h1).1 (fun e => h.gm_ne x hx e.symm)).trans h1, by rw [updE_kv]; exact h2⟩, ?_, by rw [updE_b]; exact h.blocks, by rw [updE_k]; exact h.keys, ?_, h.bm⟩
  · intro y hy
    unfold updE at hy
    obtain ⟨z, hz, rfl⟩ := List.mem_map.1 hy
    by_cases e : z.k = x.k
    · obtain rfl := nodup_k h.keys hz hx e
      rw [if_pos (beq_self_eq_true _)]
      exact hs
    · rw [if_neg (by simpa using e)]
      refine (h.st z hz).upd hu fun e2 => e ?_
      rw [nodup_b h.blocks hz hx e2]
  · intro y hy
    unfold updE at hy
    obtain ⟨z, hz, rfl⟩ := List.mem_map.1 hy
    split <;> exact h.lo z hz

/-- The variables that 'goes' captured. -/
structure Caps (w : World) (pl pa ps gm bs : Nat) (lv : Value) : Prop where
  l : w.heap[pl]? = some (.cells #[lv] 22 (0, 0))
  a : w.heap[pa]? = some (.cells #[.map (some gm)] 99 (0, 0))
  s : w.heap[ps]? = some (.cells #[.pointer (some ⟨bs, 0, none⟩)] 94 (0, 0))
theorem Caps.upd {w w' : World} {pl pa ps gm bs : Nat} {lv : Value} {F : Nat → Prop} (h : Caps w pl pa ps gm bs lv) (hu : Upd F w w') (h1 : ¬ F pl) (h2 : ¬ F pa) (h3 : ¬ F ps) : Caps w' pl pa ps gm bs lv :=
  ⟨(hu.block pl (Array.getElem?_eq_some_iff.1 h.l).1 h1).trans h.l, (hu.block pa (Array.getElem?_eq_some_iff.1 h.a).1 h2).trans h.a, (hu.block ps (Array.getElem?_eq_some_iff.1 h.s).1 h3).trans h.s⟩
theorem Caps.not_own {base : Nat} {w : World} {pl pa ps gm bs : Nat} {lv : Value} {L : List Ent} (h : Caps w pl pa ps gm bs lv) (hL : AllAt base w gm L) : ¬ own gm L pl ∧ ¬ own gm L pa ∧ ¬ own gm L ps := by
  obtain ⟨es, clock, h1, _⟩ := hL.map
  have key : ∀ (p : Nat) (v : Value) (t : TypeId), w.heap[p]? = some (.cells #[v] t (0, 0)) → ¬ own gm L p := by
    intro p v t hp hk
    rcases hk with rfl | ⟨x, hx, rfl⟩
    · rw [h1] at hp; cases hp
    · have hb := (hL.st x hx).blk
      rw [hp] at hb
      injection hb with hb
      injection hb with hb _ _
      have := congrArg Array.size hb
      simp [St.cells] at this
  exact ⟨key _ _ _ h.l, key _ _ _ h.a, key _ _ _ h.s⟩

/-- What 'goes' leaves. -/
structure GoesQ (base : Nat) (w : World) (gm : Nat) (L : List Ent) (x : Ent) (r : Int × List (Int × St)) (w' : World) : Prop where
  upd : Upd (own gm L) w w'
  ok : r.1 = 0 → ∃ L', AllAt base w' gm L' ∧ proj L' = r.2 ∧ x ∈ L' ∧ ∀ k, own gm L' k → own gm L k ∨ w.heap.size ≤ k

theorem len8 {l : List Int} (h : l.length = 8) : ∃ a0 a1 a2 a3 a4 a5 a6 a7, l = [a0, a1, a2, a3, a4, a5, a6, a7] := by
  match l, h with
  | [a0, a1, a2, a3, a4, a5, a6, a7], _ => exact ⟨a0, a1, a2, a3, a4, a5, a6, a7, rfl⟩

section
variable {base : Nat} {w : World} {pl pa ps gm : Nat} {L : List Ent} {x : Ent} {to_ beyond : Int} {A : Option Addr} {n c : Nat}

set_option maxHeartbeats 2000000 in
theorem goes_beyond (hc : Caps w pl pa ps gm x.b (.slice A n c)) (hn : n ≤ 4096) (ht : (n : Int) ≤ to_) :
    Calls Try.prog 48 #[.int .i64 to_, .int .i64 beyond, .pointer (some ⟨pl, 0, none⟩), .pointer (some ⟨pa, 0, none⟩), .pointer (some ⟨ps, 0, none⟩)] w fun e w' => e = .returned (.int .i64 beyond) ∧ w = w' := by
  have c1 : w.cell? ⟨pl, 0, none⟩ = some (.slice A n c) := by rw [cell_blk hc.l]; rfl
  clear hc
  go_enter Try.func48, Try.ntmps48
  go_wp2
  go_ret
  exact ⟨rfl, rfl⟩

set_option maxHeartbeats 2000000 in
set_option maxRecDepth 8000 in
theorem goes_new (hc : Caps w pl pa ps gm x.b (.slice A n c)) (hL : AllAt base w gm L) (hx : x ∈ L) (hn : n ≤ 4096) (hbase : base ≤ w.heap.size) (ht : to_ < (n : Int)) (hf : findE L to_ = none) :
    Calls Try.prog 48 #[.int .i64 to_, .int .i64 beyond, .pointer (some ⟨pl, 0, none⟩), .pointer (some ⟨pa, 0, none⟩), .pointer (some ⟨ps, 0, none⟩)] w fun e w' => e = .returned (.int .i64 0) ∧ GoesQ base w gm L x (0, proj L ++ [(to_, x.s)]) w' := by
  have c1 : w.cell? ⟨pl, 0, none⟩ = some (.slice A n c) := by rw [cell_blk hc.l]; rfl
  have c2 : w.cell? ⟨pa, 0, none⟩ = some (.map (some gm)) := by rw [cell_blk hc.a]; rfl
  have c3 : w.cell? ⟨ps, 0, none⟩ = some (.pointer (some ⟨x.b, 0, none⟩)) := by rw [cell_blk hc.s]; rfl
  have l0 := look_none hL hf
  have hbx := (hL.st x hx).blk
  have hpa := (Array.getElem?_eq_some_iff.1 hc.a).1
  have hlen := (hL.st x hx).len
  have hxlt := (hL.st x hx).lt
  obtain ⟨a0, a1, a2, a3, a4, a5, a6, a7, hhas⟩ := len8 hlen
  have hcs : x.s.cells = #[.int .i64 x.s.high, .int .u64 a0, .int .u64 a1, .int .u64 a2, .int .u64 a3, .int .u64 a4, .int .u64 a5, .int .u64 a6, .int .u64 a7, .int .u64 x.s.wrote] := by
    unfold St.cells; rw [hhas]; rfl
  rw [hcs] at hbx
  have hW : StAt (w.alloc (.cells x.s.cells 98)) w.heap.size x.s := ⟨by show (w.heap.push _)[_]? = _; simp, hlen⟩
  have hLW : AllAt base (w.alloc (.cells x.s.cells 98)) gm L := hL.upd (F := fun _ => False) ((Upd.refl _ _).alloc _) fun _ _ => id
  obtain ⟨w2, hrun, hL2, hu2⟩ := map_put hLW hf hW hbase (fun h => by have := (hL.lt _ h).2; exact Nat.lt_irrefl _ this)
  rw [hcs] at hrun
  have HU := Lib.hid hu2
  have HL2 := Lib.hid hL2
  have HL := Lib.hid hL
  have HX := Lib.hid hx
  clear hc hL hx hf hlen hhas hcs hW hLW hu2 hL2
  go_enter Try.func48, Try.ntmps48
  go_wp2_with (with_reducible refine wpList_load_row rfl 98 _ rfl x.b rfl 98 _ (0, 0) _ hbx Try.underlying98 rfl (by kernel_rfl) ?_)
  go_ret
  refine ⟨rfl, ⟨((Upd.refl _ _).alloc _).trans' HU.out (fun i hi => .inl (.inl hi)), fun _ => ⟨_, HL2.out, by simp [proj], List.mem_append_left _ HX.out, ?_⟩⟩⟩
  rintro k (rfl | ⟨y, hy, rfl⟩)
  · exact .inl (.inl rfl)
  · rcases List.mem_append.1 hy with hy | hy
    · exact .inl (.inr ⟨y, hy, rfl⟩)
    · simp only [List.mem_singleton] at hy
      subst hy
      exact .inr (Nat.le_refl _)

theorem ChkQ.goes {base : Nat} {w w' : World} {gm : Nat} {L : List Ent} {x y : Ent} {r : Int × St} (h : ChkQ w y.b r w') (hL : AllAt base w gm L) (hx : x ∈ L) (hy : y ∈ L) (hne : x.k ≠ y.k) :
    GoesQ base w gm L x (r.1, if r.1 = 0 then setS (proj L) y.k r.2 else proj L) w' :=
  ⟨h.upd.mono fun k hk => .inr ⟨y, hy, hk.symm⟩, fun e => by
    dsimp only at e
    dsimp only
    rw [if_pos e, setS_proj]
    refine ⟨_, hL.put hy h.upd (h.ok e), rfl, ?_, fun k hk => .inl (own_updE.1 hk)⟩
    exact List.mem_map.2 ⟨x, hx, by rw [if_neg (by simpa using hne)]⟩⟩

set_option maxHeartbeats 2000000 in
set_option maxRecDepth 8000 in
theorem goes_meet {y : Ent} (hc : Caps w pl pa ps gm x.b (.slice A n c)) (hL : AllAt base w gm L) (hx : x ∈ L) (hn : n ≤ 4096) (hne : x.k ≠ to_) (ht : to_ < (n : Int)) (hf : findE L to_ = some y) :
    Calls Try.prog 48 #[.int .i64 to_, .int .i64 beyond, .pointer (some ⟨pl, 0, none⟩), .pointer (some ⟨pa, 0, none⟩), .pointer (some ⟨ps, 0, none⟩)] w fun e w' =>
      e = .returned (.int .i64 (meetM y.s x.s).1) ∧ GoesQ base w gm L x (meetG (proj L) to_ y.s x.s) w' := by
  have c1 : w.cell? ⟨pl, 0, none⟩ = some (.slice A n c) := by rw [cell_blk hc.l]; rfl
  have c2 : w.cell? ⟨pa, 0, none⟩ = some (.map (some gm)) := by rw [cell_blk hc.a]; rfl
  have c3 : w.cell? ⟨ps, 0, none⟩ = some (.pointer (some ⟨x.b, 0, none⟩)) := by rw [cell_blk hc.s]; rfl
  have l0 := look_some hL hf
  have hbx := (hL.st x hx).blk
  have hlen := (hL.st x hx).len
  obtain ⟨a0, a1, a2, a3, a4, a5, a6, a7, hhas⟩ := len8 hlen
  have hcs : x.s.cells = #[.int .i64 x.s.high, .int .u64 a0, .int .u64 a1, .int .u64 a2, .int .u64 a3, .int .u64 a4, .int .u64 a5, .int .u64 a6, .int .u64 a7, .int .u64 x.s.wrote] := by
    unfold St.cells; rw [hhas]; rfl
  obtain ⟨hy, hyk⟩ := findE_some hf
  have mc := meet_c (hL.st y hy) hlen
  unfold St.val at mc
  rw [hcs] at hbx mc
  have MC := Lib.hid mc
  have HL := Lib.hid hL
  have HX := Lib.hid hx
  have HY := Lib.hid hy
  have HK := Lib.hid hyk
  have HN := Lib.hid hne
  clear hc hL hx hf hlen hhas hcs hy hyk hne mc
  go_enter Try.func48, Try.ntmps48
  go_wp2_with (first | (go_at_call 49; refine MC.out.mono ?_; rintro e w' ⟨rfl, hq⟩) | (with_reducible refine wpList_load_row rfl 98 _ rfl x.b rfl 98 _ (0, 0) _ hbx Try.underlying98 rfl (by kernel_rfl) ?_))
  go_ret
  have hk := HK.out
  subst hk
  exact ⟨rfl, ChkQ.goes ‹_› HL.out HX.out HY.out HN.out⟩

/-- WHERE AN INSTRUCTION GOES ON TO: the state there. -/
theorem goes_c (hc : Caps w pl pa ps gm x.b (.slice A n c)) (hL : AllAt base w gm L) (hx : x ∈ L) (hn : n ≤ 4096) (hbase : base ≤ w.heap.size) (hne : x.k ≠ to_) :
    Calls Try.prog 48 #[.int .i64 to_, .int .i64 beyond, .pointer (some ⟨pl, 0, none⟩), .pointer (some ⟨pa, 0, none⟩), .pointer (some ⟨ps, 0, none⟩)] w fun e w' =>
      e = .returned (.int .i64 (goesM (proj L) x.s n to_ beyond).1) ∧ GoesQ base w gm L x (goesM (proj L) x.s n to_ beyond) w' := by
  unfold goesM
  by_cases ht : (n : Int) ≤ to_
  · rw [if_pos ht]
    refine (goes_beyond hc hn ht).mono fun e w' q => ⟨q.1, ?_⟩
    obtain ⟨_, rfl⟩ := q
    exact ⟨Upd.refl _ _, fun _ => ⟨L, hL, rfl, hx, fun k hk => .inl hk⟩⟩
  · rw [if_neg ht, findS_proj]
    cases hf : findE L to_ with
    | none => exact goes_new hc hL hx hn hbase (by omega) hf
    | some y => exact goes_meet hc hL hx hn hne (by omega) hf

/-- What 'follows' leaves: as 'goes'. -/
theorem GoesQ.then {base : Nat} {w w1 w2 : World} {gm : Nat} {L L1 : List Ent} {x : Ent} {r : Int × List (Int × St)} (h : Upd (own gm L) w w1) (h1 : ∀ k, own gm L1 k → own gm L k ∨ w.heap.size ≤ k) (k : GoesQ base w1 gm L1 x r w2) : GoesQ base w gm L x r w2 :=
  ⟨h.trans' k.upd h1, fun e => by
    obtain ⟨L', a, b, c, d⟩ := k.ok e
    refine ⟨L', a, b, c, fun i hi => ?_⟩
    rcases d i hi with h2 | h2
    · exact h1 i h2
    · exact .inr (Nat.le_trans h.size h2)⟩

theorem box_kept {w1 w' : World} {op arg : Int} {r : Int × List (Int × St)} (h1 : w1 = w.alloc (.cells #[.int .u8 op, .int .i64 arg] 53)) (hL : AllAt base w gm L) (hq : GoesQ base w1 gm L x r w') :
    w'.cell? ⟨w.heap.size, 0, none⟩ = some (.int .u8 op) ∧ w'.cell? ⟨w.heap.size, 1, none⟩ = some (.int .i64 arg) := by
  have hn : ¬ own gm L w.heap.size := fun h => Nat.lt_irrefl _ (hL.lt _ h).2
  subst h1
  exact ⟨hq.upd.cell (World.cell?_alloc_at _ _ _ _ rfl) hn, hq.upd.cell (World.cell?_alloc_at _ _ _ _ rfl) hn⟩

set_option maxHeartbeats 4000000 in
set_option maxRecDepth 8000 in
theorem follows_c {op arg at_ : Int} (hc : Caps w pl pa ps gm x.b (.slice A n c)) (hL : AllAt base w gm L) (hx : x ∈ L) (hn : n ≤ 4096) (hbase : base ≤ w.heap.size) (hxk : x.k = at_) (h0 : 0 ≤ at_) (h1 : at_ < 4096) (hm : mayI ⟨op, arg⟩ = true) :
    Calls Try.prog 51 #[.agg #[.int .u8 op, .int .i64 arg], .int .i64 at_, .func (.func 48) #[] #[.pointer (some ⟨pl, 0, none⟩), .pointer (some ⟨pa, 0, none⟩), .pointer (some ⟨ps, 0, none⟩)]] w fun e w' =>
      e = .returned (.int .i64 (followsM (proj L) x.s n ⟨op, arg⟩ at_).1) ∧ GoesQ base w gm L x (followsM (proj L) x.s n ⟨op, arg⟩ at_) w' := by
  have hcw : Caps (w.alloc (.cells #[.int .u8 op, .int .i64 arg] 53)) pl pa ps gm x.b (.slice A n c) := hc.upd (F := fun _ => False) ((Upd.refl _ _).alloc _) id id id
  have hLw : AllAt base (w.alloc (.cells #[.int .u8 op, .int .i64 arg] 53)) gm L := hL.upd (F := fun _ => False) ((Upd.refl _ _).alloc _) fun _ _ => id
  have hbw : base ≤ (w.alloc (.cells #[.int .u8 op, .int .i64 arg] 53)).heap.size := by rw [World.size_alloc]; omega
  unfold followsM
  by_cases e23 : op = 23
  · subst e23
    rw [if_pos rfl]
    clear hc hcw
    have HL := Lib.hid hLw
    have HX := Lib.hid hx
    clear hL hLw hx hxk
    go_enter Try.func51, Try.ntmps51
    go_wp2
    go_ret
    exact ⟨rfl, (Upd.refl _ _).alloc _, fun _ => ⟨L, HL.out, rfl, HX.out, fun k hk => .inl hk⟩⟩
  rw [if_neg e23]
  by_cases e21 : op = 21
  · subst e21
    rw [if_pos rfl]
    have hj := mayI_jump hm (.inl rfl)
    have G := Lib.hid (goes_c (to_ := at_ + arg) (beyond := 190) hcw hLw hx hn hbw (by omega))
    clear hc hcw hL hLw hx hxk
    go_enter Try.func51, Try.ntmps51
    go_wp2_with (go_at_call 48; refine G.out.mono ?_; rintro e w' ⟨rfl, hq⟩)
    go_ret
    exact ⟨rfl, GoesQ.then ((Upd.refl _ _).alloc _) (fun k hk => .inl hk) hq⟩
  rw [if_neg e21]
  have b23 : (op == 23) = false := beq_eq_false_iff_ne.2 e23
  have b21 : (op == 21) = false := beq_eq_false_iff_ne.2 e21
  have G := Lib.hid (goes_c (to_ := at_ + 1) (beyond := 195) hcw hLw hx hn hbw (by omega))
  by_cases e22 : op = 22
  · subst e22
    have hj := mayI_jump hm (.inr rfl)
    by_cases er : (goesM (proj L) x.s n (at_ + 1) 195).1 = 0
    · rw [if_neg (by rintro (h | h); exact h rfl; exact h er)]
      have HL := Lib.hid hL
      have HC := Lib.hid hcw
      have HO := Lib.hid (hc.not_own hL)
      have HXK := Lib.hid hxk
      have ER := Lib.hid er
      clear hc hcw hL hLw hx hxk e23 e21 b23 b21
      generalize hr : goesM (proj L) x.s n (at_ + 1) 195 = r at *
      have er' : (r.1 != 0) = false := bne_eq_false_iff_eq.2 er
      clear hr er
      go_enter Try.func51, Try.ntmps51
      go_wp2_with (go_at_call 48; (with_reducible refine G.out.mono ?_); rintro e w1 ⟨rfl, hq⟩; obtain ⟨q0, q1⟩ := box_kept rfl HL.out hq; have HQ := Lib.hid hq; clear hq)
      obtain ⟨L1, hL1, hp1, hx1, ho1⟩ := HQ.out.ok ER.out
      have hc1 : Caps w1 pl pa ps gm x.b (.slice A n c) := HC.out.upd HQ.out.upd HO.out.1 HO.out.2.1 HO.out.2.2
      have g2 := goes_c (to_ := at_ + arg) (beyond := 190) hc1 hL1 hx1 hn (Nat.le_trans hbw HQ.out.upd.size) (by rw [HXK.out]; omega)
      rw [hp1] at g2
      refine g2.mono ?_
      rintro e w2 ⟨rfl, hq2⟩
      have hfin := Lib.hid (GoesQ.then (((Upd.refl _ _).alloc _).trans HQ.out.upd) (fun k hk => (ho1 k hk).imp id (fun h => by rw [World.size_alloc] at h; omega)) hq2)
      clear g2 hc1 hL1 hp1 hx1 ho1 hq2
      go_wp2
      go_ret
      exact ⟨rfl, hfin.out⟩
    · rw [if_pos (.inr er)]
      generalize hr : goesM (proj L) x.s n (at_ + 1) 195 = r at *
      have er' : (r.1 != 0) = true := bne_iff_ne.2 er
      have HR := Lib.hid hr
      have HL := Lib.hid hL
      clear hc hcw hL hLw hx hxk hr er e23 e21 b23 b21
      go_enter Try.func51, Try.ntmps51
      go_wp2_with (go_at_call 48; (with_reducible refine G.out.mono ?_); rintro e w' ⟨rfl, hq⟩; obtain ⟨q0, q1⟩ := box_kept rfl HL.out hq; have HQ := Lib.hid hq; clear hq)
      go_ret
      exact ⟨rfl, GoesQ.then ((Upd.refl _ _).alloc _) (fun k hk => .inl hk) HQ.out⟩
  · rw [if_pos (.inl e22)]
    have b22 : (op != 22) = true := bne_iff_ne.2 e22
    have HL := Lib.hid hL
    clear hc hcw hL hLw hx hxk e23 e21 e22
    go_enter Try.func51, Try.ntmps51
    go_wp2_with (go_at_call 48; (with_reducible refine G.out.mono ?_); rintro e w' ⟨rfl, hq⟩; obtain ⟨q0, q1⟩ := box_kept rfl HL.out hq; have HQ := Lib.hid hq; clear hq)
    go_ret
    exact ⟨rfl, GoesQ.then ((Upd.refl _ _).alloc _) (fun k hk => .inl hk) HQ.out⟩
end

end Go.Proofs.Ytihajgmknhifiaa
