/- The call of verify's Verify. -/
import Derived.Test.YtihajgmknhifiaaVm
namespace Go.Proofs.Ytihajgmknhifiaa
open Go.RowKit Go.MapKept
set_option linter.unusedVariables false

section
variable {w : World} {l : List In} {c : Cf} {A : Option Addr} {cap : Nat}

set_option maxHeartbeats 2000000 in
theorem verify_conf (hm : mayC c = false) : Calls Try.prog 27 #[.slice A l.length cap, c.val] w fun e w' => e = .returned (.tuple #[.int .i64 0, .int .i64 2]) ∧ Below w.heap.size w w' := by
  have mc := mayC_c c
  unfold Cf.val at mc
  have MC := Lib.hid mc
  clear mc
  unfold Cf.val
  go_enter Try.func27, Try.ntmps27
  go_wp2_with (go_at_call 47; (refine (MC.out _).mono ?_); rintro e w' ⟨rfl, rfl⟩)
  go_ret2
  exact ⟨rfl, (((Below.refl _ _).alloc (Nat.le_refl _) _).alloc (by simp) _).alloc (by simp; omega) _⟩
set_option maxHeartbeats 2000000 in
theorem verify_long (hm : mayC c = true) (hl : 4096 < l.length) (hl2 : l.length ≤ 9223372036854775807) : Calls Try.prog 27 #[.slice A l.length cap, c.val] w fun e w' => e = .returned (.tuple #[.int .i64 0, .int .i64 4]) ∧ Below w.heap.size w w' := by
  have mc := mayC_c c
  unfold Cf.val at mc
  have MC := Lib.hid mc
  clear mc
  unfold Cf.val
  go_enter Try.func27, Try.ntmps27
  go_wp2_with (go_at_call 47; (refine (MC.out _).mono ?_); rintro e w' ⟨rfl, rfl⟩)
  go_ret2
  exact ⟨rfl, (((Below.refl _ _).alloc (Nat.le_refl _) _).alloc (by simp) _).alloc (by simp; omega) _⟩
set_option maxHeartbeats 2000000 in
theorem verify_none (hm : mayC c = true) : Calls Try.prog 27 #[.slice A 0 cap, c.val] w fun e w' => e = .returned (.tuple #[.int .i64 0, .int .i64 195]) ∧ Below w.heap.size w w' := by
  have mc := mayC_c c
  unfold Cf.val at mc
  have MC := Lib.hid mc
  clear mc
  unfold Cf.val
  go_enter Try.func27, Try.ntmps27
  go_wp2_with (go_at_call 47; (refine (MC.out _).mono ?_); rintro e w' ⟨rfl, rfl⟩)
  go_ret2
  exact ⟨rfl, (((Below.refl _ _).alloc (Nat.le_refl _) _).alloc (by simp) _).alloc (by simp; omega) _⟩

theorem own_not {base : Nat} {wr : World} {gm : Nat} {L : List Ent} (h : AllAt base wr gm L) {p : Nat} {cs : Array Value} {t : TypeId} {z : Nat × Nat} (hp : wr.heap[p]? = some (.cells cs t z)) (hs : cs.size ≠ 10) : ¬ own gm L p := by
  obtain ⟨es, clock, h1, _⟩ := h.map
  rintro (rfl | ⟨x, hx, rfl⟩)
  · rw [h1] at hp; cases hp
  · have hb := (h.st x hx).blk
    have hl := (h.st x hx).len
    rw [hp] at hb
    injection hb with hb
    injection hb with hb _ _
    have := congrArg Array.size hb
    simp [St.cells, hl] at this
    exact hs this

theorem ver_init (W : World) (base : Nat) (hb : base ≤ W.heap.size) : ∃ w6, (Instr.mapUpdate 99 (.map (some W.heap.size)) (.int .i64 0) (.pointer (some ⟨W.heap.size + 1, 0, none⟩))).run Try.prog ((W.alloc (.map #[] 0)).alloc (.cells #[.int .i64 0, .int .u64 0, .int .u64 0, .int .u64 0, .int .u64 0, .int .u64 0, .int .u64 0, .int .u64 0, .int .u64 0, .int .u64 0] 98)) = .ok () w6 ∧
    AllAt base w6 W.heap.size [⟨0, W.heap.size + 1, st0⟩] ∧ Upd (fun _ => False) W w6 := by
  have h0 : AllAt base ((W.alloc (.map #[] 0)).alloc (.cells #[.int .i64 0, .int .u64 0, .int .u64 0, .int .u64 0, .int .u64 0, .int .u64 0, .int .u64 0, .int .u64 0, .int .u64 0, .int .u64 0] 98)) W.heap.size [] :=
    ⟨⟨#[], 0, by rw [Below.heap_alloc _ _ _ (by simp)]; exact heap_alloc_new W _, rfl⟩, fun x hx => (by cases hx), by simp, by simp, fun x hx => (by cases hx), hb⟩
  have hs : StAt ((W.alloc (.map #[] 0)).alloc (.cells #[.int .i64 0, .int .u64 0, .int .u64 0, .int .u64 0, .int .u64 0, .int .u64 0, .int .u64 0, .int .u64 0, .int .u64 0, .int .u64 0] 98)) (W.heap.size + 1) st0 :=
    ⟨by have e := heap_alloc_new (W.alloc (.map #[] 0)) (.cells #[.int .i64 0, .int .u64 0, .int .u64 0, .int .u64 0, .int .u64 0, .int .u64 0, .int .u64 0, .int .u64 0, .int .u64 0, .int .u64 0] 98)
        rw [World.size_alloc] at e
        rw [e]; rfl, rfl⟩
  obtain ⟨w6, h1, h2, h3⟩ := map_put (k := 0) h0 rfl hs (by omega) (by rintro (h | ⟨x, hx, _⟩); omega; cases hx)
  refine ⟨w6, h1, h2, ((((Upd.refl _ _).alloc _).alloc _).trans' h3 fun i hi => .inr (by omega))⟩

/-- The variables of Verify, and what was there before. -/
structure VerVars (w : World) (l : List In) (c : Cf) (A : Option Addr) (cap pa gm : Nat) (wr : World) : Prop where
  below : Below w.heap.size w wr
  pl : wr.heap[w.heap.size]? = some (.cells #[.slice A l.length cap] 22 (0, 0))
  pc : wr.heap[w.heap.size + 1]? = some (.cells #[.int .i64 c.slots, .int .i64 c.reads, .int .i64 c.writes, .int .i64 c.stack] 24 (0, 0))
  pa_ : wr.heap[pa]? = some (.cells #[.map (some gm)] 99 (0, 0))
theorem VerVars.upd {pa gm : Nat} {wr w' : World} {F : Nat → Prop} (h : VerVars w l c A cap pa gm wr) (hu : Upd F wr w') (h1 : ¬ F w.heap.size) (h2 : ¬ F (w.heap.size + 1)) (h3 : ¬ F pa) (hF : ∀ k, F k → w.heap.size ≤ k) : VerVars w l c A cap pa gm w' :=
  ⟨h.below.trans (hu.below h.below.size hF), (hu.block _ (Array.getElem?_eq_some_iff.1 h.pl).1 h1).trans h.pl, (hu.block _ (Array.getElem?_eq_some_iff.1 h.pc).1 h2).trans h.pc, (hu.block _ (Array.getElem?_eq_some_iff.1 h.pa_).1 h3).trans h.pa_⟩
theorem VerVars.own {pa gm : Nat} {wr w' : World} {L : List Ent} (h : VerVars w l c A cap pa gm wr) (hL : AllAt w.heap.size wr gm L) (hu : Upd (own gm L) wr w') : VerVars w l c A cap pa gm w' :=
  h.upd hu (own_not hL h.pl (by simp)) (own_not hL h.pc (by simp)) (own_not hL h.pa_ (by simp)) fun k hk => (hL.lt k hk).1

/-- At the head of each round. -/
def VerRel (w : World) (l : List In) (c : Cf) (A : Option Addr) (cap pa gm : Nat) (R : Int × Int) (k : Nat) (v7 v32 : Value) (wr : World) : Prop :=
  ∃ (at_ : Nat) (most : Int) (L : List Ent), v32 = .int .i64 at_ ∧ v7 = .int .i64 most ∧ at_ + k = l.length ∧ verR l c k at_ most (proj L) = R ∧ AllAt w.heap.size wr gm L ∧ HighOk (proj L) ∧ VerVars w l c A cap pa gm wr

theorem findE_of_mem {L : List Ent} (h : (L.map (·.k)).Nodup) {x : Ent} (hx : x ∈ L) : findE L x.k = some x := by
  cases hf : findE L x.k with
  | none => exact absurd rfl (findE_none hf x hx)
  | some y =>
    obtain ⟨hy, hk⟩ := findE_some hf
    rw [nodup_k h hy hx hk]
theorem proj_filter (L : List Ent) (k : Int) : proj (L.filter fun y => y.k != k) = (proj L).filter fun y => y.1 != k := by
  unfold proj
  rw [List.filter_map]
  rfl

/-- The world in which 'checks' is called. -/
def verW (wr : World) (i : In) (xb : Nat) : World := (wr.alloc (.cells #[.int .u8 i.op, .int .i64 i.arg] 53)).alloc (.cells #[.pointer (some ⟨xb, 0, none⟩)] 94)
theorem verW_upd (wr : World) (i : In) (xb : Nat) (F : Nat → Prop) : Upd F wr (verW wr i xb) := ((Upd.refl _ _).alloc _).alloc _
theorem verW_size (wr : World) (i : In) (xb : Nat) : (verW wr i xb).heap.size = wr.heap.size + 1 + 1 := by simp [verW]
theorem verW_box (wr : World) (i : In) (xb : Nat) : (verW wr i xb).heap[wr.heap.size]? = some (.cells #[.int .u8 i.op, .int .i64 i.arg] 53 (0, 0)) := by
  unfold verW
  rw [Below.heap_alloc _ _ _ (by simp)]
  exact heap_alloc_new wr _
theorem verW_ps (wr : World) (i : In) (xb : Nat) : (verW wr i xb).heap[wr.heap.size + 1]? = some (.cells #[.pointer (some ⟨xb, 0, none⟩)] 94 (0, 0)) := by
  unfold verW
  have e := heap_alloc_new (wr.alloc (.cells #[.int .u8 i.op, .int .i64 i.arg] 53)) (.cells #[.pointer (some ⟨xb, 0, none⟩)] 94)
  rw [World.size_alloc] at e
  exact e

/-- What is known behind 'checks'. -/
theorem ver_chk {pa gm : Nat} {wr w3 : World} {L : List Ent} {x : Ent} {i : In} {r : Int × St} (hV : VerVars w l c A cap pa gm wr) (hL : AllAt w.heap.size wr gm L) (hx : x ∈ L) (hq : ChkQ (verW wr i x.b) x.b r w3) :
    VerVars w l c A cap pa gm w3 ∧ w3.heap[wr.heap.size]? = some (.cells #[.int .u8 i.op, .int .i64 i.arg] 53 (0, 0)) ∧ w3.heap[wr.heap.size + 1]? = some (.cells #[.pointer (some ⟨x.b, 0, none⟩)] 94 (0, 0)) ∧ Upd (own gm L) wr w3
      ∧ (r.1 = 0 → AllAt w.heap.size w3 gm (updE L x.k r.2) ∧ StAt w3 x.b r.2) := by
  have hxb := hL.lt x.b (.inr ⟨x, hx, rfl⟩)
  have hLw : AllAt w.heap.size (verW wr i x.b) gm L := hL.upd (F := fun _ => False) (verW_upd _ _ _ _) fun _ _ => id
  have hVw : VerVars w l c A cap pa gm (verW wr i x.b) := hV.upd (F := fun _ => False) (verW_upd _ _ _ _) id id id fun _ => False.elim
  have hu3 : Upd (own gm L) (verW wr i x.b) w3 := hq.upd.mono fun k hk => .inr ⟨x, hx, hk.symm⟩
  refine ⟨hVw.own hLw hu3, ?_, ?_, (verW_upd _ _ _ _).trans hu3, fun e => ⟨hLw.put hx hq.upd (hq.ok e), hq.ok e⟩⟩
  · rw [hq.upd.block _ (by rw [verW_size]; omega) (by omega)]
    exact verW_box _ _ _
  · rw [hq.upd.block _ (by rw [verW_size]; omega) (by omega)]
    exact verW_ps _ _ _

set_option maxHeartbeats 4000000 in
set_option maxRecDepth 8000 in
theorem verify_walk {g o : Nat} {R : Int × Int} (hm : mayC c = true) (hl : l.length ≤ 4096) (hl0 : 0 < l.length) (hg : g < w.heap.size) (hR : verR l c l.length 0 0 [(0, st0)] = R)
    (hcells : ∀ i : Nat, i < l.length → w.cell? ⟨g, o + i * 2, none⟩ = some (.int .u8 (insAt l i).op) ∧ w.cell? ⟨g, o + i * 2 + 1, none⟩ = some (.int .i64 (insAt l i).arg)) :
    Calls Try.prog 27 #[.slice (some ⟨g, o, none⟩) l.length cap, c.val] w fun e w' => e = .returned (.tuple #[.int .i64 R.1, .int .i64 R.2]) ∧ Below w.heap.size w w' := by
  have mc := mayC_c c
  unfold Cf.val at mc
  have MC := Lib.hid mc
  have HC := Lib.hid hcells
  have HR := Lib.hid hR
  have hmm := @run_makeMap Try.prog
  obtain ⟨w6, hrun, hall, hu6⟩ := ver_init (((w.alloc (.cells #[.slice (some ⟨g, o, none⟩) l.length cap] 22)).alloc (.cells #[.int .i64 c.slots, .int .i64 c.reads, .int .i64 c.writes, .int .i64 c.stack] 24)).alloc (.cells #[.int .i64 c.slots, .int .i64 c.reads, .int .i64 c.writes, .int .i64 c.stack] 24)) w.heap.size (by simp; omega)
  have v6 : VerVars w l c (some ⟨g, o, none⟩) cap w6.heap.size (w.heap.size + 1 + 1 + 1) (w6.alloc (.cells #[.map (some (w.heap.size + 1 + 1 + 1))] 99)) := by
    have s6 := hu6.size
    simp only [World.size_alloc] at s6
    have b3 : ∀ k o1 o2 o3, k < w.heap.size → ((((w.alloc o1).alloc o2).alloc o3)).heap[k]? = w.heap[k]? := fun k o1 o2 o3 hk => by
      rw [Below.heap_alloc _ _ _ (by simp; omega), Below.heap_alloc _ _ _ (by simp; omega), Below.heap_alloc _ _ _ hk]
    refine ⟨⟨hu6.os, hu6.tape, hu6.output, by simp; omega, fun k hk => ?_⟩, ?_, ?_, heap_alloc_new w6 _⟩
    · rw [Below.heap_alloc _ _ _ (by omega), hu6.block k (by simp; omega) id, b3 k _ _ _ hk]
    · rw [Below.heap_alloc _ _ _ (by omega), hu6.block _ (by simp; omega) id, Below.heap_alloc _ _ _ (by simp; omega), Below.heap_alloc _ _ _ (by simp)]
      exact heap_alloc_new w _
    · rw [Below.heap_alloc _ _ _ (by omega), hu6.block _ (by simp) id, Below.heap_alloc _ _ _ (by simp)]
      have e := heap_alloc_new (w.alloc (.cells #[.slice (some ⟨g, o, none⟩) l.length cap] 22)) (.cells #[.int .i64 c.slots, .int .i64 c.reads, .int .i64 c.writes, .int .i64 c.stack] 24)
      rw [World.size_alloc] at e
      exact e
  have a6 : AllAt w.heap.size (w6.alloc (.cells #[.map (some (w.heap.size + 1 + 1 + 1))] 99)) (w.heap.size + 1 + 1 + 1) [⟨0, w.heap.size + 1 + 1 + 1 + 1, st0⟩] := by
    have e := hall.upd (F := fun _ => False) ((Upd.refl _ _).alloc (.cells #[.map (some (w.heap.size + 1 + 1 + 1))] 99)) fun _ _ => id
    simpa only [World.size_alloc] using e
  simp only [World.size_alloc] at hrun
  have s6 : w.heap.size + 1 + 1 + 1 ≤ w6.heap.size := by have := hu6.size; simpa only [World.size_alloc] using this
  have c6 : w6.cell? ⟨w.heap.size, 0, none⟩ = some (.slice (some ⟨g, o, none⟩) l.length cap) := by
    have e := cell_blk v6.pl 0
    rw [World.cell?_alloc_past _ _ _ (by omega)] at e
    exact e
  have s7 : w.heap.size < w6.heap.size := by omega
  have V6 := Lib.hid v6
  have A6 := Lib.hid a6
  clear mc hcells hR v6 a6 hu6 hall
  have d1 : decide (4096 < (l.length : Int)) = false := by simp; omega
  have d2 : ((l.length : Int) == 0) = false := by rw [beq_eq_false_iff_ne]; omega
  unfold Cf.val
  go_enter Try.func27, Try.ntmps27
  go_wp2_with (go_at_call 47; (refine (MC.out _).mono ?_); rintro e w' ⟨rfl, rfl⟩)
  clear hrun c6 MC hmm
  generalize w6.heap.size = pa at *
  generalize hgm : w.heap.size + 1 + 1 + 1 = gm at *
  go_loopg [7, 32] l.length (fun k v7 v32 wr => VerRel w l c (some ⟨g, o, none⟩) cap pa gm R k v7 v32 wr)
  case atStart => exact ⟨0, 0, [⟨0, gm + 1, st0⟩], rfl, rfl, by omega, HR.out, A6.out, by intro x hx; simp [proj] at hx; subst hx; simp [st0], V6.out⟩
  case round =>
    obtain ⟨at_, most, L, hv32, hv7, hk, hver, hL, hH, hV⟩ := hrel
    subst hv32
    subst hv7
    cases gk with
    | zero =>
      obtain rfl : at_ = l.length := by omega
      simp only [verR] at hver
      have HB := Lib.hid hV.below
      have HVR := Lib.hid hver
      clear hver hL hH hV hk
      go_wp2
      go_ret2
      rw [← HVR.out]
      exact ⟨rfl, HB.out⟩
    | succ k =>
      have hlt : at_ < l.length := by omega
      have hlt2 : (at_ : Int) < (l.length : Int) := by omega
      obtain ⟨i0, i1⟩ := HC.out at_ hlt
      have i0' := hV.below.cell (p := ⟨g, o + at_ * 2, none⟩) hg
      have i1' := hV.below.cell (p := ⟨g, o + at_ * 2 + 1, none⟩) hg
      rw [i0] at i0'
      rw [i1] at i1'
      clear i0 i1
      have hgr : g < wr.heap.size := Nat.lt_of_lt_of_le hg hV.below.size
      have cpl := cell_blk hV.pl 0
      have cpa := cell_blk hV.pa_ 0
      have cpc0 := cell_blk hV.pc 0
      have cpc1 := cell_blk hV.pc 1
      have cpc2 := cell_blk hV.pc 2
      have cpc3 := cell_blk hV.pc 3
      have hpl := (Array.getElem?_eq_some_iff.1 hV.pl).1
      have hpa := (Array.getElem?_eq_some_iff.1 hV.pa_).1
      have hpc := (Array.getElem?_eq_some_iff.1 hV.pc).1
      simp only [verR] at hver
      rw [findS_proj] at hver
      have V := Lib.hid hV
      have A := Lib.hid hL
      have HHi := Lib.hid hH
      cases hf : findE L at_ with
      | none =>
        rw [hf] at hver
        have l1 := look_none (hL.upd (F := fun _ => False) ((Upd.refl _ _).alloc (.cells #[.int .u8 (insAt l at_).op, .int .i64 (insAt l at_).arg] 53)) fun _ _ => id) hf
        have HV := Lib.hid hver
        clear hver hV hL hH hf
        go_wp2
        go_ret2
        rw [← HV.out]
        exact ⟨rfl, ((V.out.below.alloc V.out.below.size _).alloc (by simp; have := V.out.below.size; omega) _)⟩
      | some x =>
        rw [hf] at hver
        dsimp only [Option.map] at hver
        obtain ⟨hx, hxk⟩ := findE_some hf
        have hhx := hH (x.k, x.s) (List.mem_map.2 ⟨x, hx, rfl⟩)
        have l1 := look_some (hL.upd (F := fun _ => False) ((Upd.refl _ _).alloc (.cells #[.int .u8 (insAt l at_).op, .int .i64 (insAt l at_).arg] 53)) fun _ _ => id) hf
        have hst : StAt (verW wr (insAt l at_) x.b) x.b x.s := (hL.st x hx).upd (F := fun _ => False) (verW_upd _ _ _ _) id
        have chk := checks_c (op := (insAt l at_).op) (arg := (insAt l at_).arg) hst hm hhx.1 (by have := hhx.2; dsimp only at this; omega)
        change Calls _ _ _ _ (fun e w' => e = .returned (.int .i64 (checksM (insAt l at_) c x.s).1) ∧ ChkQ (verW wr (insAt l at_) x.b) x.b (checksM (insAt l at_) c x.s) w') at chk
        have hsafe := checksM_high (i := insAt l at_) (c := c) (s := x.s)
        generalize insAt l at_ = i at *
        generalize checksM i c x.s = r at *
        unfold Cf.val at chk
        have CHK := Lib.hid chk
        have SAFE := Lib.hid hsafe
        have X := Lib.hid hx
        have XK := Lib.hid hxk
        have F := Lib.hid hf
        clear chk hsafe hst hhx hV hL hH hf hx hxk
        by_cases hr : r.1 = 0
        · rw [if_neg (by simpa using hr)] at hver
          have hr' : (r.1 != 0) = false := bne_eq_false_iff_eq.2 hr
          have HR0 := Lib.hid hr
          have HVR := Lib.hid hver
          clear hver hr
          go_wp2_with (go_at_call 50; (refine CHK.out.mono ?_); rintro e w3 ⟨rfl, hq⟩; obtain ⟨v3, b3, p3, u3, a3⟩ := ver_chk V.out A.out X.out hq; obtain ⟨a4, s4⟩ := a3 HR0.out; have k0 := cell_blk b3 0; have k1 := cell_blk b3 1; have k2 := cell_blk p3 0; have k3 := s4.c0; have V3 := Lib.hid v3; have U3 := Lib.hid u3; have A3 := Lib.hid a4; have P3 := Lib.hid p3; have S4 := Lib.hid s4; clear hq v3 b3 p3 u3 a3 a4 s4)
          all_goals
            have hx1 : ({ x with s := r.2 } : Ent) ∈ updE L x.k r.2 := List.mem_map.2 ⟨x, X.out, by rw [if_pos (beq_self_eq_true _)]⟩
            have sz3 : w.heap.size ≤ w3.heap.size := V3.out.below.size
            have fol := follows_c (op := i.op) (arg := i.arg) (at_ := (at_ : Int)) (x := { x with s := r.2 }) (pl := w.heap.size) (pa := pa) (ps := wr.heap.size + 1) (A := some ⟨g, o, none⟩) (n := l.length) (c := cap) ⟨V3.out.pl, V3.out.pa_, P3.out⟩ A3.out hx1 hl sz3 XK.out (by omega) (by omega) (SAFE.out HR0.out).2.2.2.2
            dsimp only at fol
            change Calls _ _ _ _ (fun e w' => e = .returned (.int .i64 (followsM (proj (updE L x.k r.2)) r.2 l.length i at_).1) ∧ GoesQ w.heap.size w3 gm (updE L x.k r.2) { x with s := r.2 } (followsM (proj (updE L x.k r.2)) r.2 l.length i at_) w') at fol
            rw [← setS_proj, XK.out] at fol
            have a3 := A3.out
            rw [XK.out] at a3
            have A4 := Lib.hid a3
            clear a3
            have HX1 := Lib.hid hx1
            have hv := HVR.out
            have hhf := HighOk.follows (HHi.out.set (at_ : Int) (s := r.2) ⟨(SAFE.out HR0.out).1, by have := (SAFE.out HR0.out).2.1; have := (mayC_bd hm).2.2.2.2.2.2.2; omega⟩) (s := r.2) ⟨(SAFE.out HR0.out).1, by have := (SAFE.out HR0.out).2.1; have := (mayC_bd hm).2.2.2.2.2.2.2; omega⟩ (l.length : Int) i (at_ : Int)
            generalize followsM (setS (proj L) (at_ : Int) r.2) r.2 l.length i at_ = f at *
            have FOL := Lib.hid fol
            have HHF := Lib.hid hhf
            clear fol hx1 hhf
            by_cases hf : f.1 = 0
            · rw [if_neg (by simpa using hf)] at hv
              have hf' : (f.1 != 0) = false := bne_eq_false_iff_eq.2 hf
              have HV := Lib.hid hv
              have HF := Lib.hid hf
              clear hv hf
              have hlt' := hlt
              refine FOL.out.mono ?_
              rintro e w4 ⟨rfl, hq⟩
              obtain ⟨L', hL', hp', hx', ho'⟩ := hq.ok HF.out
              have v4 := V3.out.own A4.out hq.upd
              have m0 := cell_blk v4.pa_ 0
              have hfind := findE_of_mem hL'.keys hx'
              dsimp only at hfind
              obtain ⟨w5, L5, hdel, hL5, hu5, hF5⟩ := map_cut (ty := 0) hL' hfind
              have V5 := Lib.hid (v4.upd hu5 (fun e => own_not hL' v4.pl (by simp) (.inl e)) (fun e => own_not hL' v4.pc (by simp) (.inl e)) (fun e => own_not hL' v4.pa_ (by simp) (.inl e)) (fun k e => (hL'.lt k (.inl e)).1))
              have HP := Lib.hid hp'
              have HL5 := Lib.hid hL5
              have HF5 := Lib.hid hF5
              clear hq hL' hp' hx' ho' v4 hL5 hu5 hF5 hfind
              go_wp2_with fail
              go_roundg k
              case measure => omega
              case rel =>
                have hpr : proj L5 = f.2.filter fun y => y.1 != (at_ : Int) := by rw [HF5.out, proj_filter, HP.out]
                refine ⟨at_ + 1, max most r.2.high, L5, by go_num, congrArg (Value.int .i64) (by omega), by omega, ?_, HL5.out, ?_, V5.out⟩
                · rw [hpr]; exact HV.out
                · rw [hpr]; exact fun y hy => HHF.out y (List.mem_filter.1 hy).1
            · rw [if_pos hf] at hv
              have hf' : (f.1 != 0) = true := bne_iff_ne.2 hf
              have HV := Lib.hid hv
              clear hv hf
              go_wp2_with (go_at_call 51; (refine FOL.out.mono ?_); rintro e w4 ⟨rfl, hq⟩; have HQ := Lib.hid hq; clear hq)
              go_ret2
              rw [← HV.out]
              exact ⟨rfl, (V3.out.own (A4.out) HQ.out.upd).below⟩
        · rw [if_pos hr] at hver
          have hr' : (r.1 != 0) = true := bne_iff_ne.2 hr
          have HV := Lib.hid hver
          clear hver hr
          go_wp2_with (go_at_call 50; (refine CHK.out.mono ?_); rintro e w3 ⟨rfl, hq⟩; have HQ := Lib.hid hq; clear hq)
          go_ret2
          rw [← HV.out]
          exact ⟨rfl, (ver_chk V.out A.out X.out HQ.out).1.below⟩
end

/-- CODE IS HELD AGAINST ITS RESOURCES: Verify tells what 'verM' reckons, and what was there stays. -/
theorem verify_c {w : World} {v : Value} {l : List In} {c : Cf} (h : Rd w v l.length 2 (insV l)) (hl : l.length ≤ 9223372036854775807) :
    Calls Try.prog 27 #[v, c.val] w fun e w' => e = .returned (.tuple #[.int .i64 (verM l c).1, .int .i64 (verM l c).2]) ∧ Below w.heap.size w w' := by
  unfold verM
  by_cases hm : mayC c = false
  · rw [if_pos hm]
    obtain ⟨a, cap, rfl, _, _, _⟩ := h.form
    exact verify_conf hm
  have hm' : mayC c = true := by simpa using hm
  rw [if_neg hm]
  by_cases h1 : 4096 < l.length
  · rw [if_pos h1]
    obtain ⟨a, cap, rfl, _, _, _⟩ := h.form
    exact verify_long hm' h1 hl
  rw [if_neg h1]
  by_cases h2 : l.length = 0
  · rw [if_pos h2]
    obtain ⟨a, cap, rfl, _, _, _⟩ := h.form
    rw [h2]
    exact verify_none hm'
  rw [if_neg h2]
  obtain ⟨g, o, cap, rfl, _, hg, hcells⟩ := h.ins_at (by omega)
  exact verify_walk hm' (by omega) (by omega) hg rfl hcells

end Go.Proofs.Ytihajgmknhifiaa
