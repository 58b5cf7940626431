/- The call of cost's Bound on verified code: what a run costs lies between. -/
import Derived.Test.YtihajgmknhifiaaXi
import Derived.Test.YtihajgmknhifiaaXt
import Derived.BigRegionIn
import Derived.Shelf.RegionOpen
namespace Go.Proofs.Ytihajgmknhifiaa
open Go.RowKit Go.Shelf
set_option linter.unusedVariables false

attribute [local go_sem] Oper.semAt_some

structure MayRel (w : World) (n : Nat) (v : Value) (wr : World) : Prop where
  j : ∃ k : Nat, k ≤ n ∧ v = .int .i64 k
  below : Below w.heap.size w wr

/-- How many rounds are still to come. -/
def atOf (a : Act) (w : World) : Nat :=
  match a.tmps.getD 10 undef with
  | .pointer (some p) => match w.cell? p with
    | some (.int _ k) => (k + 1).toNat
    | _ => 0
  | _ => 0

theorem atOf_eq {a : Act} {w : World} {p : Addr} {k : IntKind} {x : Int} (h : a.tmps.getD 10 undef = .pointer (some p)) (hc : w.cell? p = some (.int k x)) : atOf a w = (x + 1).toNat := by
  unfold atOf
  rw [h]
  dsimp only
  rw [hc]

theorem own_blk {w : World} {base g n c : Nat} {e : TypeId} {size : Nat} {xs : List Value} (h : w.ownsRow base e size (.slice (some ⟨g, 0, none⟩) n c) n xs) : ∃ cur, w.heap[g]? = some (.cells cur e (0, 0)) := by
  rcases h.2 with ⟨h', _⟩ | ⟨g', cap', cur, h', _, hg, _⟩
  · simp at h'
  · simp only [Value.slice.injEq, Option.some.injEq, Addr.mk.injEq, and_true, true_and] at h'
    obtain ⟨rfl, rfl⟩ := h'
    exact ⟨cur, hg⟩

theorem blk_ne {W : World} {B b g n c : Nat} {cs : Array Value} {xs : List Value} (hk : W.heap[b]? = some (.cells cs 25 (0, 0))) (hr : W.ownsRow B 2 1 (.slice (some ⟨g, 0, none⟩) n c) n xs) : b ≠ g := by
  rintro rfl
  obtain ⟨cur, e⟩ := own_blk hr
  rw [hk] at e
  simp at e

theorem MadeB.form {w w' : World} {A : Option Addr} {n c : Nat} (h : MadeB w (.slice A n c) n w') (hn : 0 < n) : ∃ gi, A = some ⟨gi, 0, none⟩ ∧ w.heap.size ≤ gi ∧ gi < w'.heap.size ∧ n ≤ c ∧ c ≤ 9223372036854775807 ∧ ∀ p, p < n → w'.cell? ⟨gi, p, none⟩ = some (.bool true) := by
  have ho := h.own
  rcases h.own.2 with ⟨h', h2⟩ | ⟨g, cap, cur, h', hb, hg, h3, h4, h5, h6⟩
  · omega
  · injection h' with e1 e2 e3
    subst e1 e3
    unfold maxLen at h4
    refine ⟨g, rfl, hb, (Array.getElem?_eq_some_iff.1 hg).1, h3, h4, fun p hp => ?_⟩
    rw [ho.cellAt p (by omega)]
    simp [bools, hp]

structure Made2 (w1 : World) (n ga gb b8 b9 : Nat) (W : World) : Prop where
  below : Below w1.heap.size w1 W
  ra : W.ownsRow w1.heap.size 2 1 (.slice (some ⟨ga, 0, none⟩) n n) n (ints (List.replicate n 0))
  rb : W.ownsRow w1.heap.size 2 1 (.slice (some ⟨gb, 0, none⟩) n n) n (ints (List.replicate n 0))
  ne : ga ≠ gb
  k8 : W.heap[b8]? = some (.cells #[.slice (some ⟨ga, 0, none⟩) n n] 25 (0, 0))
  k9 : W.heap[b9]? = some (.cells #[.slice (some ⟨gb, 0, none⟩) n n] 25 (0, 0))

theorem heap4 (w : World) (o1 o2 o3 o4 : Obj) : ((((w.alloc o1).alloc o2).alloc o3).alloc o4).drew.heap[w.heap.size]? = some o1 ∧ ((((w.alloc o1).alloc o2).alloc o3).alloc o4).drew.heap[w.heap.size + 1]? = some o2 ∧
    ((((w.alloc o1).alloc o2).alloc o3).alloc o4).drew.heap[w.heap.size + 1 + 1]? = some o3 ∧ ((((w.alloc o1).alloc o2).alloc o3).alloc o4).drew.heap[w.heap.size + 1 + 1 + 1]? = some o4 := by
  have e : ∀ (W : World) (o : Obj) (n : Nat), W.heap.size = n → (W.alloc o).heap[n]? = some o := fun W o n h => by subst h; exact heap_alloc_new W o
  refine ⟨?_, ?_, ?_, ?_⟩
  · show ((((w.alloc o1).alloc o2).alloc o3).alloc o4).heap[w.heap.size]? = _
    rw [Below.heap_alloc _ _ _ (by simp <;> omega), Below.heap_alloc _ _ _ (by simp <;> omega), Below.heap_alloc _ _ _ (by simp)]
    exact e _ _ _ rfl
  · show ((((w.alloc o1).alloc o2).alloc o3).alloc o4).heap[w.heap.size + 1]? = _
    rw [Below.heap_alloc _ _ _ (by simp <;> omega), Below.heap_alloc _ _ _ (by simp <;> omega)]
    exact e _ _ _ (by simp)
  · show ((((w.alloc o1).alloc o2).alloc o3).alloc o4).heap[w.heap.size + 1 + 1]? = _
    rw [Below.heap_alloc _ _ _ (by simp <;> omega)]
    exact e _ _ _ (by simp)
  · show ((((w.alloc o1).alloc o2).alloc o3).alloc o4).heap[w.heap.size + 1 + 1 + 1]? = _
    exact e _ _ _ (by simp)

theorem made2_of {w1 W : World} {n ga gb b8 b9 : Nat} (h : Below w1.heap.size w1 W) (h1 : W.heap[ga]? = some (.cells (madeCells #[.int .i64 0] n) 2 (0, 0))) (h2 : W.heap[gb]? = some (.cells (madeCells #[.int .i64 0] n) 2 (0, 0)))
    (h8 : W.heap[b8]? = some (.cells #[.slice (some ⟨ga, 0, none⟩) n n] 25 (0, 0))) (h9 : W.heap[b9]? = some (.cells #[.slice (some ⟨gb, 0, none⟩) n n] 25 (0, 0))) (hne : ga ≠ gb) (l1 : w1.heap.size ≤ ga) (l2 : w1.heap.size ≤ gb) (hn : n ≤ 4096) : Made2 w1 n ga gb b8 b9 W := by
  have row : ∀ k, w1.heap.size ≤ k → W.heap[k]? = some (.cells (madeCells #[.int .i64 0] n) 2 (0, 0)) → W.ownsRow w1.heap.size 2 1 (.slice (some ⟨k, 0, none⟩) n n) n (ints (List.replicate n 0)) := by
    intro k hk hkk
    refine ⟨by simp [ints], .inr ⟨k, n, _, rfl, hk, hkk, Nat.le_refl _, by unfold maxLen; omega, by rw [size_madeCells, Nat.mul_one], ?_⟩⟩
    rw [toList_madeCells_one]
    simp [ints]
  exact ⟨h, row ga l1 h1, row gb l2 h2, hne, h8, h9⟩

set_option maxRecDepth 100000 in
set_option maxHeartbeats 16000000 in
theorem bound_in {w : World} {A : Option Addr} {cap : Nat} {l : List In} {c : Cf} {H : Int → Int} (hl : Rd w (.slice A l.length cap) l.length 2 (insV l)) (hv : (verM l c).2 = 0)
    (hS : ∀ p : Int, 0 ≤ p → p < l.length → Sure l c H p) (hcap : cap ≤ 9223372036854775807) :
    CallsIn Fence.wide 20 Try.prog 26 #[.slice A l.length cap] w fun e w' => ∃ a b : Int, e = .returned (.tuple #[.int .i64 a, .int .i64 b, .int .i64 0]) ∧ (∀ t, Cost l 0 t → a ≤ t ∧ t ≤ b) ∧ Below w.heap.size w w' := by
  obtain ⟨hm, hl1, hl0, _⟩ := verM_ok hv
  obtain ⟨g, o, c0, e0, hcp, hg, hcells⟩ := hl.ins_at (by omega)
  injection e0 with eA _ ec
  subst eA ec
  have hr := reached_in hl hv hS hcap
  have HL := Lib.hid hl
  have HV := Lib.hid hv
  have HS := Lib.hid hS
  have HCL := Lib.hid hcells
  clear hl hv hS hm hcells hr
  refine callsIn_of_wp_marks Try.func26 rfl trivial ?_ rfl
  simp only [Try.ntmps26, List.size_toArray, List.length_cons, List.length_nil, Nat.reduceAdd, Nat.reduceSub, Array.replicate_succ, Array.replicate_zero, List.push_toArray, List.append_toArray, List.nil_append, List.cons_append]
  have hz : ((l.length : Int) == 0) = false := by rw [beq_eq_false_iff_ne]; omega
  gi_wp2
  gi_loopw [19] (fun v wr => MayRel w l.length v wr) (fun v _ => l.length - (intOf v).toNat)
  case atStart => exact ⟨⟨0, by omega, rfl⟩, Below.refl _ _⟩
  case round =>
    obtain ⟨⟨k, hk, hvk⟩, hb⟩ := hrel
    subst hvk
    by_cases hkn : k < l.length
    · obtain ⟨cop, carg⟩ := HCL.out k hkn
      rw [← hb.cell (p := ⟨g, o + k * 2, none⟩) hg] at cop
      rw [← hb.cell (p := ⟨g, o + k * 2 + 1, none⟩) hg] at carg
      have hmay := (HS.out k (by omega) (by omega)).may
      obtain ⟨i, hi⟩ : ∃ i, insAt l k = i := ⟨_, rfl⟩
      rw [hi] at cop carg hmay
      obtain ⟨op, arg⟩ := i
      dsimp only at cop carg
      have hgr : g < wr.heap.size := Nat.lt_of_lt_of_le hg hb.size
      have HB := Lib.hid hb
      have HI := Lib.hid hi
      clear hb hi
      gi_wp2_with (refine ⟨trivial, ?_⟩; gi_at_call 44; refine (callsIn_wide.2 (may_c op arg _)).mono ?_; rintro e w' ⟨rfl, rfl⟩)
      go_roundw
      case rel => exact ⟨⟨k + 1, by omega, by go_num⟩, (HB.out.alloc HB.out.size _).alloc (Nat.le_trans HB.out.size (by simp)) _⟩
      case measure => simp [intOf]; omega
    · have hrd : Rd wr (.slice (some ⟨g, o, none⟩) l.length cap) l.length 2 (insV l) := HL.out.upd (F := fun k => w.heap.size ≤ k) ⟨hb.os, hb.tape, hb.output, hb.size, fun k hk hn => hb.block k hk⟩ (fun k hk => by
        have e1 : g = k := by simpa [Value.ownBlock] using hk
        omega)
      have HRD := Lib.hid hrd
      have HB := Lib.hid hb
      clear hb hrd
      gi_wp2_with (refine ⟨trivial, ?_⟩; gi_at_call 45; refine (callsIn_wide.2 (callsIn_wide.1 (reached_in HRD.out HV.out HS.out hcap))).mono ?_; rintro e w1 ⟨A1, n1, rfl, q1⟩)
      obtain ⟨i2, hi2, hz0, hz1, hz2⟩ := info_parts info2
      have hmk : ∀ W : World, (Instr.makeSlice 25 (.int .i64 (l.length : Int)) (.int .i64 (l.length : Int))).run Try.prog W = .ok (.slice (some ⟨W.heap.size, 0, none⟩) l.length l.length) (W.alloc (.cells (madeCells #[.int .i64 0] l.length) 2)) := by
        intro W
        have := run_make (P := Try.prog) W 25 2 i2 (.int .i64 0) Try.underlying25 hi2 hz0 .i64 .i64 l.length l.length (by omega) (by omega) (by rw [hz2]; omega) (by omega)
        simpa [hz1, Value.cells] using this
      clear hi2 hz0 hz1 hz2
      refine wpIn_mono (Q := fun e a W => e = .normal ∧ ∃ ga gb b8 b9 : Nat, a = { tmps := #[.slice (some ⟨g, o, none⟩) l.length cap, undef, u2, u3, .int .i64 0, undef, u6, .slice A1 l.length n1, .pointer (some ⟨b8, 0, none⟩), .pointer (some ⟨b9, 0, none⟩), undef, undef, undef, undef, .slice (some ⟨g, o, none⟩) l.length cap, .int .i64 (l.length : Nat), .bool (decide ((4096 : Int) < (l.length : Nat))), .slice (some ⟨g, o, none⟩) l.length cap, .int .i64 (l.length : Nat), .int .i64 (k : Nat), .bool false, u21, u22, u23, u24, u25, u26, .slice (some ⟨g, o, none⟩) l.length cap, .int .i64 (l.length : Nat), .bool false, .tuple #[.slice A1 l.length n1, .int .i64 0], .slice (some ⟨g, o, none⟩) l.length cap, .tuple #[.slice A1 l.length n1, .int .i64 0], .slice A1 l.length n1, .int .i64 0, .int .i64 0, .bool false, undef, .slice (some ⟨g, o, none⟩) l.length cap, .int .i64 (l.length : Nat), .slice (some ⟨ga, 0, none⟩) l.length l.length, .slice (some ⟨g, o, none⟩) l.length cap, .int .i64 (l.length : Nat), .slice (some ⟨gb, 0, none⟩) l.length l.length, undef, undef, undef, undef, undef, undef, undef, undef, undef, undef, undef, undef, undef, undef, undef, undef, undef, undef, undef, undef, undef, undef, undef, undef, undef, undef, undef, undef, undef, undef, undef, undef, undef, undef, undef, undef, undef, undef, undef, undef, undef, undef, undef, undef, undef, undef, undef, undef, undef, undef, undef, undef, undef, undef, undef, undef, undef, undef, undef, undef, undef, undef, undef, undef, undef, undef, undef, undef, undef, undef, undef, undef, undef, undef, undef], defers := [] } ∧ Made2 w1 l.length ga gb b8 b9 W) ?r14 ?rest
      case r14 =>
        -- SLOW {
        gi_region
        all_goals
          refine ⟨rfl, _, _, _, _, rfl, ?_⟩
          refine made2_of ?_ ?_ ?_ ?_ ?_ ?_ ?_ ?_ (by omega)
          · repeat (first | exact Below.refl _ _ | apply Below.drew | (refine Below.alloc ?_ (by simp <;> omega) _))
          all_goals first | omega | exact (heap4 _ _ _ _ _).1 | exact (heap4 _ _ _ _ _).2.1 | exact (heap4 _ _ _ _ _).2.2.1 | exact (heap4 _ _ _ _ _).2.2.2
        -- SLOW }
      case rest =>
        rintro e a WB ⟨rfl, ga, gb, b8, b9, rfl, hmade⟩
        have hn0 : 0 < l.length := by omega
        obtain ⟨gi, rfl, hgi0, hgi1, hin, hin2, hcis⟩ := q1.form hn0
        have hb1 : Below w.heap.size w w1 := HB.out.trans (q1.below.mono HB.out.size)
        have hbw : Below w.heap.size w WB := hb1.trans (hmade.below.mono hb1.size)
        have hws : w.heap.size ≤ w1.heap.size := hb1.size
        have hga : w1.heap.size ≤ ga := (hmade.ra.lt ga rfl).1
        have hgb : w1.heap.size ≤ gb := (hmade.rb.lt gb rfl).1
        have hga1 : ga < WB.heap.size := (hmade.ra.lt ga rfl).2
        have hgb1 : gb < WB.heap.size := (hmade.rb.lt gb rfl).2
        have h8lt : b8 < WB.heap.size := (Array.getElem?_eq_some_iff.1 hmade.k8).1
        have h9lt : b9 < WB.heap.size := (Array.getElem?_eq_some_iff.1 hmade.k9).1
        have n81 := blk_ne hmade.k8 hmade.ra
        have n82 := blk_ne hmade.k8 hmade.rb
        have n91 := blk_ne hmade.k9 hmade.ra
        have n92 := blk_ne hmade.k9 hmade.rb
        have hne := hmade.ne
        have hra := own_mono hmade.ra hws
        have hrb := own_mono hmade.rb hws
        have hisB : ∀ p, p < l.length → WB.cell? ⟨gi, p, none⟩ = some (.bool true) := fun p hp => (hmade.below.cell (p := ⟨gi, p, none⟩) hgi1).trans (hcis p hp)
        have HRA := Lib.hid hra
        have HRB := Lib.hid hrb
        have HIS := Lib.hid hisB
        have HK8 := Lib.hid hmade.k8
        have HK9 := Lib.hid hmade.k9
        have HBW := Lib.hid hbw
        clear hmade q1 hmk hcis hra hrb hisB hb1 hbw HB HRD hk hkn
        gi_wp2
        refine wpIn_loop (fun a' w' => ∃ (k bat : Nat) (ds : List Deferred) (z1 z2 z3 z4 z5 z6 z11 z12 z13 z14 z15 z16 z17 z18 z19 z20 z21 z22 z23 z24 z25 z26 z27 z28 z29 z30 z31 z32 z33 z34 z35 z36 z37 z38 z39 z40 z41 z42 z43 z44 z45 z46 z47 z48 z49 z50 z51 z52 z53 z54 z55 z56 z57 z58 z59 z60 z61 z62 z63 z64 z65 z66 z67 z68 z69 z70 z71 z72 z73 z74 z75 z76 z77 z78 z79 z80 z81 z82 z83 z84 z85 z86 z87 z88 z89 z90 z91 z92 z93 z94 z95 z96 z97 z98 z99 z100 z101 z102 z103 z104 z105 z106 z107 z108 z109 z110 z111 z112 z113 z114 z115 z116 z117 z118 : Value), a' = { tmps := #[.slice (some ⟨g, o, none⟩) l.length cap, z1, z2, z3, z4, z5, z6, .slice (some ⟨gi, 0, none⟩) l.length n1, .pointer (some ⟨b8, 0, none⟩), .pointer (some ⟨b9, 0, none⟩), .pointer (some ⟨bat, 0, none⟩), z11, z12, z13, z14, z15, z16, z17, z18, z19, z20, z21, z22, z23, z24, z25, z26, z27, z28, z29, z30, z31, z32, z33, z34, z35, z36, z37, z38, z39, z40, z41, z42, z43, z44, z45, z46, z47, z48, z49, z50, z51, z52, z53, z54, z55, z56, z57, z58, z59, z60, z61, z62, z63, z64, z65, z66, z67, z68, z69, z70, z71, z72, z73, z74, z75, z76, z77, z78, z79, z80, z81, z82, z83, z84, z85, z86, z87, z88, z89, z90, z91, z92, z93, z94, z95, z96, z97, z98, z99, z100, z101, z102, z103, z104, z105, z106, z107, z108, z109, z110, z111, z112, z113, z114, z115, z116, z117, z118], defers := ds } ∧ k ≤ l.length ∧ BoundW w WB l ga gb k bat ds w') atOf ?start ?round
        case start =>
          refine ⟨l.length, WB.heap.size, [], _, _, _, _, _, _, _, _, _, _, _, _, _, _, _, _, _, _, _, _, _, _, _, _, _, _, _, _, _, _, _, _, _, _, _, _, _, _, _, _, _, _, _, _, _, _, _, _, _, _, _, _, _, _, _, _, _, _, _, _, _, _, _, _, _, _, _, _, _, _, _, _, _, _, _, _, _, _, _, _, _, _, _, _, _, _, _, _, _, _, _, _, _, _, _, _, _, _, _, _, _, _, _, _, _, _, _, _, _, _, _, _, _, _, rfl, Nat.le_refl _, (Upd.refl _ _).alloc _, ⟨_, rfl, heap_alloc_new WB _⟩, Nat.le_refl _, ⟨_, _, HRA.out.alloc _, HRB.out.alloc _, ?_⟩, Marks.nil _ _⟩
          have e : ∀ p : Nat, (List.replicate l.length (0 : Int)).getD p 0 = 0 := fun p => by
            rw [List.getD_eq_getElem?_getD, List.getElem?_replicate]
            split <;> rfl
          exact ⟨fun p _ => ⟨e p, e p⟩, fun p _ => by rw [e p]; exact ⟨Int.le_refl _, Int.le_refl _⟩, fun p h1 h2 => by omega, fun p h1 h2 => by omega⟩
        case round =>
          intro a' wr2 hinv
          obtain ⟨k2, hinv⟩ := hinv
          obtain ⟨bat, hinv⟩ := hinv
          obtain ⟨ds, hinv⟩ := hinv
          obtain ⟨z1, hinv⟩ := hinv
          obtain ⟨z2, hinv⟩ := hinv
          obtain ⟨z3, hinv⟩ := hinv
          obtain ⟨z4, hinv⟩ := hinv
          obtain ⟨z5, hinv⟩ := hinv
          obtain ⟨z6, hinv⟩ := hinv
          obtain ⟨z11, hinv⟩ := hinv
          obtain ⟨z12, hinv⟩ := hinv
          obtain ⟨z13, hinv⟩ := hinv
          obtain ⟨z14, hinv⟩ := hinv
          obtain ⟨z15, hinv⟩ := hinv
          obtain ⟨z16, hinv⟩ := hinv
          obtain ⟨z17, hinv⟩ := hinv
          obtain ⟨z18, hinv⟩ := hinv
          obtain ⟨z19, hinv⟩ := hinv
          obtain ⟨z20, hinv⟩ := hinv
          obtain ⟨z21, hinv⟩ := hinv
          obtain ⟨z22, hinv⟩ := hinv
          obtain ⟨z23, hinv⟩ := hinv
          obtain ⟨z24, hinv⟩ := hinv
          obtain ⟨z25, hinv⟩ := hinv
          obtain ⟨z26, hinv⟩ := hinv
          obtain ⟨z27, hinv⟩ := hinv
          obtain ⟨z28, hinv⟩ := hinv
          obtain ⟨z29, hinv⟩ := hinv
          obtain ⟨z30, hinv⟩ := hinv
          obtain ⟨z31, hinv⟩ := hinv
          obtain ⟨z32, hinv⟩ := hinv
          obtain ⟨z33, hinv⟩ := hinv
          obtain ⟨z34, hinv⟩ := hinv
          obtain ⟨z35, hinv⟩ := hinv
          obtain ⟨z36, hinv⟩ := hinv
          obtain ⟨z37, hinv⟩ := hinv
          obtain ⟨z38, hinv⟩ := hinv
          obtain ⟨z39, hinv⟩ := hinv
          obtain ⟨z40, hinv⟩ := hinv
          obtain ⟨z41, hinv⟩ := hinv
          obtain ⟨z42, hinv⟩ := hinv
          obtain ⟨z43, hinv⟩ := hinv
          obtain ⟨z44, hinv⟩ := hinv
          obtain ⟨z45, hinv⟩ := hinv
          obtain ⟨z46, hinv⟩ := hinv
          obtain ⟨z47, hinv⟩ := hinv
          obtain ⟨z48, hinv⟩ := hinv
          obtain ⟨z49, hinv⟩ := hinv
          obtain ⟨z50, hinv⟩ := hinv
          obtain ⟨z51, hinv⟩ := hinv
          obtain ⟨z52, hinv⟩ := hinv
          obtain ⟨z53, hinv⟩ := hinv
          obtain ⟨z54, hinv⟩ := hinv
          obtain ⟨z55, hinv⟩ := hinv
          obtain ⟨z56, hinv⟩ := hinv
          obtain ⟨z57, hinv⟩ := hinv
          obtain ⟨z58, hinv⟩ := hinv
          obtain ⟨z59, hinv⟩ := hinv
          obtain ⟨z60, hinv⟩ := hinv
          obtain ⟨z61, hinv⟩ := hinv
          obtain ⟨z62, hinv⟩ := hinv
          obtain ⟨z63, hinv⟩ := hinv
          obtain ⟨z64, hinv⟩ := hinv
          obtain ⟨z65, hinv⟩ := hinv
          obtain ⟨z66, hinv⟩ := hinv
          obtain ⟨z67, hinv⟩ := hinv
          obtain ⟨z68, hinv⟩ := hinv
          obtain ⟨z69, hinv⟩ := hinv
          obtain ⟨z70, hinv⟩ := hinv
          obtain ⟨z71, hinv⟩ := hinv
          obtain ⟨z72, hinv⟩ := hinv
          obtain ⟨z73, hinv⟩ := hinv
          obtain ⟨z74, hinv⟩ := hinv
          obtain ⟨z75, hinv⟩ := hinv
          obtain ⟨z76, hinv⟩ := hinv
          obtain ⟨z77, hinv⟩ := hinv
          obtain ⟨z78, hinv⟩ := hinv
          obtain ⟨z79, hinv⟩ := hinv
          obtain ⟨z80, hinv⟩ := hinv
          obtain ⟨z81, hinv⟩ := hinv
          obtain ⟨z82, hinv⟩ := hinv
          obtain ⟨z83, hinv⟩ := hinv
          obtain ⟨z84, hinv⟩ := hinv
          obtain ⟨z85, hinv⟩ := hinv
          obtain ⟨z86, hinv⟩ := hinv
          obtain ⟨z87, hinv⟩ := hinv
          obtain ⟨z88, hinv⟩ := hinv
          obtain ⟨z89, hinv⟩ := hinv
          obtain ⟨z90, hinv⟩ := hinv
          obtain ⟨z91, hinv⟩ := hinv
          obtain ⟨z92, hinv⟩ := hinv
          obtain ⟨z93, hinv⟩ := hinv
          obtain ⟨z94, hinv⟩ := hinv
          obtain ⟨z95, hinv⟩ := hinv
          obtain ⟨z96, hinv⟩ := hinv
          obtain ⟨z97, hinv⟩ := hinv
          obtain ⟨z98, hinv⟩ := hinv
          obtain ⟨z99, hinv⟩ := hinv
          obtain ⟨z100, hinv⟩ := hinv
          obtain ⟨z101, hinv⟩ := hinv
          obtain ⟨z102, hinv⟩ := hinv
          obtain ⟨z103, hinv⟩ := hinv
          obtain ⟨z104, hinv⟩ := hinv
          obtain ⟨z105, hinv⟩ := hinv
          obtain ⟨z106, hinv⟩ := hinv
          obtain ⟨z107, hinv⟩ := hinv
          obtain ⟨z108, hinv⟩ := hinv
          obtain ⟨z109, hinv⟩ := hinv
          obtain ⟨z110, hinv⟩ := hinv
          obtain ⟨z111, hinv⟩ := hinv
          obtain ⟨z112, hinv⟩ := hinv
          obtain ⟨z113, hinv⟩ := hinv
          obtain ⟨z114, hinv⟩ := hinv
          obtain ⟨z115, hinv⟩ := hinv
          obtain ⟨z116, hinv⟩ := hinv
          obtain ⟨z117, hinv⟩ := hinv
          obtain ⟨z118, hinv⟩ := hinv
          obtain ⟨ha, hinv⟩ := hinv
          obtain ⟨hk2, hinv⟩ := hinv
          have hR := hinv
          subst ha
          clear hinv
          have hWr : Below w.heap.size w wr2 := HBW.out.trans (hR.upd.below HBW.out.size fun q e => by omega)
          have hW1 : w1.heap.size ≤ WB.heap.size := by omega
          have hsz : WB.heap.size ≤ wr2.heap.size := hR.upd.size
          have c8 := cell_blk ((hR.upd.block b8 h8lt (by omega)).trans HK8.out) 0
          have c9 := cell_blk ((hR.upd.block b9 h9lt (by omega)).trans HK9.out) 0
          obtain ⟨xat, hxat, hat⟩ := hR.at_
          have cat := cell_blk hat 0
          have fat := frozen_blk hat 0
          simp at c8 c9 cat
          cases k2 with
          | zero =>
            obtain rfl : xat = -1 := by omega
            obtain ⟨xa, xb, rra, rrb, hG⟩ := hR.rows
            have la : xa.length = l.length := by have := rra.1; rw [ints_length] at this; omega
            have lb : xb.length = l.length := by have := rrb.1; rw [ints_length] at this; omega
            have ca : wr2.cell? ⟨ga, 0, none⟩ = some (.int .i64 (xa.getD 0 0)) := by rw [rra.cellAt 0 (by omega)]; exact ints_get xa 0 (by omega)
            have cb : wr2.cell? ⟨gb, 0, none⟩ = some (.int .i64 (xb.getD 0 0)) := by rw [rrb.cellAt 0 (by omega)]; exact ints_get xb 0 (by omega)
            have hc0 := hG.cost 0 (Nat.zero_le _) hn0
            have HMK := Lib.hid hR.marks
            have HWR := Lib.hid hWr
            have HC0 := Lib.hid hc0
            have hnz : (0 : Int) < (l.length : Int) := by omega
            clear rra rrb hG la lb hR hWr hc0 hat hxat
            gi_wp2
            refine wpIn_quiet_r (by kernel_rfl) (by kernel_rfl) (by kernel_rfl) ?_
            repeat (gi_big_quiet_step (fail))
            refine wpQuietIn_nil ?_
            intro _ hw'
            obtain ⟨nq1, hw''⟩ := hw'
            subst hw''
            gi_wp2
            refine leaves_marks (B := w.heap.size) (HMK.out.upd (F := fun _ => False) ((Upd.refl _ _).drewN nq1) (fun _ _ _ _ => id)) (fun W' hu => ?_)
            refine ⟨.tuple #[.int .i64 (xa.getD 0 0), .int .i64 (xb.getD 0 0), .int .i64 0], by simp [results, Try.results26, go_sem], _, _, rfl, HC0.out, ?_⟩
            exact HWR.out.trans (((Upd.refl (fun k => w.heap.size ≤ k) wr2).drewN nq1 |>.trans (hu.mono fun k h => h.1)).below HWR.out.size fun k h => h)
          | succ j =>
            obtain rfl : xat = (j : Int) := by omega
            have hjl : j < l.length := by omega
            have cis : wr2.cell? ⟨gi, j, none⟩ = some (.bool true) := hR.upd.cell (HIS.out j hjl) (by dsimp only; omega)
            obtain ⟨cop, carg⟩ := HCL.out j hjl
            rw [← hWr.cell (p := ⟨g, o + j * 2, none⟩) hg] at cop
            rw [← hWr.cell (p := ⟨g, o + j * 2 + 1, none⟩) hg] at carg
            have su := HS.out j (by omega) (by omega)
            have hmay := su.may
            have hnext := su.next
            obtain ⟨i, hi⟩ : ∃ i, insAt l j = i := ⟨_, rfl⟩
            rw [hi] at cop carg hmay hnext
            obtain ⟨op, arg⟩ := i
            dsimp only at cop carg
            have i0 : (0 : Int) ≤ (j : Int) := by omega
            have i1 : (j : Int) < (l.length : Int) := by omega
            have hgw : g < wr2.heap.size := by have := hWr.size; omega
            have hgiw : gi < wr2.heap.size := by omega
            have hbat : bat < wr2.heap.size := (Array.getElem?_eq_some_iff.1 hat).1
            have h8w : b8 < wr2.heap.size := by omega
            have h9w : b9 < wr2.heap.size := by omega
            have HR := Lib.hid hR
            have HI := Lib.hid hi
            have HN := Lib.hid hnext
            have HM := Lib.hid hmay
            have HAT := Lib.hid hat
            have HWR := Lib.hid hWr
            clear hR hi hnext hmay su hat hWr hxat
            gi_wp2_with (refine ⟨trivial, ?_⟩; gi_at_call 46; refine (cfollows_c Fence.wide _ trivial rfl hjl hcp hcap (by first | exact cop | (rw [World.cell?_alloc_lt _ _ _ hgw]; exact cop)) (by first | exact carg | (rw [World.cell?_alloc_lt _ _ _ hgw]; exact carg))).mono ?_; rintro e w' ⟨rfl, rfl⟩)
            obtain ⟨WS, hWS⟩ : ∃ WS, WS = ((wr2.alloc (.cells #[.bool true] 4)).alloc (.cells #[.int .i64 j] 3)).alloc (.cells #[.int .u8 op, .int .i64 arg] 53) := ⟨_, rfl⟩
            rw [← hWS]
            have s4 : WS.heap[wr2.heap.size]? = some (.cells #[.bool true] 4 (0, 0)) := by
              rw [hWS, Below.heap_alloc _ _ _ (by simp <;> omega), Below.heap_alloc _ _ _ (by simp)]
              exact heap_alloc_new wr2 _
            have s3 : WS.heap[wr2.heap.size + 1]? = some (.cells #[.int .i64 j] 3 (0, 0)) := by
              rw [hWS, Below.heap_alloc _ _ _ (by simp)]
              have := heap_alloc_new (wr2.alloc (.cells #[.bool true] 4)) (.cells #[.int .i64 j] 3)
              rw [World.size_alloc] at this
              exact this
            have s5 : WS.heap[wr2.heap.size + 1 + 1]? = some (.cells #[.int .u8 op, .int .i64 arg] 53 (0, 0)) := by
              rw [hWS]
              have := heap_alloc_new ((wr2.alloc (.cells #[.bool true] 4)).alloc (.cells #[.int .i64 j] 3)) (.cells #[.int .u8 op, .int .i64 arg] 53)
              rw [World.size_alloc, World.size_alloc] at this
              exact this
            have bS : Below wr2.heap.size wr2 WS := by
              rw [hWS]
              exact (((Below.refl _ _).alloc (Nat.le_refl _) _).alloc (by simp) _).alloc (by simp <;> omega) _
            have zS : wr2.heap.size + 1 + 1 < WS.heap.size := (Array.getElem?_eq_some_iff.1 s5).1
            obtain ⟨xa, xb, rra, rrb, hG⟩ := HR.out.rows
            have hI0 : BoundI w WS l ga gb wr2.heap.size j xa xb ⟨op, arg⟩ [] WS := by
              obtain ⟨g1, g2⟩ := hG.zero j (by omega)
              refine ⟨Upd.refl _ _, s4, xa, xb, own_go rra bS, own_go rrb bS, fun p _ => ⟨rfl, rfl⟩, fun _ => g1, by omega, by omega, by omega, by omega, fun x hx => (by cases hx)⟩
            have d8 := (bS.block b8 h8w).trans ((HR.out.upd.block b8 h8lt (by omega)).trans HK8.out)
            have d9 := (bS.block b9 h9w).trans ((HR.out.upd.block b9 h9lt (by omega)).trans HK9.out)
            have dat := (bS.block bat hbat).trans HAT.out
            have HG := Lib.hid hG
            have B_S := Lib.hid bS
            have HD := Lib.hid (And.intro d8 (And.intro d9 dat))
            have HI0 := Lib.hid hI0
            have HS3 := Lib.hid s3
            have HS5 := Lib.hid s5
            have hbatn : WB.heap.size ≤ bat := HR.out.new
            clear hWS s3 s4 s5 bS d8 d9 dat hG rra rrb hI0 c8 c9 cat fat cis cop carg
            refine wpIn_rangeFunc_ownF rfl (by omega) (gf := 75) (lb := #[.pointer (some ⟨wr2.heap.size + 1 + 1, 0, none⟩), .pointer (some ⟨wr2.heap.size + 1, 0, none⟩)]) rfl trivial (enters_of Try.func75 (by kernel_rfl) rfl)
              (follows_stops Fence.wide _ trivial rfl (by omega) (by omega) HM.out HS3.out HS5.out) (fun a b => ⟨b.1.trans a.1, b.2.trans a.2⟩)
              (fun W l o o' h1 h2 h3 h4 => ⟨World.putObj_heap_other (by omega), World.putObj_heap_other (by omega)⟩) (Below.refl _ _) (fun _ => rfl)
              (fun pre W => BoundI w WS l ga gb wr2.heap.size j xa xb ⟨op, arg⟩ pre W) (fun _ _ _ => False) (BoundI.own (by omega) (by omega) (by omega)) (fun _ _ _ _ _ hs _ _ => hs)
              HI0.out
              (fun x => { tmps := #[.slice (some ⟨g, o, none⟩) l.length cap, z1, z2, z3, z4, z5, z6, .slice (some ⟨gi, 0, none⟩) l.length n1, .pointer (some ⟨b8, 0, none⟩), .pointer (some ⟨b9, 0, none⟩), .pointer (some ⟨bat, 0, none⟩), .pointer (some ⟨wr2.heap.size, 0, none⟩), .int .i64 x.1.1, z13, z14, z15, z16, z17, z18, z19, z20, z21, z22, z23, z24, z25, z26, z27, z28, z29, z30, z31, z32, z33, z34, z35, z36, z37, z38, z39, z40, z41, z42, z43, z44, z45, z46, .int .i64 (j : Nat), .bool true, z49, z50, .slice (some ⟨gi, 0, none⟩) l.length n1, .int .i64 (j : Nat), .pointer (some ⟨gi, j, none⟩), .bool true, .bool false, .slice (some ⟨g, o, none⟩) l.length cap, .int .i64 (j : Nat), .func (.func 75) #[] #[.pointer (some ⟨wr2.heap.size + 1 + 1, 0, none⟩), .pointer (some ⟨wr2.heap.size + 1, 0, none⟩)], .int .i64 x.1.1, .int .i64 x.1.2, z61, z62, z63, z64, z65, z66, z67, z68, z69, z70, z71, z72, z73, z74, z75, z76, z77, z78, z79, z80, z81, z82, z83, z84, z85, z86, z87, z88, z89, z90, z91, z92, z93, z94, z95, z96, z97, z98, z99, z100, z101, z102, z103, z104, z105, z106, z107, z108, z109, z110, z111, z112, z113, z114, z115, z116, z117, z118], defers := [] }) ?assign ?body ?done ?stop
            case assign =>
              intro l' x W K hK
              gi_wp2
              exact hK
            case body =>
              rintro l' pre ⟨⟨tp, ey⟩, hx⟩ W hI _
              have hnx := (HN.out tp hx).1
              have hgt := succ_gt HM.out hx
              dsimp only at hnx hgt
              obtain ⟨q, hq⟩ : ∃ q : Nat, tp = q := ⟨tp.toNat, by omega⟩
              subst hq
              have hjq : j < q := by omega
              have hql : q < l.length := by omega
              obtain ⟨x, y, hoth, ca, cb, fa, fb, x0, x1, y0, y1, hstep⟩ := hI.read hjl
              have hst := hstep (x1 := ⟨((q : Int), ey), hx⟩) rfl hjq hql HG.out hne
              obtain ⟨caq, cbq⟩ := hoth q hql (by omega)
              have cf := cell_blk hI.fst 0
              have ff := frozen_blk hI.fst 0
              have c8 := cell_blk ((hI.upd.block b8 (by omega) (by omega)).trans HD.out.1) 0
              have c9 := cell_blk ((hI.upd.block b9 (by omega) (by omega)).trans HD.out.2.1) 0
              have cat := cell_blk ((hI.upd.block bat (by omega) (by omega)).trans HD.out.2.2) 0
              simp at cf c8 c9 cat
              have j0 : (0 : Int) ≤ (q : Int) := by omega
              have j1 : (q : Int) < (l.length : Int) := by omega
              have g0 := HG.out.a0 q hql
              have g1 := HG.out.a1 q (by omega) hql
              obtain ⟨ya, hya⟩ : ∃ ya, ya = xa.getD q 0 := ⟨_, rfl⟩
              obtain ⟨yb, hyb⟩ : ∃ yb, yb = xb.getD q 0 := ⟨_, rfl⟩
              rw [← hya] at caq g0 g1 hst
              rw [← hyb] at cbq g0 g1 hst
              have hmx : Try.prog.follows .mixedOrders = true := by kernel_rfl
              have HST := Lib.hid hst
              obtain ⟨nf1, nf2⟩ := hI.ne
              clear hoth hstep hst hya hyb
              have l3 : wr2.heap.size + 1 < W.heap.size := by have := hI.upd.size; omega
              have l5 : wr2.heap.size + 1 + 1 < W.heap.size := by have := hI.upd.size; omega
              have n3 : ¬ (wr2.heap.size + 1 = ga ∨ wr2.heap.size + 1 = gb ∨ wr2.heap.size + 1 = wr2.heap.size) := by omega
              have n5 : ¬ (wr2.heap.size + 1 + 1 = ga ∨ wr2.heap.size + 1 + 1 = gb ∨ wr2.heap.size + 1 + 1 = wr2.heap.size) := by omega
              clear hI
              -- SLOW {
              by_cases hp : pre = []
              · have HA := Lib.hid (HST.out.1 (.inl hp))
                subst hp
                have cf1 : W.cell? ⟨wr2.heap.size, 0, none⟩ = some (.bool true) := cf
                clear cf
                gi_wp2
                refine wpIn_quiet_r (by kernel_rfl) (by kernel_rfl) (by kernel_rfl) ?_
                repeat (gi_big_quiet_step (fail))
                refine wpQuietIn_nil ?_
                intro _ hw'
                obtain ⟨nq1, hw''⟩ := hw'
                subst hw''
                gi_wp2
                refine wpIn_tail_l [_, _, _, _, _, _, _] _ rfl (by kernel_rfl) (by kernel_rfl) (by kernel_rfl) (by kernel_rfl) (by kernel_rfl) (by kernel_rfl) rfl ?_
                repeat (gi_big_quiet_step (fail))
                refine wpQuietIn_nil ?_
                intro _ hw' K hK
                obtain ⟨nq2, hw''⟩ := hw'
                subst hw''
                gi_big_op
                refine hK _ _ ?_
                clear hK K
                gi_wp2
                refine wpIn_tail_l [_, _, _, _, _, _, _, _, _, _, _, _] _ rfl (by kernel_rfl) (by kernel_rfl) (by kernel_rfl) (by kernel_rfl) (by kernel_rfl) (by kernel_rfl) rfl ?_
                repeat (gi_big_quiet_step (fail))
                refine wpQuietIn_nil ?_
                intro _ hw' K hK
                obtain ⟨nq3, hw''⟩ := hw'
                subst hw''
                gi_big_op
                refine hK _ _ ?_
                clear hK K
                gi_wp2
                all_goals
                  first
                    | (have hm : max y yb = y := by omega
                       have h1 := HA.out
                       rw [hm] at h1
                       exact BoundI.fin1 h1 l3 l5 n3 n5 rfl rfl rfl rfl)
                    | (have hm : max y yb = yb := by omega
                       have h1 := HA.out
                       rw [hm] at h1
                       exact BoundI.fin1 h1 l3 l5 n3 n5 rfl rfl rfl rfl)
              · have hpe : pre.isEmpty = false := by simpa using hp
                rw [hpe] at cf
                clear hpe
                by_cases hlt : ya < x
                · have HA := Lib.hid (HST.out.1 (.inr hlt))
                  have hd : decide (ya < x) = true := by simpa using hlt
                  gi_wp2
                  refine wpIn_quiet_r (by kernel_rfl) (by kernel_rfl) (by kernel_rfl) ?_
                  repeat (gi_big_quiet_step (fail))
                  refine wpQuietIn_nil ?_
                  intro _ hw'
                  obtain ⟨nq1, hw''⟩ := hw'
                  subst hw''
                  gi_wp2
                  refine wpIn_tail_l [_, _, _, _, _, _, _] _ rfl (by kernel_rfl) (by kernel_rfl) (by kernel_rfl) (by kernel_rfl) (by kernel_rfl) (by kernel_rfl) rfl ?_
                  repeat (gi_big_quiet_step (fail))
                  refine wpQuietIn_nil ?_
                  intro _ hw' K hK
                  obtain ⟨nq2, hw''⟩ := hw'
                  subst hw''
                  gi_big_op
                  refine hK _ _ ?_
                  clear hK K
                  gi_wp2
                  refine wpIn_tail_l [_, _, _, _, _, _, _, _, _, _, _, _] _ rfl (by kernel_rfl) (by kernel_rfl) (by kernel_rfl) (by kernel_rfl) (by kernel_rfl) (by kernel_rfl) rfl ?_
                  repeat (gi_big_quiet_step (fail))
                  refine wpQuietIn_nil ?_
                  intro _ hw' K hK
                  obtain ⟨nq3, hw''⟩ := hw'
                  subst hw''
                  gi_big_op
                  refine hK _ _ ?_
                  clear hK K
                  gi_wp2
                  all_goals
                    first
                      | (have hm : max y yb = y := by omega
                         have h1 := HA.out
                         rw [hm] at h1
                         exact BoundI.fin1 h1 l3 l5 n3 n5 rfl rfl rfl rfl)
                      | (have hm : max y yb = yb := by omega
                         have h1 := HA.out
                         rw [hm] at h1
                         exact BoundI.fin1 h1 l3 l5 n3 n5 rfl rfl rfl rfl)
                · have HA := Lib.hid (HST.out.2 hp (by omega))
                  have hd : decide (ya < x) = false := by simpa using hlt
                  gi_wp2
                  refine wpIn_quiet_r (by kernel_rfl) (by kernel_rfl) (by kernel_rfl) ?_
                  repeat (gi_big_quiet_step (fail))
                  refine wpQuietIn_nil ?_
                  intro _ hw'
                  obtain ⟨nq1, hw''⟩ := hw'
                  subst hw''
                  gi_wp2
                  refine wpIn_tail_l [_, _, _, _, _, _, _, _, _, _, _, _] _ rfl (by kernel_rfl) (by kernel_rfl) (by kernel_rfl) (by kernel_rfl) (by kernel_rfl) (by kernel_rfl) rfl ?_
                  repeat (gi_big_quiet_step (fail))
                  refine wpQuietIn_nil ?_
                  intro _ hw' K hK
                  obtain ⟨nq3, hw''⟩ := hw'
                  subst hw''
                  gi_big_op
                  refine hK _ _ ?_
                  clear hK K
                  gi_wp2
                  all_goals
                    first
                      | (have hm : max y yb = y := by omega
                         have h1 := HA.out
                         rw [hm] at h1
                         exact BoundI.fin2 h1 l3 l5 n3 n5 rfl rfl rfl rfl)
                      | (have hm : max y yb = yb := by omega
                         have h1 := HA.out
                         rw [hm] at h1
                         exact BoundI.fin2 h1 l3 l5 n3 n5 rfl rfl rfl rfl)
              -- SLOW }
            case done =>
              rintro D xs W hD hall hI hK
              obtain ⟨xa', xb', r1, r2, a0, a1, b0, b1, hG2⟩ := hI.cost HG.out hjl HI.out HM.out (fun q hq => (HN.out q hq).1) hall
              have la : xa'.length = l.length := by have := r1.1; rw [ints_length] at this; omega
              have lb : xb'.length = l.length := by have := r2.1; rw [ints_length] at this; omega
              have ca : W.cell? ⟨ga, j, none⟩ = some (.int .i64 (xa'.getD j 0)) := by rw [r1.cellAt j (by omega)]; exact ints_get xa' j (by omega)
              have cb : W.cell? ⟨gb, j, none⟩ = some (.int .i64 (xb'.getD j 0)) := by rw [r2.cellAt j (by omega)]; exact ints_get xb' j (by omega)
              have fa : W.frozen? ⟨ga, j, none⟩ = false := r1.frozenAt j
              have fb : W.frozen? ⟨gb, j, none⟩ = false := r2.frozenAt j
              obtain ⟨xv, hxv⟩ : ∃ xv, xv = xa'.getD j 0 := ⟨_, rfl⟩
              obtain ⟨yv, hyv⟩ : ∃ yv, yv = xb'.getD j 0 := ⟨_, rfl⟩
              rw [← hxv] at ca a0 a1 hG2
              rw [← hyv] at cb b0 b1 hG2
              have c8 := cell_blk ((hI.upd.block b8 (by omega) (by omega)).trans HD.out.1) 0
              have c9 := cell_blk ((hI.upd.block b9 (by omega) (by omega)).trans HD.out.2.1) 0
              have cat := cell_blk ((hI.upd.block bat (by omega) (by omega)).trans HD.out.2.2) 0
              simp at c8 c9 cat
              have hWW : Below w.heap.size w W := (HWR.out.trans (B_S.out.mono HWR.out.size)).trans (hI.upd.below (Nat.le_trans HWR.out.size B_S.out.size) fun q e => by have := HWR.out.size; omega)
              obtain ⟨cop, _⟩ := HCL.out j hjl
              rw [← hWW.cell (p := ⟨g, o + j * 2, none⟩) hg, HI.out] at cop
              dsimp only at cop
              have cy := cyc_le op
              have hgW : g < W.heap.size := by have := hWW.size; omega
              have hWS : WS.heap.size ≤ W.heap.size := hI.upd.size
              have hmS : Marks w.heap.size ds WS := HR.out.marks.upd (F := fun _ => False) (Upd.of_below B_S.out) (fun _ _ _ _ => id)
              have hmW : Marks w.heap.size ds W := hmS.upd hI.upd (fun k o ho hc e => by
                rcases e with e | e | e
                · subst e
                  obtain ⟨ya, yb, q1, q2, _⟩ := HI0.out.rows
                  rw [own_cells q1 ho] at hc; cases hc
                · subst e
                  obtain ⟨ya, yb, q1, q2, _⟩ := HI0.out.rows
                  rw [own_cells q2 ho] at hc; cases hc
                · subst e
                  rw [HI0.out.fst] at ho; cases ho; cases hc)
              have hmD : Marks w.heap.size ({ target := .collected D, args := #[] } :: ds) W := hmW.cons hmS hD (by have := HWR.out.size; omega) hK
              have hup : Upd (fun q => q = ga ∨ q = gb) WB W := HR.out.upd.trans' ((Upd.of_below (F := fun q => q = ga ∨ q = gb ∨ q = wr2.heap.size) B_S.out).trans hI.upd) (fun q e => by
                rcases e with e | e | e
                · exact .inl (.inl e)
                · exact .inl (.inr e)
                · exact .inr (by omega))
              have fin : ∀ z : Int, z = (j : Int) - 1 → BoundW w WB l ga gb j W.heap.size ({ target := .collected D, args := #[] } :: ds) (((W.setCell ⟨ga, j, none⟩ (.int .i64 (xv + cyc op))).setCell ⟨gb, j, none⟩ (.int .i64 (yv + cyc op))).alloc (.cells #[.int .i64 z] 3)) := by
                intro z hz
                have u2 : Upd (fun q => q = ga ∨ q = gb) W (((W.setCell ⟨ga, j, none⟩ (.int .i64 (xv + cyc op))).setCell ⟨gb, j, none⟩ (.int .i64 (yv + cyc op))).alloc (.cells #[.int .i64 z] 3)) :=
                  (((Upd.refl (fun q => q = ga ∨ q = gb) W).setCell _ (.inl (.inl rfl)) _).setCell _ (.inl (.inr rfl)) _).alloc _
                refine ⟨hup.trans u2, ⟨z, hz, ?_⟩, by omega, ⟨xa'.set j (xv + cyc op), xb'.set j (yv + cyc op), (own_other (own_store r1) hne).alloc _, (own_store (own_other r2 (Ne.symm hne))).alloc _, hG2⟩, hmD.upd u2 (fun k o ho hc e => by
                  rcases e with e | e
                  · subst e; rw [own_cells r1 ho] at hc; cases hc
                  · subst e; rw [own_cells r2 ho] at hc; cases hc)⟩
                have := heap_alloc_new ((W.setCell ⟨ga, j, none⟩ (.int .i64 (xv + cyc op))).setCell ⟨gb, j, none⟩ (.int .i64 (yv + cyc op))) (.cells #[.int .i64 z] 3)
                rw [show ((W.setCell ⟨ga, j, none⟩ (.int .i64 (xv + cyc op))).setCell ⟨gb, j, none⟩ (.int .i64 (yv + cyc op))).heap.size = W.heap.size by simp [World.setCell]] at this
                exact this
              have FIN := Lib.hid fin
              have hgaW : ga < W.heap.size := by omega
              have hgbW : gb < W.heap.size := by omega
              have hbatW : bat < W.heap.size := by omega
              have h8W : b8 < W.heap.size := by omega
              have h9W : b9 < W.heap.size := by omega
              have hbag : bat ≠ ga := by omega
              have hbbg : bat ≠ gb := by omega
              clear hI hK hmS hmW hmD hup fin hG2 r1 r2 la lb hxv hyv hall hWW
              gi_wp2_with (refine ⟨trivial, ?_⟩; gi_at_call 34; refine (callsIn_wide.2 (cycles_c op _)).mono ?_; rintro e w' ⟨rfl, rfl⟩)
              refine ⟨⟨j, W.heap.size, _, _, _, _, _, _, _, _, _, _, _, _, _, _, _, _, _, _, _, _, _, _, _, _, _, _, _, _, _, _, _, _, _, _, _, _, _, _, _, _, _, _, _, _, _, _, _, _, _, _, _, _, _, _, _, _, _, _, _, _, _, _, _, _, _, _, _, _, _, _, _, _, _, _, _, _, _, _, _, _, _, _, _, _, _, _, _, _, _, _, _, _, _, _, _, _, _, _, _, _, _, _, _, _, _, _, _, _, _, _, _, _, _, _, _, rfl, by omega, FIN.out _ rfl⟩, ?_⟩
              obtain ⟨z, hz1, hz2⟩ := (FIN.out _ rfl).at_
              rw [atOf_eq rfl (cell_blk hz2 0), atOf_eq rfl (cell_blk HAT.out 0)]
              omega
            case stop =>
              rintro D c pre W _ _ h _
              exact h.elim

end Go.Proofs.Ytihajgmknhifiaa
