/- The calls of verify's checks and meet, whole. -/
import Derived.Test.YtihajgmknhifiaaVi2
namespace Go.Proofs.Ytihajgmknhifiaa
open Go.RowKit
set_option linter.unusedVariables false

theorem ChkQ.err {w w' : World} {b : Nat} {n : Int} {s s' : St} (h : ChkQ w b (n, s) w') (hn : n ≠ 0) : ChkQ w b (n, s') w' := ⟨h.upd, fun e => absurd e hn⟩

theorem mayI_slot {op arg : Int} (h : mayI ⟨op, arg⟩ = true) (ho : op = 2 ∨ op = 3) : 0 ≤ arg ∧ arg < 512 := by
  unfold mayI at h
  dsimp only at h
  rw [if_pos ho] at h
  simp at h
  exact h.2
theorem mayI_port {op arg : Int} (h : mayI ⟨op, arg⟩ = true) (ho : op = 4 ∨ op = 5) : 0 ≤ arg ∧ arg < 64 := by
  unfold mayI at h
  dsimp only at h
  rw [if_neg (by omega), if_pos ho] at h
  simp at h
  exact h.2
theorem mayI_jump {op arg : Int} (h : mayI ⟨op, arg⟩ = true) (ho : op = 21 ∨ op = 22) : 1 ≤ arg ∧ arg ≤ 4096 := by
  unfold mayI at h
  dsimp only at h
  rw [if_neg (by omega), if_neg (by omega), if_pos ho] at h
  simp at h
  exact h.2
theorem mayI_op {op arg : Int} (h : mayI ⟨op, arg⟩ = true) : 1 ≤ op ∧ op ≤ 23 := by
  unfold mayI opIs at h
  simp at h
  exact h.1.1
theorem mayC_bd {c : Cf} (h : mayC c = true) : 0 ≤ c.slots ∧ c.slots ≤ 512 ∧ 0 ≤ c.reads ∧ c.reads ≤ 64 ∧ 0 ≤ c.writes ∧ c.writes ≤ 64 ∧ 1 ≤ c.stack ∧ c.stack ≤ 256 := by
  unfold mayC within at h
  simp at h
  omega

/-- WHAT AN INSTRUCTION ASKS OF THE STATE: 'checks' does what 'checksM' tells. -/
theorem checks_c {w : World} {b : Nat} {s : St} {c : Cf} {op arg : Int} (h : StAt w b s) (hc : mayC c = true) (h0 : 0 ≤ s.high) (h1 : s.high ≤ 1000) :
    Calls Try.prog 50 #[.pointer (some ⟨b, 0, none⟩), .agg #[.int .u8 op, .int .i64 arg], c.val] w fun e w' => e = .returned (.int .i64 (checksM ⟨op, arg⟩ c s).1) ∧ ChkQ w b (checksM ⟨op, arg⟩ c s) w' := by
  have hb := mayC_bd hc
  unfold checksM
  cases hm : mayI ⟨op, arg⟩ with
  | false => rw [if_pos rfl]; exact chk_op h hm
  | true =>
    rw [if_neg (by simp)]
    dsimp only
    by_cases hu : s.high < takes op
    · rw [if_pos (.inl hu)]; exact chk_under h hm h0 h1 (by omega) (by omega) hu
    by_cases ho : c.stack < s.high - takes op + gives op
    · rw [if_pos (.inr ho)]; exact chk_over h hm h0 h1 (by omega) (by omega) (by omega) ho
    rw [if_neg (by omega)]
    by_cases e2 : op = 2
    · subst e2
      rw [if_pos rfl]
      have ha := mayI_slot hm (.inl rfl)
      by_cases hs : c.slots ≤ arg
      · rw [if_pos (.inl hs)]
        exact (chk2_bad1 h hm h0 h1 (by omega) (by omega) (by omega) (by omega) ha.1 ha.2 hs).mono fun e w' q => ⟨q.1, q.2.err (by decide)⟩
      · by_cases hbit : andU (wd s (arg / 64)) (bitOf (arg % 64)) = 0
        · rw [if_pos (.inr hbit)]
          exact (chk2_bad2 h hm h0 h1 (by omega) (by omega) (by omega) (by omega) ha.1 ha.2 (by omega) (beq_iff_eq.2 hbit)).mono fun e w' q => ⟨q.1, q.2.err (by decide)⟩
        · rw [if_neg (by rintro (h | h); exact hs h; exact hbit h)]
          exact chk2_ok h hm h0 h1 (by omega) (by omega) (by omega) (by omega) ha.1 ha.2 (by omega) (beq_eq_false_iff_ne.2 hbit)
    rw [if_neg e2]
    by_cases e3 : op = 3
    · subst e3
      rw [if_pos rfl]
      have ha := mayI_slot hm (.inr rfl)
      by_cases hs : c.slots ≤ arg
      · rw [if_pos hs]
        exact (chk3_bad h hm h0 h1 (by omega) (by omega) (by omega) (by omega) ha.1 ha.2 hs).mono fun e w' q => ⟨q.1, q.2.err (by decide)⟩
      · rw [if_neg hs]
        exact chk3_ok h hm h0 h1 (by omega) (by omega) (by omega) (by omega) ha.1 ha.2 (by omega)
    rw [if_neg e3]
    by_cases e4 : op = 4
    · subst e4
      rw [if_pos rfl]
      by_cases hs : c.reads ≤ arg
      · rw [if_pos hs]
        exact (chk4_bad h hm h0 h1 (by omega) (by omega) (by omega) (by omega) hs).mono fun e w' q => ⟨q.1, q.2.err (by decide)⟩
      · rw [if_neg hs]
        exact chk4_ok h hm h0 h1 (by omega) (by omega) (by omega) (by omega) (by omega)
    rw [if_neg e4]
    by_cases e5 : op = 5
    · subst e5
      rw [if_pos rfl]
      have ha := mayI_port hm (.inr rfl)
      by_cases hs : c.writes ≤ arg
      · rw [if_pos (.inl hs)]
        exact (chk5_bad1 h hm h0 h1 (by omega) (by omega) (by omega) (by omega) ha.1 ha.2 hs).mono fun e w' q => ⟨q.1, q.2.err (by decide)⟩
      · by_cases hbit : andU s.wrote (bitOf arg) = 0
        · rw [if_neg (by rintro (h | h); exact hs h; exact h hbit)]
          exact chk5_ok h hm h0 h1 (by omega) (by omega) (by omega) (by omega) ha.1 ha.2 (by omega) (bne_eq_false_iff_eq.2 hbit)
        · rw [if_pos (.inr hbit)]
          exact (chk5_bad2 h hm h0 h1 (by omega) (by omega) (by omega) (by omega) ha.1 ha.2 (by omega) (bne_iff_ne.2 hbit)).mono fun e w' q => ⟨q.1, q.2.err (by decide)⟩
    rw [if_neg e5]
    by_cases e23 : op = 23
    · subst e23
      rw [if_pos rfl]
      by_cases hz : 0 < s.high + (gives 23 - takes 23)
      · rw [if_pos hz]
        exact (chk23_bad1 h hm h0 h1 (by omega) (by omega) (by omega) (by omega) hz).mono fun e w' q => ⟨q.1, q.2.err (by decide)⟩
      rw [if_neg hz]
      by_cases hbit : s.wrote = allBits c.writes
      · rw [if_neg (by simpa using hbit)]
        exact chk23_ok h hm h0 h1 (by omega) (by omega) (by omega) (by omega) (by omega) (by omega) (by omega) (bne_eq_false_iff_eq.2 hbit)
      · rw [if_pos hbit]
        exact (chk23_bad2 h hm h0 h1 (by omega) (by omega) (by omega) (by omega) (by omega) (by omega) (by omega) (bne_iff_ne.2 hbit)).mono fun e w' q => ⟨q.1, q.2.err (by decide)⟩
    rw [if_neg e23]
    exact chkN_ok h hm h0 h1 (by omega) (by omega) (by omega) (by omega) e2 e3 e4 e5 e23

/-- Two states, at one instruction. -/
def meetM (s t : St) : Int × St :=
  if s.high ≠ t.high then (191, s) else if s.wrote ≠ t.wrote then (193, s) else (0, { s with has := List.zipWith andU s.has t.has })

def St.val (s : St) : Value := .agg s.cells

/-- After k rounds. -/
def meetTo (s t : St) (k : Nat) : St := { s with has := List.zipWith andU (s.has.take k) (t.has.take k) ++ s.has.drop k }

def MeetRel (w : World) (b : Nat) (s t : St) (k : Nat) (v : Value) (wr : World) : Prop :=
  ∃ j : Nat, j + k = 8 ∧ v = .int .i64 j ∧ Upd (fun i => i = b) w wr ∧ StAt wr b (meetTo s t j) ∧ StAt wr w.heap.size t

theorem meetTo_zero (s t : St) : meetTo s t 0 = s := by simp [meetTo]
theorem meetTo_len {s t : St} (hs : s.has.length = 8) (ht : t.has.length = 8) (j : Nat) : (meetTo s t j).has.length = 8 := by
  simp [meetTo, List.length_zipWith, hs, ht]
  omega
theorem meetTo_wd {s t : St} (hs : s.has.length = 8) (ht : t.has.length = 8) (j : Nat) (hj : j < 8) : wd (meetTo s t j) j = wd s j := by
  unfold wd meetTo
  dsimp only
  rw [List.getD_eq_getElem?_getD, List.getD_eq_getElem?_getD, List.getElem?_append_right (by simp [List.length_zipWith, hs, ht]; omega)]
  congr 1
  simp only [List.length_zipWith, List.length_take, hs, ht, List.getElem?_drop, Int.toNat_natCast]
  congr 1
  omega
theorem meetTo_succ {s t : St} (hs : s.has.length = 8) (ht : t.has.length = 8) (j : Nat) (hj : j < 8) : meetTo s t (j + 1) = { meetTo s t j with has := (meetTo s t j).has.set j (andU (wd s j) (wd t j)) } := by
  unfold meetTo
  dsimp only
  congr 1
  have a1 : (List.zipWith andU (s.has.take j) (t.has.take j)).length = j := by simp [List.length_zipWith, hs, ht]; omega
  apply List.ext_getElem?
  intro i
  rw [List.getElem?_set]
  by_cases hi : i < j
  · rw [if_neg (by omega), List.getElem?_append_left (by simp [List.length_zipWith, hs, ht]; omega), List.getElem?_append_left (by omega)]
    simp only [List.getElem?_zipWith, List.getElem?_take]
    rw [if_pos (by omega), if_pos hi, if_pos (by omega), if_pos hi]
  · by_cases hij : i = j
    · subst hij
      have h1 : i < s.has.length := by omega
      have h2 : i < t.has.length := by omega
      rw [if_pos rfl, if_pos (by simp [List.length_zipWith, hs, ht]; omega), List.getElem?_append_left (by simp [List.length_zipWith, hs, ht]; omega)]
      simp [wd, List.getElem?_zipWith, h1, h2]
    · rw [if_neg (by omega), List.getElem?_append_right (by simp [List.length_zipWith, hs, ht]; omega), List.getElem?_append_right (by omega)]
      simp only [List.getElem?_drop]
      congr 1
      rw [a1]
      simp [List.length_zipWith, hs, ht]
      omega
theorem meetTo_eight {s t : St} (hs : s.has.length = 8) (ht : t.has.length = 8) : meetTo s t 8 = { s with has := List.zipWith andU s.has t.has } := by
  unfold meetTo
  rw [List.take_of_length_le (by omega), List.take_of_length_le (by omega), List.drop_of_length_le (by omega), List.append_nil]

set_option maxHeartbeats 4000000 in
set_option maxRecDepth 8000 in
theorem meet_c {w : World} {b : Nat} {s t : St} (h : StAt w b s) (ht : t.has.length = 8) :
    Calls Try.prog 49 #[.pointer (some ⟨b, 0, none⟩), t.val] w fun e w' => e = .returned (.int .i64 (meetM s t).1) ∧ ChkQ w b (meetM s t) w' := by
  have hw : StAt (w.alloc (.cells t.cells 98)) w.heap.size t := ⟨by show (w.heap.push _)[_]? = _; simp, ht⟩
  have e0 := h.c0
  have e9 := h.c9
  have hlt := h.lt
  have d0 := hw.c0
  have d9 := hw.c9
  have H := Lib.hid h
  have HW := Lib.hid hw
  clear h hw
  unfold St.val
  by_cases hh : s.high = t.high
  · have hh' : (s.high != t.high) = false := bne_eq_false_iff_eq.2 hh
    by_cases hwr : s.wrote = t.wrote
    · have hwr' : (s.wrote != t.wrote) = false := bne_eq_false_iff_eq.2 hwr
      have e : (meetM s t) = (0, meetTo s t 8) := by unfold meetM; rw [if_neg (by simpa using hh), if_neg (by simpa using hwr), meetTo_eight H.out.len ht]
      rw [e]
      have HT := Lib.hid ht
      clear hh hwr e ht
      go_enter Try.func49, Try.ntmps49
      go_wp2_with fail
      go_quiet (fail)
      go_wp2_with fail
      go_quiet (fail)
      go_wp2_with fail
      go_loopg [22] 8 (fun k v wr => MeetRel w b s t k v wr)
      case atStart => exact ⟨0, rfl, rfl, (((Upd.refl _ _).alloc _).drewN _).drewN _, by rw [meetTo_zero]; exact ((H.out.alloc _).drewN _).drewN _, (HW.out.drewN _).drewN _⟩
      case round =>
        obtain ⟨j, hj, hv, hu, hs1, ht1⟩ := hrel
        subst hv
        clear e0 e9 d0 d9
        cases gk with
        | zero =>
          obtain rfl : j = 8 := by omega
          have HU := Lib.hid hu
          have HS := Lib.hid hs1
          clear hu hs1 ht1
          go_wp2
          go_ret
          exact ⟨rfl, HU.out, fun _ => HS.out⟩
        | succ k =>
          have hj8 : j < 8 := by omega
          have c1 := hs1.ck (j : Int) (by omega) (by omega)
          have c2 := ht1.ck (j : Int) (by omega) (by omega)
          rw [meetTo_wd H.out.len HT.out j hj8] at c1
          rw [Int.toNat_natCast] at c1 c2
          have f1 := hs1.fz (1 + j)
          have hb1 := hs1.lt
          have hb2 := ht1.lt
          have HU := Lib.hid hu
          have HS := Lib.hid hs1
          have HT1 := Lib.hid ht1
          clear hu hs1 ht1
          go_wp2_with fail
          go_region
          go_wp2_with fail
          go_roundg k
          case measure => omega
          case rel =>
            have g1 := HS.out.setHas (j : Int) (by omega) (by omega) (andU (wd s j) (wd t j))
            rw [Int.toNat_natCast, ← meetTo_succ H.out.len HT.out j hj8] at g1
            have hne : w.heap.size ≠ b := by have := H.out.lt; omega
            exact ⟨j + 1, by omega, by go_num, (HU.out.setCell ⟨b, 1 + j, none⟩ (.inl rfl) _).drew, g1.drew, ((HT1.out.upd (F := fun k => k = b) (Upd.setCell (F := fun k => k = b) (Upd.refl _ _) ⟨b, 1 + j, none⟩ (.inl rfl) _) hne)).drew⟩
    · have hwr' : (s.wrote != t.wrote) = true := bne_iff_ne.2 hwr
      have e : (meetM s t) = (193, s) := by unfold meetM; rw [if_neg (by simpa using hh), if_pos hwr]
      rw [e]
      clear hh hwr e
      go_enter Try.func49, Try.ntmps49
      go_wp2_with fail
      go_quiet (fail)
      go_wp2_with fail
      go_quiet (fail)
      go_wp2
      go_ret
      exact ⟨rfl, (((Upd.refl _ _).alloc _).drewN _).drewN _, fun e => by simp at e⟩
  · have hh' : (s.high != t.high) = true := bne_iff_ne.2 hh
    have e : (meetM s t) = (191, s) := by unfold meetM; rw [if_pos hh]
    rw [e]
    clear hh e
    go_enter Try.func49, Try.ntmps49
    go_wp2_with fail
    go_quiet (fail)
    go_wp2
    go_ret
    exact ⟨rfl, ((Upd.refl _ _).alloc _).drewN _, fun e => by simp at e⟩

end Go.Proofs.Ytihajgmknhifiaa
