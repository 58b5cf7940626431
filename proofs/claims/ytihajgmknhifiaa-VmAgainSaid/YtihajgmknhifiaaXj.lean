/- What VmAgain's runs do, without memory; and the calls of Run by it. -/
import Derived.Test.YtihajgmknhifiaaXc
import Derived.Test.YtihajgmknhifiaaWn
namespace Go.Proofs.Ytihajgmknhifiaa
open Go.RowKit
set_option linter.unusedVariables false

/-- Where code has ended. -/
def AtEnd (l : List In) (H : Int → Int) (s : Vs) : Prop := s.ended = true → (insAt l s.at_).op = 23 ∧ (s.stack.length : Int) = H s.at_

structure Good (l : List In) (c : Cf) (H : Int → Int) (t s : Vs) : Prop where
  safe : Safe l c H s
  stop : AtEnd l H s
  ends : Ends s t

section
variable {l : List In} {c : Cf} {H : Int → Int}

theorem step_end (hl : l.length ≤ 4096) (hS : ∀ p : Int, 0 ≤ p → p < l.length → Sure l c H p) {s s' : Vs} {n : Int} (hs : Safe l c H s) (he : s.ended = false) (e1 : stepS s = some (n, s')) : AtEnd l H s' := by
  intro hend
  have su := hS s.at_ hs.a0 hs.a1
  have hh := hs.high he
  obtain ⟨d, s2, g1, r1, r2, r3, r4, r5, r6, r7, r8, r9, r10, r11⟩ := one_safe (i := insAt l s.at_) (s := s) su.may (by rw [hh]; exact su.low) (by rw [hs.slots]; exact su.slot) (by rw [hs.ins]; exact su.read) (by rw [hs.outs]; exact su.write)
  unfold stepS at e1
  rw [hs.code, if_pos ⟨⟨hs.a0, hs.a1⟩, hs.small⟩, g1] at e1
  dsimp only at e1
  cases e1
  have hend2 : s2.ended = true := hend
  rcases r1 with r1 | ⟨q1, q2, q3⟩
  · rw [r1, he] at hend2; cases hend2
  · subst q2
    have wa : wrap64 (s.at_ + 0) = s.at_ := by
      have := hs.a0; have := hs.a1
      rw [Int.add_zero]
      exact IntWalk.wrap64_in _ (by omega)
    show (insAt l (wrap64 (s.at_ + 0))).op = 23 ∧ (s2.stack.length : Int) = H (wrap64 (s.at_ + 0))
    rw [wa]
    refine ⟨q1, ?_⟩
    rw [r4, q1, hh]
    simp [gives, takes]

theorem run_end (hl : l.length ≤ 4096) (hc : mayC c = true) (hS : ∀ p : Int, 0 ≤ p → p < l.length → Sure l c H p) (b : Int) : ∀ (k : Nat) (sum sum' : Int) (s s' : Vs), runS k b sum s = some (sum', s') → Safe l c H s → AtEnd l H s → AtEnd l H s'
  | 0, sum, sum', s, s', h, hs, he => by simp [runS] at h
  | k + 1, sum, sum', s, s', h, hs, he => by
    unfold runS at h
    by_cases hg : sum < b ∧ s.ended = false
    · rw [if_pos hg] at h
      obtain ⟨s1, e1, h', _⟩ := insAt_step hl hc hS hs hg.2
      rw [e1] at h
      exact run_end hl hc hS b k _ _ _ _ h h' (step_end hl hS hs hg.2 e1)
    · rw [if_neg hg] at h
      cases h
      exact he

theorem run_step (hl : l.length ≤ 4096) (hc : mayC c = true) (hS : ∀ p : Int, 0 ≤ p → p < l.length → Sure l c H p) {s t : Vs} {b : Int} (h : Good l c H t s) (hb : 0 ≤ b) : ∃ s', Good l c H t s' ∧ RunTo b s s' := by
  cases he : s.ended with
  | true =>
    refine ⟨s, h, fun B W bb m hm hs => ?_⟩
    have he1 : m.ended = true := (congrArg Vs.ended hs).trans he
    refine (run_ended _ hm he1).mono ?_
    rintro e w' ⟨rfl, rfl⟩
    exact ⟨⟨_, rfl⟩, by rw [← hs]; exact RunQ.refl hm⟩
  | false =>
    obtain ⟨k, s1, e1, f1, f2, f3, f4⟩ := run_safe hl hc hS b l.length s 0 h.safe (Int.le_refl _) h.safe.sp0 (fun _ => by have := h.safe.a0; omega)
    refine ⟨s1, ⟨f1, run_end hl hc hS b _ _ _ _ _ e1 h.safe h.stop, run_ends b _ _ _ _ _ _ e1 h.ends⟩, fun B W bb m hm hs => ?_⟩
    have he1 : m.ended = false := (congrArg Vs.ended hs).trans he
    refine (run_c hm he1 hb (by rw [hs]; exact e1)).mono ?_
    rintro e w' ⟨rfl, q⟩
    exact ⟨⟨_, rfl⟩, q⟩

/-- A run to the end. -/
theorem run_all (hl : l.length ≤ 4096) (hc : mayC c = true) (hS : ∀ p : Int, 0 ≤ p → p < l.length → Sure l c H p) {s : Vs} (h : Safe l c H s) (he : s.ended = false) :
    ∃ k t, runS (k + 1) 1099511627776 0 s = some (t.spent - s.spent, t) ∧ Safe l c H t ∧ t.ended = true ∧ Ends s t := by
  obtain ⟨k, t, e1, f1, f2, f3, f4⟩ := run_safe hl hc hS 1099511627776 l.length s 0 h (Int.le_refl _) h.sp0 (fun _ => by have := h.a0; omega)
  have ht : t.ended = true := by
    rcases f2 with f2 | f2
    · exact f2
    · have := f1.sp2; have := f1.a1; have := h.sp0; omega
  rw [Int.zero_add] at e1
  exact ⟨k, t, e1, f1, ht, run_ends' _ _ _ _ _ _ e1 ht⟩

theorem run_last (hl : l.length ≤ 4096) (hc : mayC c = true) (hS : ∀ p : Int, 0 ≤ p → p < l.length → Sure l c H p) {s t : Vs} (h : Good l c H t s) : RunTo 1099511627776 s t := by
  cases he : s.ended with
  | true =>
    have hst : s = t := Ends.det (.stop he) h.ends
    subst hst
    intro B W bb m hm hs
    have he1 : m.ended = true := (congrArg Vs.ended hs).trans he
    refine (run_ended _ hm he1).mono ?_
    rintro e w' ⟨rfl, rfl⟩
    exact ⟨⟨_, rfl⟩, by rw [← hs]; exact RunQ.refl hm⟩
  | false =>
    obtain ⟨k, t', e1, f1, f2, f3⟩ := run_all hl hc hS h.safe he
    have hst : t' = t := Ends.det f3 h.ends
    subst hst
    intro B W bb m hm hs
    have he1 : m.ended = false := (congrArg Vs.ended hs).trans he
    refine (run_c hm he1 (by decide) (by rw [hs]; exact e1)).mono ?_
    rintro e w' ⟨rfl, q⟩
    exact ⟨⟨_, rfl⟩, q⟩

/-- The first run, to the end: what it answers. -/
def RunFull (s t : Vs) : Prop := ∀ (B : Nat) (W : World) (b : Nat) (m : Vm), VmAt B W b m → m.s = s →
  Calls Try.prog 18 #[.pointer (some ⟨b, 0, none⟩), .int .i64 1099511627776] W fun e w' => e = .returned (.tuple #[.int .i64 t.spent, .bool true, .int .i64 0]) ∧ RunQ B W b m t w'

theorem high_bd (hv : (verM l c).2 = 0) (hS : ∀ p : Int, 0 ≤ p → p < l.length → Sure l c H p) (h0 : H 0 = 0) (p : Int) (p0 : 0 ≤ p) (p1 : p < l.length) : 0 ≤ H p ∧ H p ≤ 1000 := by
  have hm := mayC_bd (verM_ok hv).1
  have su := hS p p0 p1
  have t0 := takes_bd (insAt l p).op
  refine ⟨by have := su.low; omega, ?_⟩
  rcases ver_come hv p p0 p1 with rfl | ⟨q, q0, q1, hq⟩
  · omega
  · have sq := hS q q0 (by omega)
    have := (sq.next p hq).2
    have := sq.high
    omega

theorem again_pure {ins : List Int} (hv : (verM l c).2 = 0) (hr : (ins.length : Int) = c.reads) :
    ∃ (H : Int → Int) (t : Vs), (∀ p : Int, 0 ≤ p → p < l.length → Sure l c H p) ∧ H 0 = 0 ∧ (∀ p : Int, 0 ≤ p → p < l.length → 0 ≤ H p ∧ H p ≤ 1000) ∧ Good l c H t (newS l c ins) ∧ RunFull (newS l c ins) t ∧ Safe l c H t ∧ t.ended = true ∧ Cost l 0 t.spent := by
  obtain ⟨hm, h1, h2, h3⟩ := verM_ok hv
  obtain ⟨H, hS, hs⟩ := new_safe hv hr
  have h0 : H 0 = 0 := by
    have := hs.high rfl
    exact this.symm
  obtain ⟨k, t, e1, f1, f2, f3⟩ := run_all h1 hm hS hs rfl
  have e1' : runS (k + 1) 1099511627776 0 (newS l c ins) = some (t.spent, t) := by
    rw [e1]
    show some (t.spent - 0, t) = _
    rw [Int.sub_zero]
  have hcost := (ends_cost h1 hm hS f3 hs rfl).1
  have hcost' : Cost l 0 t.spent := by
    have e : t.spent - (newS l c ins).spent = t.spent := Int.sub_zero _
    rw [e] at hcost
    exact hcost
  refine ⟨H, t, hS, h0, high_bd hv hS h0, ⟨hs, fun h => (by cases h), f3⟩, fun B W b m hm' hs' => ?_, f1, f2, hcost'⟩
  have he1 : m.ended = false := congrArg Vs.ended hs'
  refine (run_c hm' he1 (by decide) (by rw [hs']; exact e1')).mono ?_
  rintro e w' ⟨rfl, q⟩
  exact ⟨by rw [f2], q⟩
end

end Go.Proofs.Ytihajgmknhifiaa
