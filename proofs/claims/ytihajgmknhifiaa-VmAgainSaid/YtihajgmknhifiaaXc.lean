/- Verified code has no dead place; what its runs may cost. No program in sight. -/
import Derived.Test.YtihajgmknhifiaaWb
namespace Go.Proofs.Ytihajgmknhifiaa
open Go.RowKit
set_option linter.unusedVariables false

def Key (M : List (Int × St)) (q : Int) : Prop := findS M q ≠ none

theorem key_set {M : List (Int × St)} {k q : Int} {s : St} (h : Key (setS M k s) q) : Key M q := by
  intro e
  apply h
  rw [findS_set, e]
  rfl

theorem key_goes {M : List (Int × St)} {s : St} {n t e q : Int} (h : Key (goesM M s n t e).2 q) : Key M q ∨ q = t := by
  unfold goesM at h
  by_cases h1 : n ≤ t
  · rw [if_pos h1] at h; exact .inl h
  · rw [if_neg h1] at h
    cases hf : findS M t with
    | none =>
      rw [hf] at h
      dsimp only at h
      by_cases hq : q = t
      · exact .inr hq
      · refine .inl fun hm => h ?_
        unfold findS at *
        rw [List.find?_append, hm]
        have : (t == q) = false := by simp; omega
        simp [this]
    | some y =>
      rw [hf] at h
      unfold meetG at h
      dsimp only at h
      split at h
      · exact .inl (key_set h)
      · exact .inl h

theorem key_follows {M : List (Int × St)} {s : St} {n : Int} {i : In} {a q : Int} (h : Key (followsM M s n i a).2 q) : Key M q ∨ Succ i a q := by
  unfold followsM at h
  by_cases e23 : i.op = 23
  · rw [if_pos e23] at h; exact .inl h
  rw [if_neg e23] at h
  by_cases e21 : i.op = 21
  · rw [if_pos e21] at h
    rcases key_goes h with h | h
    · exact .inl h
    · exact .inr (.inr ⟨.inl e21, h⟩)
  rw [if_neg e21] at h
  by_cases e : i.op ≠ 22 ∨ (goesM M s n (a + 1) 195).1 ≠ 0
  · rw [if_pos e] at h
    rcases key_goes h with h | h
    · exact .inl h
    · exact .inr (.inl ⟨e23, e21, h⟩)
  · rw [if_neg e] at h
    have e22 : i.op = 22 := by
      by_cases x : i.op = 22
      · exact x
      · exact absurd (.inl x) e
    rcases key_goes h with h | h
    · rcases key_goes h with h | h
      · exact .inl h
      · exact .inr (.inl ⟨e23, e21, h⟩)
    · exact .inr (.inr ⟨.inr e22, h⟩)

/-- Somebody goes to q. -/
def Come (l : List In) (q : Int) : Prop := q = 0 ∨ ∃ p : Int, 0 ≤ p ∧ p < q ∧ Succ (insAt l p) p q

theorem verR_come (l : List In) (c : Cf) : ∀ (k at_ : Nat) (most : Int) (M : List (Int × St)), at_ + k = l.length → (verR l c k at_ most M).2 = 0 → (∀ q, Key M q → Come l q) →
    ∀ q : Int, (at_ : Int) ≤ q → q < l.length → Come l q
  | 0, at_, most, M, hk, h, hM, q, h1, h2 => by omega
  | k + 1, at_, most, M, hk, h, hM, q, h1, h2 => by
    unfold verR at h
    cases hf : findS M at_ with
    | none => rw [hf] at h; simp at h
    | some y =>
      by_cases hq : q = at_
      · exact hM q (by rw [hq]; intro e; rw [hf] at e; cases e)
      rw [hf] at h
      dsimp only at h
      by_cases hc : (checksM (insAt l at_) c y.2).1 ≠ 0
      · rw [if_pos hc] at h; exact absurd h hc
      rw [if_neg hc] at h
      have hc' : (checksM (insAt l at_) c y.2).1 = 0 := by simpa using hc
      obtain ⟨a1, a2, a3, a4, a5⟩ := checksM_high hc'
      by_cases hg : (followsM (setS M at_ (checksM (insAt l at_) c y.2).2) (checksM (insAt l at_) c y.2).2 l.length (insAt l at_) at_).1 ≠ 0
      · rw [if_pos hg] at h; exact absurd h hg
      rw [if_neg hg] at h
      refine verR_come l c k (at_ + 1) _ _ (by omega) h ?_ q (by omega) h2
      intro j hj
      have hj' : Key (followsM (setS M at_ (checksM (insAt l at_) c y.2).2) (checksM (insAt l at_) c y.2).2 l.length (insAt l at_) at_).2 j := by
        intro e
        apply hj
        unfold findS at *
        rw [List.find?_eq_none] at e ⊢
        intro x hx
        exact e x (List.mem_filter.1 hx).1
      rcases key_follows hj' with hj' | hj'
      · exact hM j (key_set hj')
      · exact .inr ⟨at_, by omega, succ_gt a5 hj', hj'⟩

theorem ver_come {l : List In} {c : Cf} (hv : (verM l c).2 = 0) (q : Int) (h0 : 0 ≤ q) (h1 : q < l.length) : Come l q := by
  obtain ⟨hm, _, _, h3⟩ := verM_ok hv
  rw [← h3] at hv
  refine verR_come l c l.length 0 0 _ (by omega) hv ?_ q (by simpa using h0) h1
  intro j hj
  left
  by_cases e : j = 0
  · exact e
  · exact absurd (by unfold findS; simp; omega) hj

/-- What a path from p to an end may cost. -/
inductive Cost (l : List In) : Int → Int → Prop
  | stop {p : Int} (h : (insAt l p).op = 23) : Cost l p (cyc 23)
  | go {p q t : Int} (h : Succ (insAt l p) p q) (k : Cost l q t) : Cost l p (cyc (insAt l p).op + t)

/-- From a state to the end, step by step. -/
inductive Ends : Vs → Vs → Prop
  | stop {s : Vs} (h : s.ended = true) : Ends s s
  | step {s s' t : Vs} {n : Int} (h : s.ended = false) (e : stepS s = some (n, s')) (k : Ends s' t) : Ends s t

theorem Ends.det {s t : Vs} (h : Ends s t) : ∀ {t' : Vs}, Ends s t' → t = t' := by
  induction h with
  | stop h =>
    intro t' k
    cases k with
    | stop _ => rfl
    | step h' _ _ => rw [h] at h'; cases h'
  | step h e _ ih =>
    intro t' k
    cases k with
    | stop h' => rw [h] at h'; cases h'
    | step _ e' k' =>
      rw [e] at e'
      cases e'
      exact ih k'
theorem Ends.ended {s t : Vs} (h : Ends s t) : t.ended = true := by
  induction h with
  | stop h => exact h
  | step _ _ _ ih => exact ih

/-- A run does not change where it ends. -/
theorem run_ends (b : Int) : ∀ (k : Nat) (sum sum' : Int) (s s' t : Vs), runS k b sum s = some (sum', s') → Ends s t → Ends s' t
  | 0, sum, sum', s, s', t, h, e => by simp [runS] at h
  | k + 1, sum, sum', s, s', t, h, e => by
    unfold runS at h
    by_cases hc : sum < b ∧ s.ended = false
    · rw [if_pos hc] at h
      cases e with
      | stop h' => rw [h'] at hc; simp at hc
      | step _ e1 k1 =>
        rw [e1] at h
        exact run_ends b k _ _ _ _ _ h k1
    · rw [if_neg hc] at h
      cases h
      exact e
theorem run_ends' (b : Int) : ∀ (k : Nat) (sum sum' : Int) (s s' : Vs), runS k b sum s = some (sum', s') → s'.ended = true → Ends s s'
  | 0, sum, sum', s, s', h, e => by simp [runS] at h
  | k + 1, sum, sum', s, s', h, e => by
    unfold runS at h
    by_cases hc : sum < b ∧ s.ended = false
    · rw [if_pos hc] at h
      cases hs : stepS s with
      | none => rw [hs] at h; cases h
      | some r =>
        obtain ⟨n, s1⟩ := r
        rw [hs] at h
        exact .step hc.2 hs (run_ends' b k _ _ _ _ h e)
    · rw [if_neg hc] at h
      cases h
      exact .stop e

/-- What sure code costs is what a path costs. -/
theorem ends_cost {l : List In} {c : Cf} {H : Int → Int} (hl : l.length ≤ 4096) (hc : mayC c = true) (hS : ∀ p : Int, 0 ≤ p → p < l.length → Sure l c H p) {s t : Vs} (h : Ends s t) :
    Safe l c H s → s.ended = false → Cost l s.at_ (t.spent - s.spent) ∧ s.spent ≤ t.spent := by
  induction h with
  | stop h => intro _ h'; rw [h] at h'; cases h'
  | step he e k ih =>
    rename_i s s' t n
    intro hs _
    obtain ⟨s1, e1, h', f1, f2, f3, f4⟩ := insAt_step hl hc hS hs he
    rw [e1] at e
    cases e
    have cy := cyc_le (insAt l s.at_).op
    by_cases hend : s'.ended = true
    · have ht : t = s' := (Ends.det k (.stop hend))
      subst ht
      have hop : (insAt l s.at_).op = 23 := by
        have su := hS s.at_ hs.a0 hs.a1
        have hh := hs.high he
        obtain ⟨d, s2, g1, r1, r2, r3, _⟩ := one_safe (i := insAt l s.at_) (s := s) su.may (by rw [hh]; exact su.low) (by rw [hs.slots]; exact su.slot) (by rw [hs.ins]; exact su.read) (by rw [hs.outs]; exact su.write)
        rcases r1 with r1 | r1
        · unfold stepS at e1
          rw [hs.code, if_pos ⟨⟨hs.a0, hs.a1⟩, hs.small⟩, g1] at e1
          dsimp only at e1
          cases e1
          have : s2.ended = true := hend
          rw [r1, he] at this
          cases this
        · exact r1.1
      refine ⟨?_, by omega⟩
      have : t.spent - s.spent = cyc 23 := by rw [f2, hop]; omega
      rw [this]
      exact .stop hop
    · have hend' : s'.ended = false := by simpa using hend
      obtain ⟨c1, c2⟩ := ih h' hend'
      refine ⟨?_, by omega⟩
      have hsucc : Succ (insAt l s.at_) s.at_ s'.at_ := by
        have su := hS s.at_ hs.a0 hs.a1
        have hh := hs.high he
        obtain ⟨d, s2, g1, r1, r2, r3, r4, r5, r6, r7, r8, r9, r10, r11⟩ := one_safe (i := insAt l s.at_) (s := s) su.may (by rw [hh]; exact su.low) (by rw [hs.slots]; exact su.slot) (by rw [hs.ins]; exact su.read) (by rw [hs.outs]; exact su.write)
        unfold stepS at e1
        rw [hs.code, if_pos ⟨⟨hs.a0, hs.a1⟩, hs.small⟩, g1] at e1
        dsimp only at e1
        cases e1
        have e23 : (insAt l s.at_).op ≠ 23 := fun x => by
          have : s2.ended = false := hend'
          rw [(r2 x).1] at this
          cases this
        have sc := r3 e23
        have gt := succ_gt su.may sc
        obtain ⟨n1, n2⟩ := su.next _ sc
        have wa : wrap64 (s.at_ + d) = s.at_ + d := by
          have := hs.a0
          exact IntWalk.wrap64_in _ (by omega)
        show Succ _ _ (wrap64 (s.at_ + d))
        rw [wa]
        exact sc
      have : t.spent - s.spent = cyc (insAt l s.at_).op + (t.spent - s'.spent) := by omega
      rw [this]
      exact .go hsucc c1

end Go.Proofs.Ytihajgmknhifiaa
