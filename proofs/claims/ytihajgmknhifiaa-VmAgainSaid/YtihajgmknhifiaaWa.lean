/- What verified code may do: heights of the stack at each place, told by what Verify reckons. No program in sight. -/
import Derived.Test.YtihajgmknhifiaaVn
namespace Go.Proofs.Ytihajgmknhifiaa
open Go.RowKit
set_option linter.unusedVariables false

def hgt (M : List (Int × St)) (k : Int) : Option Int := (findS M k).map fun x => x.2.high

theorem find_map_same {f : Int × St → Int × St} (hf : ∀ x, (f x).1 = x.1) (k : Int) : ∀ M : List (Int × St), findS (M.map f) k = (findS M k).map f
  | [] => rfl
  | x :: M => by
    have ih := find_map_same hf k M
    unfold findS at *
    rw [List.map_cons, List.find?_cons, List.find?_cons, hf]
    cases x.1 == k
    · exact ih
    · rfl

theorem findS_set (M : List (Int × St)) (k j : Int) (s : St) : findS (setS M k s) j = (findS M j).map fun x => if x.1 == k then (x.1, s) else x := by
  unfold setS
  exact find_map_same (f := fun x => if x.1 == k then (x.1, s) else x) (fun x => by split <;> rfl) j M

theorem hgt_set_other {M : List (Int × St)} {k j : Int} {s : St} (h : j ≠ k) : hgt (setS M k s) j = hgt M j := by
  unfold hgt
  rw [findS_set]
  cases hf : findS M j with
  | none => rfl
  | some y =>
    have := (findS_mem hf).2
    have e : ¬ y.1 = k := by rw [this]; exact h
    simp [e]

theorem hgt_set_same {M : List (Int × St)} {k : Int} {s : St} {y : Int × St} (h : findS M k = some y) : hgt (setS M k s) k = some s.high := by
  unfold hgt
  rw [findS_set, h]
  have e : y.1 = k := (findS_mem h).2
  simp [e]

theorem findS_filter {M : List (Int × St)} {a k : Int} (h : k ≠ a) : findS (M.filter fun x => x.1 != a) k = findS M k := by
  unfold findS
  induction M with
  | nil => rfl
  | cons x M ih =>
    by_cases e : x.1 = a
    · rw [List.filter_cons_of_neg (by simp [e]), ih, List.find?_cons]
      have : (x.1 == k) = false := by simp; omega
      rw [this]
    · rw [List.filter_cons_of_pos (by simpa using e), List.find?_cons, List.find?_cons, ih]

theorem goes_hgt {M : List (Int × St)} {s : St} {n t e : Int} (he : e ≠ 0) (h : (goesM M s n t e).1 = 0) :
    t < n ∧ hgt (goesM M s n t e).2 t = some s.high ∧ ∀ k x, hgt M k = some x → hgt (goesM M s n t e).2 k = some x := by
  unfold goesM at *
  by_cases h1 : n ≤ t
  · rw [if_pos h1] at h; exact absurd h he
  · rw [if_neg h1] at h ⊢
    refine ⟨by omega, ?_⟩
    cases hf : findS M t with
    | none =>
      rw [hf] at h
      dsimp only
      have hx : ∀ k, findS (M ++ [(t, s)]) k = (findS M k).or (if t == k then some (t, s) else none) := by
        intro k
        unfold findS
        rw [List.find?_append]
        congr 1
        rw [List.find?_cons]
        cases t == k <;> rfl
      refine ⟨by unfold hgt; rw [hx, hf]; simp, fun k x hk => ?_⟩
      unfold hgt at *
      rw [hx]
      cases hk' : findS M k with
      | none => rw [hk'] at hk; simp at hk
      | some y => rw [hk'] at hk; simpa using hk
    | some y =>
      rw [hf] at h
      unfold meetG at *
      dsimp only at h ⊢
      rw [if_pos h]
      have hm : (meetM y.2 s).2.high = y.2.high ∧ y.2.high = s.high := by
        unfold meetM at *
        by_cases a : y.2.high ≠ s.high
        · rw [if_pos a] at h; simp at h
        · rw [if_neg a] at h ⊢
          by_cases b : y.2.wrote ≠ s.wrote
          · rw [if_pos b] at h; simp at h
          · rw [if_neg b]; exact ⟨rfl, by simpa using a⟩
      refine ⟨by rw [hgt_set_same hf, hm.1, hm.2], fun k x hk => ?_⟩
      by_cases ek : k = t
      · subst ek
        rw [hgt_set_same hf]
        unfold hgt at hk
        rw [hf] at hk
        rw [hm.1]
        exact hk
      · rw [hgt_set_other ek]; exact hk

/-- Where an instruction may go on. -/
def Succ (i : In) (a q : Int) : Prop := (i.op ≠ 23 ∧ i.op ≠ 21 ∧ q = a + 1) ∨ ((i.op = 21 ∨ i.op = 22) ∧ q = a + i.arg)

theorem follows_hgt {M : List (Int × St)} {s : St} {n : Int} {i : In} {a : Int} (h : (followsM M s n i a).1 = 0) :
    (∀ q, Succ i a q → q < n ∧ hgt (followsM M s n i a).2 q = some s.high) ∧ ∀ k x, hgt M k = some x → hgt (followsM M s n i a).2 k = some x := by
  unfold followsM at *
  by_cases e23 : i.op = 23
  · rw [if_pos e23] at h ⊢
    refine ⟨fun q hq => ?_, fun k x hk => hk⟩
    rcases hq with ⟨h1, _⟩ | ⟨h1, _⟩
    · exact absurd e23 h1
    · omega
  rw [if_neg e23] at h ⊢
  by_cases e21 : i.op = 21
  · rw [if_pos e21] at h ⊢
    obtain ⟨g1, g2, g3⟩ := goes_hgt (by decide) h
    refine ⟨fun q hq => ?_, g3⟩
    rcases hq with ⟨_, h1, _⟩ | ⟨_, rfl⟩
    · exact absurd e21 h1
    · exact ⟨g1, g2⟩
  rw [if_neg e21] at h ⊢
  by_cases e : i.op ≠ 22 ∨ (goesM M s n (a + 1) 195).1 ≠ 0
  · rw [if_pos e] at h ⊢
    obtain ⟨g1, g2, g3⟩ := goes_hgt (by decide) h
    refine ⟨fun q hq => ?_, g3⟩
    rcases hq with ⟨_, _, rfl⟩ | ⟨h1, rfl⟩
    · exact ⟨g1, g2⟩
    · rcases e with e | e
      · omega
      · exact absurd h e
  · rw [if_neg e] at h ⊢
    have e' : (goesM M s n (a + 1) 195).1 = 0 := by
      by_cases x : (goesM M s n (a + 1) 195).1 = 0
      · exact x
      · exact absurd (.inr x) e
    obtain ⟨g1, g2, g3⟩ := goes_hgt (by decide) e'
    obtain ⟨k1, k2, k3⟩ := goes_hgt (by decide) h
    refine ⟨fun q hq => ?_, fun k x hk => k3 k x (g3 k x hk)⟩
    rcases hq with ⟨_, _, rfl⟩ | ⟨_, rfl⟩
    · exact ⟨g1, k3 _ _ g2⟩
    · exact ⟨k1, k2⟩

/-- What is sure at a place. -/
structure Sure (l : List In) (c : Cf) (H : Int → Int) (p : Int) : Prop where
  may : mayI (insAt l p) = true
  low : takes (insAt l p).op ≤ H p
  high : H p + (gives (insAt l p).op - takes (insAt l p).op) ≤ c.stack
  slot : (insAt l p).op = 2 ∨ (insAt l p).op = 3 → (insAt l p).arg < c.slots
  read : (insAt l p).op = 4 → (insAt l p).arg < c.reads
  write : (insAt l p).op = 5 → (insAt l p).arg < c.writes
  next : ∀ q, Succ (insAt l p) p q → q < l.length ∧ H q = H p + (gives (insAt l p).op - takes (insAt l p).op)

theorem checks_sure {i : In} {c : Cf} {s : St} (h : (checksM i c s).1 = 0) :
    (i.op = 2 ∨ i.op = 3 → i.arg < c.slots) ∧ (i.op = 4 → i.arg < c.reads) ∧ (i.op = 5 → i.arg < c.writes) := by
  unfold checksM at h
  by_cases h1 : mayI i = false
  · rw [if_pos h1] at h; simp at h
  rw [if_neg h1] at h
  by_cases h2 : s.high < takes i.op ∨ c.stack < s.high - takes i.op + gives i.op
  · rw [if_pos h2] at h; simp at h
  rw [if_neg h2] at h
  dsimp only at h
  by_cases e2 : i.op = 2
  · rw [if_pos e2] at h
    refine ⟨fun _ => ?_, fun e => by omega, fun e => by omega⟩
    by_cases x : c.slots ≤ i.arg
    · rw [if_pos (.inl x)] at h; simp at h
    · omega
  rw [if_neg e2] at h
  by_cases e3 : i.op = 3
  · rw [if_pos e3] at h
    refine ⟨fun _ => ?_, fun e => by omega, fun e => by omega⟩
    by_cases x : c.slots ≤ i.arg
    · rw [if_pos x] at h; simp at h
    · omega
  rw [if_neg e3] at h
  by_cases e4 : i.op = 4
  · rw [if_pos e4] at h
    refine ⟨fun e => by omega, fun _ => ?_, fun e => by omega⟩
    by_cases x : c.reads ≤ i.arg
    · rw [if_pos x] at h; simp at h
    · omega
  rw [if_neg e4] at h
  by_cases e5 : i.op = 5
  · rw [if_pos e5] at h
    refine ⟨fun e => by omega, fun e => by omega, fun _ => ?_⟩
    by_cases x : c.writes ≤ i.arg
    · rw [if_pos (.inl x)] at h; simp at h
    · omega
  exact ⟨fun e => by omega, fun e => by omega, fun e => by omega⟩

theorem succ_gt {i : In} {a q : Int} (hm : mayI i = true) (h : Succ i a q) : a < q := by
  rcases h with ⟨_, _, rfl⟩ | ⟨h, rfl⟩
  · omega
  · have := mayI_jump hm h
    omega

theorem verR_sure (l : List In) (c : Cf) : ∀ (k at_ : Nat) (most : Int) (M : List (Int × St)), at_ + k = l.length → (verR l c k at_ most M).2 = 0 →
    ∃ H : Int → Int, (∀ (p x : Int), (at_ : Int) ≤ p → p < l.length → hgt M p = some x → H p = x) ∧ ∀ p : Int, (at_ : Int) ≤ p → p < l.length → Sure l c H p
  | 0, at_, most, M, hk, h => by
    refine ⟨fun p => (hgt M p).getD 0, fun p x h1 h2 => by omega, fun p h1 h2 => by omega⟩
  | k + 1, at_, most, M, hk, h => by
    unfold verR at h
    cases hf : findS M at_ with
    | none => rw [hf] at h; simp at h
    | some y =>
      rw [hf] at h
      dsimp only at h
      by_cases hc : (checksM (insAt l at_) c y.2).1 ≠ 0
      · rw [if_pos hc] at h; exact absurd h hc
      rw [if_neg hc] at h
      have hc' : (checksM (insAt l at_) c y.2).1 = 0 := by simpa using hc
      obtain ⟨a1, a2, a3, a4, a5⟩ := checksM_high hc'
      obtain ⟨b1, b2, b3⟩ := checks_sure hc'
      by_cases hg : (followsM (setS M at_ (checksM (insAt l at_) c y.2).2) (checksM (insAt l at_) c y.2).2 l.length (insAt l at_) at_).1 ≠ 0
      · rw [if_pos hg] at h; exact absurd h hg
      rw [if_neg hg] at h
      have hg' := by simpa using hg
      obtain ⟨f1, f2⟩ := follows_hgt hg'
      obtain ⟨H, i1, i2⟩ := verR_sure l c k (at_ + 1) _ _ (by omega) h
      have hfil : ∀ q : Int, (at_ : Int) < q → hgt (((followsM (setS M at_ (checksM (insAt l at_) c y.2).2) (checksM (insAt l at_) c y.2).2 l.length (insAt l at_) at_).2).filter fun x => x.1 != (at_ : Int)) q = hgt (followsM (setS M at_ (checksM (insAt l at_) c y.2).2) (checksM (insAt l at_) c y.2).2 l.length (insAt l at_) at_).2 q := by
        intro q hq
        unfold hgt
        rw [findS_filter (by omega)]
      refine ⟨fun p => if p = at_ then y.2.high else H p, ?_, ?_⟩
      · intro p x h1 h2 hx
        by_cases e : p = at_
        · subst e
          show (if (at_ : Int) = at_ then y.2.high else H at_) = x
          rw [if_pos rfl]
          unfold hgt at hx
          rw [hf] at hx
          simpa using hx
        · show (if p = (at_ : Int) then y.2.high else H p) = x
          rw [if_neg e]
          refine i1 p x (by omega) h2 ?_
          rw [hfil p (by omega)]
          exact f2 p x (by rw [hgt_set_other e]; exact hx)
      · intro p h1 h2
        by_cases e : p = at_
        · subst e
          have hnext : ∀ q, Succ (insAt l at_) at_ q → q < l.length ∧ (if q = (at_ : Int) then y.2.high else H q) = y.2.high + (gives (insAt l at_).op - takes (insAt l at_).op) := by
            intro q hq
            have gt := succ_gt a5 hq
            obtain ⟨g1, g2⟩ := f1 q hq
            refine ⟨g1, ?_⟩
            rw [if_neg (by omega), i1 q _ (by omega) g1 (by rw [hfil q gt]; exact g2), a3]
          exact { may := a5, low := by rw [if_pos rfl]; exact a4, high := by rw [if_pos rfl, ← a3]; exact a2, slot := b1, read := b2, write := b3, next := by intro q hq; rw [if_pos rfl]; exact hnext q hq }
        · have s := i2 p (by omega) h2
          have hp : (if p = (at_ : Int) then y.2.high else H p) = H p := if_neg e
          exact { may := s.may, low := by rw [hp]; exact s.low, high := by rw [hp]; exact s.high, slot := s.slot, read := s.read, write := s.write
                  next := by
                    intro q hq
                    have gt := succ_gt s.may hq
                    obtain ⟨g1, g2⟩ := s.next q hq
                    refine ⟨g1, ?_⟩
                    rw [hp, if_neg (by omega)]
                    exact g2 }

end Go.Proofs.Ytihajgmknhifiaa
