/- The call of verify's Verify: code is held against its resources. -/
import Derived.Test.YtihajgmknhifiaaVl
namespace Go.Proofs.Ytihajgmknhifiaa
open Go.RowKit Go.MapKept
set_option linter.unusedVariables false

/-! ### What it reckons -/
def verR (l : List In) (c : Cf) : Nat → Nat → Int → List (Int × St) → Int × Int
  | 0, _, most, _ => (most, 0)
  | k + 1, at_, most, M =>
    match findS M at_ with
    | none => (0, 194)
    | some y =>
      if (checksM (insAt l at_) c y.2).1 ≠ 0 then (0, (checksM (insAt l at_) c y.2).1)
      else if (followsM (setS M at_ (checksM (insAt l at_) c y.2).2) (checksM (insAt l at_) c y.2).2 l.length (insAt l at_) at_).1 ≠ 0 then
        (0, (followsM (setS M at_ (checksM (insAt l at_) c y.2).2) (checksM (insAt l at_) c y.2).2 l.length (insAt l at_) at_).1)
      else verR l c k (at_ + 1) (max most (checksM (insAt l at_) c y.2).2.high)
        ((followsM (setS M at_ (checksM (insAt l at_) c y.2).2) (checksM (insAt l at_) c y.2).2 l.length (insAt l at_) at_).2.filter fun x => x.1 != (at_ : Int))

def st0 : St := ⟨0, [0, 0, 0, 0, 0, 0, 0, 0], 0⟩
def verM (l : List In) (c : Cf) : Int × Int :=
  if mayC c = false then (0, 2) else if 4096 < l.length then (0, 4) else if l.length = 0 then (0, 195) else verR l c l.length 0 0 [(0, st0)]

/-! ### The heights stay within the stack -/
theorem checksM_high {i : In} {c : Cf} {s : St} (h : (checksM i c s).1 = 0) : 0 ≤ (checksM i c s).2.high ∧ (checksM i c s).2.high ≤ c.stack ∧ (checksM i c s).2.high = s.high + (gives i.op - takes i.op) ∧ takes i.op ≤ s.high ∧ mayI i = true := by
  unfold checksM at *
  cases hm : mayI i with
  | false => rw [hm, if_pos rfl] at h; cases h
  | true =>
    rw [hm, if_neg (by simp)] at h
    rw [if_neg (by simp)]
    by_cases hb : s.high < takes i.op ∨ c.stack < s.high - takes i.op + gives i.op
    · rw [if_pos hb] at h; cases h
    rw [if_neg hb] at h
    rw [if_neg hb]
    have hg := gives_bd i.op
    have ht := takes_bd i.op
    have key : 0 ≤ s.high + (gives i.op - takes i.op) ∧ s.high + (gives i.op - takes i.op) ≤ c.stack ∧ s.high + (gives i.op - takes i.op) = s.high + (gives i.op - takes i.op) ∧ takes i.op ≤ s.high ∧ true = true := ⟨by omega, by omega, rfl, by omega, rfl⟩
    dsimp only at h ⊢
    repeat' split
    all_goals exact key

def HighOk (M : List (Int × St)) : Prop := ∀ x ∈ M, 0 ≤ x.2.high ∧ x.2.high ≤ 256
theorem findS_mem {M : List (Int × St)} {k : Int} {y : Int × St} (h : findS M k = some y) : y ∈ M ∧ y.1 = k := by
  unfold findS at h
  exact ⟨List.mem_of_find?_eq_some h, by simpa using List.find?_some h⟩
theorem HighOk.set {M : List (Int × St)} (h : HighOk M) (k : Int) {s : St} (hs : 0 ≤ s.high ∧ s.high ≤ 256) : HighOk (setS M k s) := by
  intro x hx
  unfold setS at hx
  obtain ⟨y, hy, rfl⟩ := List.mem_map.1 hx
  by_cases e : (y.1 == k) = true
  · rw [if_pos e]; exact hs
  · rw [if_neg e]; exact h y hy
theorem HighOk.goes {M : List (Int × St)} (h : HighOk M) {s : St} (hs : 0 ≤ s.high ∧ s.high ≤ 256) (n t e : Int) : HighOk (goesM M s n t e).2 := by
  unfold goesM
  split
  · exact h
  · split
    · rename_i y hy
      unfold meetG
      dsimp only
      split
      · refine h.set _ ?_
        have := h y (findS_mem hy).1
        unfold meetM
        split
        · exact this
        · split <;> exact this
      · exact h
    · intro x hx
      rcases List.mem_append.1 hx with hx | hx
      · exact h x hx
      · simp only [List.mem_singleton] at hx
        subst hx
        exact hs
theorem HighOk.follows {M : List (Int × St)} (h : HighOk M) {s : St} (hs : 0 ≤ s.high ∧ s.high ≤ 256) (n : Int) (i : In) (a : Int) : HighOk (followsM M s n i a).2 := by
  unfold followsM
  repeat' split
  · exact h
  · exact h.goes hs _ _ _
  · exact h.goes hs _ _ _
  · exact (h.goes hs _ _ _).goes hs _ _ _

/-! ### Small calls -/
theorem within_c (n a b : Int) (w : World) : Calls Try.prog 76 #[.int .i64 n, .int .i64 a, .int .i64 b] w fun e w' => e = .returned (.bool (within n a b)) ∧ w = w' := by
  by_cases h : a ≤ n
  all_goals
    go_enter Try.func76, Try.ntmps76
    go_wp2
    go_ret
    exact ⟨by first | (simp [within, h]; done) | (simp [within]; omega), rfl⟩

def cfBox (c : Cf) : Obj := .cells #[.int .i64 c.slots, .int .i64 c.reads, .int .i64 c.writes, .int .i64 c.stack] 24

set_option maxHeartbeats 2000000 in
theorem mayC_c (c : Cf) (w : World) : Calls Try.prog 47 #[c.val] w fun e w' => e = .returned (.bool (mayC c)) ∧ w.alloc (.cells #[.int .i64 c.slots, .int .i64 c.reads, .int .i64 c.writes, .int .i64 c.stack] 24) = w' := by
  unfold Cf.val
  have e : mayC c = (within c.slots 0 512 && within c.reads 0 64 && within c.writes 0 64 && within c.stack 1 256) := rfl
  rw [e]
  cases h1 : within c.slots 0 512
  · go_enter Try.func47, Try.ntmps47
    go_wp2_with (go_at_call 76; (refine (within_c _ _ _ _).mono ?_); rintro e w' ⟨rfl, rfl⟩)
    go_ret
    exact ⟨by simp, rfl⟩
  cases h2 : within c.reads 0 64
  · go_enter Try.func47, Try.ntmps47
    go_wp2_with (go_at_call 76; (refine (within_c _ _ _ _).mono ?_); rintro e w' ⟨rfl, rfl⟩)
    go_ret
    exact ⟨by simp, rfl⟩
  cases h3 : within c.writes 0 64
  · go_enter Try.func47, Try.ntmps47
    go_wp2_with (go_at_call 76; (refine (within_c _ _ _ _).mono ?_); rintro e w' ⟨rfl, rfl⟩)
    go_ret
    exact ⟨by simp, rfl⟩
  go_enter Try.func47, Try.ntmps47
  go_wp2_with (go_at_call 76; (refine (within_c _ _ _ _).mono ?_); rintro e w' ⟨rfl, rfl⟩)
  go_ret
  exact ⟨by simp, rfl⟩

theorem Rd.ins_at {w : World} {v : Value} {l : List In} (h : Rd w v l.length 2 (insV l)) (hl : 0 < l.length) :
    ∃ g o c, v = .slice (some ⟨g, o, none⟩) l.length c ∧ l.length ≤ c ∧ g < w.heap.size ∧ ∀ i : Nat, i < l.length → w.cell? ⟨g, o + i * 2, none⟩ = some (.int .u8 (insAt l i).op) ∧ w.cell? ⟨g, o + i * 2 + 1, none⟩ = some (.int .i64 (insAt l i).arg) := by
  obtain ⟨a, c, rfl, h1, h2, h3⟩ := h.form
  cases a with
  | none => obtain ⟨e, _⟩ := h2 rfl; omega
  | some ad =>
    obtain ⟨g, o, sp⟩ := ad
    have hsp : sp = none := by
      have h0 := h3 _ rfl 0 _ (insV_get l 0 hl).1
      cases sp with
      | none => rfl
      | some n =>
        simp only [Addr.add, if_true, World.cell?] at h0
        split at h0 <;> simp at h0
    subst hsp
    have hadd : ∀ j, (⟨g, o, none⟩ : Addr).add j = ⟨g, o + j, none⟩ := fun j => by unfold Addr.add; split <;> simp_all
    have key : ∀ i : Nat, i < l.length → w.cell? ⟨g, o + i * 2, none⟩ = some (.int .u8 (insAt l i).op) ∧ w.cell? ⟨g, o + i * 2 + 1, none⟩ = some (.int .i64 (insAt l i).arg) := by
      intro i hi
      have q := insV_get l i hi
      have c1 := h3 _ rfl _ _ q.1
      have c2 := h3 _ rfl _ _ q.2
      rw [hadd] at c1 c2
      exact ⟨c1, c2⟩
    have hg := World.block_lt_of_cell? w _ (key 0 hl).1
    exact ⟨g, o, c, rfl, h1, hg, key⟩

end Go.Proofs.Ytihajgmknhifiaa
