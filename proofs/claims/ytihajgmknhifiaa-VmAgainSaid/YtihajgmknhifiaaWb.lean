/- Verified code runs: no step fails, it goes forward, it ends. No program in sight. -/
import Derived.Test.YtihajgmknhifiaaWa
import Derived.Test.YtihajgmknhifiaaVq
namespace Go.Proofs.Ytihajgmknhifiaa
open Go.RowKit
set_option linter.unusedVariables false

structure Safe (l : List In) (c : Cf) (H : Int → Int) (s : Vs) : Prop where
  code : s.code = l
  cf : s.cf = c
  a0 : 0 ≤ s.at_
  a1 : s.at_ < l.length
  high : s.ended = false → (s.stack.length : Int) = H s.at_
  small : s.stack.length ≤ 1000000
  slots : (s.slots.length : Int) = c.slots
  ins : (s.ins.length : Int) = c.reads
  outs : (s.outs.length : Int) = c.writes
  sp0 : 0 ≤ s.spent
  sp1 : s.ended = false → s.spent ≤ 8 * s.at_
  sp2 : s.spent ≤ 8 * s.at_ + 8

theorem cyc_le (a : Int) : 0 ≤ cyc a ∧ cyc a ≤ 8 := by
  unfold cyc
  split
  · split
    · omega
    · split
      · omega
      · split <;> omega
  · omega

theorem last_some {xs : List Int} (h : 1 ≤ xs.length) : ∃ t, xs.getLast? = some t := by
  cases xs with
  | nil => simp at h
  | cons a xs => exact ⟨(a :: xs).getLast (by simp), List.getLast?_eq_some_getLast (by simp)⟩

/-- One instruction of sure code: it does not fail. -/
theorem one_safe {i : In} {s : Vs} (hm : mayI i = true) (hlow : takes i.op ≤ s.stack.length)
    (hs : i.op = 2 ∨ i.op = 3 → i.arg < s.slots.length) (hr : i.op = 4 → i.arg < s.ins.length) (hw : i.op = 5 → i.arg < s.outs.length) :
    ∃ d s', oneS i s = some (d, s') ∧ (s'.ended = s.ended ∨ (i.op = 23 ∧ d = 0 ∧ s'.ended = true)) ∧ (i.op = 23 → s'.ended = true ∧ d = 0) ∧ (i.op ≠ 23 → Succ i s.at_ (s.at_ + d)) ∧
      (s'.stack.length : Int) = s.stack.length + (gives i.op - takes i.op) ∧ s'.slots.length = s.slots.length ∧ s'.ins = s.ins ∧ s'.outs.length = s.outs.length ∧
      s'.code = s.code ∧ s'.cf = s.cf ∧ s'.at_ = s.at_ ∧ s'.spent = s.spent := by
  obtain ⟨op, arg⟩ := i
  have hop := mayI_op hm
  dsimp only at *
  unfold oneS
  dsimp only
  by_cases e1 : op = 1
  · subst e1
    exact ⟨_, _, rfl, .inl rfl, fun h => by omega, fun _ => .inl ⟨by simp, by simp, rfl⟩, by simp [gives, takes], rfl, rfl, rfl, rfl, rfl, rfl, rfl⟩
  rw [if_neg e1]
  by_cases e2 : op = 2
  · subst e2
    have b := (mayI_slot hm (.inl rfl)).1
    have b' := hs (.inl rfl)
    rw [if_pos rfl, if_pos ⟨b, b'⟩]
    exact ⟨_, _, rfl, .inl rfl, fun h => by omega, fun _ => .inl ⟨by simp, by simp, rfl⟩, by simp [gives, takes], rfl, rfl, rfl, rfl, rfl, rfl, rfl⟩
  rw [if_neg e2]
  by_cases e4 : op = 4
  · subst e4
    have b := (mayI_port hm (.inl rfl)).1
    have b' := hr rfl
    rw [if_pos rfl, if_pos ⟨b, b'⟩]
    exact ⟨_, _, rfl, .inl rfl, fun h => by omega, fun _ => .inl ⟨by simp, by simp, rfl⟩, by simp [gives, takes], rfl, rfl, rfl, rfl, rfl, rfl, rfl⟩
  rw [if_neg e4]
  by_cases e21 : op = 21
  · subst e21
    rw [if_pos rfl]
    exact ⟨_, _, rfl, .inl rfl, fun h => by omega, fun _ => .inr ⟨.inl rfl, rfl⟩, by simp [gives, takes], rfl, rfl, rfl, rfl, rfl, rfl, rfl⟩
  rw [if_neg e21]
  by_cases e23 : op = 23
  · subst e23
    rw [if_pos rfl]
    exact ⟨_, _, rfl, .inr ⟨rfl, rfl, rfl⟩, fun _ => ⟨rfl, rfl⟩, fun h => absurd rfl h, by simp [gives, takes], rfl, rfl, rfl, rfl, rfl, rfl, rfl⟩
  rw [if_neg e23]
  have ht : 1 ≤ takes op := by
    unfold takes
    split
    · decide
    · split
      · decide
      · omega
  obtain ⟨t, hl⟩ := last_some (xs := s.stack) (by omega)
  rw [hl]
  dsimp only
  have hd : s.stack.dropLast.length = s.stack.length - 1 := by simp
  by_cases e3 : op = 3
  · subst e3
    have b := (mayI_slot hm (.inr rfl)).1
    have b' := hs (.inr rfl)
    rw [if_pos rfl, if_pos ⟨b, b'⟩]
    exact ⟨_, _, rfl, .inl rfl, fun h => by omega, fun _ => .inl ⟨by simp, by simp, rfl⟩, by simp [gives, takes] at hlow ⊢; omega, by simp, rfl, rfl, rfl, rfl, rfl, rfl⟩
  rw [if_neg e3]
  by_cases e5 : op = 5
  · subst e5
    have b := (mayI_port hm (.inr rfl)).1
    have b' := hw rfl
    rw [if_pos rfl, if_pos ⟨b, b'⟩]
    exact ⟨_, _, rfl, .inl rfl, fun h => by omega, fun _ => .inl ⟨by simp, by simp, rfl⟩, by simp [gives, takes] at hlow ⊢; omega, rfl, rfl, by simp, rfl, rfl, rfl, rfl⟩
  rw [if_neg e5]
  by_cases e6 : op = 6
  · subst e6
    rw [if_pos rfl]
    exact ⟨_, _, rfl, .inl rfl, fun h => by omega, fun _ => .inl ⟨by simp, by simp, rfl⟩, by simp [gives, takes] at hlow ⊢; omega, rfl, rfl, rfl, rfl, rfl, rfl, rfl⟩
  rw [if_neg e6]
  by_cases e7 : op = 7
  · subst e7
    rw [if_pos rfl]
    exact ⟨_, _, rfl, .inl rfl, fun h => by omega, fun _ => .inl ⟨by simp, by simp, rfl⟩, by simp [gives, takes] at hlow ⊢; omega, rfl, rfl, rfl, rfl, rfl, rfl, rfl⟩
  rw [if_neg e7]
  by_cases e22 : op = 22
  · subst e22
    rw [if_pos rfl]
    refine ⟨_, _, rfl, .inl rfl, fun h => by omega, fun _ => ?_, by simp [gives, takes] at hlow ⊢; omega, rfl, rfl, rfl, rfl, rfl, rfl, rfl⟩
    by_cases e : t = 0
    · rw [if_pos e]; exact .inr ⟨.inr rfl, rfl⟩
    · rw [if_neg e]; exact .inl ⟨by simp, by simp, rfl⟩
  rw [if_neg e22]
  have hb : 8 ≤ op ∧ op ≤ 20 := by omega
  rw [if_pos hb]
  have ht2 : takes op = 2 := by unfold takes; rw [if_pos hb]
  have hg1 : gives op = 1 := by unfold gives; rw [if_pos (.inl hb)]
  obtain ⟨d, hl2⟩ := last_some (xs := s.stack.dropLast) (by omega)
  rw [hl2]
  refine ⟨_, _, rfl, .inl rfl, fun h => absurd h e23, fun _ => .inl ⟨e23, e21, rfl⟩, ?_, rfl, rfl, rfl, rfl, rfl, rfl, rfl⟩
  rw [ht2, hg1]
  simp
  omega

theorem insAt_step {l : List In} {c : Cf} {H : Int → Int} {s : Vs} (hl : l.length ≤ 4096) (hc : mayC c = true) (hS : ∀ p : Int, 0 ≤ p → p < l.length → Sure l c H p) (h : Safe l c H s) (he : s.ended = false) :
    ∃ s', stepS s = some (cyc (insAt l s.at_).op, s') ∧ Safe l c H s' ∧ (s'.ended = false → s.at_ < s'.at_) ∧ s'.spent = s.spent + cyc (insAt l s.at_).op ∧ s.at_ ≤ s'.at_ ∧ s'.ins = s.ins := by
  have su := hS s.at_ h.a0 h.a1
  have hh := h.high he
  have bd := mayC_bd hc
  have cy := cyc_le (insAt l s.at_).op
  obtain ⟨d, s1, e1, r1, r2, r3, r4, r5, r6, r7, r8, r9, r10, r11⟩ := one_safe (i := insAt l s.at_) (s := s) su.may (by rw [hh]; exact su.low) (by rw [h.slots]; exact su.slot) (by rw [h.ins]; exact su.read) (by rw [h.outs]; exact su.write)
  have w1 : wrap64 (s.spent + cyc (insAt l s.at_).op) = s.spent + cyc (insAt l s.at_).op := by
    have := h.sp0; have := h.sp1 he; have := h.a1
    exact IntWalk.wrap64_in _ (by omega)
  have hstep : stepS s = some (cyc (insAt l s.at_).op, { s1 with at_ := wrap64 (s.at_ + d), spent := s.spent + cyc (insAt l s.at_).op }) := by
    unfold stepS
    rw [h.code, if_pos ⟨⟨h.a0, h.a1⟩, h.small⟩, e1]
    dsimp only
    rw [w1]
  by_cases e23 : (insAt l s.at_).op = 23
  · obtain ⟨k1, k2⟩ := r2 e23
    subst k2
    have wa : wrap64 (s.at_ + 0) = s.at_ := by
      have := h.a0; have := h.a1
      rw [Int.add_zero]
      exact IntWalk.wrap64_in _ (by omega)
    rw [wa] at hstep
    refine ⟨_, hstep, ?_, fun x => ?_, rfl, Int.le_refl _, r6⟩
    · exact { code := r8.trans h.code, cf := r9.trans h.cf, a0 := h.a0, a1 := h.a1
              high := fun x => by have x' : s1.ended = false := x; rw [k1] at x'; cases x'
              small := by show s1.stack.length ≤ _; have := h.small; have := su.high; rw [← hh] at this; omega
              slots := by show (s1.slots.length : Int) = _; rw [r5]; exact h.slots
              ins := by show (s1.ins.length : Int) = _; rw [r6]; exact h.ins
              outs := by show (s1.outs.length : Int) = _; rw [r7]; exact h.outs
              sp0 := by show 0 ≤ s.spent + _; have := h.sp0; omega
              sp1 := fun x => by have x' : s1.ended = false := x; rw [k1] at x'; cases x'
              sp2 := by show s.spent + _ ≤ 8 * s.at_ + 8; have := h.sp1 he; omega }
    · have x' : s1.ended = false := x
      rw [k1] at x'; cases x'
  · have sc := r3 e23
    have gt := succ_gt su.may sc
    obtain ⟨n1, n2⟩ := su.next _ sc
    have wa : wrap64 (s.at_ + d) = s.at_ + d := by
      have := h.a0
      exact IntWalk.wrap64_in _ (by omega)
    rw [wa] at hstep
    have en : s1.ended = false := by
      rcases r1 with r1 | r1
      · rw [r1]; exact he
      · exact absurd r1.1 e23
    refine ⟨_, hstep, ?_, fun x => gt, rfl, Int.le_of_lt gt, r6⟩
    exact { code := r8.trans h.code, cf := r9.trans h.cf, a0 := by show 0 ≤ s.at_ + d; have := h.a0; omega, a1 := n1
            high := fun x => by show (s1.stack.length : Int) = H (s.at_ + d); rw [r4, n2, hh]
            small := by show s1.stack.length ≤ _; have := h.small; have := su.high; rw [← hh] at this; omega
            slots := by show (s1.slots.length : Int) = _; rw [r5]; exact h.slots
            ins := by show (s1.ins.length : Int) = _; rw [r6]; exact h.ins
            outs := by show (s1.outs.length : Int) = _; rw [r7]; exact h.outs
            sp0 := by show 0 ≤ s.spent + _; have := h.sp0; omega
            sp1 := fun x => by show s.spent + _ ≤ 8 * (s.at_ + d); have := h.sp1 he; omega
            sp2 := by show s.spent + _ ≤ 8 * (s.at_ + d) + 8; have := h.sp1 he; omega }

/-- A RUN of sure code: it ends, by the budget or by its own end. -/
theorem run_safe {l : List In} {c : Cf} {H : Int → Int} (hl : l.length ≤ 4096) (hc : mayC c = true) (hS : ∀ p : Int, 0 ≤ p → p < l.length → Sure l c H p) (b : Int) :
    ∀ (n : Nat) (s : Vs) (sum : Int), Safe l c H s → 0 ≤ sum → sum ≤ s.spent → (s.ended = false → l.length - s.at_ ≤ n) →
      ∃ k s', runS (k + 1) b sum s = some (sum + (s'.spent - s.spent), s') ∧ Safe l c H s' ∧ (s'.ended = true ∨ b ≤ sum + (s'.spent - s.spent)) ∧ s.spent ≤ s'.spent ∧ s'.ins = s.ins
  | n, s, sum, h, h0, h1, hn => by
    by_cases hgo : sum < b ∧ s.ended = false
    · obtain ⟨s1, e1, h', f1, f2, f3, f4⟩ := insAt_step hl hc hS h hgo.2
      have cy := cyc_le (insAt l s.at_).op
      have hn' := hn hgo.2
      have a1 := h.a1
      have sp := h.sp1 hgo.2
      have w : wrap64 (sum + cyc (insAt l s.at_).op) = sum + cyc (insAt l s.at_).op := IntWalk.wrap64_in _ (by omega)
      cases n with
      | zero => omega
      | succ n =>
        obtain ⟨k, s2, g1, g2, g3, g4, g5⟩ := run_safe hl hc hS b n s1 (sum + cyc (insAt l s.at_).op) h' (by omega) (by omega) (fun x => by have := f1 x; omega)
        refine ⟨k + 1, s2, ?_, g2, ?_, by omega, g5.trans f4⟩
        · unfold runS
          rw [if_pos hgo, e1]
          dsimp only
          rw [w, g1]
          congr 2
          omega
        · rcases g3 with g3 | g3
          · exact .inl g3
          · exact .inr (by omega)
    · refine ⟨0, s, ?_, h, ?_, Int.le_refl _, rfl⟩
      · unfold runS
        rw [if_neg hgo]
        congr 2
        omega
      · by_cases e : s.ended = true
        · exact .inl e
        · right
          have : s.ended = false := by simpa using e
          have : ¬ sum < b := fun x => hgo ⟨x, this⟩
          omega

/-- The start. -/
theorem new_safe {l : List In} {c : Cf} {ins : List Int} (hv : (verM l c).2 = 0) (hr : (ins.length : Int) = c.reads) :
    ∃ H, (∀ p : Int, 0 ≤ p → p < l.length → Sure l c H p) ∧ Safe l c H (newS l c ins) := by
  obtain ⟨hm, h1, h2, h3⟩ := verM_ok hv
  rw [← h3] at hv
  obtain ⟨H, i1, i2⟩ := verR_sure l c l.length 0 0 _ (by omega) hv
  have bd := mayC_bd hm
  have h0 : H 0 = 0 := i1 0 0 (by simp) (by omega) rfl
  refine ⟨H, fun p a b => i2 p (by simpa using a) b, ?_⟩
  exact { code := rfl, cf := rfl, a0 := Int.le_refl _, a1 := by show (0 : Int) < _; omega, high := fun _ => by show ((0 : Nat) : Int) = H 0; rw [h0]; rfl, small := by show 0 ≤ 1000000; omega
          slots := by show ((zeros c.slots.toNat).length : Int) = _; rw [zeros_length]; omega
          ins := hr
          outs := by show ((zeros c.writes.toNat).length : Int) = _; rw [zeros_length]; omega
          sp0 := Int.le_refl _, sp1 := fun _ => by show (0 : Int) ≤ 8 * 0; omega, sp2 := by show (0 : Int) ≤ 8 * 0 + 8; omega }

end Go.Proofs.Ytihajgmknhifiaa
