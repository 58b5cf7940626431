/- What an execution reckons, without memory: a step, a run. And the calls of vm's Step and Run by it. -/
import Derived.Test.YtihajgmknhifiaaVf
namespace Go.Proofs.Ytihajgmknhifiaa
open Go.RowKit
set_option linter.unusedVariables false

/-- The state of an execution. -/
structure Vs where
  cf : Cf
  code : List In
  at_ : Int
  stack : List Int
  slots : List Int
  ins : List Int
  outs : List Int
  spent : Int
  ended : Bool

def Vm.s (m : Vm) : Vs := ⟨m.cf, m.code, m.at_, m.stack, m.slots, m.ins, m.outs, m.spent, m.ended⟩

/-- One instruction: how far it goes on, and the state behind it. -/
def oneS (i : In) (s : Vs) : Option (Int × Vs) :=
  if i.op = 1 then some (1, { s with stack := s.stack ++ [i.arg] })
  else if i.op = 2 then (if 0 ≤ i.arg ∧ i.arg < s.slots.length then some (1, { s with stack := s.stack ++ [at0 s.slots i.arg] }) else none)
  else if i.op = 4 then (if 0 ≤ i.arg ∧ i.arg < s.ins.length then some (1, { s with stack := s.stack ++ [at0 s.ins i.arg] }) else none)
  else if i.op = 21 then some (i.arg, s)
  else if i.op = 23 then some (0, { s with ended := true })
  else match s.stack.getLast? with
    | none => none
    | some t =>
      let xs := s.stack.dropLast
      if i.op = 3 then (if 0 ≤ i.arg ∧ i.arg < s.slots.length then some (1, { s with stack := xs, slots := s.slots.set i.arg.toNat t }) else none)
      else if i.op = 5 then (if 0 ≤ i.arg ∧ i.arg < s.outs.length then some (1, { s with stack := xs, outs := s.outs.set i.arg.toNat t }) else none)
      else if i.op = 6 then some (1, { s with stack := xs ++ [wrap64 (-t)] })
      else if i.op = 7 then some (1, { s with stack := xs ++ [truth (t == 0)] })
      else if i.op = 22 then some (if t = 0 then i.arg else 1, { s with stack := xs })
      else if 8 ≤ i.op ∧ i.op ≤ 20 then
        match xs.getLast? with
        | none => none
        | some d => some (1, { s with stack := xs.dropLast ++ [bin i.op d t] })
      else none

/-- A step, of code that has not ended. -/
def stepS (s : Vs) : Option (Int × Vs) :=
  if (0 ≤ s.at_ ∧ s.at_ < s.code.length) ∧ s.stack.length ≤ 1000000 then
    match oneS (insAt s.code s.at_) s with
    | none => none
    | some (d, s1) => some (cyc (insAt s.code s.at_).op, { s1 with at_ := wrap64 (s.at_ + d), spent := wrap64 (s.spent + cyc (insAt s.code s.at_).op) })
  else none

/-- A run, of so many steps at most; the sum of what they cost. -/
def runS : Nat → Int → Int → Vs → Option (Int × Vs)
  | 0, _, _, _ => none
  | k + 1, c, sum, s =>
    if sum < c ∧ s.ended = false then
      match stepS s with
      | none => none
      | some (n, s') => runS k c (wrap64 (sum + n)) s'
    else some (sum, s)

theorem oneM_of (i : In) (m : Vm) : (oneM i m).map (fun r => (r.1, r.2.s)) = oneS i m.s := by
  unfold oneM oneS
  by_cases e1 : i.op = 1
  · rw [if_pos e1, if_pos e1]; rfl
  rw [if_neg e1, if_neg e1]
  by_cases e2 : i.op = 2
  · rw [if_pos e2, if_pos e2]
    by_cases e : 0 ≤ i.arg ∧ i.arg < m.slots.length
    · rw [if_pos e, if_pos (show 0 ≤ i.arg ∧ i.arg < m.s.slots.length from e)]; rfl
    · rw [if_neg e, if_neg (show ¬ (0 ≤ i.arg ∧ i.arg < m.s.slots.length) from e)]; rfl
  rw [if_neg e2, if_neg e2]
  by_cases e4 : i.op = 4
  · rw [if_pos e4, if_pos e4]
    by_cases e : 0 ≤ i.arg ∧ i.arg < m.ins.length
    · rw [if_pos e, if_pos (show 0 ≤ i.arg ∧ i.arg < m.s.ins.length from e)]; rfl
    · rw [if_neg e, if_neg (show ¬ (0 ≤ i.arg ∧ i.arg < m.s.ins.length) from e)]; rfl
  rw [if_neg e4, if_neg e4]
  by_cases e21 : i.op = 21
  · rw [if_pos e21, if_pos e21]; rfl
  rw [if_neg e21, if_neg e21]
  by_cases e23 : i.op = 23
  · rw [if_pos e23, if_pos e23]; rfl
  rw [if_neg e23, if_neg e23]
  rw [show m.s.stack = m.stack from rfl]
  cases m.stack.getLast? with
  | none => rfl
  | some t =>
    dsimp only
    by_cases e3 : i.op = 3
    · rw [if_pos e3, if_pos e3]
      by_cases e : 0 ≤ i.arg ∧ i.arg < m.slots.length
      · rw [if_pos e, if_pos (show 0 ≤ i.arg ∧ i.arg < m.s.slots.length from e)]; rfl
      · rw [if_neg e, if_neg (show ¬ (0 ≤ i.arg ∧ i.arg < m.s.slots.length) from e)]; rfl
    rw [if_neg e3, if_neg e3]
    by_cases e5 : i.op = 5
    · rw [if_pos e5, if_pos e5]
      by_cases e : 0 ≤ i.arg ∧ i.arg < m.outs.length
      · rw [if_pos e, if_pos (show 0 ≤ i.arg ∧ i.arg < m.s.outs.length from e)]; rfl
      · rw [if_neg e, if_neg (show ¬ (0 ≤ i.arg ∧ i.arg < m.s.outs.length) from e)]; rfl
    rw [if_neg e5, if_neg e5]
    by_cases e6 : i.op = 6
    · rw [if_pos e6, if_pos e6]; rfl
    rw [if_neg e6, if_neg e6]
    by_cases e7 : i.op = 7
    · rw [if_pos e7, if_pos e7]; rfl
    rw [if_neg e7, if_neg e7]
    by_cases e22 : i.op = 22
    · rw [if_pos e22, if_pos e22]; rfl
    rw [if_neg e22, if_neg e22]
    by_cases e : 8 ≤ i.op ∧ i.op ≤ 20
    · rw [if_pos e, if_pos e]
      cases m.stack.dropLast.getLast? with
      | none => rfl
      | some x => rfl
    · rw [if_neg e, if_neg e]; rfl

theorem stepM_of {m : Vm} {n : Int} {s' : Vs} (h : stepS m.s = some (n, s')) : m.stack.length ≤ 1000000 ∧ ∃ m', stepM m = some (n, m') ∧ m'.s = s' := by
  unfold stepS at h
  unfold stepM
  by_cases e : (0 ≤ m.at_ ∧ m.at_ < m.code.length) ∧ m.stack.length ≤ 1000000
  · rw [if_pos (show (0 ≤ m.s.at_ ∧ m.s.at_ < m.s.code.length) ∧ m.s.stack.length ≤ 1000000 from e)] at h
    rw [if_pos e.1]
    have ho := oneM_of (insAt m.code m.at_) m
    have hi : insAt m.s.code m.s.at_ = insAt m.code m.at_ := rfl
    rw [hi, ← ho] at h
    cases hm : oneM (insAt m.code m.at_) m with
    | none => rw [hm] at h; cases h
    | some r =>
      rw [hm] at h
      cases h
      exact ⟨e.2, _, rfl, rfl⟩
  · rw [if_neg (show ¬ ((0 ≤ m.s.at_ ∧ m.s.at_ < m.s.code.length) ∧ m.s.stack.length ≤ 1000000) from e)] at h
    cases h

/-- A Vm behind a call: its state is s'. -/
def RunQ (base : Nat) (w : World) (b : Nat) (m : Vm) (s' : Vs) (w' : World) : Prop := ∃ m', VmGo base b w m w' m' ∧ m'.s = s'

theorem RunQ.refl {base : Nat} {w : World} {b : Nat} {m : Vm} (h : VmAt base w b m) : RunQ base w b m m.s w := ⟨m, VmGo.refl h, rfl⟩
theorem RunQ.drewN {base : Nat} {w w' : World} {b : Nat} {m : Vm} {s' : Vs} (h : RunQ base w b m s' w') (n : Nat) : RunQ base w b m s' (w'.drewN n) := by
  obtain ⟨m', h1, h2⟩ := h
  exact ⟨m', h1.drewN n, h2⟩

theorem step_s {base : Nat} {w : World} {b : Nat} {m : Vm} {n : Int} {s' : Vs} (h : VmAt base w b m) (he : m.s.ended = false) (hs : stepS m.s = some (n, s')) :
    Calls Try.prog 20 #[.pointer (some ⟨b, 0, none⟩)] w fun e w' => e = .returned (.tuple #[.int .i64 n, .bool s'.ended, .int .i64 0]) ∧ RunQ base w b m s' w' := by
  obtain ⟨hl, m', hm, rfl⟩ := stepM_of hs
  refine (step_c h he hl hm).mono fun e w' ⟨he', v, hv⟩ => ⟨he', _, hv, rfl⟩

theorem run_nil (n : Int) (w : World) : Calls Try.prog 18 #[.pointer none, .int .i64 n] w fun e w' => e = .returned (.tuple #[.int .i64 0, .bool false, .int .i64 1]) ∧ w = w' := by
  go_enter Try.func18, Try.ntmps18
  go_wp2
  go_ret3
  exact ⟨rfl, rfl⟩
set_option maxHeartbeats 1000000 in
theorem run_ended {base : Nat} {w : World} {b : Nat} {m : Vm} (n : Int) (h : VmAt base w b m) (he : m.ended = true) :
    Calls Try.prog 18 #[.pointer (some ⟨b, 0, none⟩), .int .i64 n] w fun e w' => e = .returned (.tuple #[.int .i64 0, .bool false, .int .i64 3]) ∧ w = w' := by
  have hc := h.c11
  rw [he] at hc
  clear h
  go_enter Try.func18, Try.ntmps18
  go_wp2
  go_ret3
  exact ⟨rfl, rfl⟩
set_option maxHeartbeats 1000000 in
theorem run_neg {base : Nat} {w : World} {b : Nat} {m : Vm} (n : Int) (h : VmAt base w b m) (he : m.ended = false) (hn : n < 0) :
    Calls Try.prog 18 #[.pointer (some ⟨b, 0, none⟩), .int .i64 n] w fun e w' => e = .returned (.tuple #[.int .i64 0, .bool false, .int .i64 2]) ∧ w = w' := by
  have hc := h.c11
  rw [he] at hc
  clear h
  go_enter Try.func18, Try.ntmps18
  go_wp2
  go_ret3
  exact ⟨rfl, rfl⟩

/-- What holds at the head of each round. -/
def RunRel (base : Nat) (w : World) (b : Nat) (m : Vm) (c sum' : Int) (s' : Vs) (k : Nat) (v : Value) (wr : World) : Prop :=
  ∃ sum m1, v = .int .i64 sum ∧ VmGo base b w m wr m1 ∧ runS (k + 1) c sum m1.s = some (sum', s')

set_option maxHeartbeats 4000000 in
set_option maxRecDepth 8000 in
theorem run_c {base : Nat} {w : World} {b : Nat} {m : Vm} {k : Nat} {c sum' : Int} {s' : Vs} (h : VmAt base w b m) (he : m.ended = false) (hc : 0 ≤ c)
    (hr : runS (k + 1) c 0 m.s = some (sum', s')) :
    Calls Try.prog 18 #[.pointer (some ⟨b, 0, none⟩), .int .i64 c] w fun e w' => e = .returned (.tuple #[.int .i64 sum', .bool s'.ended, .int .i64 0]) ∧ RunQ base w b m s' w' := by
  have h11 := h.c11
  rw [he] at h11
  have H0 := Lib.hid h
  have Hr := Lib.hid hr
  clear h hr
  go_enter Try.func18, Try.ntmps18
  go_wp2
  go_loopg [7] k (fun k v wr => RunRel base w b m c sum' s' k v wr)
  case atStart => exact ⟨0, m, rfl, VmGo.refl H0.out, Hr.out⟩
  case round =>
    obtain ⟨sum, m1, hv, hgo, hrun⟩ := hrel
    subst hv
    have q11 := hgo.at'.c11
    by_cases hlt : sum < c
    · cases hem : m1.ended with
      | false =>
        rw [hem] at q11
        simp only [runS] at hrun
        rw [if_pos ⟨hlt, hem⟩] at hrun
        cases hst : stepS m1.s with
        | none => rw [hst] at hrun; cases hrun
        | some r =>
          obtain ⟨n, s2⟩ := r
          rw [hst] at hrun
          dsimp only at hrun
          cases gk with
          | zero => simp [runS] at hrun
          | succ j =>
            have G := Lib.hid hgo
            have R := Lib.hid hrun
            have E := Lib.hid hem
            have T := Lib.hid hst
            clear hgo hrun hem hst
            go_wp2_with (go_at_call 20; refine (step_s G.out.at' E.out T.out).mono ?_; rintro e w1 ⟨rfl, hq⟩)
            have HQ := Lib.hid hq
            clear hq
            go_roundg j
            case measure => omega
            case rel =>
              obtain ⟨m2, h2, h3⟩ := HQ.out
              subst h3
              exact ⟨_, m2, rfl, G.out.trans h2, R.out⟩
      | true =>
        rw [hem] at q11
        simp only [runS] at hrun
        rw [if_neg (by rw [show m1.s.ended = m1.ended from rfl, hem]; simp)] at hrun
        cases hrun
        have G := Lib.hid hgo
        have E := Lib.hid hem
        clear hgo hem
        go_wp2
        go_quiet (fail)
        go_wp2
        go_ret3
        refine ⟨?_, m1, G.out.drewN nq, rfl⟩
        rw [show m1.s.ended = m1.ended from rfl, E.out]
        rfl
    · simp only [runS] at hrun
      rw [if_neg (fun h => hlt h.1)] at hrun
      cases hrun
      have G := Lib.hid hgo
      clear hgo
      go_wp2
      go_quiet (fail)
      go_wp2
      go_ret3
      exact ⟨rfl, m1, G.out.drewN nq, rfl⟩

end Go.Proofs.Ytihajgmknhifiaa
