/- A step of an execution: the calls of vm's Step, Spent and Outs' like. -/
import Derived.Test.YtihajgmknhifiaaVe
namespace Go.Proofs.Ytihajgmknhifiaa
open Go.RowKit
set_option linter.unusedVariables false

/-- The instruction at a place. -/
def insAt (l : List In) (i : Int) : In := l.getD i.toNat ⟨0, 0⟩

/-- A step, of code that has not ended: what it costs, and the state behind it (the stack's slice aside). -/
def stepM (m : Vm) : Option (Int × Vm) :=
  if 0 ≤ m.at_ ∧ m.at_ < m.code.length then
    match oneM (insAt m.code m.at_) m with
    | none => none
    | some (d, m1) => some (cyc (insAt m.code m.at_).op, { m1 with at_ := wrap64 (m.at_ + d), spent := wrap64 (m.spent + cyc (insAt m.code m.at_).op) })
  else none

theorem code_at {w : World} {base : Nat} {v : Value} {l : List In} (h : w.ownsRow base 53 2 v l.length (insV l)) (i : Int) (h0 : 0 ≤ i) (h1 : i < l.length) :
    ∃ g c, v = .slice (some ⟨g, 0, none⟩) l.length c ∧ l.length ≤ c ∧ c ≤ maxLen ∧ w.cell? ⟨g, i.toNat * 2, none⟩ = some (.int .u8 (insAt l i).op) ∧ w.cell? ⟨g, i.toNat * 2 + 1, none⟩ = some (.int .i64 (insAt l i).arg) := by
  have hc := h
  rcases h.2 with ⟨rfl, hn⟩ | ⟨g, cap, cur, rfl, hb, hg, h1', h2, h3, h4⟩
  · omega
  · have hi := insV_get l i.toNat (by omega)
    have c1 := hc.cells (g := g) rfl _ _ hi.1
    have c2 := hc.cells (g := g) rfl _ _ hi.2
    have hadd : ∀ j, (⟨g, 0, none⟩ : Addr).add j = ⟨g, j, none⟩ := fun j => by unfold Addr.add; split <;> simp_all
    rw [hadd] at c1 c2
    exact ⟨g, cap, rfl, h1', h2, c1, c2⟩

/-- What 'one' leaves alone. -/
theorem oneM_keeps {i : In} {m m' : Vm} {d : Int} (h : oneM i m = some (d, m')) :
    m'.sc = m.sc ∧ m'.cf = m.cf ∧ m'.at_ = m.at_ ∧ m'.sl = m.sl ∧ m'.si = m.si ∧ m'.so = m.so ∧ m'.spent = m.spent ∧ m'.gm = m.gm ∧ m'.code = m.code ∧ m'.ins = m.ins ∧ m'.slots.length = m.slots.length ∧ m'.outs.length = m.outs.length ∧ m'.ss = m.ss := by
  unfold oneM at h
  by_cases e1 : i.op = 1
  · rw [if_pos e1] at h; cases h; simp
  rw [if_neg e1] at h
  by_cases e2 : i.op = 2
  · rw [if_pos e2] at h
    by_cases e : 0 ≤ i.arg ∧ i.arg < m.slots.length
    · rw [if_pos e] at h; cases h; simp
    · rw [if_neg e] at h; cases h
  rw [if_neg e2] at h
  by_cases e4 : i.op = 4
  · rw [if_pos e4] at h
    by_cases e : 0 ≤ i.arg ∧ i.arg < m.ins.length
    · rw [if_pos e] at h; cases h; simp
    · rw [if_neg e] at h; cases h
  rw [if_neg e4] at h
  by_cases e21 : i.op = 21
  · rw [if_pos e21] at h; cases h; simp
  rw [if_neg e21] at h
  by_cases e23 : i.op = 23
  · rw [if_pos e23] at h; cases h; simp
  rw [if_neg e23] at h
  cases hlast : m.stack.getLast? with
  | none => rw [hlast] at h; cases h
  | some t =>
    rw [hlast] at h
    dsimp only at h
    by_cases e3 : i.op = 3
    · rw [if_pos e3] at h
      by_cases e : 0 ≤ i.arg ∧ i.arg < m.slots.length
      · rw [if_pos e] at h; cases h; simp
      · rw [if_neg e] at h; cases h
    rw [if_neg e3] at h
    by_cases e5 : i.op = 5
    · rw [if_pos e5] at h
      by_cases e : 0 ≤ i.arg ∧ i.arg < m.outs.length
      · rw [if_pos e] at h; cases h; simp
      · rw [if_neg e] at h; cases h
    rw [if_neg e5] at h
    by_cases e6 : i.op = 6
    · rw [if_pos e6] at h; cases h; simp
    rw [if_neg e6] at h
    by_cases e7 : i.op = 7
    · rw [if_pos e7] at h; cases h; simp
    rw [if_neg e7] at h
    by_cases e22 : i.op = 22
    · rw [if_pos e22] at h; cases h; simp
    rw [if_neg e22] at h
    by_cases e : 8 ≤ i.op ∧ i.op ≤ 20
    · rw [if_pos e] at h
      cases hlast2 : m.stack.dropLast.getLast? with
      | none => rw [hlast2] at h; cases h
      | some x => rw [hlast2] at h; cases h; simp
    · rw [if_neg e] at h; cases h

set_option maxHeartbeats 1000000 in
theorem spent_c {base : Nat} {w : World} {b : Nat} {m : Vm} (h : VmAt base w b m) : Calls Try.prog 15 #[.pointer (some ⟨b, 0, none⟩)] w fun e w' => e = .returned (.int .i64 m.spent) ∧ w = w' := by
  have hc := h.c10
  clear h
  go_enter Try.func15, Try.ntmps15
  go_wp2
  go_ret
  exact ⟨rfl, rfl⟩
theorem spent_nil (w : World) : Calls Try.prog 15 #[.pointer none] w fun e w' => e = .returned (.int .i64 0) ∧ w = w' := by
  go_enter Try.func15, Try.ntmps15
  go_wp2
  go_ret
  exact ⟨rfl, rfl⟩

/-- A state of a Vm behind a call, the stack's slice aside. -/
def StepQ (base : Nat) (w : World) (b : Nat) (m m' : Vm) (w' : World) : Prop := ∃ v, VmGo base b w m w' { m' with ss := v }

theorem step_nil (w : World) : Calls Try.prog 20 #[.pointer none] w fun e w' => e = .returned (.tuple #[.int .i64 0, .bool false, .int .i64 1]) ∧ w = w' := by
  go_enter Try.func20, Try.ntmps20
  go_wp2
  go_ret3
  exact ⟨rfl, rfl⟩
set_option maxHeartbeats 1000000 in
theorem step_ended {base : Nat} {w : World} {b : Nat} {m : Vm} (h : VmAt base w b m) (he : m.ended = true) :
    Calls Try.prog 20 #[.pointer (some ⟨b, 0, none⟩)] w fun e w' => e = .returned (.tuple #[.int .i64 0, .bool false, .int .i64 3]) ∧ w = w' := by
  have hc := h.c11
  rw [he] at hc
  clear h
  go_enter Try.func20, Try.ntmps20
  go_wp2
  go_ret3
  exact ⟨rfl, rfl⟩

/-- What is known behind the instruction. -/
theorem one_facts {base : Nat} {w w1 w' : World} {b : Nat} {m m1 : Vm} {i : In} {d : Int} {X : Obj} (h : VmAt base w b m) (ho : oneM i m = some (d, m1)) (hX : X = .cells #[.int .u8 i.op, .int .i64 i.arg] 53) (h1 : w1 = (w.alloc X).drew.drew) (hq : OneQ base w1 b m m1 w') :
    w'.cell? ⟨b, 5, none⟩ = some (.int .i64 m.at_) ∧ w'.frozen? ⟨b, 5, none⟩ = false ∧ w'.cell? ⟨b, 10, none⟩ = some (.int .i64 m.spent) ∧ w'.frozen? ⟨b, 10, none⟩ = false ∧ w'.cell? ⟨b, 11, none⟩ = some (.bool m1.ended)
      ∧ w'.cell? ⟨w.heap.size, 0, none⟩ = some (.int .u8 i.op) ∧ w.heap.size < w'.heap.size := by
  obtain ⟨v, hgo⟩ := hq
  have hk := oneM_keeps ho
  have c5 := hgo.at'.c5
  have c10 := hgo.at'.c10
  rw [hk.2.2.1] at c5
  rw [hk.2.2.2.2.2.2.1] at c10
  subst hX
  subst h1
  refine ⟨c5, hgo.at'.fz 5, c10, hgo.at'.fz 10, hgo.at'.c11, hgo.upd.cell ?_ ?_, ?_⟩
  · exact World.cell?_alloc_at _ _ _ _ rfl
  · intro hf
    have := (h.foot_base _ hf).2
    exact Nat.lt_irrefl _ this
  · have := hgo.upd.size
    simp at this
    omega

theorem StepQ.drewN {base : Nat} {w w' : World} {b : Nat} {m m' : Vm} (h : StepQ base w b m m' w') (n : Nat) : StepQ base w b m m' (w'.drewN n) := by
  obtain ⟨v, hv⟩ := h
  exact ⟨v, hv.drewN n⟩

theorem OneQ.fold {base : Nat} {w w1 w' : World} {b : Nat} {m m1 : Vm} {d n : Int} {X : Obj} (h : VmAt base w b m) (hd : m1.spent = m.spent) (h1 : w1 = (w.alloc X).drew.drew) (hq : OneQ base w1 b m m1 w') :
    StepQ base w b m { m1 with at_ := d, spent := n } ((w'.setCell ⟨b, 5, none⟩ (.int .i64 d)).setCell ⟨b, 10, none⟩ (.int .i64 n)) := by
  obtain ⟨v, hgo⟩ := hq
  subst h1
  have g0 : VmGo base b w m w' { m1 with ss := v } := (((VmGo.refl h).alloc X).drew.drew).trans hgo
  have a1 := g0.at'.setAt d
  have g1 : VmGo base b w m _ { m1 with ss := v, at_ := d } := g0.trans (VmGo.ofSet a1 fun k hk => .inl hk)
  have a2 := a1.setSpent n
  exact ⟨v, g1.trans (VmGo.ofSet a2 fun k hk => .inl hk)⟩

set_option maxHeartbeats 2000000 in
set_option maxRecDepth 8000 in
theorem step_c {base : Nat} {w : World} {b : Nat} {m m' : Vm} {n : Int} (h : VmAt base w b m) (he : m.ended = false) (hl : m.stack.length ≤ 1000000) (hs : stepM m = some (n, m')) :
    Calls Try.prog 20 #[.pointer (some ⟨b, 0, none⟩)] w fun e w' => e = .returned (.tuple #[.int .i64 n, .bool m'.ended, .int .i64 0]) ∧ StepQ base w b m m' w' := by
  unfold stepM at hs
  by_cases hat : 0 ≤ m.at_ ∧ m.at_ < m.code.length
  case neg => rw [if_neg hat] at hs; cases hs
  rw [if_pos hat] at hs
  obtain ⟨ha0, ha1⟩ := hat
  obtain ⟨g, c, hv, hc, hm, hop, harg⟩ := code_at h.rc m.at_ ha0 ha1
  have hb := h.lt
  have hg := World.block_lt_of_cell? w _ hop
  dsimp only at hg
  unfold maxLen at hm
  have h11 := h.c11
  rw [he] at h11
  have h0 := h.c0
  rw [hv] at h0
  have h5 := h.c5
  generalize hi : insAt m.code m.at_ = i at *
  cases ho : oneM i m with
  | none => rw [ho] at hs; cases hs
  | some r =>
    obtain ⟨d, m1⟩ := r
    rw [ho] at hs
    cases hs
    have H0 := Lib.hid h
    have Ho := Lib.hid ho
    have Hi := Lib.hid hi
    clear h ho hi hv
    go_enter Try.func20, Try.ntmps20
    go_wp2_with fail
    go_region
    all_goals (go_wp2_with fail)
    have H6 := Lib.hid ((H0.out.alloc (.cells #[.int .u8 i.op, .int .i64 i.arg] 53)).drew.drew)
    go_region_with (go_at_call 33; refine (one_c H6.out hl Ho.out).mono ?_; rintro e w1 ⟨rfl, hp⟩; obtain ⟨q1, q2, q3, q4, q5, q6, q7⟩ := one_facts H0.out Ho.out rfl rfl hp; have hp' := Lib.hid hp; clear hp)
    all_goals (go_wp2_with (go_at_call 34; refine (cycles_c _ _).mono ?_; rintro e w' ⟨rfl, rfl⟩))
    all_goals
      go_quiet (fail)
      go_wp2
      go_ret3
      refine ⟨rfl, ?_⟩
      exact (OneQ.fold H0.out (oneM_keeps Ho.out).2.2.2.2.2.2.1 rfl hp'.out).drewN nq

end Go.Proofs.Ytihajgmknhifiaa
