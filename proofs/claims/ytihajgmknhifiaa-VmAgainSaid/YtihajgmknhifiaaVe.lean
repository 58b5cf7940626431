/- One instruction on two numbers: the calls of vm's one at the operations 8 to 20. -/
import Derived.Test.YtihajgmknhifiaaVd
import Derived.MapKept
namespace Go.Proofs.Ytihajgmknhifiaa
open Go.RowKit Go.MapKept
set_option linter.unusedVariables false

theorem run_look {P : Program} {w : World} {mty kt et : TypeId} {d : TypeDesc} {r : Nat} {es : Array MapEntry} {clock j : Nat} {k v : Value} (hm : P.underlying mty = some (.map kt et)) (hd : P.underlying kt = some d) (hb : w.heap[r]? = some (.map es clock)) (hk : IsKey d k)
    (h : Instr.findNow d k es.toList 0 = some (some (j, v))) : (Instr.lookup mty (.map (some r)) k false).run P w = .ok v w := by
  have e1 : (getObj r).run P w = .ok (.map es clock) w := MapKept.run_getObj_map hb
  simp [Instr.lookup, run_underlying hm, e1, run_checkKey hd hk, run_findKey hd h, Result.andThen]

/-- What is called for an operation on two numbers. -/
structure DoesFn (op : Int) (k : Nat) : Prop where
  goes : ∀ xs (w : World), (callFunc k xs).run Try.prog w = .ok (.enter k xs) w
  calls : ∀ d t w, Calls Try.prog k #[.int .i64 d, .int .i64 t] w fun e w' => e = .returned (.int .i64 (bin op d t)) ∧ w = w'
  look : ∀ gm (w : World), w.heap[gm]? = some (.map doesEs 13) → (Instr.lookup 67 (.map (some gm)) (.int .u8 op) false).run Try.prog w = .ok (.func (.func k) #[] #[]) w

theorem goes_of {k : Nat} {fn : Func} (h : Try.prog.funcs[k]? = some fn) (hn : (fn.name == "runtime.NumGoroutine") = false) (hb : fn.body.isNone = false) (xs : Array Value) (w : World) : (callFunc k xs).run Try.prog w = .ok (.enter k xs) w := by
  have hn' : fn.name ≠ "runtime.NumGoroutine" := by simpa using hn
  have hb' : fn.body ≠ none := by intro e; rw [e] at hb; simp at hb
  simp [callFunc, h, hn', hb', Result.andThen]

section
variable {base : Nat} {w : World} {b : Nat} {m : Vm}

set_option maxHeartbeats 2000000 in
set_option maxRecDepth 8000 in
theorem oneB_c {xs : List Int} {d t op : Int} {k : Nat} (hd : DoesFn op k) (h8 : 8 ≤ op) (h20 : op ≤ 20) (arg : Int) (h : VmAt base w b m) (hs : m.stack = xs ++ [d] ++ [t]) (hl : m.stack.length ≤ 1000000) :
    Calls Try.prog 33 #[.pointer (some ⟨b, 0, none⟩), .agg #[.int .u8 op, .int .i64 arg]] w fun e w' => e = .returned (.int .i64 1) ∧ OneQ base w b m { m with stack := xs ++ [bin op d t] } w' := by
  have hb := h.lt
  have hp1 := h.popped hs
  have hp2 := hp1.popped (xs := xs) (t := d) rfl
  have h12 := hp1.c12
  have l1 := hd.look m.gm _ ((hp1.alloc (.cells #[.int .u8 op, .int .i64 arg] 53)).drew.does)
  have l2 := hd.look m.gm _ ((hp2.alloc (.cells #[.int .u8 op, .int .i64 arg] 53)).drew.does)
  have H := Lib.hid (h.alloc (.cells #[.int .u8 op, .int .i64 arg] 53))
  have H0 := Lib.hid h
  have H1 := Lib.hid (hp1.alloc (.cells #[.int .u8 op, .int .i64 arg] 53)).drew
  have H2 := Lib.hid (hp2.alloc (.cells #[.int .u8 op, .int .i64 arg] 53)).drew
  have Hs := Lib.hid hs
  have Hc := Lib.hid hd.calls
  have f1 := hd.goes
  have hx : xs.length ≤ 1000000 := by rw [hs] at hl; simp at hl; omega
  have t1 : (op == 1) = false := by rw [beq_eq_false_iff_ne]; omega
  have t2 : (op == 2) = false := by rw [beq_eq_false_iff_ne]; omega
  have t3 : (op == 3) = false := by rw [beq_eq_false_iff_ne]; omega
  have t4 : (op == 4) = false := by rw [beq_eq_false_iff_ne]; omega
  have t5 : (op == 5) = false := by rw [beq_eq_false_iff_ne]; omega
  have t6 : (op == 6) = false := by rw [beq_eq_false_iff_ne]; omega
  have t7 : (op == 7) = false := by rw [beq_eq_false_iff_ne]; omega
  have t22 : (op == 22) = false := by rw [beq_eq_false_iff_ne]; omega
  have t21 : (op == 21) = false := by rw [beq_eq_false_iff_ne]; omega
  have t23 : (op == 23) = false := by rw [beq_eq_false_iff_ne]; omega
  clear h hp1 hp2 hs hl hd h8 h20
  go_enter Try.func33, Try.ntmps33
  go_wp2_with (go_at_call 67; refine (pop_c H.out Hs.out).mono ?_; rintro e w' ⟨rfl, rfl⟩)
  go_region_with (first | (go_at_call 67; refine (pop_c H1.out rfl).mono ?_; rintro e w' ⟨rfl, rfl⟩) | (go_at_call 66; refine (push_c _ H2.out hx).mono ?_; rintro e w' ⟨rfl, hp⟩) | (with_reducible refine (Hc.out _ _ _).mono ?_; rintro e w' ⟨rfl, rfl⟩))
  all_goals
    go_wp2
    go_ret
    obtain ⟨v, hvv⟩ := ‹PushQ _ _ _ _ _ _›
    exact ⟨rfl, v, ((((VmGo.ofSet (H0.out.popped Hs.out) fun k hk => (foot_cut k hk)).trans (VmGo.ofSet ((H0.out.popped Hs.out).popped (xs := xs) (t := d) rfl) fun k hk => (foot_cut k hk))).alloc _).drew).trans hvv⟩
end

theorem does8 : DoesFn 8 52 := ⟨goes_of Try.func52 (by kernel_rfl) (by kernel_rfl), bin8_c, fun gm w h => run_look (j := 0) Try.underlying67 Try.underlying5 h rfl rfl⟩
theorem does9 : DoesFn 9 53 := ⟨goes_of Try.func53 (by kernel_rfl) (by kernel_rfl), bin9_c, fun gm w h => run_look (j := 1) Try.underlying67 Try.underlying5 h rfl rfl⟩
theorem does10 : DoesFn 10 54 := ⟨goes_of Try.func54 (by kernel_rfl) (by kernel_rfl), bin10_c, fun gm w h => run_look (j := 2) Try.underlying67 Try.underlying5 h rfl rfl⟩
theorem does11 : DoesFn 11 55 := ⟨goes_of Try.func55 (by kernel_rfl) (by kernel_rfl), bin11_c, fun gm w h => run_look (j := 3) Try.underlying67 Try.underlying5 h rfl rfl⟩
theorem does12 : DoesFn 12 56 := ⟨goes_of Try.func56 (by kernel_rfl) (by kernel_rfl), bin12_c, fun gm w h => run_look (j := 4) Try.underlying67 Try.underlying5 h rfl rfl⟩
theorem does13 : DoesFn 13 57 := ⟨goes_of Try.func57 (by kernel_rfl) (by kernel_rfl), bin13_c, fun gm w h => run_look (j := 5) Try.underlying67 Try.underlying5 h rfl rfl⟩
theorem does14 : DoesFn 14 59 := ⟨goes_of Try.func59 (by kernel_rfl) (by kernel_rfl), bin14_c, fun gm w h => run_look (j := 6) Try.underlying67 Try.underlying5 h rfl rfl⟩
theorem does15 : DoesFn 15 60 := ⟨goes_of Try.func60 (by kernel_rfl) (by kernel_rfl), bin15_c, fun gm w h => run_look (j := 7) Try.underlying67 Try.underlying5 h rfl rfl⟩
theorem does16 : DoesFn 16 61 := ⟨goes_of Try.func61 (by kernel_rfl) (by kernel_rfl), bin16_c, fun gm w h => run_look (j := 8) Try.underlying67 Try.underlying5 h rfl rfl⟩
theorem does17 : DoesFn 17 62 := ⟨goes_of Try.func62 (by kernel_rfl) (by kernel_rfl), bin17_c, fun gm w h => run_look (j := 9) Try.underlying67 Try.underlying5 h rfl rfl⟩
theorem does18 : DoesFn 18 63 := ⟨goes_of Try.func63 (by kernel_rfl) (by kernel_rfl), bin18_c, fun gm w h => run_look (j := 10) Try.underlying67 Try.underlying5 h rfl rfl⟩
theorem does19 : DoesFn 19 64 := ⟨goes_of Try.func64 (by kernel_rfl) (by kernel_rfl), bin19_c, fun gm w h => run_look (j := 11) Try.underlying67 Try.underlying5 h rfl rfl⟩
theorem does20 : DoesFn 20 65 := ⟨goes_of Try.func65 (by kernel_rfl) (by kernel_rfl), bin20_c, fun gm w h => run_look (j := 12) Try.underlying67 Try.underlying5 h rfl rfl⟩

theorem does_any {op : Int} (h8 : 8 ≤ op) (h20 : op ≤ 20) : ∃ k, DoesFn op k := by
  have h : op = 8 ∨ op = 9 ∨ op = 10 ∨ op = 11 ∨ op = 12 ∨ op = 13 ∨ op = 14 ∨ op = 15 ∨ op = 16 ∨ op = 17 ∨ op = 18 ∨ op = 19 ∨ op = 20 := by omega
  rcases h with rfl | rfl | rfl | rfl | rfl | rfl | rfl | rfl | rfl | rfl | rfl | rfl | rfl
  · exact ⟨_, does8⟩
  · exact ⟨_, does9⟩
  · exact ⟨_, does10⟩
  · exact ⟨_, does11⟩
  · exact ⟨_, does12⟩
  · exact ⟨_, does13⟩
  · exact ⟨_, does14⟩
  · exact ⟨_, does15⟩
  · exact ⟨_, does16⟩
  · exact ⟨_, does17⟩
  · exact ⟨_, does18⟩
  · exact ⟨_, does19⟩
  · exact ⟨_, does20⟩

/-- ONE INSTRUCTION, whatever it is: it does what 'oneM' tells. -/
theorem one_c {base : Nat} {w : World} {b : Nat} {m : Vm} {op arg d : Int} {m' : Vm} (h : VmAt base w b m) (hl : m.stack.length ≤ 1000000) (ho : oneM ⟨op, arg⟩ m = some (d, m')) :
    Calls Try.prog 33 #[.pointer (some ⟨b, 0, none⟩), .agg #[.int .u8 op, .int .i64 arg]] w fun e w' => e = .returned (.int .i64 d) ∧ OneQ base w b m m' w' := by
  unfold oneM at ho
  dsimp only at ho
  by_cases e1 : op = 1
  · subst e1; rw [if_pos rfl] at ho; cases ho; exact one1_c arg h hl
  rw [if_neg e1] at ho
  by_cases e2 : op = 2
  · subst e2; rw [if_pos rfl] at ho
    by_cases e : 0 ≤ arg ∧ arg < m.slots.length
    · rw [if_pos e] at ho; cases ho; exact one2_c arg h hl e.1 e.2
    · rw [if_neg e] at ho; cases ho
  rw [if_neg e2] at ho
  by_cases e4 : op = 4
  · subst e4; rw [if_pos rfl] at ho
    by_cases e : 0 ≤ arg ∧ arg < m.ins.length
    · rw [if_pos e] at ho; cases ho; exact one4_c arg h hl e.1 e.2
    · rw [if_neg e] at ho; cases ho
  rw [if_neg e4] at ho
  by_cases e21 : op = 21
  · subst e21; rw [if_pos rfl] at ho; cases ho; exact one21_c arg h
  rw [if_neg e21] at ho
  by_cases e23 : op = 23
  · subst e23; rw [if_pos rfl] at ho; cases ho; exact one23_c arg h
  rw [if_neg e23] at ho
  cases hlast : m.stack.getLast? with
  | none => rw [hlast] at ho; cases ho
  | some t =>
    rw [hlast] at ho
    dsimp only at ho
    have hs := last_split hlast
    by_cases e3 : op = 3
    · subst e3; rw [if_pos rfl] at ho
      by_cases e : 0 ≤ arg ∧ arg < m.slots.length
      · rw [if_pos e] at ho; cases ho; exact one3_c arg h hs e.1 e.2
      · rw [if_neg e] at ho; cases ho
    rw [if_neg e3] at ho
    by_cases e5 : op = 5
    · subst e5; rw [if_pos rfl] at ho
      by_cases e : 0 ≤ arg ∧ arg < m.outs.length
      · rw [if_pos e] at ho; cases ho; exact one5_c arg h hs e.1 e.2
      · rw [if_neg e] at ho; cases ho
    rw [if_neg e5] at ho
    by_cases e6 : op = 6
    · subst e6; rw [if_pos rfl] at ho; cases ho; exact one6_c arg h hs hl
    rw [if_neg e6] at ho
    by_cases e7 : op = 7
    · subst e7; rw [if_pos rfl] at ho; cases ho; exact one7_c arg h hs hl
    rw [if_neg e7] at ho
    by_cases e22 : op = 22
    · subst e22; rw [if_pos rfl] at ho; cases ho; exact one22_c arg h hs
    rw [if_neg e22] at ho
    by_cases e : 8 ≤ op ∧ op ≤ 20
    · rw [if_pos e] at ho
      cases hlast2 : m.stack.dropLast.getLast? with
      | none => rw [hlast2] at ho; cases ho
      | some x =>
        rw [hlast2] at ho
        cases ho
        have hs2 := last_split hlast2
        obtain ⟨k, hk⟩ := does_any e.1 e.2
        refine oneB_c hk e.1 e.2 arg h ?_ hl
        rw [← hs2]
        exact hs
    · rw [if_neg e] at ho; cases ho

end Go.Proofs.Ytihajgmknhifiaa
