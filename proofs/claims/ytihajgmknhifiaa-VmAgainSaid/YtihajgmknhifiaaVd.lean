/- One instruction: the calls of vm's one, for each operation. -/
import Derived.Test.YtihajgmknhifiaaVc
namespace Go.Proofs.Ytihajgmknhifiaa
open Go.RowKit
set_option linter.unusedVariables false

/-- An element. -/
def at0 (xs : List Int) (i : Int) : Int := xs.getD i.toNat 0

/-- One instruction, as it is told: how far it goes on, and the state behind it (the stack's slice aside). -/
def oneM (i : In) (m : Vm) : Option (Int × Vm) :=
  if i.op = 1 then some (1, { m with stack := m.stack ++ [i.arg] })
  else if i.op = 2 then (if 0 ≤ i.arg ∧ i.arg < m.slots.length then some (1, { m with stack := m.stack ++ [at0 m.slots i.arg] }) else none)
  else if i.op = 4 then (if 0 ≤ i.arg ∧ i.arg < m.ins.length then some (1, { m with stack := m.stack ++ [at0 m.ins i.arg] }) else none)
  else if i.op = 21 then some (i.arg, m)
  else if i.op = 23 then some (0, { m with ended := true })
  else match m.stack.getLast? with
    | none => none
    | some t =>
      let xs := m.stack.dropLast
      if i.op = 3 then (if 0 ≤ i.arg ∧ i.arg < m.slots.length then some (1, { m with stack := xs, slots := m.slots.set i.arg.toNat t }) else none)
      else if i.op = 5 then (if 0 ≤ i.arg ∧ i.arg < m.outs.length then some (1, { m with stack := xs, outs := m.outs.set i.arg.toNat t }) else none)
      else if i.op = 6 then some (1, { m with stack := xs ++ [wrap64 (-t)] })
      else if i.op = 7 then some (1, { m with stack := xs ++ [truth (t == 0)] })
      else if i.op = 22 then some (if t = 0 then i.arg else 1, { m with stack := xs })
      else if 8 ≤ i.op ∧ i.op ≤ 20 then
        match xs.getLast? with
        | none => none
        | some d => some (1, { m with stack := xs.dropLast ++ [bin i.op d t] })
      else none

/-- What an instruction leaves. -/
def OneQ (base : Nat) (w : World) (b : Nat) (m m' : Vm) (w' : World) : Prop := ∃ v, VmGo base b w m w' { m' with ss := v }

theorem last_split {l : List Int} {t : Int} (h : l.getLast? = some t) : l = l.dropLast ++ [t] := by
  have hne : l ≠ [] := by rintro rfl; simp at h
  rw [List.getLast?_eq_some_getLast hne] at h
  rw [← Option.some.inj h]
  exact (List.dropLast_concat_getLast hne).symm

theorem VmAt.drew {base : Nat} {w : World} {b : Nat} {m : Vm} (h : VmAt base w b m) : VmAt base w.drew b m :=
  h.upd (F := fun _ => False) (Upd.refl _ _).drew fun _ _ => id
theorem VmAt.alloc {base : Nat} {w : World} {b : Nat} {m : Vm} (h : VmAt base w b m) (o : Obj) : VmAt base (w.alloc o) b m :=
  h.upd (F := fun _ => False) ((Upd.refl _ _).alloc o) fun _ _ => id

section
variable {base : Nat} {w : World} {b : Nat} {m : Vm}

set_option maxHeartbeats 1000000 in
set_option maxRecDepth 8000 in
theorem one1_c (arg : Int) (h : VmAt base w b m) (hl : m.stack.length ≤ 1000000) :
    Calls Try.prog 33 #[.pointer (some ⟨b, 0, none⟩), .agg #[.int .u8 1, .int .i64 arg]] w fun e w' => e = .returned (.int .i64 1) ∧ OneQ base w b m { m with stack := m.stack ++ [arg] } w' := by
  have hb := h.lt
  have ha := h.alloc (.cells #[.int .u8 1, .int .i64 arg] 53)
  have H := Lib.hid ha
  have H0 := Lib.hid h
  clear h ha
  go_enter Try.func33, Try.ntmps33
  go_wp2_with (go_at_call 66; refine (push_c _ H.out hl).mono ?_; rintro e w' ⟨rfl, hp⟩)
  go_ret
  obtain ⟨v, hv⟩ := hp
  exact ⟨rfl, v, ((VmGo.refl H0.out).alloc _).trans hv⟩

set_option maxHeartbeats 1000000 in
set_option maxRecDepth 8000 in
theorem one21_c (arg : Int) (h : VmAt base w b m) :
    Calls Try.prog 33 #[.pointer (some ⟨b, 0, none⟩), .agg #[.int .u8 21, .int .i64 arg]] w fun e w' => e = .returned (.int .i64 arg) ∧ OneQ base w b m m w' := by
  have hb := h.lt
  have H0 := Lib.hid h
  clear h
  go_enter Try.func33, Try.ntmps33
  go_wp2
  go_ret
  exact ⟨rfl, m.ss, (VmGo.refl H0.out).alloc _⟩

set_option maxHeartbeats 1000000 in
set_option maxRecDepth 8000 in
theorem one23_c (arg : Int) (h : VmAt base w b m) :
    Calls Try.prog 33 #[.pointer (some ⟨b, 0, none⟩), .agg #[.int .u8 23, .int .i64 arg]] w fun e w' => e = .returned (.int .i64 0) ∧ OneQ base w b m { m with ended := true } w' := by
  have hb := h.lt
  have h11 := h.c11
  have hf := h.fz 11
  have H0 := Lib.hid h
  clear h
  go_enter Try.func33, Try.ntmps33
  go_wp2
  go_ret
  exact ⟨rfl, m.ss, (VmGo.ofSet (m := m) (H0.out.setEnded true) fun k hk => .inl hk).alloc _⟩

theorem VmAt.g_foot {g n c k : Nat} {v' : Value} (h : VmAt base w b m) {v : Value} (hv : v = .slice (some ⟨g, 0, none⟩) n c) (hf : Far v v') (hk : v'.ownBlock = some k) : ¬ k = g := by
  subst hv
  rcases hf with hf | hf
  · simp [Value.ownBlock] at hf
  · rintro rfl
    exact hf (by rw [hk]; rfl)

theorem VmAt.slotSet {g n c : Nat} (h : VmAt base w b m) (hv : m.sl = .slice (some ⟨g, 0, none⟩) n c) (i : Nat) (t : Int) : VmGo base b w m (w.setCell ⟨g, i, none⟩ (.int .i64 t)) { m with slots := m.slots.set i t } := by
  have hu : Upd (fun k => k = g) w (w.setCell ⟨g, i, none⟩ (.int .i64 t)) := Upd.setCell (F := fun k => k = g) (Upd.refl _ _) ⟨g, i, none⟩ (.inl rfl) _
  have hg := h.row_ne h.rl (by decide) g (by rw [hv]; rfl)
  have hrl := h.rl
  have hn : m.slots.length = n := by
    have e := hrl
    rw [hv] at e
    rcases e.2 with ⟨e1, _⟩ | ⟨_, _, _, e1, _⟩
    · simp at e1
    · injection e1 with _ e2 _
      exact e2.symm
  have hf : ∀ k, (some g = some k) → m.foot b k := fun k hk => .inr (.inr (.inr (.inr (.inl (by rw [hv]; exact hk)))))
  refine ⟨{ blk := (hu.block b h.lt hg.1.symm).trans h.blk, does := (hu.block m.gm (h.foot_base m.gm (.inr (.inl rfl))).2 hg.2.symm).trans h.does,
            rc := own_upd h.rc hu fun k hk => h.g_foot hv (own_ne_type h.rl h.rc (by decide)) hk, rs := own_upd h.rs hu fun k hk => h.g_foot hv h.sl_.symm hk,
            rl := ?_, ri := own_upd h.ri hu fun k hk => h.g_foot hv h.li_ hk, ro := own_upd h.ro hu fun k hk => h.g_foot hv h.lo_ hk,
            bb := h.bb, bm := h.bm, sl_ := h.sl_, si_ := h.si_, so_ := h.so_, li_ := h.li_, lo_ := h.lo_, io_ := h.io_ }, hu.mono fun k hk => hf k (by rw [hk]), fun k hk => .inl hk⟩
  dsimp only
  rw [List.length_set, hn, hv]
  rw [hn, hv] at hrl
  have e := (World.ownsRow.stored (base := base) (e := 2) (size := 1) hrl i (.int .i64 t)).1
  simpa [ints, List.map_set] using e

theorem VmAt.outSet {g n c : Nat} (h : VmAt base w b m) (hv : m.so = .slice (some ⟨g, 0, none⟩) n c) (i : Nat) (t : Int) : VmGo base b w m (w.setCell ⟨g, i, none⟩ (.int .i64 t)) { m with outs := m.outs.set i t } := by
  have hu : Upd (fun k => k = g) w (w.setCell ⟨g, i, none⟩ (.int .i64 t)) := Upd.setCell (F := fun k => k = g) (Upd.refl _ _) ⟨g, i, none⟩ (.inl rfl) _
  have hg := h.row_ne h.ro (by decide) g (by rw [hv]; rfl)
  have hro := h.ro
  have hn : m.outs.length = n := by
    have e := hro
    rw [hv] at e
    rcases e.2 with ⟨e1, _⟩ | ⟨_, _, _, e1, _⟩
    · simp at e1
    · injection e1 with _ e2 _
      exact e2.symm
  have hf : ∀ k, (some g = some k) → m.foot b k := fun k hk => .inr (.inr (.inr (.inr (.inr (.inr (by rw [hv]; exact hk))))))
  refine ⟨{ blk := (hu.block b h.lt hg.1.symm).trans h.blk, does := (hu.block m.gm (h.foot_base m.gm (.inr (.inl rfl))).2 hg.2.symm).trans h.does,
            rc := own_upd h.rc hu fun k hk => h.g_foot hv (own_ne_type h.ro h.rc (by decide)) hk, rs := own_upd h.rs hu fun k hk => h.g_foot hv h.so_.symm hk,
            ro := ?_, ri := own_upd h.ri hu fun k hk => h.g_foot hv h.io_.symm hk, rl := own_upd h.rl hu fun k hk => h.g_foot hv h.lo_.symm hk,
            bb := h.bb, bm := h.bm, sl_ := h.sl_, si_ := h.si_, so_ := h.so_, li_ := h.li_, lo_ := h.lo_, io_ := h.io_ }, hu.mono fun k hk => hf k (by rw [hk]), fun k hk => .inl hk⟩
  dsimp only
  rw [List.length_set, hn, hv]
  rw [hn, hv] at hro
  have e := (World.ownsRow.stored (base := base) (e := 2) (size := 1) hro i (.int .i64 t)).1
  simpa [ints, List.map_set] using e

theorem foot_cut {xs : List Int} (k : Nat) (hk : ({ m with ss := cutS m.ss, stack := xs } : Vm).foot b k) : m.foot b k ∨ w.heap.size ≤ k := by
  left
  unfold Vm.foot at *
  simpa only [cutS_own] using hk

theorem own_at {v : Value} {xs : List Int} (h : w.ownsRow base 2 1 v xs.length (ints xs)) (i : Int) (h0 : 0 ≤ i) (h1 : i < xs.length) :
    ∃ g c, v = .slice (some ⟨g, 0, none⟩) xs.length c ∧ xs.length ≤ c ∧ c ≤ maxLen ∧ w.cell? ⟨g, i.toNat, none⟩ = some (.int .i64 (at0 xs i)) ∧ w.frozen? ⟨g, i.toNat, none⟩ = false := by
  have hc := h
  rcases h.2 with ⟨rfl, hn⟩ | ⟨g, cap, cur, rfl, hb, hg, h1', h2, h3, h4⟩
  · omega
  · have hcell := hc.cells (g := g) rfl i.toNat (.int .i64 (at0 xs i)) (ints_get xs i.toNat (by omega))
    have hadd : (⟨g, 0, none⟩ : Addr).add i.toNat = ⟨g, i.toNat, none⟩ := by unfold Addr.add; split <;> simp_all
    rw [hadd] at hcell
    exact ⟨g, cap, rfl, h1', h2, hcell, frozen_blk hg _⟩

set_option maxHeartbeats 1000000 in
set_option maxRecDepth 8000 in
theorem one2_c (arg : Int) (h : VmAt base w b m) (hl : m.stack.length ≤ 1000000) (h0 : 0 ≤ arg) (h1 : arg < m.slots.length) :
    Calls Try.prog 33 #[.pointer (some ⟨b, 0, none⟩), .agg #[.int .u8 2, .int .i64 arg]] w fun e w' => e = .returned (.int .i64 1) ∧ OneQ base w b m { m with stack := m.stack ++ [at0 m.slots arg] } w' := by
  have hb := h.lt
  have h7 := h.c7
  obtain ⟨g, c, hv, hc, hm, ht, hz⟩ := own_at h.rl arg h0 h1
  have hg := World.block_lt_of_cell? w _ ht
  dsimp only at hg
  unfold maxLen at hm
  have ha := h.alloc (.cells #[.int .u8 2, .int .i64 arg] 53)
  have H := Lib.hid ha.drew
  have H0 := Lib.hid h
  rw [hv] at h7
  have Hv := Lib.hid hv
  clear h ha hv hz
  go_enter Try.func33, Try.ntmps33
  go_wp2_with fail
  go_region_with (go_at_call 66; refine (push_c _ H.out hl).mono ?_; rintro e w' ⟨rfl, hp⟩)
  all_goals
    go_wp2
    go_ret
    obtain ⟨v, hvv⟩ := ‹PushQ _ _ _ _ _ _›
    exact ⟨rfl, v, ((VmGo.refl H0.out).alloc _).drew.trans hvv⟩

set_option maxHeartbeats 1000000 in
set_option maxRecDepth 8000 in
theorem one4_c (arg : Int) (h : VmAt base w b m) (hl : m.stack.length ≤ 1000000) (h0 : 0 ≤ arg) (h1 : arg < m.ins.length) :
    Calls Try.prog 33 #[.pointer (some ⟨b, 0, none⟩), .agg #[.int .u8 4, .int .i64 arg]] w fun e w' => e = .returned (.int .i64 1) ∧ OneQ base w b m { m with stack := m.stack ++ [at0 m.ins arg] } w' := by
  have hb := h.lt
  have h7 := h.c8
  obtain ⟨g, c, hv, hc, hm, ht, hz⟩ := own_at h.ri arg h0 h1
  have hg := World.block_lt_of_cell? w _ ht
  dsimp only at hg
  unfold maxLen at hm
  have ha := h.alloc (.cells #[.int .u8 4, .int .i64 arg] 53)
  have H := Lib.hid ha.drew
  have H0 := Lib.hid h
  rw [hv] at h7
  have Hv := Lib.hid hv
  clear h ha hv hz
  go_enter Try.func33, Try.ntmps33
  go_wp2_with fail
  go_region_with (go_at_call 66; refine (push_c _ H.out hl).mono ?_; rintro e w' ⟨rfl, hp⟩)
  all_goals
    go_wp2
    go_ret
    obtain ⟨v, hvv⟩ := ‹PushQ _ _ _ _ _ _›
    exact ⟨rfl, v, ((VmGo.refl H0.out).alloc _).drew.trans hvv⟩

set_option maxHeartbeats 2000000 in
set_option maxRecDepth 8000 in
theorem one3_c {xs : List Int} {t : Int} (arg : Int) (h : VmAt base w b m) (hs : m.stack = xs ++ [t]) (h0 : 0 ≤ arg) (h1 : arg < m.slots.length) :
    Calls Try.prog 33 #[.pointer (some ⟨b, 0, none⟩), .agg #[.int .u8 3, .int .i64 arg]] w fun e w' => e = .returned (.int .i64 1) ∧ OneQ base w b m { m with stack := xs, slots := m.slots.set arg.toNat t } w' := by
  have hb := h.lt
  have h7 := h.c7
  obtain ⟨g, c, hv, hc, hm, ht, hz⟩ := own_at h.rl arg h0 h1
  have hg := World.block_lt_of_cell? w _ ht
  dsimp only at hg
  unfold maxLen at hm
  have ha := h.alloc (.cells #[.int .u8 3, .int .i64 arg] 53)
  have H := Lib.hid ha.drew
  have H0 := Lib.hid h
  rw [hv] at h7
  have Hv := Lib.hid hv
  have Hs := Lib.hid hs
  have hgb : g ≠ b := (h.row_ne h.rl (by decide) g (by rw [hv]; rfl)).1
  have hc2 : (w.setCell ⟨b, 6, none⟩ (cutS m.ss)).cell? ⟨g, arg.toNat, none⟩ = some (.int .i64 (at0 m.slots arg)) := by
    rw [World.cell?_setCell_other _ _ _ _ (by intro e; exact hgb (by injection e with e1; exact e1.symm))]; exact ht
  clear h ha hv hs
  go_enter Try.func33, Try.ntmps33
  go_wp2_with fail
  go_region_with (go_at_call 67; refine (pop_c H.out Hs.out).mono ?_; rintro e w' ⟨rfl, rfl⟩)
  all_goals
    go_wp2
    go_ret
    exact ⟨rfl, cutS m.ss, (((VmGo.ofSet (H0.out.popped Hs.out) fun k hk => (foot_cut k hk)).trans ((H0.out.popped Hs.out).slotSet Hv.out _ _)).alloc _).drew⟩

set_option maxHeartbeats 2000000 in
set_option maxRecDepth 8000 in
theorem one5_c {xs : List Int} {t : Int} (arg : Int) (h : VmAt base w b m) (hs : m.stack = xs ++ [t]) (h0 : 0 ≤ arg) (h1 : arg < m.outs.length) :
    Calls Try.prog 33 #[.pointer (some ⟨b, 0, none⟩), .agg #[.int .u8 5, .int .i64 arg]] w fun e w' => e = .returned (.int .i64 1) ∧ OneQ base w b m { m with stack := xs, outs := m.outs.set arg.toNat t } w' := by
  have hb := h.lt
  have h7 := h.c9
  obtain ⟨g, c, hv, hc, hm, ht, hz⟩ := own_at h.ro arg h0 h1
  have hg := World.block_lt_of_cell? w _ ht
  dsimp only at hg
  unfold maxLen at hm
  have ha := h.alloc (.cells #[.int .u8 5, .int .i64 arg] 53)
  have H := Lib.hid ha.drew
  have H0 := Lib.hid h
  rw [hv] at h7
  have Hv := Lib.hid hv
  have Hs := Lib.hid hs
  have hgb : g ≠ b := (h.row_ne h.ro (by decide) g (by rw [hv]; rfl)).1
  have hc2 : (w.setCell ⟨b, 6, none⟩ (cutS m.ss)).cell? ⟨g, arg.toNat, none⟩ = some (.int .i64 (at0 m.outs arg)) := by
    rw [World.cell?_setCell_other _ _ _ _ (by intro e; exact hgb (by injection e with e1; exact e1.symm))]; exact ht
  clear h ha hv hs
  go_enter Try.func33, Try.ntmps33
  go_wp2_with fail
  go_region_with (go_at_call 67; refine (pop_c H.out Hs.out).mono ?_; rintro e w' ⟨rfl, rfl⟩)
  all_goals
    go_wp2
    go_ret
    exact ⟨rfl, cutS m.ss, (((VmGo.ofSet (H0.out.popped Hs.out) fun k hk => (foot_cut k hk)).trans ((H0.out.popped Hs.out).outSet Hv.out _ _)).alloc _).drew⟩

set_option maxHeartbeats 2000000 in
set_option maxRecDepth 8000 in
theorem one6_c {xs : List Int} {t : Int} (arg : Int) (h : VmAt base w b m) (hs : m.stack = xs ++ [t]) (hl : m.stack.length ≤ 1000000) :
    Calls Try.prog 33 #[.pointer (some ⟨b, 0, none⟩), .agg #[.int .u8 6, .int .i64 arg]] w fun e w' => e = .returned (.int .i64 1) ∧ OneQ base w b m { m with stack := xs ++ [wrap64 (-t)] } w' := by
  have hb := h.lt
  have ha := h.alloc (.cells #[.int .u8 6, .int .i64 arg] 53)
  have H := Lib.hid ha
  have H0 := Lib.hid h
  have H1 := Lib.hid ((h.popped hs).alloc (.cells #[.int .u8 6, .int .i64 arg] 53))
  have Hs := Lib.hid hs
  have hx : xs.length ≤ 1000000 := by rw [hs] at hl; simp at hl; omega
  clear h ha hs hl
  go_enter Try.func33, Try.ntmps33
  go_wp2_with (first | (go_at_call 67; refine (pop_c H.out Hs.out).mono ?_; rintro e w' ⟨rfl, rfl⟩) | (go_at_call 58; refine (truth_c _ _).mono ?_; rintro e w' ⟨rfl, rfl⟩) | (go_at_call 66; refine (push_c _ H1.out hx).mono ?_; rintro e w' ⟨rfl, hp⟩))
  go_ret
  obtain ⟨v, hvv⟩ := ‹PushQ _ _ _ _ _ _›
  exact ⟨rfl, v, ((VmGo.ofSet (H0.out.popped Hs.out) fun k hk => (foot_cut k hk)).alloc _).trans hvv⟩

set_option maxHeartbeats 2000000 in
set_option maxRecDepth 8000 in
theorem one7_c {xs : List Int} {t : Int} (arg : Int) (h : VmAt base w b m) (hs : m.stack = xs ++ [t]) (hl : m.stack.length ≤ 1000000) :
    Calls Try.prog 33 #[.pointer (some ⟨b, 0, none⟩), .agg #[.int .u8 7, .int .i64 arg]] w fun e w' => e = .returned (.int .i64 1) ∧ OneQ base w b m { m with stack := xs ++ [truth (t == 0)] } w' := by
  have hb := h.lt
  have ha := h.alloc (.cells #[.int .u8 7, .int .i64 arg] 53)
  have H := Lib.hid ha
  have H0 := Lib.hid h
  have H1 := Lib.hid ((h.popped hs).alloc (.cells #[.int .u8 7, .int .i64 arg] 53))
  have Hs := Lib.hid hs
  have hx : xs.length ≤ 1000000 := by rw [hs] at hl; simp at hl; omega
  clear h ha hs hl
  go_enter Try.func33, Try.ntmps33
  go_wp2_with (first | (go_at_call 67; refine (pop_c H.out Hs.out).mono ?_; rintro e w' ⟨rfl, rfl⟩) | (go_at_call 58; refine (truth_c _ _).mono ?_; rintro e w' ⟨rfl, rfl⟩) | (go_at_call 66; refine (push_c _ H1.out hx).mono ?_; rintro e w' ⟨rfl, hp⟩))
  go_ret
  obtain ⟨v, hvv⟩ := ‹PushQ _ _ _ _ _ _›
  exact ⟨rfl, v, ((VmGo.ofSet (H0.out.popped Hs.out) fun k hk => (foot_cut k hk)).alloc _).trans hvv⟩

set_option maxHeartbeats 2000000 in
set_option maxRecDepth 8000 in
theorem one22_c {xs : List Int} {t : Int} (arg : Int) (h : VmAt base w b m) (hs : m.stack = xs ++ [t]) :
    Calls Try.prog 33 #[.pointer (some ⟨b, 0, none⟩), .agg #[.int .u8 22, .int .i64 arg]] w fun e w' => e = .returned (.int .i64 (if t = 0 then arg else 1)) ∧ OneQ base w b m { m with stack := xs } w' := by
  have hb := h.lt
  have ha := h.alloc (.cells #[.int .u8 22, .int .i64 arg] 53)
  have H := Lib.hid ha
  have H0 := Lib.hid h
  have Hs := Lib.hid hs
  clear h ha hs
  by_cases ht : t = 0
  · subst ht
    go_enter Try.func33, Try.ntmps33
    go_wp2_with (go_at_call 67; refine (pop_c H.out Hs.out).mono ?_; rintro e w' ⟨rfl, rfl⟩)
    go_ret
    exact ⟨rfl, cutS m.ss, (VmGo.ofSet (H0.out.popped Hs.out) fun k hk => (foot_cut k hk)).alloc _⟩
  · have ht' : (t != 0) = true := by simpa using ht
    go_enter Try.func33, Try.ntmps33
    go_wp2_with (go_at_call 67; refine (pop_c H.out Hs.out).mono ?_; rintro e w' ⟨rfl, rfl⟩)
    go_ret
    exact ⟨by first | rfl | (rw [if_neg ht]; rfl), cutS m.ss, (VmGo.ofSet (H0.out.popped Hs.out) fun k hk => (foot_cut k hk)).alloc _⟩

end

end Go.Proofs.Ytihajgmknhifiaa
