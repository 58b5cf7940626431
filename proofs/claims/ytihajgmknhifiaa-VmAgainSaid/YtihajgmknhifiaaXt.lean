/- Two laws of drawn regions, in the round of a range over a function: one walk in the text's order serves every order, (1) where all operations only read, (2) where one more comes behind them all. -/
import Derived.Sort.BigQuietIn
namespace Go.Proofs.Ytihajgmknhifiaa
open Go

section
variable {F : Fence} {n : Nat} {P : Program} {ops : Array Oper} {C : World → Prop} {md : Region.Mode}

/-- No 'defer' among the operations. -/
def calmB (ops : Array Oper) : Bool := ops.all fun o => match o.op with | .defer _ => false | _ => true

theorem calm_of {i : Nat} {o : Oper} (h : calmB ops = true) (ho : ops[i]? = some o) : ∀ c, o.op ≠ .defer c := by
  intro c hc
  obtain ⟨hi, rfl⟩ := Array.getElem?_eq_some_iff.1 ho
  unfold calmB at h
  rw [Array.all_eq_true] at h
  have := h i hi
  rw [hc] at this
  cases this

theorem wpIn_of_quiet_r {o : Oper} {a : Act} {K : Act → Prop} {K' : Act → World → Prop} {Q' : Exit → Act → World → Prop} {w : World} (hd : ∀ c, o.op ≠ .defer c) (hw : C w) (h : ∀ a w', C w' → K a → K' a w')
    (ha : o.askedIn F P a C) (hh : o.quietIn F n P a C K) : o.wpIn F n P a w K' Q' := by
  obtain ⟨v, h1, h2⟩ := hh
  have h3 := h1 w hw
  unfold Oper.quietAtIn at h3
  unfold Oper.wpIn
  refine ⟨ha w hw, ?_⟩
  rw [Oper.semAt_eq _ _ _ hd]
  generalize (execOp a.eval o).run P w = r at *
  cases r with
  | ok x w' =>
    cases x <;> simp only [Oper.quietUponIn] at h3 <;> simp only [Oper.uponIn]
    case value u =>
      obtain ⟨e1, e2⟩ := h3
      rw [e1, e2]
      exact h _ _ hw h2
    case skip =>
      obtain ⟨e1, e2⟩ := h3
      rw [e1, ← e2]
      exact h _ _ hw h2
    case enter f args =>
      obtain ⟨e1, hd, hc⟩ := h3
      rw [e1]
      exact ⟨hd, hc.mono fun e w'' ⟨he, hw''⟩ => by subst he; exact h _ _ hw'' h2⟩
  | halt x w' => simp only [Oper.quietUponIn] at h3

theorem wpOpIn_of_q_r {i : Nat} {a : Act} {K : Act → Prop} {K' : Act → World → Prop} {Q' : Exit → Act → World → Prop} {w : World} (hd : calmB ops = true) (hC : C w) (h : ∀ a w', C w' → K a → K' a w')
    (hh : qOpIn F n P ops C i K a) : wpOpIn F n P ops Q' i K' a w := by
  unfold qOpIn at hh
  unfold wpOpIn
  split
  · rename_i ho; simp only [ho] at hh; exact h _ _ hC hh
  · rename_i o ho
    simp only [ho] at hh
    obtain ⟨ha, hh⟩ := hh
    split
    · rename_i hw; simp only [hw, if_true] at hh; exact wpIn_of_quiet_r (calm_of hd ho) hC h ha hh
    · rename_i hw; simp only [hw] at hh; exact ⟨ha w hC, h _ _ hC hh⟩

theorem wpAnyIn_of_q_r {Q : Act → Prop} {Q' : Exit → Act → World → Prop} (hd : calmB ops = true) (hQ : ∀ a w, C w → Q a → Q' .normal a w) : ∀ (fuel : Nat) (listed : Array Bool) (a : Act) (w : World), C w →
    wpAnyQIn F n P md ops C Q fuel listed a → wpAnyIn F n P md ops Q' fuel listed a w
  | 0, _, _, _, hw, h => ⟨h.1, hQ _ _ hw h.2⟩
  | fuel + 1, _, _, _, hw, h => ⟨fun h0 => hQ _ _ hw (h.1 h0), fun i hi => wpOpIn_of_q_r hd hw (fun a' w' hw' => wpAnyIn_of_q_r hd hQ fuel _ a' w' hw') (h.2 i hi)⟩

/-- (1) -/
theorem wpIn_quiet_r {id : Nat} {Q : Exit → Act → World → Prop} {a : Act} {w : World} {l : List Oper} (hd : calmB l.toArray = true) (hm : P.follows .mixedOrders = true) (hB : Region.lexB .any l.toArray = true)
    (h : wpQuietIn F n P l.toArray (fun w' => ∃ n, w' = w.drewN n) (fun a' => ∀ w', (∃ n, w' = w.drewN n) → Q .normal a' w') l a) : (Code.region id l.toArray true).wpIn F n P Q a w := by
  simp only [Region.lexB, Bool.and_eq_true] at hB
  refine wpIn_region_any hm (wpAnyIn_of_q_r (C := fun w' => ∃ n, w' = w.drewN n) (Q := fun a' => ∀ w', (∃ n, w' = w.drewN n) → Q .normal a' w') hd (fun _ w' hw' h => h w' hw') _ _ _ _ ⟨1, rfl⟩ ?_)
  have := wpAnyQIn_lex (F := F) (n := n) (C := fun w' => ∃ n, w' = w.drewN n) (md := .any) hB.1 l 0 (Array.replicate l.toArray.size false) a (by simp) (by simpa using hB.2) h
  simpa using this

/-- What an operation waits for lies ahead of it. -/
def backB (ops : Array Oper) : Bool := (List.range ops.size).all fun i => ((ops[i]?).map fun o => o.after.all fun e => decide (e.on < i)).getD true
theorem back_of {i : Nat} {o : Oper} (h : backB ops = true) (ho : ops[i]? = some o) : ∀ e ∈ o.after, e.on < i := by
  intro e he
  have hi := (Array.getElem?_eq_some_iff.1 ho).1
  unfold backB at h
  rw [List.all_eq_true] at h
  have := h i (List.mem_range.2 hi)
  rw [ho] at this
  simp only [Option.map_some, Option.getD_some] at this
  rw [Array.all_eq_true] at this
  obtain ⟨j, hj, rfl⟩ := Array.mem_iff_getElem.1 he
  simpa using this j hj
/-- The last one waits for all. -/
def lastB (md : Region.Mode) (n : Nat) (o : Oper) : Bool := (List.range n).all fun i => o.after.any fun e => Region.binds md e && e.on == i
theorem last_of {n i : Nat} {o : Oper} (h : lastB md n o = true) (hi : i < n) : ∃ e ∈ o.after, Region.binds md e = true ∧ e.on = i := by
  unfold lastB at h
  rw [List.all_eq_true] at h
  have := h i (List.mem_range.2 hi)
  rw [Array.any_eq_true] at this
  obtain ⟨j, hj, e⟩ := this
  simp at e
  exact ⟨_, Array.getElem_mem hj, e.1, e.2⟩
/-- Guards look at what lies ahead. -/
def guardB (n : Nat) (ops : Array Oper) : Bool := ops.all fun o => match o.guard with | none => true | some (j, _) => decide (j < n)

theorem all_listed (hb : backB ops = true) {listed : Array Bool} (h : Region.ready md ops listed = []) : ∀ i, i < ops.size → listed.getD i true = true := by
  intro i
  induction i using Nat.strongRecOn with
  | _ i ih =>
    intro hi
    by_cases hl : listed.getD i true = true
    · exact hl
    · have : i ∈ Region.ready md ops listed := by
        refine mem_ready.2 ⟨by simpa using hl, _, Array.getElem?_eq_getElem hi, fun e he hbd => ?_⟩
        have h1 := back_of hb (Array.getElem?_eq_getElem hi) e he
        have h2 := ih e.on h1 (by omega)
        by_cases hs : e.on < listed.size
        · simp [hs] at h2 ⊢; exact h2
        · have : ¬ i < listed.size := by omega
          simp [this] at hl
      rw [h] at this
      cases this

theorem getD_push_lt {listed : Array Bool} {x d : Bool} {i : Nat} (h : i < listed.size) : (listed.push x).getD i d = listed.getD i d := by
  simp [Array.getD, h, Nat.lt_succ_of_lt h, Array.getElem_push_lt h]
theorem getD_push_eq {listed : Array Bool} {x d : Bool} {i : Nat} (h : i = listed.size) : (listed.push x).getD i d = x := by
  subst h
  simp [Array.getD]
theorem push_lt {ops : Array Oper} {o : Oper} {i : Nat} (h : i < ops.size) : (ops.push o)[i]? = ops[i]? := by
  rw [Array.getElem?_push]
  simp [Nat.ne_of_lt h]

theorem ready_push {last : Oper} {listed : Array Bool} {i : Nat} (hsz : listed.size = ops.size) (hb : backB (ops.push last) = true) (hl : lastB md ops.size last = true) :
    i ∈ Region.ready md (ops.push last) (listed.push false) ↔ (i ∈ Region.ready md ops listed ∧ i < ops.size) ∨ (i = ops.size ∧ Region.ready md ops listed = []) := by
  have hb0 : backB ops = true := by
    unfold backB at hb ⊢
    rw [List.all_eq_true] at hb ⊢
    intro j hj
    have hjl := List.mem_range.1 hj
    have := hb j (List.mem_range.2 (by simp; omega))
    rw [push_lt hjl] at this
    exact this
  constructor
  · intro h
    obtain ⟨h1, o, ho, h2⟩ := mem_ready.1 h
    have hi : i < ops.size + 1 := by have := (Array.getElem?_eq_some_iff.1 ho).1; simpa using this
    by_cases hil : i < ops.size
    · left
      refine ⟨mem_ready.2 ⟨by rw [getD_push_lt (by omega)] at h1; exact h1, o, by rw [push_lt hil] at ho; exact ho, fun e he hbd => ?_⟩, hil⟩
      have hlt := back_of hb ho e he
      have := h2 e he hbd
      rw [getD_push_lt (by omega)] at this
      exact this
    · right
      have hie : i = ops.size := by omega
      refine ⟨hie, ?_⟩
      subst hie
      have hlast : o = last := by
        rw [Array.getElem?_push] at ho
        simp at ho
        exact ho.symm
      subst hlast
      apply List.eq_nil_iff_forall_not_mem.2
      intro j hj
      obtain ⟨g1, oj, hoj, _⟩ := mem_ready.1 hj
      have hjl := (Array.getElem?_eq_some_iff.1 hoj).1
      obtain ⟨e, he, hbd, heq⟩ := last_of hl hjl
      have := h2 e he hbd
      rw [heq, getD_push_lt (by omega)] at this
      have hjs : j < listed.size := by omega
      simp [hjs] at g1 this
      rw [g1] at this
      cases this
  · rintro (⟨h, hil⟩ | ⟨rfl, h⟩)
    · obtain ⟨g1, o, ho, g2⟩ := mem_ready.1 h
      refine mem_ready.2 ⟨by rw [getD_push_lt (by omega)]; exact g1, o, by rw [push_lt hil]; exact ho, fun e he hbd => ?_⟩
      have hlt := back_of hb0 ho e he
      rw [getD_push_lt (by omega)]
      exact g2 e he hbd
    · refine mem_ready.2 ⟨getD_push_eq hsz.symm, last, by simp, fun e he hbd => ?_⟩
      have hlt := back_of hb (i := ops.size) (o := last) (by simp) e he
      have := all_listed hb0 h e.on hlt
      rw [getD_push_lt (by omega)]
      have hes : e.on < listed.size := by omega
      simp [hes] at this ⊢
      exact this

theorem qOpIn_push {last : Oper} {i : Nat} {K : Act → Prop} {a : Act} (hi : i < ops.size) (hg : guardB ops.size ops = true) (h : qOpIn F n P ops C i K a) : qOpIn F n P (ops.push last) C i K a := by
  unfold qOpIn at *
  rw [push_lt hi]
  rw [Array.getElem?_eq_getElem hi] at h ⊢
  have hw : Region.wanted ops[i] (yielded (ops.push last) a.tmps) = Region.wanted ops[i] (yielded ops a.tmps) := by
    unfold guardB at hg
    rw [Array.all_eq_true] at hg
    have := hg i hi
    unfold Region.wanted
    cases hgd : ops[i].guard with
    | none => rfl
    | some g =>
      rw [hgd] at this
      simp at this
      dsimp only
      unfold yielded
      rw [push_lt this]
  dsimp only at h ⊢
  rw [hw]
  exact h

theorem wpAnyIn_tail {last : Oper} {Q0 : Act → Prop} {Q' : Exit → Act → World → Prop} (hd : calmB (ops.push last) = true) (hb : backB (ops.push last) = true) (hl : lastB md ops.size last = true) (hg : guardB ops.size ops = true)
    (hQ : ∀ a w, C w → Q0 a → wpOpIn F n P (ops.push last) Q' ops.size (fun a' w' => Q' .normal a' w') a w) :
    ∀ (fuel : Nat) (listed : Array Bool) (a : Act) (w : World), listed.size = ops.size → C w → wpAnyQIn F n P md ops C Q0 fuel listed a → wpAnyIn F n P md (ops.push last) Q' (fuel + 1) (listed.push false) a w := by
  have hne : ∀ {listed : Array Bool}, listed.size = ops.size → Region.ready md (ops.push last) (listed.push false) = [] → False := by
    intro listed hsz h
    cases hr : Region.ready md ops listed with
    | nil =>
      have := (ready_push hsz hb hl (i := ops.size)).2 (.inr ⟨rfl, hr⟩)
      rw [h] at this
      cases this
    | cons j _ =>
      have hj : j ∈ Region.ready md ops listed := by rw [hr]; exact List.mem_cons_self
      obtain ⟨_, o, ho, _⟩ := mem_ready.1 hj
      have := (ready_push hsz hb hl (i := j)).2 (.inl ⟨hj, (Array.getElem?_eq_some_iff.1 ho).1⟩)
      rw [h] at this
      cases this
  have hend : ∀ {listed : Array Bool}, listed.size = ops.size → Region.ready md ops listed = [] → Region.ready md (ops.push last) ((listed.push false).setIfInBounds ops.size true) = [] := by
    intro listed hsz h
    have e : (listed.push false).setIfInBounds ops.size true = listed.push true := by
      rw [← hsz]
      apply Array.ext_getElem?
      intro i
      rw [Array.getElem?_setIfInBounds, Array.getElem?_push, Array.getElem?_push]
      by_cases hi : listed.size = i
      · subst hi; simp
      · have : ¬ i = listed.size := fun e => hi e.symm
        simp [hi, this]
    rw [e]
    apply List.eq_nil_iff_forall_not_mem.2
    intro j hj
    obtain ⟨g1, o, ho, g2⟩ := mem_ready.1 hj
    have hjl : j < ops.size + 1 := by have := (Array.getElem?_eq_some_iff.1 ho).1; simpa using this
    by_cases hje : j < ops.size
    · rw [getD_push_lt (by omega)] at g1
      have hb0 : backB ops = true := by
        unfold backB at hb ⊢
        rw [List.all_eq_true] at hb ⊢
        intro j hj
        have hjl := List.mem_range.1 hj
        have := hb j (List.mem_range.2 (by simp; omega))
        rw [push_lt hjl] at this
        exact this
      rw [all_listed hb0 h j hje] at g1
      cases g1
    · rw [getD_push_eq (by omega)] at g1
      cases g1
  have hlast : ∀ {listed : Array Bool} {fuel : Nat} {a : Act} {w : World}, listed.size = ops.size → C w → Region.ready md ops listed = [] → Q0 a →
      wpOpIn F n P (ops.push last) Q' ops.size (wpAnyIn F n P md (ops.push last) Q' fuel ((listed.push false).setIfInBounds ops.size true)) a w :=
    fun hsz hw hr hq => wpOpIn_mono (fun a' w' h' => wpAnyIn_done (hend hsz hr) h' _) (hQ _ _ hw hq)
  intro fuel
  induction fuel with
  | zero =>
    intro listed a w hsz hw h
    refine ⟨fun h0 => (hne hsz h0).elim, fun i hi => ?_⟩
    rcases (ready_push hsz hb hl).1 hi with ⟨h1, _⟩ | ⟨rfl, h1⟩
    · rw [h.1] at h1; cases h1
    · exact hlast hsz hw h1 h.2
  | succ fuel ih =>
    intro listed a w hsz hw h
    refine ⟨fun h0 => (hne hsz h0).elim, fun i hi => ?_⟩
    rcases (ready_push hsz hb hl).1 hi with ⟨h1, hil⟩ | ⟨rfl, h1⟩
    · have e : (listed.push false).setIfInBounds i true = (listed.setIfInBounds i true).push false := by
        apply Array.ext_getElem?
        intro j
        rw [Array.getElem?_setIfInBounds, Array.getElem?_push, Array.getElem?_push, Array.getElem?_setIfInBounds]
        have hsi : i < listed.size := by omega
        by_cases hij : i = j
        · subst hij; simp [hsi, Nat.ne_of_lt hsi, Nat.lt_succ_of_lt hsi]
        · simp [hij]
      rw [e]
      exact wpOpIn_of_q_r hd hw (fun a' w' hw' h' => ih _ a' w' (by simpa using hsz) hw' h') (qOpIn_push hil hg (h.2 i h1))
    · exact hlast hsz hw h1 (h.1 h1)

theorem wpQuietIn_mono {Q Q' : Act → Prop} (h : ∀ a, Q a → Q' a) : ∀ (l : List Oper) (a : Act), wpQuietIn F n P ops C Q l a → wpQuietIn F n P ops C Q' l a
  | [], a, h1 => h a h1
  | o :: l, a, h1 => by
    unfold wpQuietIn at *
    refine ⟨h1.1, ?_⟩
    have h2 := h1.2
    split
    · rename_i hw
      rw [if_pos hw] at h2
      obtain ⟨v, h3, h4⟩ := h2
      exact ⟨v, h3, wpQuietIn_mono h l _ h4⟩
    · rename_i hw
      rw [if_neg hw] at h2
      exact wpQuietIn_mono h l _ h2

/-- (2) -/
theorem wpIn_tail_r {id : Nat} {Q : Exit → Act → World → Prop} {a : Act} {w : World} {l : List Oper} {last : Oper} (hd : calmB (l.toArray.push last) = true) (hb : backB (l.toArray.push last) = true) (hl : lastB .any l.length last = true) (hg : guardB l.length l.toArray = true)
    (hm : P.follows .mixedOrders = true) (hB : Region.lexB .any l.toArray = true) (hlg : last.guard = none)
    (h : wpQuietIn F n P l.toArray (fun w' => ∃ n, w' = w.drewN n) (fun a' => ∀ w', (∃ n, w' = w.drewN n) → last.wpIn F n P a' w' (fun a'' w'' => Q .normal a'' w'') Q) l a) : (Code.region id (l.toArray.push last) true).wpIn F n P Q a w := by
  simp only [Region.lexB, Bool.and_eq_true] at hB
  refine wpIn_region_any hm ?_
  have h1 := wpAnyQIn_lex (F := F) (n := n) (C := fun w' => ∃ n, w' = w.drewN n) (md := .any) hB.1 l 0 (Array.replicate l.toArray.size false) a (by simp) (by simpa using hB.2) h
  have h2 := wpAnyIn_tail (F := F) (n := n) (P := P) (md := .any) (ops := l.toArray) (C := fun w' => ∃ n, w' = w.drewN n) (Q' := Q) hd hb (by simpa using hl) (by simpa using hg)
    (fun a' w' hw' hq => by
      unfold wpOpIn
      rw [show (l.toArray.push last)[l.toArray.size]? = some last by simp]
      dsimp only
      rw [if_pos (by unfold Region.wanted; rw [hlg])]
      exact hq w' hw') l.length (Array.replicate l.toArray.size false) a { w with drawn := w.drawn + 1 } (by simp) ⟨1, rfl⟩ h1
  have e1 : (l.toArray.push last).size = l.length + 1 := by simp
  have e2 : (Array.replicate l.toArray.size false).push false = Array.replicate (l.length + 1) false := by
    rw [← Array.replicate_succ]; simp
  rw [e1, ← e2]
  exact h2

theorem wpIn_tail_l {id : Nat} {Q : Exit → Act → World → Prop} {a : Act} {w : World} {l' : List Oper} (l : List Oper) (last : Oper) (he : l' = l ++ [last]) (hd : calmB (l.toArray.push last) = true) (hb : backB (l.toArray.push last) = true) (hl : lastB .any l.length last = true) (hg : guardB l.length l.toArray = true)
    (hm : P.follows .mixedOrders = true) (hB : Region.lexB .any l.toArray = true) (hlg : last.guard = none)
    (h : wpQuietIn F n P l.toArray (fun w' => ∃ n, w' = w.drewN n) (fun a' => ∀ w', (∃ n, w' = w.drewN n) → ∀ K : Act → World → Prop, (∀ a w, Q .normal a w → K a w) → last.wpIn F n P a' w' K Q) l a) : (Code.region id l'.toArray true).wpIn F n P Q a w := by
  subst he
  have e : (l ++ [last]).toArray = l.toArray.push last := by simp
  rw [e]
  exact wpIn_tail_r hd hb hl hg hm hB hlg (wpQuietIn_mono (fun a' h' w' hw' => h' w' hw' _ (fun _ _ h => h)) l a h)
end

end Go.Proofs.Ytihajgmknhifiaa
