/- The memory of an execution (package vm) as the proofs of this seat tell it: rows of numbers and of instructions, the block of a Vm, what a call may change. No condition: these are definitions and lemmas. -/
import Derived.Test.YtihajgmknhifiaaProg
import Derived.WalkKit
import Derived.WalkSpells
import Derived.WalkLawsBesides
import Derived.Lib.Hide
import Derived.Deep.QuietTactic
import Derived.BigQuiet
import Derived.Deep.RegionWith
import Derived.Deep.RegionHeld3
import Derived.Deep.LoopGhost
import Derived.Deep.DeepCutAuto
import Derived.Deep.DeepFit
import Derived.StillTailTactics
namespace Go.Proofs.Ytihajgmknhifiaa
open Go.RowKit

/-- An instruction. -/
structure In where
  op : Int
  arg : Int
deriving DecidableEq

/-- The resources of code. -/
structure Cf where
  slots : Int
  reads : Int
  writes : Int
  stack : Int
deriving DecidableEq

def ints (xs : List Int) : List Value := xs.map (Value.int .i64)
def insV (l : List In) : List Value := l.flatMap fun i => [.int .u8 i.op, .int .i64 i.arg]
def Cf.val (c : Cf) : Value := .agg #[.int .i64 c.slots, .int .i64 c.reads, .int .i64 c.writes, .int .i64 c.stack]

theorem ints_length (xs : List Int) : (ints xs).length = xs.length := by simp [ints]
theorem ints_append (xs ys : List Int) : ints (xs ++ ys) = ints xs ++ ints ys := by simp [ints]
theorem ints_get (xs : List Int) (i : Nat) (h : i < xs.length) : (ints xs)[i]? = some (.int .i64 (xs.getD i 0)) := by
  simp [ints, List.getElem?_eq_getElem h, List.getD_eq_getElem?_getD]
theorem insV_length (l : List In) : (insV l).length = l.length * 2 := by
  induction l with
  | nil => rfl
  | cons a l ih =>
    have e : insV (a :: l) = [.int .u8 a.op, .int .i64 a.arg] ++ insV l := by simp [insV]
    rw [e, List.length_append, ih, List.length_cons]
    simp
    omega
theorem insV_cons (a : In) (l : List In) : insV (a :: l) = .int .u8 a.op :: .int .i64 a.arg :: insV l := by simp [insV]
theorem insV_append (l m : List In) : insV (l ++ m) = insV l ++ insV m := by simp [insV]
theorem insV_get (l : List In) (i : Nat) (h : i < l.length) :
    (insV l)[i * 2]? = some (.int .u8 (l.getD i ⟨0, 0⟩).op) ∧ (insV l)[i * 2 + 1]? = some (.int .i64 (l.getD i ⟨0, 0⟩).arg) := by
  induction l generalizing i with
  | nil => simp at h
  | cons a l ih =>
    rw [insV_cons]
    cases i with
    | zero => simp
    | succ i =>
      have h2 := ih i (by simpa using h)
      have e : (i + 1) * 2 = i * 2 + 1 + 1 := by omega
      rw [e]
      simpa using h2

/-! ### What a call may change -/
/-- Of what was there, blocks of F alone have turned. -/
structure Upd (F : Nat → Prop) (w w' : World) : Prop where
  os : w'.os = w.os
  tape : w'.tape = w.tape
  output : w'.output = w.output
  size : w.heap.size ≤ w'.heap.size
  block : ∀ k, k < w.heap.size → ¬ F k → w'.heap[k]? = w.heap[k]?

theorem Upd.refl (F : Nat → Prop) (w : World) : Upd F w w := ⟨rfl, rfl, rfl, Nat.le_refl _, fun _ _ _ => rfl⟩
theorem Upd.mono {F G : Nat → Prop} {w w' : World} (h : Upd F w w') (hs : ∀ k, F k → G k) : Upd G w w' :=
  ⟨h.os, h.tape, h.output, h.size, fun k hk hn => h.block k hk fun hf => hn (hs k hf)⟩
theorem Upd.trans {F : Nat → Prop} {a b c : World} (h : Upd F a b) (k : Upd F b c) : Upd F a c :=
  ⟨k.os.trans h.os, k.tape.trans h.tape, k.output.trans h.output, Nat.le_trans h.size k.size, fun i hi hn => (k.block i (Nat.lt_of_lt_of_le hi h.size) hn).trans (h.block i hi hn)⟩
/-- Two steps, the second one over blocks that are of the first, or new. -/
theorem Upd.trans' {F G : Nat → Prop} {a b c : World} (h : Upd F a b) (k : Upd G b c) (hG : ∀ i, G i → F i ∨ a.heap.size ≤ i) : Upd F a c :=
  ⟨k.os.trans h.os, k.tape.trans h.tape, k.output.trans h.output, Nat.le_trans h.size k.size, fun i hi hn =>
    (k.block i (Nat.lt_of_lt_of_le hi h.size) (fun hg => by rcases hG i hg with h1 | h1; exact hn h1; omega)).trans (h.block i hi hn)⟩
theorem Upd.drew {F : Nat → Prop} {a b : World} (h : Upd F a b) : Upd F a b.drew := ⟨h.os, h.tape, h.output, h.size, h.block⟩
theorem Upd.drewN {F : Nat → Prop} {a b : World} (h : Upd F a b) (n : Nat) : Upd F a (b.drewN n) := ⟨h.os, h.tape, h.output, h.size, h.block⟩
theorem Upd.alloc {F : Nat → Prop} {a b : World} (h : Upd F a b) (o : Obj) : Upd F a (b.alloc o) :=
  h.trans ⟨rfl, rfl, rfl, by simp, fun k hk _ => Below.heap_alloc _ _ _ hk⟩
theorem Upd.setCell {F : Nat → Prop} {a b : World} (h : Upd F a b) (p : Addr) (hp : F p.block ∨ a.heap.size ≤ p.block) (u : Value) : Upd F a (b.setCell p u) :=
  h.trans' (G := fun k => k = p.block) ⟨rfl, rfl, rfl, by simp [World.setCell], fun k _ hn => Below.heap_setCell _ _ _ _ hn⟩ (fun i hi => by subst hi; exact hp)
theorem Upd.of_below {F : Nat → Prop} {w w' : World} (h : Below w.heap.size w w') : Upd F w w' := ⟨h.os, h.tape, h.output, h.size, fun k hk _ => h.block k hk⟩
theorem Upd.of_grown {F : Nat → Prop} {w w' : World} {r : Option Nat} (h : w.grownBy w' r) (hr : ∀ k, r = some k → F k) : Upd F w w' :=
  ⟨h.os, h.tape, h.output, h.size, fun k hk hn => h.block k hk fun e => hn (hr k e.symm)⟩
/-- What is changed lies from B on. -/
theorem Upd.below {F : Nat → Prop} {B : Nat} {w w' : World} (h : Upd F w w') (hB : B ≤ w.heap.size) (hF : ∀ k, F k → B ≤ k) : Below B w w' :=
  ⟨h.os, h.tape, h.output, h.size, fun k hk => h.block k (by omega) fun hf => by have := hF k hf; omega⟩
theorem Upd.cell {F : Nat → Prop} {w w' : World} (h : Upd F w w') {a : Addr} {v : Value} (hc : w.cell? a = some v) (hn : ¬ F a.block) : w'.cell? a = some v :=
  (World.cell?_of_block (h.block a.block (World.block_lt_of_cell? w a hc) hn)).trans hc

/-- Only orders have been drawn. -/
def Drawn (w w' : World) : Prop := ∃ n, w' = w.drewN n
theorem Drawn.refl (w : World) : Drawn w w := ⟨0, rfl⟩
theorem Drawn.upd {F : Nat → Prop} {w w' : World} (h : Drawn w w') : Upd F w w' := by
  obtain ⟨n, rfl⟩ := h
  exact (Upd.refl _ _).drewN n

/-- Two slices' rows are not one block. -/
def Far (v v' : Value) : Prop := v.ownBlock = none ∨ v.ownBlock ≠ v'.ownBlock
theorem Far.symm {v v' : Value} (h : Far v v') : Far v' v := by
  unfold Far at *
  cases hv : v.ownBlock <;> cases hv' : v'.ownBlock <;> simp_all
  exact fun e => h e.symm

theorem own_upd {F : Nat → Prop} {w w' : World} {base : Nat} {e : TypeId} {size : Nat} {v : Value} {n : Nat} {xs : List Value} (h : w.ownsRow base e size v n xs) (hu : Upd F w w') (hn : ∀ k, v.ownBlock = some k → ¬ F k) : w'.ownsRow base e size v n xs := by
  obtain ⟨h1, h2⟩ := h
  refine ⟨h1, ?_⟩
  rcases h2 with h2 | ⟨g, cap, cur, rfl, hb, hg, r⟩
  · exact .inl h2
  · refine .inr ⟨g, cap, cur, rfl, hb, ?_, r⟩
    rw [hu.block g (Array.getElem?_eq_some_iff.1 hg).1 (hn g (by simp [Value.ownBlock]))]
    exact hg
theorem own_mono {w : World} {base base' : Nat} {e : TypeId} {size : Nat} {v : Value} {n : Nat} {xs : List Value} (h : w.ownsRow base e size v n xs) (hb : base' ≤ base) : w.ownsRow base' e size v n xs := by
  obtain ⟨h1, h2⟩ := h
  refine ⟨h1, ?_⟩
  rcases h2 with h2 | ⟨g, cap, cur, rfl, hg, r⟩
  · exact .inl h2
  · exact .inr ⟨g, cap, cur, rfl, by omega, r⟩

theorem own_slice {w : World} {base n : Nat} {e : TypeId} {size : Nat} {v : Value} {xs : List Value} (h : w.ownsRow base e size v n xs) : ∃ A c, v = .slice A n c := by
  rcases h.2 with ⟨rfl, rfl⟩ | ⟨g, cap, cur, rfl, _⟩
  · exact ⟨none, 0, rfl⟩
  · exact ⟨_, cap, rfl⟩

/-! ### A slice that is read, and one that is appended to -/
/-- A slice reads as cells; nil has none. -/
structure Rd (w : World) (v : Value) (n size : Nat) (cs : List Value) : Prop where
  len : cs.length = n * size
  form : ∃ a c, v = .slice a n c ∧ n ≤ c ∧ (a = none → n = 0 ∧ c = 0) ∧ ∀ ad, a = some ad → ∀ j u, cs[j]? = some u → w.cell? (ad.add j) = some u

theorem Rd.upd {w w' : World} {v : Value} {n size : Nat} {cs : List Value} {F : Nat → Prop} (h : Rd w v n size cs) (hu : Upd F w w') (hn : ∀ k, v.ownBlock = some k → ¬ F k) : Rd w' v n size cs := by
  obtain ⟨a, c, rfl, h1, h2, h3⟩ := h.form
  refine ⟨h.len, a, c, rfl, h1, h2, fun ad had j u hju => ?_⟩
  subst had
  have hc := h3 ad rfl j u hju
  refine hu.cell hc ?_
  have e : (ad.add j).block = ad.block := by unfold Addr.add; split <;> rfl
  rw [e]
  exact hn ad.block (by simp [Value.ownBlock])
theorem Rd.below {w w' : World} {v : Value} {n size : Nat} {cs : List Value} (h : Rd w v n size cs) (hb : Below w.heap.size w w') : Rd w' v n size cs :=
  h.upd (F := fun _ => False) (Upd.of_below hb) fun _ _ => id
theorem Rd.alloc {w : World} {v : Value} {n size : Nat} {cs : List Value} (h : Rd w v n size cs) (o : Obj) : Rd (w.alloc o) v n size cs :=
  h.upd (F := fun _ => False) ((Upd.refl _ _).alloc o) fun _ _ => id
theorem Rd.drew {w : World} {v : Value} {n size : Nat} {cs : List Value} (h : Rd w v n size cs) : Rd w.drew v n size cs :=
  h.upd (F := fun _ => False) (Upd.refl _ _).drew fun _ _ => id
theorem Rd.of_own {w : World} {base : Nat} {e : TypeId} {size : Nat} {v : Value} {n : Nat} {xs : List Value} (h : w.ownsRow base e size v n xs) : Rd w v n size xs := by
  refine ⟨h.1, ?_⟩
  rcases h.2 with ⟨rfl, rfl⟩ | ⟨g, cap, cur, rfl, hb, hg, h1, h2, h3, h4⟩
  · exact ⟨none, 0, rfl, Nat.le_refl _, fun _ => ⟨rfl, rfl⟩, fun ad had => by cases had⟩
  · refine ⟨_, cap, rfl, h1, fun hh => (by cases hh), fun ad had j u hj => ?_⟩
    obtain rfl := Option.some.inj had
    exact h.cells (g := g) rfl j u hj

section
variable {P : Program} {w : World}
/-- Append to a row of the call's own: it stays where it is, or lies in a new block. -/
theorem run_append2 (base : Nat) (t ty e : TypeId) (i : TypeInfo) (z : Value) (size bytes : Nat) (ht : P.underlying t = some (.slice e)) (hi : P.info? e = some i) (hz : i.zero = some z)
    (hsize : i.size = size) (hby : i.bytes = bytes) (hzs : z.cells.size = size) (hsz : 0 < size)
    (v : Value) (n : Nat) (xs : List Value) (hown : w.ownsRow base e size v n xs) (x : Value) (m : Nat) (news : List Value) (hx : Rd w x m size news) (h1 : ∀ u ∈ news, u.oneCell' = true)
    (h63 : n + m ≤ maxLen) (hbytes : (n + m) * bytes ≤ 140737488355328) (hbase : base ≤ w.heap.size) :
    ∃ v' w', (Builtin.append_ #[t, t] ty #[v, x]).run P w = .ok v' w' ∧ w'.ownsRow base e size v' (n + m) (xs ++ news) ∧ w.grownBy w' v.ownBlock ∧
      (v'.ownBlock = v.ownBlock ∨ v'.ownBlock = some w.heap.size) := by
  obtain ⟨a, c, rfl, hmc, hnone, hcells⟩ := hx.form
  have hl := hx.len
  cases a with
  | none =>
    obtain ⟨rfl, rfl⟩ := hnone rfl
    obtain rfl : news = [] := List.eq_nil_of_length_eq_zero (by simpa using hl)
    exact ⟨v, w, run_append_owned_none w base t ty e i size ht hi v n xs hown, by simpa using hown, ⟨rfl, rfl, rfl, Nat.le_refl _, fun _ _ _ => rfl⟩, .inl rfl⟩
  | some a =>
    have hc := hcells a rfl
    obtain ⟨v', w', hr, ho, hg, hiff⟩ := run_append_own (P := P) w base t ty e i z size bytes ht hi hz hsize hby hzs hsz v n xs hown a m c news hl hc h1 h63 hbytes hbase
    refine ⟨v', w', hr, ho, hg, ?_⟩
    subst hsize
    subst hby
    have hsmall : n + m ≤ 9223372036854775807 := by unfold maxLen at h63; omega
    rcases hown.2 with ⟨rfl, rfl⟩ | ⟨g, cap, cur, rfl, hb, hgg, hnc, hcm, hcs, htake⟩
    · by_cases hm : m = 0
      · exact .inl (by rw [hiff.2 ⟨rfl, hm⟩])
      · have hr2 := run_append_nil (P := P) w t ty e i z ht hi hz a m c news hl hc (by omega) (by omega) (by simp only [Nat.zero_add] at hbytes; omega)
        rw [hr] at hr2
        injection hr2 with e1 _
        exact .inr (by rw [e1]; rfl)
    · by_cases hroom : n + m ≤ cap
      · obtain ⟨w2, hr2, _⟩ := run_append_fits (P := P) w base t ty e i i.size ht hi rfl g n cap xs hown a m c news hl hc h1 hroom
        rw [hr] at hr2
        injection hr2 with e1 _
        exact .inl (by rw [e1]; rfl)
      · have hr2 := run_append_grow (P := P) w t ty e i z ht hi hz ⟨g, 0, none⟩ n cap xs hown.1 (hown.cells (g := g) rfl) a m c news hl hc (by omega) (by omega) (growslice_fits (by omega) hbytes)
        rw [hr] at hr2
        injection hr2 with e1 _
        exact .inr (by rw [e1]; rfl)

theorem wpList_append2 {ops : Array Oper} {rest : List Oper} {o : Oper} {a : Act} {Q : Exit → Act → World → Prop} (hgd : o.guard = none) (s x : Operand) (t : TypeId)
    (ho : o.op = .call { callee := .builtin .append, args := #[s, x], argTypes := #[t, t] })
    (base : Nat) (e : TypeId) (i : TypeInfo) (z : Value) (size bytes : Nat) (ht : P.underlying t = some (.slice e)) (hi : P.info? e = some i) (hz : i.zero = some z)
    (hsize : i.size = size) (hby : i.bytes = bytes) (hzs : z.cells.size = size) (hsz : 0 < size)
    (v : Value) (n : Nat) (xs : List Value) (hs : a.eval s = v) (hown : w.ownsRow base e size v n xs) (xv : Value) (m : Nat) (news : List Value) (hx : a.eval x = xv) (hrd : Rd w xv m size news) (h1 : ∀ u ∈ news, u.oneCell' = true)
    (h63 : n + m ≤ maxLen) (hbytes : (n + m) * bytes ≤ 140737488355328) (hbase : base ≤ w.heap.size)
    (h : ∀ A c w', w'.ownsRow base e size (.slice A (n + m) c) (n + m) (xs ++ news) → w.grownBy w' v.ownBlock → ((Value.slice A (n + m) c).ownBlock = v.ownBlock ∨ (Value.slice A (n + m) c).ownBlock = some w.heap.size) → wpList P ops Q rest (a.put o.dst (.slice A (n + m) c)) w') : wpList P ops Q (o :: rest) a w := by
  refine wpList_plain hgd fun K hK => ?_
  obtain ⟨v', w', hr, h2, h3, h4⟩ := run_append2 (P := P) (w := w) base t o.type e i z size bytes ht hi hz hsize hby hzs hsz v n xs hown xv m news hrd h1 h63 hbytes hbase
  unfold Oper.wp execOp
  simp only [ho, resolve, invoke, builtin, Sem.run_bind, Sem.run_pure, Result.andThen_ok, List.map_toArray, List.map_cons, List.map_nil, hs, hx, hr]
  obtain ⟨A, c, rfl⟩ := own_slice h2
  exact hK _ _ (h A c w' h2 h3 h4)
end

/-! ### The block of a Vm -/
def doesEs : Array MapEntry := #[
  ⟨.int .u8 8, .func (.func 52) #[] #[], 0⟩, ⟨.int .u8 9, .func (.func 53) #[] #[], 1⟩, ⟨.int .u8 10, .func (.func 54) #[] #[], 2⟩, ⟨.int .u8 11, .func (.func 55) #[] #[], 3⟩,
  ⟨.int .u8 12, .func (.func 56) #[] #[], 4⟩, ⟨.int .u8 13, .func (.func 57) #[] #[], 5⟩, ⟨.int .u8 14, .func (.func 59) #[] #[], 6⟩, ⟨.int .u8 15, .func (.func 60) #[] #[], 7⟩,
  ⟨.int .u8 16, .func (.func 61) #[] #[], 8⟩, ⟨.int .u8 17, .func (.func 62) #[] #[], 9⟩, ⟨.int .u8 18, .func (.func 63) #[] #[], 10⟩, ⟨.int .u8 19, .func (.func 64) #[] #[], 11⟩,
  ⟨.int .u8 20, .func (.func 65) #[] #[], 12⟩]

/-- What a Vm holds: its values and what they read as. -/
structure Vm where
  sc : Value
  cf : Cf
  at_ : Int
  ss : Value
  sl : Value
  si : Value
  so : Value
  spent : Int
  ended : Bool
  gm : Nat
  code : List In
  stack : List Int
  slots : List Int
  ins : List Int
  outs : List Int

def Vm.cells (m : Vm) : Array Value := #[m.sc, .int .i64 m.cf.slots, .int .i64 m.cf.reads, .int .i64 m.cf.writes, .int .i64 m.cf.stack, .int .i64 m.at_, m.ss, m.sl, m.si, m.so, .int .i64 m.spent, .bool m.ended, .map (some m.gm)]

def Vm.foot (m : Vm) (b k : Nat) : Prop := k = b ∨ k = m.gm ∨ m.sc.ownBlock = some k ∨ m.ss.ownBlock = some k ∨ m.sl.ownBlock = some k ∨ m.si.ownBlock = some k ∨ m.so.ownBlock = some k

structure VmAt (base : Nat) (w : World) (b : Nat) (m : Vm) : Prop where
  blk : w.heap[b]? = some (.cells m.cells 70 (0, 0))
  does : w.heap[m.gm]? = some (.map doesEs 13)
  rc : w.ownsRow base 53 2 m.sc m.code.length (insV m.code)
  rs : w.ownsRow base 2 1 m.ss m.stack.length (ints m.stack)
  rl : w.ownsRow base 2 1 m.sl m.slots.length (ints m.slots)
  ri : w.ownsRow base 2 1 m.si m.ins.length (ints m.ins)
  ro : w.ownsRow base 2 1 m.so m.outs.length (ints m.outs)
  bb : base ≤ b
  bm : base ≤ m.gm
  sl_ : Far m.ss m.sl
  si_ : Far m.ss m.si
  so_ : Far m.ss m.so
  li_ : Far m.sl m.si
  lo_ : Far m.sl m.so
  io_ : Far m.si m.so

theorem VmAt.foot_base {base : Nat} {w : World} {b : Nat} {m : Vm} (h : VmAt base w b m) (k : Nat) (hk : m.foot b k) : base ≤ k ∧ k < w.heap.size := by
  rcases hk with rfl | rfl | hk | hk | hk | hk | hk
  · exact ⟨h.bb, (Array.getElem?_eq_some_iff.1 h.blk).1⟩
  · exact ⟨h.bm, (Array.getElem?_eq_some_iff.1 h.does).1⟩
  · exact h.rc.lt k hk
  · exact h.rs.lt k hk
  · exact h.rl.lt k hk
  · exact h.ri.lt k hk
  · exact h.ro.lt k hk

theorem VmAt.upd {base : Nat} {w w' : World} {b : Nat} {m : Vm} {F : Nat → Prop} (h : VmAt base w b m) (hu : Upd F w w') (hn : ∀ k, m.foot b k → ¬ F k) : VmAt base w' b m :=
  { blk := (hu.block b (Array.getElem?_eq_some_iff.1 h.blk).1 (hn b (.inl rfl))).trans h.blk
    does := (hu.block m.gm (Array.getElem?_eq_some_iff.1 h.does).1 (hn m.gm (.inr (.inl rfl)))).trans h.does
    rc := own_upd h.rc hu fun k hk => hn k (.inr (.inr (.inl hk)))
    rs := own_upd h.rs hu fun k hk => hn k (.inr (.inr (.inr (.inl hk))))
    rl := own_upd h.rl hu fun k hk => hn k (.inr (.inr (.inr (.inr (.inl hk)))))
    ri := own_upd h.ri hu fun k hk => hn k (.inr (.inr (.inr (.inr (.inr (.inl hk))))))
    ro := own_upd h.ro hu fun k hk => hn k (.inr (.inr (.inr (.inr (.inr (.inr hk))))))
    bb := h.bb, bm := h.bm, sl_ := h.sl_, si_ := h.si_, so_ := h.so_, li_ := h.li_, lo_ := h.lo_, io_ := h.io_ }

/-- From one state of a Vm to another: it alone has turned. -/
structure VmGo (base b : Nat) (w : World) (m : Vm) (w' : World) (m' : Vm) : Prop where
  at' : VmAt base w' b m'
  upd : Upd (m.foot b) w w'
  foot : ∀ k, m'.foot b k → m.foot b k ∨ w.heap.size ≤ k

theorem VmGo.trans {base b : Nat} {w w1 w2 : World} {m m1 m2 : Vm} (h : VmGo base b w m w1 m1) (k : VmGo base b w1 m1 w2 m2) : VmGo base b w m w2 m2 :=
  ⟨k.at', h.upd.trans' k.upd h.foot, fun i hi => by
    rcases k.foot i hi with h1 | h1
    · exact h.foot i h1
    · exact .inr (Nat.le_trans h.upd.size h1)⟩
theorem VmGo.refl {base b : Nat} {w : World} {m : Vm} (h : VmAt base w b m) : VmGo base b w m w m := ⟨h, Upd.refl _ _, fun _ hk => .inl hk⟩
theorem VmGo.then {base b : Nat} {w w1 w2 : World} {m m1 : Vm} (h : VmGo base b w m w1 m1) (hu : Upd (fun _ => False) w1 w2) : VmGo base b w m w2 m1 :=
  h.trans ⟨h.at'.upd hu fun _ _ => id, hu.mono fun _ => False.elim, fun _ hk => .inl hk⟩
theorem VmGo.drew {base b : Nat} {w w1 : World} {m m1 : Vm} (h : VmGo base b w m w1 m1) : VmGo base b w m w1.drew m1 := h.then (Upd.refl _ _).drew
theorem VmGo.drewN {base b : Nat} {w w1 : World} {m m1 : Vm} (h : VmGo base b w m w1 m1) (n : Nat) : VmGo base b w m (w1.drewN n) m1 := h.then ((Upd.refl _ _).drewN n)
theorem VmGo.alloc {base b : Nat} {w w1 : World} {m m1 : Vm} (h : VmGo base b w m w1 m1) (o : Obj) : VmGo base b w m (w1.alloc o) m1 := h.then ((Upd.refl _ _).alloc o)

/-! ### The cells of a Vm -/
theorem heap_setCell (w : World) (b : Nat) (cs : Array Value) (t : TypeId) (z : Nat × Nat) (h : w.heap[b]? = some (.cells cs t z)) (i : Nat) (v : Value) :
    (w.setCell ⟨b, i, none⟩ v).heap[b]? = some (.cells (cs.setIfInBounds i v) t z) := by
  simp [World.setCell, Array.getElem?_modify, h]
theorem cell_blk {w : World} {b : Nat} {cs : Array Value} {t : TypeId} {z : Nat × Nat} (h : w.heap[b]? = some (.cells cs t z)) (i : Nat) : w.cell? ⟨b, i, none⟩ = cs[i]? := by simp [World.cell?, h]
theorem frozen_blk {w : World} {b : Nat} {cs : Array Value} {t : TypeId} (h : w.heap[b]? = some (.cells cs t (0, 0))) (i : Nat) : w.frozen? ⟨b, i, none⟩ = false := by simp [World.frozen?, h]

section
variable {base : Nat} {w : World} {b : Nat} {m : Vm} (h : VmAt base w b m)
include h
theorem VmAt.c0 : w.cell? ⟨b, 0, none⟩ = some m.sc := cell_blk h.blk 0
theorem VmAt.c1 : w.cell? ⟨b, 1, none⟩ = some (.int .i64 m.cf.slots) := cell_blk h.blk 1
theorem VmAt.c2 : w.cell? ⟨b, 2, none⟩ = some (.int .i64 m.cf.reads) := cell_blk h.blk 2
theorem VmAt.c3 : w.cell? ⟨b, 3, none⟩ = some (.int .i64 m.cf.writes) := cell_blk h.blk 3
theorem VmAt.c4 : w.cell? ⟨b, 4, none⟩ = some (.int .i64 m.cf.stack) := cell_blk h.blk 4
theorem VmAt.c5 : w.cell? ⟨b, 5, none⟩ = some (.int .i64 m.at_) := cell_blk h.blk 5
theorem VmAt.c6 : w.cell? ⟨b, 6, none⟩ = some m.ss := cell_blk h.blk 6
theorem VmAt.c7 : w.cell? ⟨b, 7, none⟩ = some m.sl := cell_blk h.blk 7
theorem VmAt.c8 : w.cell? ⟨b, 8, none⟩ = some m.si := cell_blk h.blk 8
theorem VmAt.c9 : w.cell? ⟨b, 9, none⟩ = some m.so := cell_blk h.blk 9
theorem VmAt.c10 : w.cell? ⟨b, 10, none⟩ = some (.int .i64 m.spent) := cell_blk h.blk 10
theorem VmAt.c11 : w.cell? ⟨b, 11, none⟩ = some (.bool m.ended) := cell_blk h.blk 11
theorem VmAt.c12 : w.cell? ⟨b, 12, none⟩ = some (.map (some m.gm)) := cell_blk h.blk 12
theorem VmAt.fz (i : Nat) : w.frozen? ⟨b, i, none⟩ = false := frozen_blk h.blk i
theorem VmAt.lt : b < w.heap.size := (Array.getElem?_eq_some_iff.1 h.blk).1
/-- The rows are other blocks than the Vm's own. -/
theorem VmAt.row_ne {v : Value} {n : Nat} {e : TypeId} {size : Nat} {xs : List Value} (hr : w.ownsRow base e size v n xs) (he : e ≠ 70) : ∀ k, v.ownBlock = some k → k ≠ b ∧ k ≠ m.gm := by
  intro k hk
  rcases hr.2 with ⟨rfl, _⟩ | ⟨g, cap, cur, rfl, _, hg, _⟩
  · simp [Value.ownBlock] at hk
  · have e1 : g = k := by simpa [Value.ownBlock] using hk
    subst e1
    constructor
    · rintro rfl
      rw [h.blk] at hg
      injection hg with hg
      injection hg with _ ht
      exact he ht.symm
    · rintro rfl
      rw [h.does] at hg
      simp at hg
theorem VmAt.gm_ne : m.gm ≠ b := by
  intro e
  have := h.does
  rw [e, h.blk] at this
  simp at this
end

theorem own_ne_type {w : World} {b1 b2 : Nat} {e e' : TypeId} {s s' n n' : Nat} {v v' : Value} {xs xs' : List Value} (h : w.ownsRow b1 e s v n xs) (h' : w.ownsRow b2 e' s' v' n' xs') (hne : e ≠ e') : Far v v' := by
  rcases h.2 with ⟨rfl, _⟩ | ⟨g, cap, cur, rfl, _, hh, _⟩
  · exact .inl rfl
  · refine .inr fun hk => ?_
    rcases h'.2 with ⟨rfl, _⟩ | ⟨g', cap', cur', rfl, _, hh', _⟩
    · simp [Value.ownBlock] at hk
    · have e1 : g = g' := by simpa [Value.ownBlock] using hk
      subst e1
      rw [hh] at hh'
      injection hh' with hh'
      injection hh' with _ ht
      exact hne ht

/-- A store into one cell of the Vm's own block: its new cells. -/
theorem VmAt.set {base : Nat} {w : World} {b : Nat} {m m' : Vm} (h : VmAt base w b m) (i : Nat) (v : Value) (hc : m'.cells = m.cells.setIfInBounds i v) (hgm : m'.gm = m.gm)
    (rc : w.ownsRow base 53 2 m'.sc m'.code.length (insV m'.code)) (rs : w.ownsRow base 2 1 m'.ss m'.stack.length (ints m'.stack)) (rl : w.ownsRow base 2 1 m'.sl m'.slots.length (ints m'.slots))
    (ri : w.ownsRow base 2 1 m'.si m'.ins.length (ints m'.ins)) (ro : w.ownsRow base 2 1 m'.so m'.outs.length (ints m'.outs))
    (sl_ : Far m'.ss m'.sl) (si_ : Far m'.ss m'.si) (so_ : Far m'.ss m'.so) (li_ : Far m'.sl m'.si) (lo_ : Far m'.sl m'.so) (io_ : Far m'.si m'.so) : VmAt base (w.setCell ⟨b, i, none⟩ v) b m' := by
  have hu : Upd (fun k => k = b) w (w.setCell ⟨b, i, none⟩ v) := Upd.setCell (F := fun k => k = b) (Upd.refl _ _) ⟨b, i, none⟩ (.inl rfl) v
  exact { blk := by rw [heap_setCell w b _ _ _ h.blk i v, hc]
          does := by rw [hgm, hu.block m.gm (Array.getElem?_eq_some_iff.1 h.does).1 h.gm_ne]; exact h.does
          rc := own_upd rc hu fun k hk => (h.row_ne rc (by decide) k hk).1
          rs := own_upd rs hu fun k hk => (h.row_ne rs (by decide) k hk).1
          rl := own_upd rl hu fun k hk => (h.row_ne rl (by decide) k hk).1
          ri := own_upd ri hu fun k hk => (h.row_ne ri (by decide) k hk).1
          ro := own_upd ro hu fun k hk => (h.row_ne ro (by decide) k hk).1
          bb := h.bb, bm := by rw [hgm]; exact h.bm, sl_ := sl_, si_ := si_, so_ := so_, li_ := li_, lo_ := lo_, io_ := io_ }

/-- A store of a plain value: At, Spent, Ended. -/
theorem VmAt.setAt {base : Nat} {w : World} {b : Nat} {m : Vm} (h : VmAt base w b m) (x : Int) : VmAt base (w.setCell ⟨b, 5, none⟩ (.int .i64 x)) b { m with at_ := x } :=
  h.set (m' := { m with at_ := x }) 5 _ (by simp [Vm.cells]) rfl h.rc h.rs h.rl h.ri h.ro h.sl_ h.si_ h.so_ h.li_ h.lo_ h.io_
theorem VmAt.setSpent {base : Nat} {w : World} {b : Nat} {m : Vm} (h : VmAt base w b m) (x : Int) : VmAt base (w.setCell ⟨b, 10, none⟩ (.int .i64 x)) b { m with spent := x } :=
  h.set (m' := { m with spent := x }) 10 _ (by simp [Vm.cells]) rfl h.rc h.rs h.rl h.ri h.ro h.sl_ h.si_ h.so_ h.li_ h.lo_ h.io_
theorem VmAt.setEnded {base : Nat} {w : World} {b : Nat} {m : Vm} (h : VmAt base w b m) (x : Bool) : VmAt base (w.setCell ⟨b, 11, none⟩ (.bool x)) b { m with ended := x } :=
  h.set (m' := { m with ended := x }) 11 _ (by simp [Vm.cells]) rfl h.rc h.rs h.rl h.ri h.ro h.sl_ h.si_ h.so_ h.li_ h.lo_ h.io_

theorem VmGo.ofSet {base : Nat} {w : World} {b : Nat} {m m' : Vm} {i : Nat} {v : Value} (h : VmAt base (w.setCell ⟨b, i, none⟩ v) b m') (hf : ∀ k, m'.foot b k → m.foot b k ∨ w.heap.size ≤ k) :
    VmGo base b w m (w.setCell ⟨b, i, none⟩ v) m' := ⟨h, (Upd.refl _ _).setCell _ (.inl (.inl rfl)) v, hf⟩

end Go.Proofs.Ytihajgmknhifiaa
