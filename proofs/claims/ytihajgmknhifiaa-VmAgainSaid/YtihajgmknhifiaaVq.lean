/- The call of vm's New, whole. -/
import Derived.Test.YtihajgmknhifiaaVp
namespace Go.Proofs.Ytihajgmknhifiaa
open Go.RowKit
set_option linter.unusedVariables false

theorem verM_ok {l : List In} {c : Cf} (h : (verM l c).2 = 0) : mayC c = true ∧ l.length ≤ 4096 ∧ l.length ≠ 0 ∧ verR l c l.length 0 0 [(0, st0)] = verM l c := by
  unfold verM at *
  by_cases h1 : mayC c = false
  · rw [if_pos h1] at h; simp at h
  · rw [if_neg h1] at h ⊢
    by_cases h2 : 4096 < l.length
    · rw [if_pos h2] at h; simp at h
    · rw [if_neg h2] at h ⊢
      by_cases h3 : l.length = 0
      · rw [if_pos h3] at h; simp at h
      · rw [if_neg h3] at h ⊢
        exact ⟨by simpa using h1, by omega, h3, rfl⟩

def newS (l : List In) (c : Cf) (ins : List Int) : Vs := ⟨c, l, 0, [], zeros c.slots.toNat, ins, zeros c.writes.toNat, 0, false⟩

structure NewQ (w : World) (l : List In) (c : Cf) (ins : List Int) (b : Nat) (m : Vm) (w' : World) : Prop where
  at_ : VmAt w.heap.size w' b m
  s : m.s = newS l c ins
  below : Below w.heap.size w w'

structure HeldS (n : Nat) (a b : Int) (w1 W : World) : Prop where
  c0 : W.cell? ⟨n, 0, none⟩ = some (.int .i64 a)
  c2 : W.cell? ⟨n, 2, none⟩ = some (.int .i64 b)
  below : Below w1.heap.size w1 W

def HeldC (n : Nat) (a b : Int) (w1 W : World) : Prop := W.cell? ⟨n, 0, none⟩ = some (.int .i64 a) ∧ W.cell? ⟨n, 2, none⟩ = some (.int .i64 b) ∧ HeldS n a b w1 W
theorem HeldS.c {n : Nat} {a b : Int} {w1 W : World} (h : HeldS n a b w1 W) : HeldC n a b w1 W := ⟨h.c0, h.c2, h⟩
theorem HeldS.grow {n : Nat} {a b : Int} {w1 W W' : World} (h : HeldS n a b w1 W) (hg : Below W.heap.size W W') : HeldS n a b w1 W' :=
  ⟨by rw [hg.cell (World.block_lt_of_cell? _ _ h.c0)]; exact h.c0, by rw [hg.cell (World.block_lt_of_cell? _ _ h.c2)]; exact h.c2, h.below.trans (hg.mono h.below.size)⟩
theorem held_alloc {n : Nat} {a b : Int} {w1 W : World} {o : Obj} (h : HeldC n a b w1 W) : HeldC n a b w1 (W.alloc o) := (h.2.2.grow ((Below.refl _ _).alloc (Nat.le_refl _) _)).c
theorem held_clone {n : Nat} {a b : Int} {w1 W W' : World} {v : Value} {k : Nat} {xs : List Value} (h : HeldC n a b w1 W) (q : CloneQ W 2 1 v k xs W') : HeldC n a b w1 W' := (h.2.2.grow q.below).c

theorem held_drew {n : Nat} {a b : Int} {w1 W : World} (h : HeldC n a b w1 W) : HeldC n a b w1 W.drew := (h.2.2.grow ((Below.refl _ _).drew)).c
theorem held_set {n : Nat} {a b : Int} {w1 W : World} {k i : Nat} {v : Value} (h : HeldC n a b w1 W) (hn : n < w1.heap.size) (hp : w1.heap.size ≤ k) : HeldC n a b w1 (W.setCell ⟨k, i, none⟩ v) := by
  generalize hpp : (⟨k, i, none⟩ : Addr) = p
  have hp : w1.heap.size ≤ p.block := by rw [← hpp]; exact hp
  have e : ∀ i, (⟨n, i, none⟩ : Addr).block ≠ p.block := fun i => by show n ≠ _; omega
  exact ⟨by rw [World.cell?_setCell_far _ _ _ _ (Ne.symm (e 0))]; exact h.1, by rw [World.cell?_setCell_far _ _ _ _ (Ne.symm (e 2))]; exact h.2.1, ⟨by rw [World.cell?_setCell_far _ _ _ _ (Ne.symm (e 0))]; exact h.1, by rw [World.cell?_setCell_far _ _ _ _ (Ne.symm (e 2))]; exact h.2.1, h.2.2.below.setCell hp v⟩⟩
theorem heldBelow {n : Nat} {a b : Int} {w1 W : World} (h : HeldC n a b w1 W) : Below w1.heap.size w1 W := h.2.2.below

structure CtxQ (w1 wc : World) (ns no : Nat) (ins : List Int) (v10 : Value) : Prop where
  below : Below w1.heap.size w1 wc
  ctx : ∃ k sv ov iv, v10 = .pointer (some ⟨k, 0, none⟩) ∧ wc.heap[k]? = some (.cells #[.int .i64 0, .slice none 0 0, sv, iv, ov, .int .i64 0, .bool false] 37 (0, 0)) ∧
    wc.ownsRow w1.heap.size 2 1 sv ns (ints (zeros ns)) ∧ wc.ownsRow w1.heap.size 2 1 ov no (ints (zeros no)) ∧ wc.ownsRow w1.heap.size 2 1 iv ins.length (ints ins) ∧ Far sv ov ∧ Far sv iv ∧ Far ov iv

theorem own_go {w w' : World} {base : Nat} {e : TypeId} {size : Nat} {v : Value} {n : Nat} {xs : List Value} (h : w.ownsRow base e size v n xs) (hg : Below w.heap.size w w') : w'.ownsRow base e size v n xs := own_upd h (Upd.of_below (F := fun _ => False) hg) fun _ _ => id

structure HeldT (n k : Nat) (c : Cf) (sv iv ov : Value) (wc W : World) : Prop where
  c0 : W.cell? ⟨n, 0, none⟩ = some (.int .i64 c.slots)
  c1 : W.cell? ⟨n, 1, none⟩ = some (.int .i64 c.reads)
  c2 : W.cell? ⟨n, 2, none⟩ = some (.int .i64 c.writes)
  c3 : W.cell? ⟨n, 3, none⟩ = some (.int .i64 c.stack)
  k0 : W.cell? ⟨k, 0, none⟩ = some (.int .i64 0)
  k1 : W.cell? ⟨k, 1, none⟩ = some (.slice none 0 0)
  k2 : W.cell? ⟨k, 2, none⟩ = some sv
  k3 : W.cell? ⟨k, 3, none⟩ = some iv
  k4 : W.cell? ⟨k, 4, none⟩ = some ov
  k5 : W.cell? ⟨k, 5, none⟩ = some (.int .i64 0)
  k6 : W.cell? ⟨k, 6, none⟩ = some (.bool false)
  below : Below wc.heap.size wc W

def HeldU (n k : Nat) (c : Cf) (sv iv ov : Value) (wc W : World) : Prop :=
  W.cell? ⟨n, 0, none⟩ = some (.int .i64 c.slots) ∧ W.cell? ⟨n, 1, none⟩ = some (.int .i64 c.reads) ∧ W.cell? ⟨n, 2, none⟩ = some (.int .i64 c.writes) ∧ W.cell? ⟨n, 3, none⟩ = some (.int .i64 c.stack) ∧
  W.cell? ⟨k, 0, none⟩ = some (.int .i64 0) ∧ W.cell? ⟨k, 1, none⟩ = some (.slice none 0 0) ∧ W.cell? ⟨k, 2, none⟩ = some sv ∧ W.cell? ⟨k, 3, none⟩ = some iv ∧ W.cell? ⟨k, 4, none⟩ = some ov ∧ W.cell? ⟨k, 5, none⟩ = some (.int .i64 0) ∧ W.cell? ⟨k, 6, none⟩ = some (.bool false) ∧
  HeldT n k c sv iv ov wc W
theorem HeldT.u {n k : Nat} {c : Cf} {sv iv ov : Value} {wc W : World} (h : HeldT n k c sv iv ov wc W) : HeldU n k c sv iv ov wc W := ⟨h.c0, h.c1, h.c2, h.c3, h.k0, h.k1, h.k2, h.k3, h.k4, h.k5, h.k6, h⟩
theorem HeldU.t {n k : Nat} {c : Cf} {sv iv ov : Value} {wc W : World} (h : HeldU n k c sv iv ov wc W) : HeldT n k c sv iv ov wc W := h.2.2.2.2.2.2.2.2.2.2.2
theorem heldU_grow {n k : Nat} {c : Cf} {sv iv ov : Value} {wc W W' : World} (h : HeldU n k c sv iv ov wc W) (hg : Below W.heap.size W W') : HeldU n k c sv iv ov wc W' := by
  have t := h.t
  have e : ∀ {p : Addr} {v : Value}, W.cell? p = some v → W'.cell? p = some v := fun hp => by rw [hg.cell (World.block_lt_of_cell? _ _ hp)]; exact hp
  exact HeldT.u ⟨e t.c0, e t.c1, e t.c2, e t.c3, e t.k0, e t.k1, e t.k2, e t.k3, e t.k4, e t.k5, e t.k6, t.below.trans (hg.mono t.below.size)⟩
theorem heldU_drew {n k : Nat} {c : Cf} {sv iv ov : Value} {wc W : World} (h : HeldU n k c sv iv ov wc W) : HeldU n k c sv iv ov wc W.drew := heldU_grow h ((Below.refl _ _).drew)
theorem heldU_alloc {n k : Nat} {c : Cf} {sv iv ov : Value} {wc W : World} {o : Obj} (h : HeldU n k c sv iv ov wc W) : HeldU n k c sv iv ov wc (W.alloc o) := heldU_grow h ((Below.refl _ _).alloc (Nat.le_refl _) _)
theorem heldU_clone {n k : Nat} {c : Cf} {sv iv ov : Value} {wc W W' : World} {v : Value} {m : Nat} {xs : List Value} (h : HeldU n k c sv iv ov wc W) (q : CloneQ W 53 2 v m xs W') : HeldU n k c sv iv ov wc W' := heldU_grow h q.below
theorem heldU_pairs {n k : Nat} {c : Cf} {sv iv ov : Value} {wc W W' : World} (h : HeldU n k c sv iv ov wc W) (q : PairsQ W W') : HeldU n k c sv iv ov wc W' := heldU_grow h q.below

theorem new_fin {w w1 wc w3 w4 : World} {ns no : Nat} {ins : List Int} {l : List In} {c : Cf} {sv ov iv A' : Value} (hw1 : Below w.heap.size w w1) (hc : Below w1.heap.size w1 wc)
    (hs : wc.ownsRow w1.heap.size 2 1 sv ns (ints (zeros ns))) (ho : wc.ownsRow w1.heap.size 2 1 ov no (ints (zeros no))) (hi : wc.ownsRow w1.heap.size 2 1 iv ins.length (ints ins)) (hso : Far sv ov) (hsi : Far sv iv) (hoi : Far ov iv)
    (h3 : CloneQ wc.drew 53 2 A' l.length (insV l) w3) (h4 : PairsQ w3 w4) (hns : c.slots = (ns : Int)) (hno : c.writes = (no : Int)) :
    NewQ w l c ins w4.heap.size ⟨A', c, 0, .slice none 0 0, sv, iv, ov, 0, false, w3.heap.size, l, [], zeros ns, ins, zeros no⟩
      (w4.alloc (.cells #[A', .int .i64 c.slots, .int .i64 c.reads, .int .i64 c.writes, .int .i64 c.stack, .int .i64 0, .slice none 0 0, sv, iv, ov, .int .i64 0, .bool false, .map (some w3.heap.size)] 70)) := by
  have b3 : Below wc.heap.size wc w3 := ((Below.refl _ _).drew).trans h3.below
  have b4 : Below wc.heap.size wc w4 := b3.trans (h4.below.mono b3.size)
  have bw : ∀ o, Below w4.heap.size w4 (w4.alloc o) := fun o => (Below.refl _ _).alloc (Nat.le_refl _) _
  have s1 : w.heap.size ≤ w1.heap.size := hw1.size
  have sc : w.heap.size ≤ wc.heap.size := Nat.le_trans s1 hc.size
  have s3 : w.heap.size ≤ w3.heap.size := Nat.le_trans sc b3.size
  have s4 : w.heap.size ≤ w4.heap.size := Nat.le_trans sc b4.size
  have g : ∀ {v n xs}, wc.ownsRow w1.heap.size 2 1 v n xs → ∀ o, (w4.alloc o).ownsRow w.heap.size 2 1 v n xs := fun h o => own_mono (own_go (own_go h b4) (bw o)) s1
  have hz : ∀ n, (zeros n).length = n := zeros_length
  refine ⟨{ blk := heap_alloc_new w4 _
            does := by rw [(bw _).block _ (by rw [h4.size]; exact Nat.lt_succ_self _)]; exact h4.does
            rc := own_mono (own_go (own_go h3.own h4.below) (bw _)) sc
            rs := World.ownsRow_nil _ _ _ _
            rl := by show World.ownsRow _ _ _ _ _ (zeros ns).length _; rw [hz]; exact g hs _
            ri := g hi _
            ro := by show World.ownsRow _ _ _ _ _ (zeros no).length _; rw [hz]; exact g ho _
            bb := s4, bm := s3, sl_ := .inl rfl, si_ := .inl rfl, so_ := .inl rfl, li_ := hsi, lo_ := hso, io_ := hoi.symm }, ?_, ?_⟩
  · show Vs.mk _ _ _ _ _ _ _ _ _ = newS l c ins
    unfold newS
    rw [hns, hno]
    rfl
  · exact (hw1.trans (hc.mono s1)).trans ((b4.mono sc).trans ((bw _).mono s4))

/-- The context's block is written; some rows may yet be to come. -/
structure GotF (w1 W : World) (ns no : Nat) (ins : List Int) (sv ov iv : Value) (k : Nat) (s o i : Option Value) : Prop where
  got : Got w1.heap.size w1 W ns no ins s o i none
  lo : w1.heap.size ≤ k
  blk : W.heap[k]? = some (.cells #[.int .i64 0, .slice none 0 0, sv, iv, ov, .int .i64 0, .bool false] 37 (0, 0))

section
variable {w1 W : World} {ns no : Nat} {ins : List Int} {sv ov iv : Value} {k : Nat} {s o i : Option Value}
theorem ctx_of (h : GotF w1 W ns no ins sv ov iv k (some sv) (some ov) (some iv)) : CtxQ w1 W ns no ins (.pointer (some ⟨k, 0, none⟩)) :=
  ⟨h.got.below, k, sv, ov, iv, rfl, h.blk, h.got.hs _ rfl, h.got.ho _ rfl, h.got.hi _ rfl, h.got.so _ _ rfl rfl, h.got.si _ _ rfl rfl, h.got.oi _ _ rfl rfl⟩
theorem ctx_n0 (h : GotF w1 (W.alloc (.cells #[.int .i64 0, .slice none 0 0, sv, iv, ov, .int .i64 0, .bool false] 37)) ns no ins sv ov iv k (some sv) (some ov) (some iv)) : CtxQ w1 (W.alloc (.cells #[.int .i64 0, .slice none 0 0, sv, iv, ov, .int .i64 0, .bool false] 37)) ns no ins (.pointer (some ⟨k, 0, none⟩)) := ctx_of h
theorem ctx_n1 {o0 : Obj} (h : GotF w1 ((W.alloc (.cells #[.int .i64 0, .slice none 0 0, sv, iv, ov, .int .i64 0, .bool false] 37)).alloc o0) ns no ins sv ov iv k (some sv) (some ov) (some iv)) : CtxQ w1 ((W.alloc (.cells #[.int .i64 0, .slice none 0 0, sv, iv, ov, .int .i64 0, .bool false] 37)).alloc o0) ns no ins (.pointer (some ⟨k, 0, none⟩)) := ctx_of h
theorem ctx_n2 {o0 : Obj} {o1 : Obj} (h : GotF w1 (((W.alloc (.cells #[.int .i64 0, .slice none 0 0, sv, iv, ov, .int .i64 0, .bool false] 37)).alloc o0).alloc o1) ns no ins sv ov iv k (some sv) (some ov) (some iv)) : CtxQ w1 (((W.alloc (.cells #[.int .i64 0, .slice none 0 0, sv, iv, ov, .int .i64 0, .bool false] 37)).alloc o0).alloc o1) ns no ins (.pointer (some ⟨k, 0, none⟩)) := ctx_of h
theorem ctx_s0 (h : GotF w1 (((((((W.setCell ⟨k, 0, none⟩ (.int .i64 0)).setCell ⟨k, 1, none⟩ (.slice none 0 0)).setCell ⟨k, 2, none⟩ sv).setCell ⟨k, 3, none⟩ iv).setCell ⟨k, 4, none⟩ ov).setCell ⟨k, 5, none⟩ (.int .i64 0)).setCell ⟨k, 6, none⟩ (.bool false)) ns no ins sv ov iv k (some sv) (some ov) (some iv)) : CtxQ w1 (((((((W.setCell ⟨k, 0, none⟩ (.int .i64 0)).setCell ⟨k, 1, none⟩ (.slice none 0 0)).setCell ⟨k, 2, none⟩ sv).setCell ⟨k, 3, none⟩ iv).setCell ⟨k, 4, none⟩ ov).setCell ⟨k, 5, none⟩ (.int .i64 0)).setCell ⟨k, 6, none⟩ (.bool false)) ns no ins (.pointer (some ⟨k, 0, none⟩)) := ctx_of h
theorem ctx_s1 {o0 : Obj} (h : GotF w1 ((((((((W.setCell ⟨k, 0, none⟩ (.int .i64 0)).setCell ⟨k, 1, none⟩ (.slice none 0 0)).setCell ⟨k, 2, none⟩ sv).setCell ⟨k, 3, none⟩ iv).setCell ⟨k, 4, none⟩ ov).setCell ⟨k, 5, none⟩ (.int .i64 0)).setCell ⟨k, 6, none⟩ (.bool false)).alloc o0) ns no ins sv ov iv k (some sv) (some ov) (some iv)) : CtxQ w1 ((((((((W.setCell ⟨k, 0, none⟩ (.int .i64 0)).setCell ⟨k, 1, none⟩ (.slice none 0 0)).setCell ⟨k, 2, none⟩ sv).setCell ⟨k, 3, none⟩ iv).setCell ⟨k, 4, none⟩ ov).setCell ⟨k, 5, none⟩ (.int .i64 0)).setCell ⟨k, 6, none⟩ (.bool false)).alloc o0) ns no ins (.pointer (some ⟨k, 0, none⟩)) := ctx_of h
theorem ctx_s2 {o0 : Obj} {o1 : Obj} (h : GotF w1 (((((((((W.setCell ⟨k, 0, none⟩ (.int .i64 0)).setCell ⟨k, 1, none⟩ (.slice none 0 0)).setCell ⟨k, 2, none⟩ sv).setCell ⟨k, 3, none⟩ iv).setCell ⟨k, 4, none⟩ ov).setCell ⟨k, 5, none⟩ (.int .i64 0)).setCell ⟨k, 6, none⟩ (.bool false)).alloc o0).alloc o1) ns no ins sv ov iv k (some sv) (some ov) (some iv)) : CtxQ w1 (((((((((W.setCell ⟨k, 0, none⟩ (.int .i64 0)).setCell ⟨k, 1, none⟩ (.slice none 0 0)).setCell ⟨k, 2, none⟩ sv).setCell ⟨k, 3, none⟩ iv).setCell ⟨k, 4, none⟩ ov).setCell ⟨k, 5, none⟩ (.int .i64 0)).setCell ⟨k, 6, none⟩ (.bool false)).alloc o0).alloc o1) ns no ins (.pointer (some ⟨k, 0, none⟩)) := ctx_of h
theorem GotF.grow {W' : World} (h : GotF w1 W ns no ins sv ov iv k s o i) (b : Below W.heap.size W W') {s' o' i' : Option Value} (g : Got w1.heap.size w1 W' ns no ins s' o' i' none) : GotF w1 W' ns no ins sv ov iv k s' o' i' :=
  ⟨g, h.lo, (b.block _ (Array.getElem?_eq_some_iff.1 h.blk).1).trans h.blk⟩
theorem GotF.mkS (h : GotF w1 W ns no ins sv ov iv k none o i) {j : Nat} (hj : j = W.heap.size) (hn : ns ≤ 1000000) : GotF w1 (W.alloc (.cells (madeCells #[.int .i64 0] ns) 2)) ns no ins sv ov iv k (some (.slice (some ⟨j, 0, none⟩) ns ns)) o i :=
  h.grow ((Below.refl _ _).alloc (Nat.le_refl _) _) (h.got.mkS hj hn)
theorem GotF.mkO (h : GotF w1 W ns no ins sv ov iv k s none i) {j : Nat} (hj : j = W.heap.size) (hn : no ≤ 1000000) : GotF w1 (W.alloc (.cells (madeCells #[.int .i64 0] no) 2)) ns no ins sv ov iv k s (some (.slice (some ⟨j, 0, none⟩) no no)) i :=
  h.grow ((Below.refl _ _).alloc (Nat.le_refl _) _) (h.got.mkO hj hn)
theorem ctx_new (h : Got w1.heap.size w1 W ns no ins s o i none) (hk : k = W.heap.size) :
    GotF w1 (W.alloc (.cells #[.int .i64 0, .slice none 0 0, sv, iv, ov, .int .i64 0, .bool false] 37)) ns no ins sv ov iv k s o i := by
  subst hk
  exact ⟨h.grow ((Below.refl W.heap.size W).alloc (Nat.le_refl _) _), h.bl, heap_alloc_new W _⟩
theorem ctx_set (h : Got w1.heap.size w1 W ns no ins s o i (some k)) :
    GotF w1 (((((((W.setCell ⟨k, 0, none⟩ (.int .i64 0)).setCell ⟨k, 1, none⟩ (.slice none 0 0)).setCell ⟨k, 2, none⟩ sv).setCell ⟨k, 3, none⟩ iv).setCell ⟨k, 4, none⟩ ov).setCell ⟨k, 5, none⟩ (.int .i64 0)).setCell ⟨k, 6, none⟩ (.bool false)) ns no ins sv ov iv k s o i := by
  obtain ⟨hk, cs, hc, rfl⟩ := h.hb k rfl
  have hu : Upd (fun j => j = k) W (((((((W.setCell ⟨k, 0, none⟩ (.int .i64 0)).setCell ⟨k, 1, none⟩ (.slice none 0 0)).setCell ⟨k, 2, none⟩ sv).setCell ⟨k, 3, none⟩ iv).setCell ⟨k, 4, none⟩ ov).setCell ⟨k, 5, none⟩ (.int .i64 0)).setCell ⟨k, 6, none⟩ (.bool false)) :=
    (((((((Upd.refl (fun j => j = k) W).setCell ⟨k, 0, none⟩ (.inl rfl) _).setCell ⟨k, 1, none⟩ (.inl rfl) _).setCell ⟨k, 2, none⟩ (.inl rfl) _).setCell ⟨k, 3, none⟩ (.inl rfl) _).setCell ⟨k, 4, none⟩ (.inl rfl) _).setCell ⟨k, 5, none⟩ (.inl rfl) _).setCell ⟨k, 6, none⟩ (.inl rfl) _
  have ne : ∀ {v n xs}, W.ownsRow w1.heap.size 2 1 v n xs → ∀ j, v.ownBlock = some j → ¬ j = k := by
    intro v n xs hr j hj e
    subst e
    rcases hr.2 with ⟨rfl, _⟩ | ⟨g, cap, cur, rfl, _, hg, _⟩
    · simp [Value.ownBlock] at hj
    · have e1 : g = j := by simpa [Value.ownBlock] using hj
      subst e1
      rw [hc] at hg
      simp at hg
  have h0 := heap_setCell W k _ _ _ hc 0 (.int .i64 0)
  have h1 := heap_setCell _ k _ _ _ h0 1 (.slice none 0 0)
  have h2 := heap_setCell _ k _ _ _ h1 2 sv
  have h3 := heap_setCell _ k _ _ _ h2 3 iv
  have h4 := heap_setCell _ k _ _ _ h3 4 ov
  have h5 := heap_setCell _ k _ _ _ h4 5 (.int .i64 0)
  have h6 := heap_setCell _ k _ _ _ h5 6 (.bool false)
  have h7 : (((((((W.setCell ⟨k, 0, none⟩ (.int .i64 0)).setCell ⟨k, 1, none⟩ (.slice none 0 0)).setCell ⟨k, 2, none⟩ sv).setCell ⟨k, 3, none⟩ iv).setCell ⟨k, 4, none⟩ ov).setCell ⟨k, 5, none⟩ (.int .i64 0)).setCell ⟨k, 6, none⟩ (.bool false)).heap[k]? = some (.cells #[.int .i64 0, .slice none 0 0, sv, iv, ov, .int .i64 0, .bool false] 37 (0, 0)) := h6
  clear h0 h1 h2 h3 h4 h5 h6
  generalize (((((((W.setCell ⟨k, 0, none⟩ (.int .i64 0)).setCell ⟨k, 1, none⟩ (.slice none 0 0)).setCell ⟨k, 2, none⟩ sv).setCell ⟨k, 3, none⟩ iv).setCell ⟨k, 4, none⟩ ov).setCell ⟨k, 5, none⟩ (.int .i64 0)).setCell ⟨k, 6, none⟩ (.bool false)) = W' at *
  exact ⟨⟨h.bw, h.below.trans (hu.below h.bl (fun j e => by rw [e]; exact hk)), fun v e => own_upd (h.hs v e) hu (ne (h.hs v e)), fun v e => own_upd (h.ho v e) hu (ne (h.ho v e)), fun v e => own_upd (h.hi v e) hu (ne (h.hi v e)), fun k e => (by cases e), h.so, h.si, h.oi⟩, hk, h7⟩
end

set_option maxHeartbeats 4000000 in
set_option maxRecDepth 8000 in
theorem new_ok {w : World} {A B : Option Addr} {n1 n2 c1 c2 : Nat} {l : List In} {ins : List Int} {c : Cf} (hl : Rd w (.slice A n1 c1) l.length 2 (insV l)) (hi : Rd w (.slice B n2 c2) ins.length 1 (ints ins)) (hv : (verM l c).2 = 0) (hr : (ins.length : Int) = c.reads) (e2 : n2 = ins.length) :
    Calls Try.prog 9 #[.slice A n1 c1, c.val, .slice B n2 c2] w fun e w' => ∃ b m, e = .returned (.tuple #[.pointer (some ⟨b, 0, none⟩), .int .i64 0]) ∧ NewQ w l c ins b m w' := by
  subst e2
  obtain ⟨hm, hl1, hl0, _⟩ := verM_ok hv
  have hbd := mayC_bd hm
  have hl2 : Rd (w.alloc (.cells #[.int .i64 c.slots, .int .i64 c.reads, .int .i64 c.writes, .int .i64 c.stack] 24)) (.slice A n1 c1) l.length 2 (insV l) := hl.alloc _
  have hver := verify_c (c := c) hl2 (by omega)
  rw [hv] at hver
  unfold Cf.val at hver
  have HVER := Lib.hid hver
  have HL := Lib.hid hl
  have HI := Lib.hid hi
  obtain ⟨i0, hi0, hz0, hz1, hz2⟩ := info_parts info2
  obtain ⟨ns, hns⟩ : ∃ ns : Nat, c.slots = (ns : Int) := ⟨c.slots.toNat, by omega⟩
  obtain ⟨no, hno⟩ : ∃ no : Nat, c.writes = (no : Int) := ⟨c.writes.toNat, by omega⟩
  have hmk : ∀ (W : World) (n : Nat), n ≤ 1000000 → (Instr.makeSlice 25 (.int .i64 (n : Int)) (.int .i64 (n : Int))).run Try.prog W = .ok (.slice (some ⟨W.heap.size, 0, none⟩) n n) (W.alloc (.cells (madeCells #[.int .i64 0] n) 2)) := by
    intro W n hn
    have := run_make (P := Try.prog) W 25 2 i0 (.int .i64 0) Try.underlying25 hi0 hz0 .i64 .i64 n n (by omega) (by omega) (by rw [hz2]; omega) (by omega)
    simpa [hz1, Value.cells] using this
  have hmkS : ∀ W : World, (Instr.makeSlice 25 (.int .i64 c.slots) (.int .i64 c.slots)).run Try.prog W = .ok (.slice (some ⟨W.heap.size, 0, none⟩) ns ns) (W.alloc (.cells (madeCells #[.int .i64 0] ns) 2)) := by
    intro W; rw [hns]; exact hmk W ns (by omega)
  have hmkO : ∀ W : World, (Instr.makeSlice 25 (.int .i64 c.writes) (.int .i64 c.writes)).run Try.prog W = .ok (.slice (some ⟨W.heap.size, 0, none⟩) no no) (W.alloc (.cells (madeCells #[.int .i64 0] no) 2)) := by
    intro W; rw [hno]; exact hmk W no (by omega)
  have HBD := Lib.hid hbd
  have HM := Lib.hid hm
  have hNS : ns ≤ 1000000 := by omega
  have hNO : no ≤ 1000000 := by omega
  have HNS := Lib.hid hns
  have HNO := Lib.hid hno
  have hreads : ((ins.length : Int) != c.reads) = false := by simp [hr]
  clear hl hi hl2 hver hv hbd hm hmk hns hno
  unfold Cf.val
  have l1 : ∀ x : Nat, x < x + 1 + 1 := fun x => by omega
  have l2 : ∀ x : Nat, x < x + 1 + 1 + 1 := fun x => by omega
  have l3 : ∀ x : Nat, x + 1 < x + 1 + 1 + 1 := fun x => by omega
  go_enter Try.func9, Try.ntmps9
  go_upto_region 6 with (go_at_call 27; refine HVER.out.mono ?_; rintro e w1 ⟨rfl, hb⟩; have hk0 := hb.cell (p := ⟨w.heap.size, 0, none⟩) (by simp); have hk1 := hb.cell (p := ⟨w.heap.size, 1, none⟩) (by simp); have hk2 := hb.cell (p := ⟨w.heap.size, 2, none⟩) (by simp); have hk3 := hb.cell (p := ⟨w.heap.size, 3, none⟩) (by simp); rw [World.cell?_alloc_new] at hk0 hk1 hk2 hk3; have HB := Lib.hid hb; clear hb)
  simp at hk0 hk1 hk2 hk3
  have hk4 : w.heap.size < w1.heap.size := by have := HB.out.size; simp at this; omega
  have HS : HeldS w.heap.size c.slots c.writes w1 w1 := ⟨hk0, hk2, Below.refl _ _⟩
  have hI1 : Rd w1 (.slice B ins.length c2) ins.length 1 (ints ins) := (HI.out.alloc _).below HB.out
  have HI1 := Lib.hid hI1
  have HK := Lib.hid (And.intro hk0 (And.intro hk1 (And.intro hk2 (And.intro hk3 hk4))))
  clear hI1 hk0 hk1 hk2 hk3
  go_cut [10] (fun v10 wc => CtxQ w1 wc ns no ins v10)
  case first J K' hJ hK =>
    have hE : ∀ (v10 v11 v12 v13 v14 v15 v16 v17 v18 v19 v20 v21 v22 v23 v24 v25 v26 v27 v28 v29 v30 v31 v32 v33 v34 v35 v36 v37 v38 v39 v40 : Value) (W : World), CtxQ w1 W ns no ins v10 → K' ⟨#[.slice A n1 c1, .agg #[.int .i64 c.slots, .int .i64 c.reads, .int .i64 c.writes, .int .i64 c.stack], .slice B ins.length c2, undef, .pointer (some ⟨w.heap.size, 0, none⟩), undef, .pointer none, .int .i64 0, .int .i64 (verM l c).1, .int .i64 0, v10, v11, v12, v13, v14, v15, v16, v17, v18, v19, v20, v21, v22, v23, v24, v25, v26, v27, v28, v29, v30, v31, v32, v33, v34, v35, v36, v37, v38, v39, v40], []⟩ W :=
      fun v10 v11 v12 v13 v14 v15 v16 v17 v18 v19 v20 v21 v22 v23 v24 v25 v26 v27 v28 v29 v30 v31 v32 v33 v34 v35 v36 v37 v38 v39 v40 W h => hK _ _ (Met.intro (hJ _ _ ⟨v10, v11, v12, v13, v14, v15, v16, v17, v18, v19, v20, v21, v22, v23, v24, v25, v26, v27, v28, v29, v30, v31, v32, v33, v34, v35, v36, v37, v38, v39, v40, h, rfl⟩))
    clear hJ hK
    go_region_held3 (fun W => W.cell? ⟨w.heap.size, 0, none⟩ = some (.int .i64 c.slots) ∧ W.cell? ⟨w.heap.size, 2, none⟩ = some (.int .i64 c.writes) ∧ HeldS w.heap.size c.slots c.writes w1 W) ((show HeldC w.heap.size c.slots c.writes w1 _; (repeat (first | with_reducible exact HS.c | with_reducible apply held_drew | with_reducible apply held_alloc | with_reducible refine held_clone ?_ (by assumption) | (with_reducible refine held_set ?_ hk4 ?hp; case hp => omega))))) ((go_at_call 28; refine (clone2_c (HI1.out.below (heldBelow (by assumption))) (by have := HBD.out; omega)).mono ?_; rintro e w' ⟨A', c', rfl, hq⟩; have hsz := hq.below.size; have hce : ∀ p : Addr, p.block < _ → w'.cell? p = _ := fun p hp => hq.below.cell hp; have hfr : ∀ p : Addr, p.block < _ → w'.frozen? p = _ := fun p hp => hq.below.frozen hp; simp at hsz hce hfr; (try have q00 : w1.heap.size < w'.heap.size := by omega); (try have q01 : w1.heap.size < w'.heap.size + 1 := by omega); (try have q10 : w1.heap.size + 1 < w'.heap.size := by omega); (try have q11 : w1.heap.size + 1 < w'.heap.size + 1 := by omega); (try have q20 : w1.heap.size + 1 + 1 < w'.heap.size := by omega); (try have q21 : w1.heap.size + 1 + 1 < w'.heap.size + 1 := by omega)))
    all_goals
      refine hE _ _ _ _ _ _ _ _ _ _ _ _ _ _ _ _ _ _ _ _ _ _ _ _ _ _ _ _ _ _ _ _ ?_
      clear hE hce hfr l1 l2 l3 hmkS hmkO HK HI1 HI HL HVER HB
      first | with_reducible refine ctx_n0 ?_ | with_reducible refine ctx_s0 ?_ | with_reducible refine ctx_n1 ?_ | with_reducible refine ctx_s1 ?_ | with_reducible refine ctx_n2 ?_ | with_reducible refine ctx_s2 ?_
      repeat (first | (with_reducible refine GotF.mkS ?_ ?_ hNS; rotate_left; (simp [World.setCell])) | (with_reducible refine GotF.mkO ?_ ?_ hNO; rotate_left; (simp [World.setCell])))
      first | (with_reducible refine ctx_new ?_ ?_; rotate_left; (simp [World.setCell])) | with_reducible refine ctx_set ?_
      repeat (first | with_reducible exact Got.start (Nat.le_refl _) (Below.refl _ _) | with_reducible apply Got.drew | (with_reducible refine Got.addI ?_ (by assumption)) | (with_reducible refine Got.mkS ?_ ?_ hNS; rotate_left; (simp [World.setCell])) | (with_reducible refine Got.mkO ?_ ?_ hNO; rotate_left; (simp [World.setCell])) | (with_reducible refine Got.mkB ?_ ?_; rotate_left; (simp [World.setCell])))
  case rest =>
    obtain ⟨hcb, k, sv, ov, iv, rfl, hkb, hsv, hov, hiv, hso, hsi, hoi⟩ := hcut
    obtain ⟨hk0, hk1, hk2, hk3, _⟩ := HK.out
    have e : ∀ {p : Addr} {v : Value}, w1.cell? p = some v → wc.cell? p = some v := fun hp => by rw [hcb.cell (World.block_lt_of_cell? _ _ hp)]; exact hp
    have HT : HeldU w.heap.size k c sv iv ov wc wc := HeldT.u ⟨e hk0, e hk1, e hk2, e hk3, cell_blk hkb 0, cell_blk hkb 1, cell_blk hkb 2, cell_blk hkb 3, cell_blk hkb 4, cell_blk hkb 5, cell_blk hkb 6, Below.refl _ _⟩
    have hL1 : Rd wc (.slice A n1 c1) l.length 2 (insV l) := ((HL.out.alloc _).below HB.out).below hcb
    have HL1 := Lib.hid hL1
    have hbw : Below w.heap.size w w1 := ((Below.refl _ _).alloc (Nat.le_refl _) _).trans (HB.out.mono (by simp))
    have hbw := Lib.hid hbw
    have hcb := Lib.hid hcb
    have hrows := Lib.hid (And.intro hsv (And.intro hov (And.intro hiv (And.intro hso (And.intro hsi hoi)))))
    have hll := Lib.hid hl1
    clear HL HI HB HI1 HS HK hk0 hk1 hk2 hk3 e hL1 hkb hsv hov hiv hso hsi hoi hmkS hmkO hl1 hl0 hr hreads
    go_upto_region 7 with (fail)
    go_region_held3 (fun W => W.cell? ⟨w.heap.size, 0, none⟩ = some (.int .i64 c.slots) ∧ W.cell? ⟨w.heap.size, 1, none⟩ = some (.int .i64 c.reads) ∧ W.cell? ⟨w.heap.size, 2, none⟩ = some (.int .i64 c.writes) ∧ W.cell? ⟨w.heap.size, 3, none⟩ = some (.int .i64 c.stack) ∧ W.cell? ⟨k, 0, none⟩ = some (.int .i64 0) ∧ W.cell? ⟨k, 1, none⟩ = some (.slice none 0 0) ∧ W.cell? ⟨k, 2, none⟩ = some sv ∧ W.cell? ⟨k, 3, none⟩ = some iv ∧ W.cell? ⟨k, 4, none⟩ = some ov ∧ W.cell? ⟨k, 5, none⟩ = some (.int .i64 0) ∧ W.cell? ⟨k, 6, none⟩ = some (.bool false) ∧ HeldT w.heap.size k c sv iv ov wc W)
      ((show HeldU w.heap.size k c sv iv ov wc _; (repeat (first | with_reducible exact HT | with_reducible apply heldU_drew | with_reducible apply heldU_alloc | with_reducible refine heldU_clone ?_ (by assumption) | with_reducible refine heldU_pairs ?_ (by assumption)))))
      ((first | (go_at_call 29; refine (clone53_c (HL1.out.drew) (by have := hll.out; omega)).mono ?_; rintro e w' ⟨A', c', rfl, hq⟩) | (go_at_call 30; refine (pairs_c _).mono ?_; rintro e w' ⟨rfl, hp⟩)))
    go_wp2
    go_ret2
    obtain ⟨r1, r2, r3, r4, r5, r6⟩ := hrows.out
    exact ⟨_, _, rfl, new_fin hbw.out hcb.out r1 r2 r3 r4 r5 r6 (by assumption) (by assumption) HNS.out HNO.out⟩

end Go.Proofs.Ytihajgmknhifiaa
