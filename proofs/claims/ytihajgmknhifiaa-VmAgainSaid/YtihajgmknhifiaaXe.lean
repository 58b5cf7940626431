/- The call of vm's Load, where it takes the context up. -/
import Derived.Test.YtihajgmknhifiaaXd
import Derived.Test.YtihajgmknhifiaaXb
import Derived.Test.YtihajgmknhifiaaWi
namespace Go.Proofs.Ytihajgmknhifiaa
open Go.RowKit
set_option linter.unusedVariables false

structure HeldL (n k : Nat) (c : Cf) (a : Int) (v1 v2 v3 v4 : Value) (sp : Int) (en : Bool) (wc W : World) : Prop where
  c0 : W.cell? ⟨n, 0, none⟩ = some (.int .i64 c.slots)
  c1 : W.cell? ⟨n, 1, none⟩ = some (.int .i64 c.reads)
  c2 : W.cell? ⟨n, 2, none⟩ = some (.int .i64 c.writes)
  c3 : W.cell? ⟨n, 3, none⟩ = some (.int .i64 c.stack)
  k0 : W.cell? ⟨k, 0, none⟩ = some (.int .i64 a)
  k1 : W.cell? ⟨k, 1, none⟩ = some v1
  k2 : W.cell? ⟨k, 2, none⟩ = some v2
  k3 : W.cell? ⟨k, 3, none⟩ = some v3
  k4 : W.cell? ⟨k, 4, none⟩ = some v4
  k5 : W.cell? ⟨k, 5, none⟩ = some (.int .i64 sp)
  k6 : W.cell? ⟨k, 6, none⟩ = some (.bool en)
  below : Below wc.heap.size wc W

section
variable {n k : Nat} {c : Cf} {a : Int} {v1 v2 v3 v4 : Value} {sp : Int} {en : Bool} {wc W W' : World}
def HeldM (n k : Nat) (c : Cf) (a : Int) (v1 v2 v3 v4 : Value) (sp : Int) (en : Bool) (wc W : World) : Prop :=
  W.cell? ⟨n, 0, none⟩ = some (.int .i64 c.slots) ∧ W.cell? ⟨n, 1, none⟩ = some (.int .i64 c.reads) ∧ W.cell? ⟨n, 2, none⟩ = some (.int .i64 c.writes) ∧ W.cell? ⟨n, 3, none⟩ = some (.int .i64 c.stack) ∧
  W.cell? ⟨k, 0, none⟩ = some (.int .i64 a) ∧ W.cell? ⟨k, 1, none⟩ = some v1 ∧ W.cell? ⟨k, 2, none⟩ = some v2 ∧ W.cell? ⟨k, 3, none⟩ = some v3 ∧ W.cell? ⟨k, 4, none⟩ = some v4 ∧ W.cell? ⟨k, 5, none⟩ = some (.int .i64 sp) ∧ W.cell? ⟨k, 6, none⟩ = some (.bool en) ∧
  HeldL n k c a v1 v2 v3 v4 sp en wc W
theorem HeldL.m (h : HeldL n k c a v1 v2 v3 v4 sp en wc W) : HeldM n k c a v1 v2 v3 v4 sp en wc W := ⟨h.c0, h.c1, h.c2, h.c3, h.k0, h.k1, h.k2, h.k3, h.k4, h.k5, h.k6, h⟩
theorem HeldM.l (h : HeldM n k c a v1 v2 v3 v4 sp en wc W) : HeldL n k c a v1 v2 v3 v4 sp en wc W := h.2.2.2.2.2.2.2.2.2.2.2
theorem heldM_grow (h : HeldM n k c a v1 v2 v3 v4 sp en wc W) (hg : Below W.heap.size W W') : HeldM n k c a v1 v2 v3 v4 sp en wc W' := by
  have t := h.l
  have e : ∀ {p : Addr} {v : Value}, W.cell? p = some v → W'.cell? p = some v := fun hp => by rw [hg.cell (World.block_lt_of_cell? _ _ hp)]; exact hp
  exact HeldL.m ⟨e t.c0, e t.c1, e t.c2, e t.c3, e t.k0, e t.k1, e t.k2, e t.k3, e t.k4, e t.k5, e t.k6, t.below.trans (hg.mono t.below.size)⟩
theorem heldM_drew (h : HeldM n k c a v1 v2 v3 v4 sp en wc W) : HeldM n k c a v1 v2 v3 v4 sp en wc W.drew := heldM_grow h ((Below.refl _ _).drew)
theorem heldM_alloc {o : Obj} (h : HeldM n k c a v1 v2 v3 v4 sp en wc W) : HeldM n k c a v1 v2 v3 v4 sp en wc (W.alloc o) := heldM_grow h ((Below.refl _ _).alloc (Nat.le_refl _) _)
theorem heldM_clone {v : Value} {m : Nat} {xs : List Value} (h : HeldM n k c a v1 v2 v3 v4 sp en wc W) (q : CloneQ W 53 2 v m xs W') : HeldM n k c a v1 v2 v3 v4 sp en wc W' := heldM_grow h q.below
theorem heldM_pairs (h : HeldM n k c a v1 v2 v3 v4 sp en wc W) (q : PairsQ W W') : HeldM n k c a v1 v2 v3 v4 sp en wc W' := heldM_grow h q.below
theorem heldM_copy {x1 x2 x3 x4 : List Int} {u1 u2 u3 u4 : Value} (h : HeldM n k c a v1 v2 v3 v4 sp en wc W) (q : CopyQ W x1 x2 x3 x4 u1 u2 u3 u4 W') : HeldM n k c a v1 v2 v3 v4 sp en wc W' := heldM_grow h q.below
theorem heldM_below (h : HeldM n k c a v1 v2 v3 v4 sp en wc W) (q : Below W.heap.size W W') : HeldM n k c a v1 v2 v3 v4 sp en wc W' := heldM_grow h q
end

theorem heap_alloc_new2 (w : World) (o : Obj) (n : Nat) (h : w.heap.size = n) : (w.alloc o).heap[n]? = some o := by subst h; exact heap_alloc_new w o

structure LoadQ (w : World) (s : Vs) (b : Nat) (m : Vm) (w' : World) : Prop where
  at_ : VmAt w.heap.size w' b m
  s : m.s = s
  below : Below w.heap.size w w'

theorem load_fin {w w1 w2 w3 : World} {l : List In} {c : Cf} {a sp : Int} {en : Bool} {A' u1 u2 u3 u4 : Value} {x1 x2 x3 x4 : List Int} (hw : Below w.heap.size w w1) (h1 : CloneQ w1 53 2 A' l.length (insV l) w2)
    (h2 : CopyQ w2 x1 x2 x3 x4 u1 u2 u3 u4 w3) {w4 : World} (h4 : PairsQ w3 w4) :
    LoadQ w ⟨c, l, a, x1, x2, x3, x4, sp, en⟩ w4.heap.size ⟨A', c, a, u1, u2, u3, u4, sp, en, w3.heap.size, l, x1, x2, x3, x4⟩
      (w4.alloc (.cells #[A', .int .i64 c.slots, .int .i64 c.reads, .int .i64 c.writes, .int .i64 c.stack, .int .i64 a, u1, u2, u3, u4, .int .i64 sp, .bool en, .map (some w3.heap.size)] 70)) := by
  have bw : ∀ o, Below w4.heap.size w4 (w4.alloc o) := fun o => (Below.refl _ _).alloc (Nat.le_refl _) _
  have s1 : w.heap.size ≤ w1.heap.size := hw.size
  have s2 : w.heap.size ≤ w2.heap.size := Nat.le_trans s1 h1.below.size
  have s3 : w.heap.size ≤ w3.heap.size := Nat.le_trans s2 h2.below.size
  have s4 : w.heap.size ≤ w4.heap.size := Nat.le_trans s3 h4.below.size
  have g : ∀ {v n xs}, w3.ownsRow w2.heap.size 2 1 v n xs → ∀ o, (w4.alloc o).ownsRow w.heap.size 2 1 v n xs := fun h o => own_mono (own_gn (own_gn h h4.below) (bw o)) s2
  refine ⟨{ blk := heap_alloc_new w4 _
            does := by rw [(bw _).block _ (by rw [h4.size]; exact Nat.lt_succ_self _)]; exact h4.does
            rc := own_mono (own_gn (own_gn (own_gn h1.own h2.below) h4.below) (bw _)) s1
            rs := g h2.o1 _, rl := g h2.o2 _, ri := g h2.o3 _, ro := g h2.o4 _
            bb := s4, bm := s3, sl_ := h2.f12, si_ := h2.f13, so_ := h2.f14, li_ := h2.f23, lo_ := h2.f24, io_ := h2.f34 }, rfl, ?_⟩
  exact (hw.trans (h1.below.mono s1)).trans ((h2.below.mono s2).trans ((h4.below.mono s3).trans ((bw _).mono s4)))

set_option maxHeartbeats 8000000 in
set_option maxRecDepth 8000 in
theorem load_ok {w : World} {A : Option Addr} {cap : Nat} {l : List In} {c : Cf} {H : Int → Int} {at_ : Nat} {s1 s2 s3 s4 : Value} {sp : Int} {en : Bool} {x1 x2 x3 x4 : List Int}
    (hl : Rd w (.slice A l.length cap) l.length 2 (insV l)) (r1 : Rd w s1 x1.length 1 (ints x1)) (r2 : Rd w s2 x2.length 1 (ints x2)) (r3 : Rd w s3 x3.length 1 (ints x3)) (r4 : Rd w s4 x4.length 1 (ints x4))
    (hv : (verM l c).2 = 0) (hS : ∀ p : Int, 0 ≤ p → p < l.length → Sure l c H p) (h0 : H 0 = 0) (hH : ∀ p : Int, 0 ≤ p → p < l.length → 0 ≤ H p ∧ H p ≤ 1000) (hat : at_ < l.length)
    (e2 : (x2.length : Int) = c.slots) (e3 : (x3.length : Int) = c.reads) (e4 : (x4.length : Int) = c.writes) (p0 : 0 ≤ sp) (p1 : sp ≤ 1099511627776) (he : en = true → (insAt l at_).op = 23) (e1 : (x1.length : Int) = H at_) :
    Calls Try.prog 23 #[.slice A l.length cap, c.val, .agg #[.int .i64 at_, s1, s2, s3, s4, .int .i64 sp, .bool en]] w fun e w' => ∃ b m, e = .returned (.tuple #[.pointer (some ⟨b, 0, none⟩), .int .i64 0]) ∧
      LoadQ w ⟨c, l, at_, x1, x2, x3, x4, sp, en⟩ b m w' := by
  obtain ⟨hm, hl1, _, _⟩ := verM_ok hv
  have hbd := mayC_bd hm
  obtain ⟨S1, d1, rfl, _⟩ := r1.form
  obtain ⟨S2, d2, rfl, _⟩ := r2.form
  obtain ⟨S3, d3, rfl, _⟩ := r3.form
  obtain ⟨S4, d4, rfl, _⟩ := r4.form
  have hx1 : (x1.length : Int) ≤ 1000 := by have := (hH at_ (by omega) (by omega)).2; omega
  have ne1 : ((x1.length : Int) != H at_) = false := by simp [e1]
  have ne2 : ((x2.length : Int) != c.slots) = false := by simp [e2]
  have ne3 : ((x3.length : Int) != c.reads) = false := by simp [e3]
  have ne4 : ((x4.length : Int) != c.writes) = false := by simp [e4]
  obtain ⟨g, o, c0, e0, hcap, hg, hcells⟩ := hl.ins_at (by omega)
  injection e0 with eA _ ec
  subst eA ec
  obtain ⟨cop, _⟩ := hcells at_ hat
  have hver := verify_c (c := c) (w := (w.alloc (.cells #[.int .i64 c.slots, .int .i64 c.reads, .int .i64 c.writes, .int .i64 c.stack] 24)).alloc (.cells #[.int .i64 at_, .slice S1 x1.length d1, .slice S2 x2.length d2, .slice S3 x3.length d3, .slice S4 x4.length d4, .int .i64 sp, .bool en] 37)) ((hl.alloc _).alloc _) (by omega)
  rw [hv] at hver
  unfold Cf.val at hver
  have HVER := Lib.hid hver
  have HL := Lib.hid hl
  have R1 := Lib.hid r1
  have R2 := Lib.hid r2
  have R3 := Lib.hid r3
  have R4 := Lib.hid r4
  have HV := Lib.hid hv
  have HS := Lib.hid hS
  have HH := Lib.hid hH
  have H0 := Lib.hid h0
  have HX := Lib.hid (And.intro hbd (And.intro hx1 (And.intro e2 (And.intro e3 e4))))
  have HE := Lib.hid he
  clear hver hl r1 r2 r3 r4 hv hS hH h0 hm e1 e2 e3 e4 he hbd hx1 hcells
  unfold Cf.val
  cases en with
  | false =>
    clear cop
    go_enter Try.func23, Try.ntmps23
    go_upto_region 12 with (go_at_call 27; refine HVER.out.mono ?_; rintro e w1 ⟨rfl, hb⟩; have hb4 := (hb.block w.heap.size (by simp; omega)).trans ((Below.heap_alloc _ _ _ (by simp)).trans (heap_alloc_new w _)); have hb5 := (hb.block (w.heap.size + 1) (by simp)).trans (heap_alloc_new2 _ _ _ (World.size_alloc w _)); have k0 := cell_blk hb4 0; have k1 := cell_blk hb4 1; have k2 := cell_blk hb4 2; have k3 := cell_blk hb4 3; have j0 := cell_blk hb5 0; have j1 := cell_blk hb5 1; have j2 := cell_blk hb5 2; have j3 := cell_blk hb5 3; have j4 := cell_blk hb5 4; have j5 := cell_blk hb5 5; have j6 := cell_blk hb5 6; have HB := Lib.hid hb; clear hb hb4 hb5)
    have HT : HeldM w.heap.size (w.heap.size + 1) c at_ (.slice S1 x1.length d1) (.slice S2 x2.length d2) (.slice S3 x3.length d3) (.slice S4 x4.length d4) sp false w1 w1 := HeldL.m ⟨k0, k1, k2, k3, j0, j1, j2, j3, j4, j5, j6, Below.refl _ _⟩
    have hb0 : Below w.heap.size w w1 := (((Below.refl _ _).alloc (Nat.le_refl _) _).alloc (by simp) _).trans (HB.out.mono (by simp; omega))
    have HB0 := Lib.hid hb0
    clear k0 k1 k2 k3 j0 j1 j2 j3 j4 j5 j6 hb0 HB
    go_region_held3 (fun W => W.cell? ⟨w.heap.size, 0, none⟩ = some (.int .i64 c.slots) ∧ W.cell? ⟨w.heap.size, 1, none⟩ = some (.int .i64 c.reads) ∧ W.cell? ⟨w.heap.size, 2, none⟩ = some (.int .i64 c.writes) ∧ W.cell? ⟨w.heap.size, 3, none⟩ = some (.int .i64 c.stack) ∧ W.cell? ⟨w.heap.size + 1, 0, none⟩ = some (.int .i64 at_) ∧ W.cell? ⟨w.heap.size + 1, 1, none⟩ = some (.slice S1 x1.length d1) ∧ W.cell? ⟨w.heap.size + 1, 2, none⟩ = some (.slice S2 x2.length d2) ∧ W.cell? ⟨w.heap.size + 1, 3, none⟩ = some (.slice S3 x3.length d3) ∧ W.cell? ⟨w.heap.size + 1, 4, none⟩ = some (.slice S4 x4.length d4) ∧ W.cell? ⟨w.heap.size + 1, 5, none⟩ = some (.int .i64 sp) ∧ W.cell? ⟨w.heap.size + 1, 6, none⟩ = some (.bool false) ∧ HeldL w.heap.size (w.heap.size + 1) c at_ (.slice S1 x1.length d1) (.slice S2 x2.length d2) (.slice S3 x3.length d3) (.slice S4 x4.length d4) sp false w1 W)
      ((show HeldM w.heap.size (w.heap.size + 1) c at_ (.slice S1 x1.length d1) (.slice S2 x2.length d2) (.slice S3 x3.length d3) (.slice S4 x4.length d4) sp false w1 _; (repeat (first | with_reducible exact HT | with_reducible apply heldM_drew | with_reducible apply heldM_alloc | with_reducible refine heldM_below ?_ (by assumption)))))
      ((go_at_call 43; refine (high_c ((HL.out.below HB0.out).drew) HV.out HS.out H0.out HH.out hat).mono ?_; rintro e w2 ⟨rfl, hq⟩))
    have HT2 := (heldM_below (heldM_drew HT) (by assumption)).l
    have hb2 := HB0.out.trans (HT2.below.mono HB0.out.size)
    have HT3 : HeldM w.heap.size (w.heap.size + 1) c at_ (.slice S1 x1.length d1) (.slice S2 x2.length d2) (.slice S3 x3.length d3) (.slice S4 x4.length d4) sp false w2 w2 := HeldL.m ⟨HT2.c0, HT2.c1, HT2.c2, HT2.c3, HT2.k0, HT2.k1, HT2.k2, HT2.k3, HT2.k4, HT2.k5, HT2.k6, Below.refl _ _⟩
    have HB2 := Lib.hid hb2
    clear HT HT2 hb2
    go_upto_region 14 with (fail)
    go_region_held3 (fun W => W.cell? ⟨w.heap.size, 0, none⟩ = some (.int .i64 c.slots) ∧ W.cell? ⟨w.heap.size, 1, none⟩ = some (.int .i64 c.reads) ∧ W.cell? ⟨w.heap.size, 2, none⟩ = some (.int .i64 c.writes) ∧ W.cell? ⟨w.heap.size, 3, none⟩ = some (.int .i64 c.stack) ∧ W.cell? ⟨w.heap.size + 1, 0, none⟩ = some (.int .i64 at_) ∧ W.cell? ⟨w.heap.size + 1, 1, none⟩ = some (.slice S1 x1.length d1) ∧ W.cell? ⟨w.heap.size + 1, 2, none⟩ = some (.slice S2 x2.length d2) ∧ W.cell? ⟨w.heap.size + 1, 3, none⟩ = some (.slice S3 x3.length d3) ∧ W.cell? ⟨w.heap.size + 1, 4, none⟩ = some (.slice S4 x4.length d4) ∧ W.cell? ⟨w.heap.size + 1, 5, none⟩ = some (.int .i64 sp) ∧ W.cell? ⟨w.heap.size + 1, 6, none⟩ = some (.bool false) ∧ HeldL w.heap.size (w.heap.size + 1) c at_ (.slice S1 x1.length d1) (.slice S2 x2.length d2) (.slice S3 x3.length d3) (.slice S4 x4.length d4) sp false w2 W)
      ((show HeldM w.heap.size (w.heap.size + 1) c at_ (.slice S1 x1.length d1) (.slice S2 x2.length d2) (.slice S3 x3.length d3) (.slice S4 x4.length d4) sp false w2 _; (repeat (first | with_reducible exact HT3 | with_reducible apply heldM_drew | with_reducible apply heldM_alloc | with_reducible refine heldM_clone ?_ (by assumption) | with_reducible refine heldM_copy ?_ (by assumption) | with_reducible refine heldM_pairs ?_ (by assumption)))))
      ((first | (go_at_call 29; refine (clone53_c ((HL.out.below HB2.out).drew) (by omega)).mono ?_; rintro e w3 ⟨A3, c3, rfl, q3⟩; have Q3 := Lib.hid q3)
              | (go_at_call 31; refine (copied_vm (((R1.out.below HB2.out).drew).below Q3.out.below) (((R2.out.below HB2.out).drew).below Q3.out.below) (((R3.out.below HB2.out).drew).below Q3.out.below) (((R4.out.below HB2.out).drew).below Q3.out.below) (by have := HX.out.2.1; omega) (by have := HX.out; omega) (by have := HX.out; omega) (by have := HX.out; omega)).mono ?_; rintro e w4 ⟨u1, u2, u3, u4, rfl, q4⟩; have Q4 := Lib.hid q4; obtain ⟨U1, f1, rfl⟩ := own_slice q4.o1; obtain ⟨U2, f2, rfl⟩ := own_slice q4.o2; obtain ⟨U3, f3, rfl⟩ := own_slice q4.o3; obtain ⟨U4, f4, rfl⟩ := own_slice q4.o4)
              | (go_at_call 30; refine (pairs_c _).mono ?_; rintro e w5 ⟨rfl, q5⟩; have Q5 := Lib.hid q5)))
    go_wp2
    go_ret2
    exact ⟨_, _, rfl, load_fin HB2.out.drew Q3.out Q4.out Q5.out⟩
  | true =>
    have hop := HE.out rfl
    rw [hop] at cop
    have i0 : (0 : Int) ≤ (at_ : Int) := by omega
    have i1 : (at_ : Int) < (l.length : Int) := by omega
    clear hop
    go_enter Try.func23, Try.ntmps23
    go_upto_region 12 with (go_at_call 27; refine HVER.out.mono ?_; rintro e w1 ⟨rfl, hb⟩; have hb4 := (hb.block w.heap.size (by simp; omega)).trans ((Below.heap_alloc _ _ _ (by simp)).trans (heap_alloc_new w _)); have hb5 := (hb.block (w.heap.size + 1) (by simp)).trans (heap_alloc_new2 _ _ _ (World.size_alloc w _)); have k0 := cell_blk hb4 0; have k1 := cell_blk hb4 1; have k2 := cell_blk hb4 2; have k3 := cell_blk hb4 3; have j0 := cell_blk hb5 0; have j1 := cell_blk hb5 1; have j2 := cell_blk hb5 2; have j3 := cell_blk hb5 3; have j4 := cell_blk hb5 4; have j5 := cell_blk hb5 5; have j6 := cell_blk hb5 6; have hbx : Below w.heap.size w w1 := (((Below.refl _ _).alloc (Nat.le_refl _) _).alloc (by simp) _).trans (hb.mono (by simp; omega)); have cop1 : w1.cell? ⟨g, o + at_ * 2, none⟩ = some (.int .u8 23) := (hbx.cell (p := ⟨g, o + at_ * 2, none⟩) hg).trans cop; have HB := Lib.hid hb; clear hb hb4 hb5 hbx)
    have HT : HeldM w.heap.size (w.heap.size + 1) c at_ (.slice S1 x1.length d1) (.slice S2 x2.length d2) (.slice S3 x3.length d3) (.slice S4 x4.length d4) sp true w1 w1 := HeldL.m ⟨k0, k1, k2, k3, j0, j1, j2, j3, j4, j5, j6, Below.refl _ _⟩
    have hb0 : Below w.heap.size w w1 := (((Below.refl _ _).alloc (Nat.le_refl _) _).alloc (by simp) _).trans (HB.out.mono (by simp; omega))
    have HB0 := Lib.hid hb0
    clear k0 k1 k2 k3 j0 j1 j2 j3 j4 j5 j6 hb0 HB cop cop1
    go_region_held3 (fun W => W.cell? ⟨w.heap.size, 0, none⟩ = some (.int .i64 c.slots) ∧ W.cell? ⟨w.heap.size, 1, none⟩ = some (.int .i64 c.reads) ∧ W.cell? ⟨w.heap.size, 2, none⟩ = some (.int .i64 c.writes) ∧ W.cell? ⟨w.heap.size, 3, none⟩ = some (.int .i64 c.stack) ∧ W.cell? ⟨w.heap.size + 1, 0, none⟩ = some (.int .i64 at_) ∧ W.cell? ⟨w.heap.size + 1, 1, none⟩ = some (.slice S1 x1.length d1) ∧ W.cell? ⟨w.heap.size + 1, 2, none⟩ = some (.slice S2 x2.length d2) ∧ W.cell? ⟨w.heap.size + 1, 3, none⟩ = some (.slice S3 x3.length d3) ∧ W.cell? ⟨w.heap.size + 1, 4, none⟩ = some (.slice S4 x4.length d4) ∧ W.cell? ⟨w.heap.size + 1, 5, none⟩ = some (.int .i64 sp) ∧ W.cell? ⟨w.heap.size + 1, 6, none⟩ = some (.bool true) ∧ HeldL w.heap.size (w.heap.size + 1) c at_ (.slice S1 x1.length d1) (.slice S2 x2.length d2) (.slice S3 x3.length d3) (.slice S4 x4.length d4) sp true w1 W)
      ((show HeldM w.heap.size (w.heap.size + 1) c at_ (.slice S1 x1.length d1) (.slice S2 x2.length d2) (.slice S3 x3.length d3) (.slice S4 x4.length d4) sp true w1 _; (repeat (first | with_reducible exact HT | with_reducible apply heldM_drew | with_reducible apply heldM_alloc | with_reducible refine heldM_below ?_ (by assumption)))))
      ((go_at_call 43; refine (high_c ((HL.out.below HB0.out).drew) HV.out HS.out H0.out HH.out hat).mono ?_; rintro e w2 ⟨rfl, hq⟩))
    have HT2 := (heldM_below (heldM_drew HT) (by assumption)).l
    have hb2 := HB0.out.trans (HT2.below.mono HB0.out.size)
    have HT3 : HeldM w.heap.size (w.heap.size + 1) c at_ (.slice S1 x1.length d1) (.slice S2 x2.length d2) (.slice S3 x3.length d3) (.slice S4 x4.length d4) sp true w2 w2 := HeldL.m ⟨HT2.c0, HT2.c1, HT2.c2, HT2.c3, HT2.k0, HT2.k1, HT2.k2, HT2.k3, HT2.k4, HT2.k5, HT2.k6, Below.refl _ _⟩
    have HB2 := Lib.hid hb2
    clear HT HT2 hb2
    go_upto_region 14 with (fail)
    go_region_held3 (fun W => W.cell? ⟨w.heap.size, 0, none⟩ = some (.int .i64 c.slots) ∧ W.cell? ⟨w.heap.size, 1, none⟩ = some (.int .i64 c.reads) ∧ W.cell? ⟨w.heap.size, 2, none⟩ = some (.int .i64 c.writes) ∧ W.cell? ⟨w.heap.size, 3, none⟩ = some (.int .i64 c.stack) ∧ W.cell? ⟨w.heap.size + 1, 0, none⟩ = some (.int .i64 at_) ∧ W.cell? ⟨w.heap.size + 1, 1, none⟩ = some (.slice S1 x1.length d1) ∧ W.cell? ⟨w.heap.size + 1, 2, none⟩ = some (.slice S2 x2.length d2) ∧ W.cell? ⟨w.heap.size + 1, 3, none⟩ = some (.slice S3 x3.length d3) ∧ W.cell? ⟨w.heap.size + 1, 4, none⟩ = some (.slice S4 x4.length d4) ∧ W.cell? ⟨w.heap.size + 1, 5, none⟩ = some (.int .i64 sp) ∧ W.cell? ⟨w.heap.size + 1, 6, none⟩ = some (.bool true) ∧ HeldL w.heap.size (w.heap.size + 1) c at_ (.slice S1 x1.length d1) (.slice S2 x2.length d2) (.slice S3 x3.length d3) (.slice S4 x4.length d4) sp true w2 W)
      ((show HeldM w.heap.size (w.heap.size + 1) c at_ (.slice S1 x1.length d1) (.slice S2 x2.length d2) (.slice S3 x3.length d3) (.slice S4 x4.length d4) sp true w2 _; (repeat (first | with_reducible exact HT3 | with_reducible apply heldM_drew | with_reducible apply heldM_alloc | with_reducible refine heldM_clone ?_ (by assumption) | with_reducible refine heldM_copy ?_ (by assumption) | with_reducible refine heldM_pairs ?_ (by assumption)))))
      ((first | (go_at_call 29; refine (clone53_c ((HL.out.below HB2.out).drew) (by omega)).mono ?_; rintro e w3 ⟨A3, c3, rfl, q3⟩; have Q3 := Lib.hid q3)
              | (go_at_call 31; refine (copied_vm (((R1.out.below HB2.out).drew).below Q3.out.below) (((R2.out.below HB2.out).drew).below Q3.out.below) (((R3.out.below HB2.out).drew).below Q3.out.below) (((R4.out.below HB2.out).drew).below Q3.out.below) (by have := HX.out.2.1; omega) (by have := HX.out; omega) (by have := HX.out; omega) (by have := HX.out; omega)).mono ?_; rintro e w4 ⟨u1, u2, u3, u4, rfl, q4⟩; have Q4 := Lib.hid q4; obtain ⟨U1, f1, rfl⟩ := own_slice q4.o1; obtain ⟨U2, f2, rfl⟩ := own_slice q4.o2; obtain ⟨U3, f3, rfl⟩ := own_slice q4.o3; obtain ⟨U4, f4, rfl⟩ := own_slice q4.o4)
              | (go_at_call 30; refine (pairs_c _).mono ?_; rintro e w5 ⟨rfl, q5⟩; have Q5 := Lib.hid q5)))
    go_wp2
    go_ret2
    exact ⟨_, _, rfl, load_fin HB2.out.drew Q3.out Q4.out Q5.out⟩

end Go.Proofs.Ytihajgmknhifiaa
