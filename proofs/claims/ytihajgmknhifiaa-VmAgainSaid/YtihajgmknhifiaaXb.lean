/- The call of the reference's Copy. -/
import Derived.Test.YtihajgmknhifiaaXa
import Derived.Test.YtihajgmknhifiaaWd
namespace Go.Proofs.Ytihajgmknhifiaa
open Go.RowKit
set_option linter.unusedVariables false

def zero37 : Array Value := #[.int .i64 0, .slice none 0 0, .slice none 0 0, .slice none 0 0, .slice none 0 0, .int .i64 0, .bool false]

structure Cp (w : World) (cs : Array Value) (W : World) : Prop where
  below : Below w.heap.size w W
  k0 : W.heap[w.heap.size]? = some (.cells cs 37 (0, 0))
  k1 : W.heap[w.heap.size + 1]? = some (.cells zero37 37 (0, 0))

theorem Cp.clone {w W W' : World} {cs : Array Value} {v : Value} {n : Nat} {xs : List Value} (h : Cp w cs W) (q : CloneQ W 2 1 v n xs W') : Cp w cs W' :=
  ⟨h.below.trans (q.below.mono h.below.size), (q.below.block _ (Array.getElem?_eq_some_iff.1 h.k0).1).trans h.k0, (q.below.block _ (Array.getElem?_eq_some_iff.1 h.k1).1).trans h.k1⟩
theorem Cp.set {w W : World} {cs : Array Value} (h : Cp w cs W) (i : Nat) (v : Value) : Cp w (cs.setIfInBounds i v) (W.setCell ⟨w.heap.size, i, none⟩ v) := by
  have hu : Upd (fun k => k = w.heap.size) W (W.setCell ⟨w.heap.size, i, none⟩ v) := Upd.setCell (F := fun k => k = w.heap.size) (Upd.refl _ _) ⟨w.heap.size, i, none⟩ (.inl rfl) v
  exact ⟨h.below.trans (hu.below h.below.size fun k e => Nat.le_of_eq e.symm), heap_setCell W _ _ _ _ h.k0 i v, (hu.block _ (Array.getElem?_eq_some_iff.1 h.k1).1 (by omega)).trans h.k1⟩
theorem Cp.big {w W : World} {cs : Array Value} (h : Cp w cs W) : w.heap.size + 2 ≤ W.heap.size := by
  have := (Array.getElem?_eq_some_iff.1 h.k1).1
  omega
theorem own_setk {w : World} {base k i n : Nat} {v u : Value} {xs : List Value} (h : w.ownsRow base 2 1 v n xs) (hk : k < base) : (w.setCell ⟨k, i, none⟩ u).ownsRow base 2 1 v n xs :=
  own_upd h (F := fun j => j = k) (Upd.setCell (F := fun j => j = k) (Upd.refl _ _) ⟨k, i, none⟩ (.inl rfl) u) fun j hj e => by have := (h.lt j hj).1; omega

theorem far_base {w : World} {b1 n : Nat} {v v' : Value} {xs : List Value} (h : w.ownsRow b1 2 1 v n xs) (h' : ∀ k, v'.ownBlock = some k → w.heap.size ≤ k) : Far v v' := by
  unfold Far
  cases hv : v.ownBlock with
  | none => exact .inl rfl
  | some k =>
    refine .inr fun e => ?_
    have := (h.lt k hv).2
    have := h' k e.symm
    omega

set_option maxHeartbeats 4000000 in
set_option maxRecDepth 8000 in
theorem refcopy_c {w : World} {s1 s2 s3 s4 : Value} {a sp : Int} {en : Bool} {x1 x2 x3 x4 : List Int} (h1 : Rd w s1 x1.length 1 (ints x1)) (h2 : Rd w s2 x2.length 1 (ints x2)) (h3 : Rd w s3 x3.length 1 (ints x3)) (h4 : Rd w s4 x4.length 1 (ints x4))
    (b1 : x1.length ≤ 1000000) (b2 : x2.length ≤ 1000000) (b3 : x3.length ≤ 1000000) (b4 : x4.length ≤ 1000000) :
    Calls Try.prog 24 #[.agg #[.int .i64 a, s1, s2, s3, s4, .int .i64 sp, .bool en]] w fun e w' => ∃ v1 v2 v3 v4, e = .returned (.agg #[.int .i64 a, v1, v2, v3, v4, .int .i64 sp, .bool en]) ∧ CopyQ w x1 x2 x3 x4 v1 v2 v3 v4 w' := by
  obtain ⟨A1, c1, rfl, _⟩ := h1.form
  obtain ⟨A2, c2, rfl, _⟩ := h2.form
  obtain ⟨A3, c3, rfl, _⟩ := h3.form
  obtain ⟨A4, c4, rfl, _⟩ := h4.form
  have R1 := Lib.hid h1
  have R2 := Lib.hid h2
  have R3 := Lib.hid h3
  have R4 := Lib.hid h4
  clear h1 h2 h3 h4
  go_enter Try.func24, Try.ntmps24
  go_upto_region 1 with (fail)
  have C0 : Cp w #[.int .i64 a, .slice A1 x1.length c1, .slice A2 x2.length c2, .slice A3 x3.length c3, .slice A4 x4.length c4, .int .i64 sp, .bool en] ((w.alloc (.cells #[.int .i64 a, .slice A1 x1.length c1, .slice A2 x2.length c2, .slice A3 x3.length c3, .slice A4 x4.length c4, .int .i64 sp, .bool en] 37)).alloc (.cells #[.int .i64 0, .slice none 0 0, .slice none 0 0, .slice none 0 0, .slice none 0 0, .int .i64 0, .bool false] 37)) := by
    refine ⟨((Below.refl _ _).alloc (Nat.le_refl _) _).alloc (by simp) _, ?_, ?_⟩
    · rw [Below.heap_alloc _ _ _ (by simp)]; exact heap_alloc_new w _
    · have := heap_alloc_new (w.alloc (.cells #[.int .i64 a, .slice A1 x1.length c1, .slice A2 x2.length c2, .slice A3 x3.length c3, .slice A4 x4.length c4, .int .i64 sp, .bool en] 37)) (.cells #[.int .i64 0, .slice none 0 0, .slice none 0 0, .slice none 0 0, .slice none 0 0, .int .i64 0, .bool false] 37)
      rw [World.size_alloc] at this
      exact this
  generalize (w.alloc (.cells #[.int .i64 a, .slice A1 x1.length c1, .slice A2 x2.length c2, .slice A3 x3.length c3, .slice A4 x4.length c4, .int .i64 sp, .bool en] 37)).alloc (.cells #[.int .i64 0, .slice none 0 0, .slice none 0 0, .slice none 0 0, .slice none 0 0, .int .i64 0, .bool false] 37) = w0 at *
  have k1 := cell_blk C0.k0 1
  have C0 := Lib.hid C0
  go_wp2_with fail
  refine (refcopied_c (R1.out.below C0.out.below) (by omega)).mono ?_
  rintro e w1 ⟨B1, d1, rfl, q1⟩
  have C1 := C0.out.clone q1
  have f1 := frozen_blk C1.k0 1
  have g1 := cell_blk C1.k0 1
  have g2 := cell_blk C1.k0 2
  have C1 := Lib.hid C1
  have Q1 := Lib.hid q1
  clear q1 k1
  go_wp2_with fail
  refine (refcopied_c (R2.out.below (C1.out.set 1 _).below) (by omega)).mono ?_
  rintro e w2 ⟨B2, d2, rfl, q2⟩
  have C2 := (C1.out.set 1 _).clone q2
  clear f1 g1 g2
  have f1 := frozen_blk C2.k0 2
  have g1 := cell_blk C2.k0 2
  have g2 := cell_blk C2.k0 3
  have C2 := Lib.hid C2
  have Q2 := Lib.hid q2
  clear q2
  go_wp2_with fail
  refine (refcopied_c (R3.out.below (C2.out.set 2 _).below) (by omega)).mono ?_
  rintro e w3 ⟨B3, d3, rfl, q3⟩
  have C3 := (C2.out.set 2 _).clone q3
  clear f1 g1 g2
  have f1 := frozen_blk C3.k0 3
  have g1 := cell_blk C3.k0 3
  have g2 := cell_blk C3.k0 4
  have C3 := Lib.hid C3
  have Q3 := Lib.hid q3
  clear q3
  go_wp2_with fail
  refine (refcopied_c (R4.out.below (C3.out.set 3 _).below) (by omega)).mono ?_
  rintro e w4 ⟨B4, d4, rfl, q4⟩
  have C4 := (C3.out.set 3 _).clone q4
  have C5 := C4.set 4 (.slice B4 x4.length d4)
  clear f1 g1 g2
  have f4 := frozen_blk C4.k0 4
  have e4 := cell_blk C4.k0 4
  have C5 := Lib.hid C5
  have C4 := Lib.hid C4
  have Q4 := Lib.hid q4
  clear q4
  have C6 := C5.out
  go_upto_region 5 with (fail)
  obtain ⟨w5, hw5⟩ : ∃ w5, w5 = w4.setCell ⟨w.heap.size, 4, none⟩ (.slice B4 x4.length d4) := ⟨_, rfl⟩
  rw [← hw5] at C6 ⊢
  have d0 := cell_blk C6.k0 0
  have dd1 := cell_blk C6.k0 1
  have dd2 := cell_blk C6.k0 2
  have dd3 := cell_blk C6.k0 3
  have dd4 := cell_blk C6.k0 4
  have dd5 := cell_blk C6.k0 5
  have dd6 := cell_blk C6.k0 6
  have g0 := cell_blk C6.k1 0
  have g1 := cell_blk C6.k1 1
  have g2 := cell_blk C6.k1 2
  have g3 := cell_blk C6.k1 3
  have g4 := cell_blk C6.k1 4
  have g5 := cell_blk C6.k1 5
  have g6 := cell_blk C6.k1 6
  have f0 := fun i => frozen_blk C6.k1 i
  simp at d0 dd1 dd2 dd3 dd4 dd5 dd6
  simp [zero37] at g0 g1 g2 g3 g4 g5 g6
  have HW5 := Lib.hid hw5
  clear hw5 f4 e4 C6
  go_wp2_with fail
  (try simp only [Exit.inBlock, Exit.then])
  refine bodyPost_ret (by rw [results_cell1 rfl]; go_simp; rfl) rfl ?_
  have hw5 := HW5.out
  subst hw5
  refine ⟨_, _, _, _, rfl, own_set ?_ (Nat.le_succ _) C5.out.k1⟩
  have m0 := C0.out.big
  have m1 := C1.out.big
  have m2 := C2.out.big
  have m3 := C3.out.big
  have z : ∀ {W : World} {k i : Nat} {v : Value}, (W.setCell ⟨k, i, none⟩ v).heap.size = W.heap.size := by intro W k i v; simp [World.setCell]
  have r1 : w1.ownsRow (w.heap.size + 2) 2 1 _ _ _ := own_mono Q1.out.own m0
  have r2 : w2.ownsRow (w.heap.size + 2) 2 1 _ _ _ := own_mono Q2.out.own (by rw [z]; exact m1)
  have r3 : w3.ownsRow (w.heap.size + 2) 2 1 _ _ _ := own_mono Q3.out.own (by rw [z]; exact m2)
  have r4 : w4.ownsRow (w.heap.size + 2) 2 1 _ _ _ := own_mono Q4.out.own (by rw [z]; exact m3)
  have hk : w.heap.size < w.heap.size + 2 := by omega
  have hb : w.heap.size ≤ w.heap.size + 2 := by omega
  have t1 := own_setk (i := 1) (u := .slice B1 x1.length d1) r1 hk
  have t12 := own_setk (i := 2) (u := .slice B2 x2.length d2) (own_gn t1 Q2.out.below) hk
  have t2 := own_setk (i := 2) (u := .slice B2 x2.length d2) r2 hk
  have t13 := own_setk (i := 3) (u := .slice B3 x3.length d3) (own_gn t12 Q3.out.below) hk
  have t23 := own_setk (i := 3) (u := .slice B3 x3.length d3) (own_gn t2 Q3.out.below) hk
  have t3 := own_setk (i := 3) (u := .slice B3 x3.length d3) r3 hk
  have e1 := own_setk (i := 4) (u := .slice B4 x4.length d4) (own_gn t13 Q4.out.below) hk
  have e2 := own_setk (i := 4) (u := .slice B4 x4.length d4) (own_gn t23 Q4.out.below) hk
  have e3 := own_setk (i := 4) (u := .slice B4 x4.length d4) (own_gn t3 Q4.out.below) hk
  have e4 := own_setk (i := 4) (u := .slice B4 x4.length d4) r4 hk
  have l2 := fun k h => (Q2.out.own.lt k h).1
  have l3 := fun k h => (Q3.out.own.lt k h).1
  have l4 := fun k h => (Q4.out.own.lt k h).1
  exact { o1 := own_mono e1 hb, o2 := own_mono e2 hb, o3 := own_mono e3 hb, o4 := own_mono e4 hb
          f12 := far_base t1 l2, f13 := far_base t12 l3, f14 := far_base t13 l4, f23 := far_base t2 l3, f24 := far_base t23 l4, f34 := far_base t3 l4
          below := C5.out.below }

end Go.Proofs.Ytihajgmknhifiaa
