/- The calls of vm's copied, and of Save: a context of its own. -/
import Derived.Test.YtihajgmknhifiaaVr
import Derived.Test.YtihajgmknhifiaaVp
import Derived.Test.YtihajgmknhifiaaWg
namespace Go.Proofs.Ytihajgmknhifiaa
open Go.RowKit
set_option linter.unusedVariables false

theorem own_gn {w w' : World} {base : Nat} {e : TypeId} {size : Nat} {v : Value} {n : Nat} {xs : List Value} (h : w.ownsRow base e size v n xs) (hg : Below w.heap.size w w') : w'.ownsRow base e size v n xs := own_upd h (Upd.of_below (F := fun _ => False) hg) fun _ _ => id

/-- The copied rows: each its own. -/
structure CopyQ (w : World) (x1 x2 x3 x4 : List Int) (v1 v2 v3 v4 : Value) (w' : World) : Prop where
  o1 : w'.ownsRow w.heap.size 2 1 v1 x1.length (ints x1)
  o2 : w'.ownsRow w.heap.size 2 1 v2 x2.length (ints x2)
  o3 : w'.ownsRow w.heap.size 2 1 v3 x3.length (ints x3)
  o4 : w'.ownsRow w.heap.size 2 1 v4 x4.length (ints x4)
  f12 : Far v1 v2
  f13 : Far v1 v3
  f14 : Far v1 v4
  f23 : Far v2 v3
  f24 : Far v2 v4
  f34 : Far v3 v4
  below : Below w.heap.size w w'

structure CellsQ (w : World) (va vs ve : Value) (x1 x2 x3 x4 : List Int) (wc : World) : Prop where
  q : ∃ v1 v2 v3 v4, CopyQ w x1 x2 x3 x4 v1 v2 v3 v4 wc ∧ wc.heap[w.heap.size]? = some (.cells #[va, v1, v2, v3, v4, vs, ve] 37 (0, 0)) ∧ wc.heap[w.heap.size + 1]? = some (.cells #[.int .i64 0, .slice none 0 0, .slice none 0 0, .slice none 0 0, .slice none 0 0, .int .i64 0, .bool false] 37 (0, 0))

structure Box (w : World) (b : Nat) (s1 s2 s3 s4 : Value) (W : World) : Prop where
  below : Below w.heap.size w W
  k1 : W.cell? ⟨b, 1, none⟩ = some s1
  k2 : W.cell? ⟨b, 2, none⟩ = some s2
  k3 : W.cell? ⟨b, 3, none⟩ = some s3
  k4 : W.cell? ⟨b, 4, none⟩ = some s4
  kf : ∀ i, W.frozen? ⟨b, i, none⟩ = false
theorem Box.go {w : World} {b : Nat} {s1 s2 s3 s4 : Value} {W W' : World} (h : Box w b s1 s2 s3 s4 W) (q : Below W.heap.size W W') : Box w b s1 s2 s3 s4 W' := by
  have e : ∀ {p : Addr} {v : Value}, W.cell? p = some v → W'.cell? p = some v := fun hp => by rw [q.cell (World.block_lt_of_cell? _ _ hp)]; exact hp
  have lt := World.block_lt_of_cell? _ _ h.k1
  exact ⟨h.below.trans (q.mono h.below.size), e h.k1, e h.k2, e h.k3, e h.k4, fun i => by rw [q.frozen (p := ⟨b, i, none⟩) lt]; exact h.kf i⟩

theorem cells_fin {w w0 w1 w2 w3 w4 : World} {va s1 s2 s3 s4 vs ve v1 v2 v3 v4 : Value} {x1 x2 x3 x4 : List Int}
    (hb0 : Below w.heap.size w w0) (hk : w0.heap[w.heap.size]? = some (.cells #[va, s1, s2, s3, s4, vs, ve] 37 (0, 0))) (hk' : w0.heap[w.heap.size + 1]? = some (.cells #[.int .i64 0, .slice none 0 0, .slice none 0 0, .slice none 0 0, .slice none 0 0, .int .i64 0, .bool false] 37 (0, 0)))
    (q1 : CloneQ w0.drew 2 1 v1 x1.length (ints x1) w1) (q2 : CloneQ w1 2 1 v2 x2.length (ints x2) w2) (q3 : CloneQ w2 2 1 v3 x3.length (ints x3) w3) (q4 : CloneQ w3 2 1 v4 x4.length (ints x4) w4) :
    CellsQ w va vs ve x1 x2 x3 x4 ((((w4.setCell ⟨w.heap.size, 1, none⟩ v1).setCell ⟨w.heap.size, 2, none⟩ v2).setCell ⟨w.heap.size, 3, none⟩ v3).setCell ⟨w.heap.size, 4, none⟩ v4) := by
  have e1 : Below w0.heap.size w0 w1 := ((Below.refl _ _).drew).trans q1.below
  have e2 := e1.trans (q2.below.mono e1.size)
  have e3 := e2.trans (q3.below.mono e2.size)
  have e4 := e3.trans (q4.below.mono e3.size)
  have z0 : w.heap.size ≤ w0.heap.size := hb0.size
  have z1 := Nat.le_trans z0 e1.size
  have z2 := Nat.le_trans z0 e2.size
  have z3 := Nat.le_trans z0 e3.size
  have o1 := own_gn (own_gn (own_gn q1.own q2.below) q3.below) q4.below
  have o2 := own_gn (own_gn q2.own q3.below) q4.below
  have o3 := own_gn q3.own q4.below
  have lt0 := (Array.getElem?_eq_some_iff.1 hk).1
  have lt1 := (Array.getElem?_eq_some_iff.1 hk').1
  have k4 : w4.heap[w.heap.size]? = some (.cells #[va, s1, s2, s3, s4, vs, ve] 37 (0, 0)) := (e4.block _ lt0).trans hk
  have k4' := (e4.block _ lt1).trans hk'
  have hu : Upd (fun j => j = w.heap.size) w4 ((((w4.setCell ⟨w.heap.size, 1, none⟩ v1).setCell ⟨w.heap.size, 2, none⟩ v2).setCell ⟨w.heap.size, 3, none⟩ v3).setCell ⟨w.heap.size, 4, none⟩ v4) :=
    ((((Upd.refl (fun j => j = w.heap.size) w4).setCell ⟨w.heap.size, 1, none⟩ (.inl rfl) _).setCell ⟨w.heap.size, 2, none⟩ (.inl rfl) _).setCell ⟨w.heap.size, 3, none⟩ (.inl rfl) _).setCell ⟨w.heap.size, 4, none⟩ (.inl rfl) _
  have ne : ∀ {X : World} {v n xs}, X.ownsRow w0.heap.size 2 1 v n xs → ∀ j, v.ownBlock = some j → ¬ j = w.heap.size := by
    intro X v n xs hr j hj e
    have := (hr.lt j hj).1
    omega
  have m1 : w0.heap.size ≤ w0.drew.heap.size := Nat.le_refl _
  have p1 := own_mono o1 m1
  have p2 := own_mono o2 e1.size
  have p3 := own_mono o3 e2.size
  have p4 := own_mono q4.own e3.size
  have h1 := heap_setCell w4 _ _ _ _ k4 1 v1
  have h2 := heap_setCell _ _ _ _ _ h1 2 v2
  have h3 := heap_setCell _ _ _ _ _ h2 3 v3
  have h4 := heap_setCell _ _ _ _ _ h3 4 v4
  refine ⟨v1, v2, v3, v4, ⟨own_mono (own_upd p1 hu (ne p1)) z0, own_mono (own_upd p2 hu (ne p2)) z0, own_mono (own_upd p3 hu (ne p3)) z0, own_mono (own_upd p4 hu (ne p4)) z0, far_new q1.own q2.own, far_new (own_gn q1.own q2.below) q3.own, far_new (own_gn (own_gn q1.own q2.below) q3.below) q4.own, far_new q2.own q3.own, far_new (own_gn q2.own q3.below) q4.own, far_new q3.own q4.own, ?_⟩, h4, ?_⟩
  · exact (hb0.trans (e4.mono z0)).trans (hu.below (Nat.le_trans z0 e4.size) (fun k e => Nat.le_of_eq e.symm))
  · rw [hu.block _ (Array.getElem?_eq_some_iff.1 k4').1 (by omega)]
    exact k4'

theorem own_set {w wc : World} {x1 x2 x3 x4 : List Int} {v1 v2 v3 v4 : Value} {k : Nat} {cs : Array Value} {a b c d e f g : Value} (h : CopyQ w x1 x2 x3 x4 v1 v2 v3 v4 wc) (hk : w.heap.size ≤ k) (hc : wc.heap[k]? = some (.cells cs 37 (0, 0))) :
    CopyQ w x1 x2 x3 x4 v1 v2 v3 v4 (((((((wc.setCell ⟨k, 0, none⟩ a).setCell ⟨k, 1, none⟩ b).setCell ⟨k, 2, none⟩ c).setCell ⟨k, 3, none⟩ d).setCell ⟨k, 4, none⟩ e).setCell ⟨k, 5, none⟩ f).setCell ⟨k, 6, none⟩ g) := by
  have hu : Upd (fun j => j = k) wc (((((((wc.setCell ⟨k, 0, none⟩ a).setCell ⟨k, 1, none⟩ b).setCell ⟨k, 2, none⟩ c).setCell ⟨k, 3, none⟩ d).setCell ⟨k, 4, none⟩ e).setCell ⟨k, 5, none⟩ f).setCell ⟨k, 6, none⟩ g) :=
    (((((((Upd.refl (fun j => j = k) wc).setCell ⟨k, 0, none⟩ (.inl rfl) _).setCell ⟨k, 1, none⟩ (.inl rfl) _).setCell ⟨k, 2, none⟩ (.inl rfl) _).setCell ⟨k, 3, none⟩ (.inl rfl) _).setCell ⟨k, 4, none⟩ (.inl rfl) _).setCell ⟨k, 5, none⟩ (.inl rfl) _).setCell ⟨k, 6, none⟩ (.inl rfl) _
  generalize (((((((wc.setCell ⟨k, 0, none⟩ a).setCell ⟨k, 1, none⟩ b).setCell ⟨k, 2, none⟩ c).setCell ⟨k, 3, none⟩ d).setCell ⟨k, 4, none⟩ e).setCell ⟨k, 5, none⟩ f).setCell ⟨k, 6, none⟩ g) = W' at *
  have ne : ∀ {v n xs}, wc.ownsRow w.heap.size 2 1 v n xs → ∀ j, v.ownBlock = some j → ¬ j = k := by
    intro v n xs hr j hj e
    subst e
    rcases hr.2 with ⟨rfl, _⟩ | ⟨g, cap, cur, rfl, _, hg, _⟩
    · simp [Value.ownBlock] at hj
    · have e1 : g = j := by simpa [Value.ownBlock] using hj
      subst e1
      rw [hc] at hg
      simp at hg
  exact ⟨own_upd h.o1 hu (ne h.o1), own_upd h.o2 hu (ne h.o2), own_upd h.o3 hu (ne h.o3), own_upd h.o4 hu (ne h.o4), h.f12, h.f13, h.f14, h.f23, h.f24, h.f34, h.below.trans (hu.below h.below.size (fun j e => by rw [e]; exact hk))⟩

theorem results_cell1 {fn : Func} {p : Tmp} {ty : TypeId} (h : fn.results = #[.cell p ty]) (tmps : Array Value) (P : Program) (w : World) :
    (results fn tmps).run P w = ((asAddr (tmps.getD p undef)).run P w).andThen fun a w₁ => (loadVar ty a).run P w₁ := by
  simp only [results, h]
  simp [Sem.run_bind, Result.andThen]

set_option maxHeartbeats 4000000 in
set_option maxRecDepth 8000 in
theorem copied_vm {w : World} {s1 s2 s3 s4 : Value} {a sp : Int} {en : Bool} {x1 x2 x3 x4 : List Int} (h1 : Rd w s1 x1.length 1 (ints x1)) (h2 : Rd w s2 x2.length 1 (ints x2)) (h3 : Rd w s3 x3.length 1 (ints x3)) (h4 : Rd w s4 x4.length 1 (ints x4))
    (b1 : x1.length ≤ 1000000) (b2 : x2.length ≤ 1000000) (b3 : x3.length ≤ 1000000) (b4 : x4.length ≤ 1000000) :
    Calls Try.prog 31 #[.agg #[.int .i64 a, s1, s2, s3, s4, .int .i64 sp, .bool en]] w fun e w' => ∃ v1 v2 v3 v4, e = .returned (.agg #[.int .i64 a, v1, v2, v3, v4, .int .i64 sp, .bool en]) ∧ CopyQ w x1 x2 x3 x4 v1 v2 v3 v4 w' := by
  have R1 := Lib.hid h1
  have R2 := Lib.hid h2
  have R3 := Lib.hid h3
  have R4 := Lib.hid h4
  clear h1 h2 h3 h4
  go_enter Try.func31, Try.ntmps31
  go_upto_region 1 with (fail)
  have hb0 : Below w.heap.size w ((w.alloc (.cells #[.int .i64 a, s1, s2, s3, s4, .int .i64 sp, .bool en] 37)).alloc (.cells #[.int .i64 0, .slice none 0 0, .slice none 0 0, .slice none 0 0, .slice none 0 0, .int .i64 0, .bool false] 37)) := ((Below.refl _ _).alloc (Nat.le_refl _) _).alloc (by simp) _
  have hk : ((w.alloc (.cells #[.int .i64 a, s1, s2, s3, s4, .int .i64 sp, .bool en] 37)).alloc (.cells #[.int .i64 0, .slice none 0 0, .slice none 0 0, .slice none 0 0, .slice none 0 0, .int .i64 0, .bool false] 37)).heap[w.heap.size]? = some (.cells #[.int .i64 a, s1, s2, s3, s4, .int .i64 sp, .bool en] 37 (0, 0)) := by
    rw [Below.heap_alloc _ _ _ (by simp)]; exact heap_alloc_new w _
  have hk' : ((w.alloc (.cells #[.int .i64 a, s1, s2, s3, s4, .int .i64 sp, .bool en] 37)).alloc (.cells #[.int .i64 0, .slice none 0 0, .slice none 0 0, .slice none 0 0, .slice none 0 0, .int .i64 0, .bool false] 37)).heap[w.heap.size + 1]? = some (.cells #[.int .i64 0, .slice none 0 0, .slice none 0 0, .slice none 0 0, .slice none 0 0, .int .i64 0, .bool false] 37 (0, 0)) := by
    have := heap_alloc_new (w.alloc (.cells #[.int .i64 a, s1, s2, s3, s4, .int .i64 sp, .bool en] 37)) (.cells #[.int .i64 0, .slice none 0 0, .slice none 0 0, .slice none 0 0, .slice none 0 0, .int .i64 0, .bool false] 37)
    rw [World.size_alloc] at this
    exact this
  generalize (w.alloc (.cells #[.int .i64 a, s1, s2, s3, s4, .int .i64 sp, .bool en] 37)).alloc (.cells #[.int .i64 0, .slice none 0 0, .slice none 0 0, .slice none 0 0, .slice none 0 0, .int .i64 0, .bool false] 37) = w0 at *
  have kk : Box w w.heap.size s1 s2 s3 s4 w0.drew := ⟨hb0.drew, cell_blk hk 1, cell_blk hk 2, cell_blk hk 3, cell_blk hk 4, fun i => frozen_blk hk i⟩
  have kk := Lib.hid kk
  have HH := Lib.hid (And.intro hb0 (And.intro hk hk'))
  clear hb0 hk hk'
  have k1 := kk.out.k1
  have k2 := kk.out.k2
  have k3 := kk.out.k3
  have k4 := kk.out.k4
  have kf := kk.out.kf
  go_cut [] (fun wc => CellsQ w (.int .i64 a) (.int .i64 sp) (.bool en) x1 x2 x3 x4 wc)
  case first J K' hJ hK =>
    have hE : ∀ (v3 v4 v5 v6 v7 v8 v9 v10 v11 v12 v13 v14 v15 v16 v17 v18 v19 : Value) (W : World), CellsQ w (.int .i64 a) (.int .i64 sp) (.bool en) x1 x2 x3 x4 W → K' ⟨#[.agg #[.int .i64 a, s1, s2, s3, s4, .int .i64 sp, .bool en], .pointer (some ⟨w.heap.size, 0, none⟩), .pointer (some ⟨w.heap.size + 1, 0, none⟩), v3, v4, v5, v6, v7, v8, v9, v10, v11, v12, v13, v14, v15, v16, v17, v18, v19], []⟩ W :=
      fun v3 v4 v5 v6 v7 v8 v9 v10 v11 v12 v13 v14 v15 v16 v17 v18 v19 W h => hK _ _ (Met.intro (hJ _ _ ⟨v3, v4, v5, v6, v7, v8, v9, v10, v11, v12, v13, v14, v15, v16, v17, v18, v19, h, rfl⟩))
    clear hJ hK
    have HS : Box w w.heap.size s1 s2 s3 s4 w0.drew := kk.out
    refine wp_region_g (fun j => decide (13 ≤ j)) (Box w w.heap.size s1 s2 s3 s4) (by kernel_rfl) ?_
    refine wpAnyG_take (i := 0) (v := ?_) rfl (by kernel_rfl) (by kernel_rfl) (by kernel_rfl) (by decide) (by kernel_rfl) rfl (fun _ _ _ h => h) (Or.inl ⟨by rfl, ?_⟩) HS ?_
    rotate_left
    (intro W hW; have a1 := hW.k1; have a2 := hW.k2; have a3 := hW.k3; have a4 := hW.k4; go_simp)
    try with_reducible rfl
    (try simp only [Act.put, List.setIfInBounds_toArray, List.set_cons_zero, List.set_cons_succ])
    refine wpAnyG_take (i := 3) (v := ?_) rfl (by kernel_rfl) (by kernel_rfl) (by kernel_rfl) (by decide) (by kernel_rfl) rfl (fun _ _ _ h => h) (Or.inl ⟨by rfl, ?_⟩) HS ?_
    rotate_left
    (intro W hW; have a1 := hW.k1; have a2 := hW.k2; have a3 := hW.k3; have a4 := hW.k4; go_simp)
    try with_reducible rfl
    (try simp only [Act.put, List.setIfInBounds_toArray, List.set_cons_zero, List.set_cons_succ])
    refine wpAnyG_take (i := 6) (v := ?_) rfl (by kernel_rfl) (by kernel_rfl) (by kernel_rfl) (by decide) (by kernel_rfl) rfl (fun _ _ _ h => h) (Or.inl ⟨by rfl, ?_⟩) HS ?_
    rotate_left
    (intro W hW; have a1 := hW.k1; have a2 := hW.k2; have a3 := hW.k3; have a4 := hW.k4; go_simp)
    try with_reducible rfl
    (try simp only [Act.put, List.setIfInBounds_toArray, List.set_cons_zero, List.set_cons_succ])
    refine wpAnyG_take (i := 9) (v := ?_) rfl (by kernel_rfl) (by kernel_rfl) (by kernel_rfl) (by decide) (by kernel_rfl) rfl (fun _ _ _ h => h) (Or.inl ⟨by rfl, ?_⟩) HS ?_
    rotate_left
    (intro W hW; have a1 := hW.k1; have a2 := hW.k2; have a3 := hW.k3; have a4 := hW.k4; go_simp)
    try with_reducible rfl
    (try simp only [Act.put, List.setIfInBounds_toArray, List.set_cons_zero, List.set_cons_succ])
    refine wpAnyG_take (i := 1) (v := ?_) rfl (by kernel_rfl) (by kernel_rfl) (by kernel_rfl) (by decide) (by kernel_rfl) rfl (fun _ _ _ h => h) (Or.inl ⟨by rfl, ?_⟩) HS ?_
    rotate_left
    (intro W hW; have a1 := hW.k1; have a2 := hW.k2; have a3 := hW.k3; have a4 := hW.k4; go_simp)
    try with_reducible rfl
    (try simp only [Act.put, List.setIfInBounds_toArray, List.set_cons_zero, List.set_cons_succ])
    refine wpAnyG_take (i := 4) (v := ?_) rfl (by kernel_rfl) (by kernel_rfl) (by kernel_rfl) (by decide) (by kernel_rfl) rfl (fun _ _ _ h => h) (Or.inl ⟨by rfl, ?_⟩) HS ?_
    rotate_left
    (intro W hW; have a1 := hW.k1; have a2 := hW.k2; have a3 := hW.k3; have a4 := hW.k4; go_simp)
    try with_reducible rfl
    (try simp only [Act.put, List.setIfInBounds_toArray, List.set_cons_zero, List.set_cons_succ])
    refine wpAnyG_take (i := 7) (v := ?_) rfl (by kernel_rfl) (by kernel_rfl) (by kernel_rfl) (by decide) (by kernel_rfl) rfl (fun _ _ _ h => h) (Or.inl ⟨by rfl, ?_⟩) HS ?_
    rotate_left
    (intro W hW; have a1 := hW.k1; have a2 := hW.k2; have a3 := hW.k3; have a4 := hW.k4; go_simp)
    try with_reducible rfl
    (try simp only [Act.put, List.setIfInBounds_toArray, List.set_cons_zero, List.set_cons_succ])
    refine wpAnyG_take (i := 10) (v := ?_) rfl (by kernel_rfl) (by kernel_rfl) (by kernel_rfl) (by decide) (by kernel_rfl) rfl (fun _ _ _ h => h) (Or.inl ⟨by rfl, ?_⟩) HS ?_
    rotate_left
    (intro W hW; have a1 := hW.k1; have a2 := hW.k2; have a3 := hW.k3; have a4 := hW.k4; go_simp)
    try with_reducible rfl
    (try simp only [Act.put, List.setIfInBounds_toArray, List.set_cons_zero, List.set_cons_succ])
    refine wpAnyG_step (i := 2) (by kernel_rfl) rfl (fun K2 hK2 => ?_)
    go_simp
    refine (clone2_c (R1.out.below HS.below) (by omega)).mono ?_
    rintro e w1 ⟨A1, c1, rfl, q1⟩
    have HS := HS.go q1.below
    have Q1 := Lib.hid q1
    clear q1
    refine hK2.out _ _ (fun _ => HS) ?_
    clear hK2
    (try simp only [Act.put, List.setIfInBounds_toArray, List.set_cons_zero, List.set_cons_succ])
    refine wpAnyG_take (i := 12) (v := ?_) rfl (by kernel_rfl) (by kernel_rfl) (by kernel_rfl) (by decide) (by kernel_rfl) rfl (fun _ _ _ h => h) (Or.inl ⟨by rfl, ?_⟩) HS ?_
    rotate_left
    (intro W hW; have a1 := hW.k1; have a2 := hW.k2; have a3 := hW.k3; have a4 := hW.k4; go_simp)
    try with_reducible rfl
    (try simp only [Act.put, List.setIfInBounds_toArray, List.set_cons_zero, List.set_cons_succ])
    refine wpAnyG_step (i := 5) (by kernel_rfl) rfl (fun K2 hK2 => ?_)
    go_simp
    refine (clone2_c (R2.out.below HS.below) (by omega)).mono ?_
    rintro e w2 ⟨A2, c2, rfl, q2⟩
    have HS := HS.go q2.below
    have Q2 := Lib.hid q2
    clear q2
    refine hK2.out _ _ (fun _ => HS) ?_
    clear hK2
    (try simp only [Act.put, List.setIfInBounds_toArray, List.set_cons_zero, List.set_cons_succ])
    refine wpAnyG_step (i := 8) (by kernel_rfl) rfl (fun K2 hK2 => ?_)
    go_simp
    refine (clone2_c (R3.out.below HS.below) (by omega)).mono ?_
    rintro e w3 ⟨A3, c3, rfl, q3⟩
    have HS := HS.go q3.below
    have Q3 := Lib.hid q3
    clear q3
    refine hK2.out _ _ (fun _ => HS) ?_
    clear hK2
    (try simp only [Act.put, List.setIfInBounds_toArray, List.set_cons_zero, List.set_cons_succ])
    refine wpAnyG_step (i := 11) (by kernel_rfl) rfl (fun K2 hK2 => ?_)
    go_simp
    refine (clone2_c (R4.out.below HS.below) (by omega)).mono ?_
    rintro e w4 ⟨A4, c4, rfl, q4⟩
    have HS := HS.go q4.below
    have Q4 := Lib.hid q4
    clear q4
    refine hK2.out _ _ (fun _ => HS) ?_
    clear hK2
    (try simp only [Act.put, List.setIfInBounds_toArray, List.set_cons_zero, List.set_cons_succ])
    have k1 := HS.k1
    have k2 := HS.k2
    have k3 := HS.k3
    have k4 := HS.k4
    have kf := HS.kf
    refine wpAnyG_step (i := 13) (by kernel_rfl) rfl (fun K2 hK2 => ?_)
    go_simp
    refine hK2.out _ _ (fun e => by simp at e) ?_
    clear hK2
    (try simp only [Act.put, List.setIfInBounds_toArray, List.set_cons_zero, List.set_cons_succ])
    refine wpAnyG_step (i := 14) (by kernel_rfl) rfl (fun K2 hK2 => ?_)
    go_simp
    refine hK2.out _ _ (fun e => by simp at e) ?_
    clear hK2
    (try simp only [Act.put, List.setIfInBounds_toArray, List.set_cons_zero, List.set_cons_succ])
    refine wpAnyG_step (i := 15) (by kernel_rfl) rfl (fun K2 hK2 => ?_)
    go_simp
    refine hK2.out _ _ (fun e => by simp at e) ?_
    clear hK2
    (try simp only [Act.put, List.setIfInBounds_toArray, List.set_cons_zero, List.set_cons_succ])
    refine wpAnyG_step (i := 16) (by kernel_rfl) rfl (fun K2 hK2 => ?_)
    go_simp
    refine hK2.out _ _ (fun e => by simp at e) ?_
    clear hK2
    (try simp only [Act.put, List.setIfInBounds_toArray, List.set_cons_zero, List.set_cons_succ])
    refine wpAnyG_step (i := 17) (by kernel_rfl) rfl (fun K2 hK2 => ?_)
    go_simp
    refine hK2.out _ _ (fun e => by simp at e) ?_
    clear hK2
    (try simp only [Act.put, List.setIfInBounds_toArray, List.set_cons_zero, List.set_cons_succ])
    refine wpAnyG_step (i := 18) (by kernel_rfl) rfl (fun K2 hK2 => ?_)
    go_simp
    refine hK2.out _ _ (fun e => by simp at e) ?_
    clear hK2
    (try simp only [Act.put, List.setIfInBounds_toArray, List.set_cons_zero, List.set_cons_succ])
    refine wpAnyG_step (i := 19) (by kernel_rfl) rfl (fun K2 hK2 => ?_)
    go_simp
    refine hK2.out _ _ (fun e => by simp at e) ?_
    clear hK2
    (try simp only [Act.put, List.setIfInBounds_toArray, List.set_cons_zero, List.set_cons_succ])
    refine wpAnyG_done (by kernel_rfl) ?_ _
    refine hE _ _ _ _ _ _ _ _ _ _ _ _ _ _ _ _ _ _ ?_
    exact cells_fin HH.out.1 HH.out.2.1 HH.out.2.2 Q1.out Q2.out Q3.out Q4.out
  case rest =>
    obtain ⟨v1, v2, v3, v4, hq, hc, hc'⟩ := hcut.q
    obtain ⟨A1, c1, rfl⟩ := own_slice hq.o1
    obtain ⟨A2, c2, rfl⟩ := own_slice hq.o2
    obtain ⟨A3, c3, rfl⟩ := own_slice hq.o3
    obtain ⟨A4, c4, rfl⟩ := own_slice hq.o4
    have HQ := Lib.hid hq
    have f0 := fun i => frozen_blk hc' i
    have d0 := cell_blk hc 0
    have d1 := cell_blk hc 1
    have d2 := cell_blk hc 2
    have d3 := cell_blk hc 3
    have d4 := cell_blk hc 4
    have d5 := cell_blk hc 5
    have d6 := cell_blk hc 6
    have g0 := cell_blk hc' 0
    have g1 := cell_blk hc' 1
    have g2 := cell_blk hc' 2
    have g3 := cell_blk hc' 3
    have g4 := cell_blk hc' 4
    have g5 := cell_blk hc' 5
    have g6 := cell_blk hc' 6
    have HC := Lib.hid hc'
    clear hq hc hc' hcut kk k1 k2 k3 k4 kf HH
    go_wp2
    (try simp only [Exit.inBlock, Exit.then])
    refine bodyPost_ret (by rw [results_cell1 rfl]; go_simp; rfl) rfl ?_
    exact ⟨_, _, _, _, rfl, own_set HQ.out (by omega) HC.out⟩

end Go.Proofs.Ytihajgmknhifiaa
