/- The call of vm's New. -/
import Derived.Test.YtihajgmknhifiaaVo
import Derived.Deep.RegionHeld3
import Derived.Laws.OwnMore
namespace Go.Proofs.Ytihajgmknhifiaa
open Go.RowKit
set_option linter.unusedVariables false

def zeros (n : Nat) : List Int := List.replicate n 0
theorem zeros_length (n : Nat) : (zeros n).length = n := by simp [zeros]

theorem far_new {w w' : World} {base e e' s s' n n' : Nat} {u v : Value} {xs ys : List Value} (h : w.ownsRow base e s u n xs) (k : w'.ownsRow w.heap.size e' s' v n' ys) : Far u v := by
  rcases hu : u.ownBlock with _ | b
  · exact .inl hu
  · refine .inr fun e1 => ?_
    have hb := h.lt b hu
    rw [hu] at e1
    have := k.lt b e1.symm
    omega

theorem far_new' {w w' : World} {base e e' s s' n n' : Nat} {u v : Value} {xs ys : List Value} (h : w.ownsRow base e s u n xs) (k : w'.ownsRow w.heap.size e' s' v n' ys) : Far v u := (far_new h k).symm

/-- What New has made so far: the row of slots, of outs, of ins; the context's block. -/
structure Got (B : Nat) (w W : World) (ns no : Nat) (xs : List Int) (s o i : Option Value) (b : Option Nat) : Prop where
  bw : B ≤ w.heap.size
  below : Below B w W
  hs : ∀ v, s = some v → W.ownsRow B 2 1 v ns (ints (zeros ns))
  ho : ∀ v, o = some v → W.ownsRow B 2 1 v no (ints (zeros no))
  hi : ∀ v, i = some v → W.ownsRow B 2 1 v xs.length (ints xs)
  hb : ∀ k, b = some k → B ≤ k ∧ ∃ cs, W.heap[k]? = some (.cells cs 37 (0, 0)) ∧ cs = #[.int .i64 0, .slice none 0 0, .slice none 0 0, .slice none 0 0, .slice none 0 0, .int .i64 0, .bool false]
  so : ∀ u v, s = some u → o = some v → Far u v
  si : ∀ u v, s = some u → i = some v → Far u v
  oi : ∀ u v, o = some u → i = some v → Far u v

theorem Got.start {w : World} {B : Nat} {W : World} {ns no : Nat} {xs : List Int} (hB : B ≤ w.heap.size) (h : Below B w W) : Got B w W ns no xs none none none none :=
  ⟨hB, h, fun _ h => by simp at h, fun _ h => by simp at h, fun _ h => by simp at h, fun _ h => by simp at h, fun _ _ h => by simp at h, fun _ _ h => by simp at h, fun _ _ h => by simp at h⟩

section
variable {B : Nat} {w W W' : World} {ns no : Nat} {xs : List Int} {s o i : Option Value} {b : Option Nat}
theorem Got.bl (h : Got B w W ns no xs s o i b) : B ≤ W.heap.size := Nat.le_trans h.bw h.below.size
theorem Got.grow (h : Got B w W ns no xs s o i b) (hg : Below W.heap.size W W') : Got B w W' ns no xs s o i b :=
  have hu : Upd (fun _ => False) W W' := Upd.of_below hg
  { bw := h.bw, below := h.below.trans (hg.mono h.bl)
    hs := fun v e => own_upd (h.hs v e) hu fun _ _ => id
    ho := fun v e => own_upd (h.ho v e) hu fun _ _ => id
    hi := fun v e => own_upd (h.hi v e) hu fun _ _ => id
    hb := fun k e => ⟨(h.hb k e).1, by
      obtain ⟨cs, hc, h2⟩ := (h.hb k e).2
      exact ⟨cs, by rw [hg.block k (Array.getElem?_eq_some_iff.1 hc).1]; exact hc, h2⟩⟩
    so := h.so, si := h.si, oi := h.oi }
theorem Got.addS (h : Got B w W ns no xs none o i b) {v : Value} (hg : Below W.heap.size W W') (hv : W'.ownsRow W.heap.size 2 1 v ns (ints (zeros ns))) : Got B w W' ns no xs (some v) o i b :=
  have g := h.grow hg
  { g with
    hs := fun u e => by cases e; exact own_mono hv h.bl
    so := fun u v' e e' => by cases e; exact far_new' (h.ho v' e') hv
    si := fun u v' e e' => by cases e; exact far_new' (h.hi v' e') hv }
theorem Got.addO (h : Got B w W ns no xs s none i b) {v : Value} (hg : Below W.heap.size W W') (hv : W'.ownsRow W.heap.size 2 1 v no (ints (zeros no))) : Got B w W' ns no xs s (some v) i b :=
  have g := h.grow hg
  { g with
    ho := fun u e => by cases e; exact own_mono hv h.bl
    so := fun u v' e e' => by cases e'; exact far_new (h.hs u e) hv
    oi := fun u v' e e' => by cases e; exact far_new' (h.hi v' e') hv }
theorem Got.addI (h : Got B w W ns no xs s o none b) {v : Value} (hq : CloneQ W 2 1 v xs.length (ints xs) W') : Got B w W' ns no xs s o (some v) b :=
  have g := h.grow hq.below
  { g with
    hi := fun u e => by cases e; exact own_mono hq.own h.bl
    si := fun u v' e e' => by cases e'; exact far_new (h.hs u e) hq.own
    oi := fun u v' e e' => by cases e'; exact far_new (h.ho u e) hq.own }
theorem Got.mkS (h : Got B w W ns no xs none o i b) {k : Nat} (hk : k = W.heap.size) (hn : ns ≤ 1000000) : Got B w (W.alloc (.cells (madeCells #[.int .i64 0] ns) 2)) ns no xs (some (.slice (some ⟨k, 0, none⟩) ns ns)) o i b := by
  subst hk
  refine h.addS ((Below.refl _ _).alloc (Nat.le_refl _) _) ?_
  have hh := World.ownsRow_lit (base := W.heap.size) W (madeCells #[.int .i64 0] ns) (e := 2) (size := 1) ns (Nat.le_refl _) (by unfold maxLen; omega) (by simp [size_madeCells])
  rw [toList_madeCells_one] at hh
  simpa [ints, zeros] using hh
theorem Got.mkO (h : Got B w W ns no xs s none i b) {k : Nat} (hk : k = W.heap.size) (hn : no ≤ 1000000) : Got B w (W.alloc (.cells (madeCells #[.int .i64 0] no) 2)) ns no xs s (some (.slice (some ⟨k, 0, none⟩) no no)) i b := by
  subst hk
  refine h.addO ((Below.refl _ _).alloc (Nat.le_refl _) _) ?_
  have hh := World.ownsRow_lit (base := W.heap.size) W (madeCells #[.int .i64 0] no) (e := 2) (size := 1) no (Nat.le_refl _) (by unfold maxLen; omega) (by simp [size_madeCells])
  rw [toList_madeCells_one] at hh
  simpa [ints, zeros] using hh
theorem Got.mkB (h : Got B w W ns no xs s o i none) {k : Nat} (hk : k = W.heap.size) : Got B w (W.alloc (.cells #[.int .i64 0, .slice none 0 0, .slice none 0 0, .slice none 0 0, .slice none 0 0, .int .i64 0, .bool false] 37)) ns no xs s o i (some k) := by
  subst hk
  have g := h.grow ((Below.refl W.heap.size W).alloc (Nat.le_refl _) (.cells #[.int .i64 0, .slice none 0 0, .slice none 0 0, .slice none 0 0, .slice none 0 0, .int .i64 0, .bool false] 37))
  exact { g with hb := (by
                  intro k e
                  cases e
                  exact ⟨h.bl, _, heap_alloc_new W _, rfl⟩) }
theorem Got.drew (h : Got B w W ns no xs s o i b) : Got B w W.drew ns no xs s o i b := h.grow ((Below.refl _ _).drew)
end

end Go.Proofs.Ytihajgmknhifiaa
