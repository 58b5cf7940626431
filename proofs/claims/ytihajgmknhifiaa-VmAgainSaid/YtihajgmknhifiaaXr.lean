/- What comes in: code, resources, lists of numbers and of bytes, as lists. No condition. -/
import Derived.Test.YtihajgmknhifiaaVa
import Derived.ProofKit
import Derived.Carry
import Derived.Deep.SlicePairs
import Derived.Lib.SmallJoins
namespace Go.Proofs.Ytihajgmknhifiaa
open Go.ChangeShapes Go.WideShapes Go.ChangeAt Go.RowKit Go.Deep
set_option linter.unusedVariables false

theorem cells_2 : Try.prog.cellsOf 2 = 1 := by kernel_rfl
theorem cells_3 : Try.prog.cellsOf 3 = 1 := by kernel_rfl
theorem cells_5 : Try.prog.cellsOf 5 = 1 := by kernel_rfl
theorem cells_24 : Try.prog.cellsOf 24 = 4 := by kernel_rfl
theorem one_24 : Deep.oneCellFields Try.prog #[{ name := "Slots", type := 3, offset := 0, embedded := false, tag := "", pkgPath := "", byteOffset := 0 }, { name := "Reads", type := 3, offset := 1, embedded := false, tag := "", pkgPath := "", byteOffset := 8 }, { name := "Writes", type := 3, offset := 2, embedded := false, tag := "", pkgPath := "", byteOffset := 16 }, { name := "Stack", type := 3, offset := 3, embedded := false, tag := "", pkgPath := "", byteOffset := 24 }] = true := by kernel_rfl
theorem cells_53 : Try.prog.cellsOf 53 = 2 := by kernel_rfl

def opV (v : Value) : Int := match v with | .int _ n => n | _ => 0

section
variable {H : Type} {enc : TypeId × Value → H} {W : World} {r : Reach} {b0 base : Nat} {spare : Nat → Bool} {held : Bool} {v : Value} {d : DataW H} {ps : List MemPlace}

set_option maxRecDepth 100000 in
theorem open_code (hval : Value.okWide Try.prog W r b0 22 v) (h : DataW.Trod enc Try.prog W base spare held 22 v d ps) :
    ∃ (A : Option Addr) (l : List In) (c : Nat), v = .slice A l.length c ∧ Rd W v l.length 2 (insV l) ∧ ∀ i ∈ l, (0 ≤ i.op ∧ i.op ≤ 255) ∧ -9223372036854775808 ≤ i.arg ∧ i.arg ≤ 9223372036854775807 := by
  obtain ⟨a0, n0, c0, rfl⟩ := okWide_slice Try.underlying22 hval
  obtain ⟨fuel, hf⟩ := h
  rcases open_slice_pairs Try.underlying22 Try.underlying53 cells_53 rfl rfl cells_5 cells_2 hf with ⟨hcs, _⟩ | ⟨a, len, cap, m, n, V0, V1, D0, D1, P0, P1, hcs, hb, hl, hm, hmm, hx, hi⟩
  · simp [Value.cells] at hcs
    obtain ⟨rfl, rfl, rfl⟩ := hcs
    exact ⟨none, [], 0, rfl, ⟨by simp [insV], none, 0, rfl, Nat.le_refl _, fun _ => ⟨rfl, rfl⟩, fun ad had => by cases had⟩, fun i hi => by cases hi⟩
  · simp [Value.cells] at hcs
    obtain ⟨rfl, rfl, rfl⟩ := hcs
    have hlm : n0 ≤ m := by rw [hmm]; split <;> omega
    have hv : ∀ i, i < n0 → (V0 i = .int .u8 (opV (V0 i)) ∧ 0 ≤ opV (V0 i) ∧ opV (V0 i) ≤ 255) ∧ (V1 i = .int .i64 (opV (V1 i)) ∧ -9223372036854775808 ≤ opV (V1 i) ∧ opV (V1 i) ≤ 9223372036854775807) := by
      intro i hin
      obtain ⟨_, _, t0, t1⟩ := hi i (by omega)
      obtain ⟨x, hx0, _, w0⟩ := DataW.trod_int Try.underlying5 t0
      obtain ⟨y, hy0, _, w1⟩ := DataW.trod_int Try.underlying2 t1
      simp at hx0 hy0
      rw [hx0, hy0]
      refine ⟨⟨rfl, ?_⟩, ⟨rfl, ?_⟩⟩
      · exact bounds_u8 w0
      · exact bounds_i64 w1
    refine ⟨some a, (List.range n0).map fun i => ⟨opV (V0 i), opV (V1 i)⟩, c0, by simp, ?_, ?_⟩
    · refine ⟨by rw [insV_length], some a, c0, by simp, by simpa using hl, fun e => (by cases e), fun ad had j u hj => ?_⟩
      obtain rfl := Option.some.inj had
      have hjl : j < n0 * 2 := by
        have := (List.getElem?_eq_some_iff.1 hj).1
        rw [insV_length] at this
        simpa using this
      have hg := insV_get ((List.range n0).map fun i => (⟨opV (V0 i), opV (V1 i)⟩ : In)) (j / 2) (by simp; omega)
      have e0 : (((List.range n0).map fun i => (⟨opV (V0 i), opV (V1 i)⟩ : In)).getD (j / 2) ⟨0, 0⟩) = ⟨opV (V0 (j / 2)), opV (V1 (j / 2))⟩ := by
        have : j / 2 < n0 := by omega
        simp [List.getD, this]
      rw [e0] at hg
      obtain ⟨q0, q1⟩ := hv (j / 2) (by omega)
      obtain ⟨c0', c1', _, _⟩ := hi (j / 2) (by omega)
      rcases Nat.mod_two_eq_zero_or_one j with e | e
      · have ej : j = j / 2 * 2 := by omega
        rw [ej] at hj ⊢
        rw [hg.1] at hj
        obtain rfl := Option.some.inj hj
        rw [c0']
        exact congrArg some q0.1
      · have ej : j = j / 2 * 2 + 1 := by omega
        rw [ej] at hj ⊢
        rw [hg.2] at hj
        obtain rfl := Option.some.inj hj
        rw [c1']
        exact congrArg some q1.1
    · intro i hi'
      obtain ⟨k, hk, rfl⟩ := List.mem_map.1 hi'
      obtain ⟨q0, q1⟩ := hv k (by simpa using hk)
      exact ⟨q0.2, q1.2⟩

set_option maxRecDepth 100000 in
theorem open_nums (hval : Value.okWide Try.prog W r b0 25 v) (h : DataW.Trod enc Try.prog W base spare held 25 v d ps) :
    ∃ (A : Option Addr) (l : List Int) (c : Nat), v = .slice A l.length c ∧ Rd W v l.length 1 (ints l) ∧ ∀ i ∈ l, -9223372036854775808 ≤ i ∧ i ≤ 9223372036854775807 := by
  obtain ⟨a0, n0, c0, rfl⟩ := okWide_slice Try.underlying25 hval
  obtain ⟨fuel, hf⟩ := h
  rcases open_ints Try.underlying25 Try.underlying2 cells_2 hf with ⟨hcs, _⟩ | ⟨a, len, cap, zs, hcs, hb, hl, hm, hz, hx, hc, hw⟩
  · simp [Value.cells] at hcs
    obtain ⟨rfl, rfl, rfl⟩ := hcs
    exact ⟨none, [], 0, rfl, ⟨by simp [ints], none, 0, rfl, Nat.le_refl _, fun _ => ⟨rfl, rfl⟩, fun ad had => by cases had⟩, fun i hi => by cases hi⟩
  · simp [Value.cells] at hcs
    obtain ⟨rfl, rfl, rfl⟩ := hcs
    have hlz : n0 ≤ zs.length := by rw [hz]; split <;> omega
    have hlt : (zs.take n0).length = n0 := by simp; omega
    refine ⟨some a, zs.take n0, c0, by rw [hlt], ?_, ?_⟩
    · refine ⟨by rw [ints_length, Nat.mul_one], some a, c0, by rw [hlt], by rw [hlt]; exact hl, fun e => (by cases e), fun ad had j u hj => ?_⟩
      obtain rfl := Option.some.inj had
      have hjl : j < n0 := by
        have := (List.getElem?_eq_some_iff.1 hj).1
        rw [ints_length, hlt] at this
        exact this
      rw [ints_get _ j (by omega)] at hj
      obtain rfl := Option.some.inj hj
      rw [hc j (by omega)]
      simp [List.getD_eq_getElem?_getD, hjl]
    · intro i hi'
      have := hw i (List.mem_of_mem_take hi')
      exact bounds_i64 this

set_option maxRecDepth 100000 in
theorem open_conf (hval : Value.okWide Try.prog W r b0 24 v) (h : DataW.Trod enc Try.prog W base spare held 24 v d ps) : ∃ c : Cf, v = c.val := by
  obtain ⟨v0, v1, v2, v3, y0, y1, y2, y3, n, rfl, _, _, h0, h1, h2, h3⟩ := Joins.open_agg4 Try.underlying24 one_24 cells_24 hval h
  obtain ⟨x0, e0, _⟩ := DataW.trod_int Try.underlying3 h0
  obtain ⟨x1, e1, _⟩ := DataW.trod_int Try.underlying3 h1
  obtain ⟨x2, e2, _⟩ := DataW.trod_int Try.underlying3 h2
  obtain ⟨x3, e3, _⟩ := DataW.trod_int Try.underlying3 h3
  simp at e0 e1 e2 e3
  subst e0 e1 e2 e3
  exact ⟨⟨x0, x1, x2, x3⟩, rfl⟩
end

end Go.Proofs.Ytihajgmknhifiaa
