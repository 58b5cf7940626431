/-
  'VmAgain' OF LAYER 22 RETURNS TRUE WHATEVER CODE, RESOURCES, INPUTS AND BUDGETS IT IS HANDED, AND WHAT IT IS HANDED READS AS IT DID. No condition.
-/
import Derived.Test.YtihajgmknhifiaaRows
import Derived.Test.YtihajgmknhifiaaXl
import Derived.Test.YtihajgmknhifiaaXr
import Derived.ProofKit
namespace Go.Proofs.Ytihajgmknhifiaa
open Go.ChangeShapes Go.WideShapes Go.ChangeAt Go.RowKit Go.Deep
set_option linter.unusedVariables false

theorem Try.own : ownKnob Try.prog.godebug = none := by kernel_rfl
theorem Try.laidOut : laidOutB Try.prog = true := by kernel_rfl

theorem post_below {H : Type} {enc : TypeId × Value → H} {P : Program} {f : Func} {s : ChangeSpec} {W W' : World} {args : Array Value} {v : Value} {ds gs : List (DataW H)} {before pa pv : List MemPlace}
    (hW : DataW.Whole enc P f.params.toList s.vars false W args.toList ds gs before)
    (hres : ∀ (b : Nat) (sp : Nat → Bool) (hd : Bool), DataW.TrodAll enc P W' b sp hd f.resultTypes.toList (v.resultList f.resultTypes.size) (s.fn H (ds ++ gs)).results [])
    (hargs : DataW.TrodAll enc P W' 0 (fun b => decide (b < W.heap.size)) true f.params.toList args.toList (s.fn H (ds ++ gs)).args pa)
    (hvars : DataW.TrodVars enc P W' (fun b => decide (b < W.heap.size)) s.vars (s.fn H (ds ++ gs)).vars pv)
    (hps : before = pa ++ pv) (hk : Below W.heap.size W W') : s.post enc P f false true false false W args v W' :=
  ⟨ds, gs, before, [], pa, pv, hW, hres _ _ _, hargs, hvars, hk.frame _, fun h => by cases h⟩

theorem bytesV_length (xs : List Int) : (bytesV xs).length = xs.length := by simp [bytesV]

set_option maxRecDepth 100000 in
theorem open_bytes {H : Type} {enc : TypeId × Value → H} {W : World} {r : Reach} {b0 base : Nat} {spare : Nat → Bool} {held : Bool} {v : Value} {d : DataW H} {ps : List MemPlace} (hval : Value.okWide Try.prog W r b0 61 v) (h : DataW.Trod enc Try.prog W base spare held 61 v d ps) :
    ∃ (A : Option Addr) (l : List Int) (c : Nat), v = .slice A l.length c ∧ Rd W v l.length 1 (bytesV l) ∧ ∀ i ∈ l, 0 ≤ i ∧ i ≤ 255 := by
  obtain ⟨a0, n0, c0, rfl⟩ := okWide_slice Try.underlying61 hval
  obtain ⟨fuel, hf⟩ := h
  rcases open_ints Try.underlying61 Try.underlying5 cells_5 hf with ⟨hcs, _⟩ | ⟨a, len, cap, zs, hcs, hb, hl, hm, hz, hx, hc, hw⟩
  · simp [Value.cells] at hcs
    obtain ⟨rfl, rfl, rfl⟩ := hcs
    exact ⟨none, [], 0, rfl, ⟨by simp [bytesV], none, 0, rfl, Nat.le_refl _, fun _ => ⟨rfl, rfl⟩, fun ad had => by cases had⟩, fun i hi => by cases hi⟩
  · simp [Value.cells] at hcs
    obtain ⟨rfl, rfl, rfl⟩ := hcs
    have hlz : n0 ≤ zs.length := by rw [hz]; split <;> omega
    have hlt : (zs.take n0).length = n0 := by simp; omega
    refine ⟨some a, zs.take n0, c0, by rw [hlt], ?_, ?_⟩
    · refine ⟨by rw [bytesV_length, Nat.mul_one], some a, c0, by rw [hlt], by rw [hlt]; exact hl, fun e => (by cases e), fun ad had j u hj => ?_⟩
      obtain rfl := Option.some.inj had
      have hjl : j < n0 := by
        have := (List.getElem?_eq_some_iff.1 hj).1
        rw [bytesV_length, hlt] at this
        exact this
      rw [bytesV_get _ j (by omega)] at hj
      obtain rfl := Option.some.inj hj
      rw [hc j (by omega)]
      simp [List.getD_eq_getElem?_getD, hjl]
    · intro i hi'
      have := hw i (List.mem_of_mem_take hi')
      exact bounds_u8 this

theorem again_c {w : World} {A B D : Option Addr} {c1 c2 c3 : Nat} {l : List In} {ins bs : List Int} {c : Cf}
    (hl : Rd w (.slice A l.length c1) l.length 2 (insV l)) (hi : Rd w (.slice B ins.length c2) ins.length 1 (ints ins)) (hbs : Rd w (.slice D bs.length c3) bs.length 1 (bytesV bs)) (hbv : ∀ x ∈ bs, 0 ≤ x ∧ x ≤ 255) :
    Calls Try.prog 7 #[.slice A l.length c1, c.val, .slice B ins.length c2, .slice D bs.length c3] w fun e w' => e = .returned (.bool true) ∧ Below w.heap.size w w' := by
  by_cases hbig : 200 < l.length ∨ 100 < ins.length ∨ 200 < bs.length
  · exact again_big hbig
  · by_cases hv : (verM l c).2 = 0
    · by_cases hr : (ins.length : Int) = c.reads
      · exact again_ok (by omega) (by omega) (by omega) hl hi hbs hbv hv hr
      · exact again_bad (by omega) (by omega) (by omega) hl hi (says_len hv hr) (by decide)
    · exact again_bad (by omega) (by omega) (by omega) hl hi (says_bad (by omega) hv) hv

set_option maxRecDepth 100000 in
theorem vmAgain_lifted (os : Os) (started : os.Started) (H : Type) (enc : TypeId × Value → H) :
    ReturnsInHanded {} Try.checked os 7 .any (Rows.vmAgainSpec.pre6 enc Try.prog Try.f7 Rows.vmAgainRow.domain false) (Rows.vmAgainSpec.post enc Try.prog Try.f7 false true false false) := by
  refine returnsInHanded_of_change (C := Try.checked) Try.own started (by kernel_rfl) Try.func7
    (ChangeSpec.witness6 (enc := enc) (C := Try.checked) false ⟨#[], #[.slice none 0 0, .agg #[.int .i64 0, .int .i64 0, .int .i64 0, .int .i64 0], .slice none 0 0, .slice none 0 0], []⟩ 8 (by kernel_rfl) (by kernel_rfl) (by kernel_rfl) (by kernel_rfl)) ?_
  intro W base args ds gs before hval0 hW hcnd _
  have hval : ∀ (j : Nat) t v, Try.f7.params[j]? = some t → args[j]? = some v → Value.okWide Try.prog W .any base t v := hval0
  have hW' := hW
  obtain ⟨p, q, hA0, hV, rfl, hfz, hnd⟩ := hW
  have hA : DataW.TrodAll enc Try.prog W 0 (fun _ => true) true Try.f7.params.toList args.toList ds p := hA0
  rw [Try.params7] at hA hval
  obtain ⟨v0, v1, v2, v3, d0, d1, d2, d3, p0, p1, p2, p3, rfl, rfl, rfl, h0, h1, h2, h3⟩ := trodAll_four hA
  obtain ⟨rfl, rfl⟩ := trodVars_none hV
  have hlt : ∀ x ∈ p0 ++ p1 ++ p2 ++ p3, x.block < W.heap.size := fun x hx => hW'.lt x (by simpa using hx)
  obtain ⟨A, l, c1, rfl, hl, _⟩ := open_code (hval 0 22 v0 rfl rfl) h0
  obtain ⟨c, rfl⟩ := open_conf (hval 1 24 v1 rfl rfl) h1
  obtain ⟨B, ins, c2, rfl, hi, _⟩ := open_nums (hval 2 25 v2 rfl rfl) h2
  obtain ⟨D, bs, c3, rfl, hbs, hbv⟩ := open_bytes (hval 3 61 v3 rfl rfl) h3
  clear hA0 hval0
  refine (again_c hl hi hbs hbv).mono fun e W' ⟨he, hw⟩ => ?_
  subst he
  refine ⟨_, rfl, post_below (pa := p0 ++ (p1 ++ (p2 ++ p3))) (pv := []) hW' (fun _ _ _ => trodAll_mk1 (shut_bool Try.underlying4 true)) ?_ rfl (by simp) hw⟩
  exact trodAll_mk4 (Below.trod Try.laidOut (by kernel_rfl) (of_decide_eq_true (by kernel_rfl)) h0 hw fun x hx => hlt x (by simp [hx]))
    (Below.trod Try.laidOut (by kernel_rfl) (of_decide_eq_true (by kernel_rfl)) h1 hw fun x hx => hlt x (by simp [hx]))
    (Below.trod Try.laidOut (by kernel_rfl) (of_decide_eq_true (by kernel_rfl)) h2 hw fun x hx => hlt x (by simp [hx]))
    (Below.trod Try.laidOut (by kernel_rfl) (of_decide_eq_true (by kernel_rfl)) h3 hw fun x hx => hlt x (by simp [hx]))

theorem vmAgain_holds : Rows.VmAgainSaid :=
  OpenClaim.holds_of_wide 7 Try.f7 rfl rfl rfl rfl rfl rfl rfl ⟨rfl, rfl, rfl, rfl, rfl⟩ rfl rfl rfl rfl rfl (by kernel_rfl) Try.func7 (by kernel_rfl)
    (of_decide_eq_true (by kernel_rfl)) (by unfold Func.isWrapper; first | (rw [if_pos (by decide +kernel)]; kernel_rfl) | (rw [if_neg (by decide +kernel)]; exact ⟨rfl, rfl⟩))
    (fun os started H enc _ => vmAgain_lifted os started H enc)

#print axioms vmAgain_holds
end Go.Proofs.Ytihajgmknhifiaa
