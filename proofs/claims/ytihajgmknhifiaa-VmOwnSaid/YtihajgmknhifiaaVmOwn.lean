/-
  'VmOwn' OF LAYER 22 RETURNS TRUE WHATEVER CODE, RESOURCES, INPUTS AND BUDGET IT IS HANDED, AND WHAT IT IS HANDED READS AS IT DID. No condition.
-/
import Derived.Test.YtihajgmknhifiaaRows
import Derived.Test.YtihajgmknhifiaaWo
import Derived.Test.YtihajgmknhifiaaXr
import Derived.ProofKit
namespace Go.Proofs.Ytihajgmknhifiaa
open Go.ChangeShapes Go.WideShapes Go.ChangeAt Go.RowKit
set_option linter.unusedVariables false

theorem Try.own : ownKnob Try.prog.godebug = none := by kernel_rfl
theorem Try.laidOut : laidOutB Try.prog = true := by kernel_rfl

theorem post_below {H : Type} {enc : TypeId × Value → H} {P : Program} {f : Func} {s : ChangeSpec} {W W' : World} {args : Array Value} {v : Value} {ds gs : List (DataW H)} {before pa pv : List MemPlace}
    (hW : DataW.Whole enc P f.params.toList s.vars false W args.toList ds gs before)
    (hres : ∀ (b : Nat) (sp : Nat → Bool) (hd : Bool), DataW.TrodAll enc P W' b sp hd f.resultTypes.toList (v.resultList f.resultTypes.size) (s.fn H (ds ++ gs)).results [])
    (hargs : DataW.TrodAll enc P W' 0 (fun b => decide (b < W.heap.size)) true f.params.toList args.toList (s.fn H (ds ++ gs)).args pa)
    (hvars : DataW.TrodVars enc P W' (fun b => decide (b < W.heap.size)) s.vars (s.fn H (ds ++ gs)).vars pv)
    (hps : before = pa ++ pv) (hk : Below W.heap.size W W') : s.post enc P f false true false false W args v W' :=
  ⟨ds, gs, before, [], pa, pv, hW, hres _ _ _, hargs, hvars, hk.frame _, fun h => by cases h⟩

theorem own_c {w : World} {A B : Option Addr} {c1 c2 : Nat} {l : List In} {ins : List Int} {c : Cf} {bud : Int}
    (hl : Rd w (.slice A l.length c1) l.length 2 (insV l)) (hi : Rd w (.slice B ins.length c2) ins.length 1 (ints ins)) (hb0 : 0 ≤ bud) (hb1 : bud ≤ 255) :
    Calls Try.prog 5 #[.slice A l.length c1, c.val, .slice B ins.length c2, .int .u8 bud] w fun e w' => e = .returned (.bool true) ∧ Below w.heap.size w w' := by
  by_cases hbig : 200 < l.length ∨ 100 < ins.length
  · exact own_big hbig
  · by_cases hv : (verM l c).2 = 0
    · by_cases hr : (ins.length : Int) = c.reads
      · exact own_ok (by omega) (by omega) hl hi hv hr hb0 hb1
      · exact own_bad (by omega) (by omega) hl hi (says_len hv hr) (by decide)
    · exact own_bad (by omega) (by omega) hl hi (says_bad (by omega) hv) hv

set_option maxRecDepth 100000 in
theorem vmOwn_lifted (os : Os) (started : os.Started) (H : Type) (enc : TypeId × Value → H) :
    ReturnsInHanded {} Try.checked os 5 .any (Rows.vmOwnSpec.pre6 enc Try.prog Try.f5 Rows.vmOwnRow.domain false) (Rows.vmOwnSpec.post enc Try.prog Try.f5 false true false false) := by
  refine returnsInHanded_of_change (C := Try.checked) Try.own started (by kernel_rfl) Try.func5
    (ChangeSpec.witness6 (enc := enc) (C := Try.checked) false ⟨#[], #[.slice none 0 0, .agg #[.int .i64 0, .int .i64 0, .int .i64 0, .int .i64 0], .slice none 0 0, .int .u8 0], []⟩ 8 (by kernel_rfl) (by kernel_rfl) (by kernel_rfl) (by kernel_rfl)) ?_
  intro W base args ds gs before hval0 hW hcnd _
  have hval : ∀ (j : Nat) t v, Try.f5.params[j]? = some t → args[j]? = some v → Value.okWide Try.prog W .any base t v := hval0
  have hW' := hW
  obtain ⟨p, q, hA0, hV, rfl, hfz, hnd⟩ := hW
  have hA : DataW.TrodAll enc Try.prog W 0 (fun _ => true) true Try.f5.params.toList args.toList ds p := hA0
  rw [Try.params5] at hA hval
  obtain ⟨v0, v1, v2, v3, d0, d1, d2, d3, p0, p1, p2, p3, rfl, rfl, rfl, h0, h1, h2, h3⟩ := trodAll_four hA
  obtain ⟨rfl, rfl⟩ := trodVars_none hV
  have hlt : ∀ x ∈ p0 ++ p1 ++ p2 ++ p3, x.block < W.heap.size := fun x hx => hW'.lt x (by simpa using hx)
  obtain ⟨A, l, c1, rfl, hl, _⟩ := open_code (hval 0 22 v0 rfl rfl) h0
  obtain ⟨c, rfl⟩ := open_conf (hval 1 24 v1 rfl rfl) h1
  obtain ⟨B, ins, c2, rfl, hi, _⟩ := open_nums (hval 2 25 v2 rfl rfl) h2
  obtain ⟨bud, rfl, rfl, rfl, wa⟩ := open_int Try.underlying5 (hval 3 5 v3 rfl rfl) h3
  obtain ⟨hb0, hb1⟩ := bounds_u8 wa
  clear hA0 hval0
  refine (own_c hl hi hb0 hb1).mono fun e W' ⟨he, hw⟩ => ?_
  subst he
  refine ⟨_, rfl, post_below (pa := p0 ++ (p1 ++ (p2 ++ []))) (pv := []) hW' (fun _ _ _ => trodAll_mk1 (shut_bool Try.underlying4 true)) ?_ rfl (by simp) hw⟩
  exact trodAll_mk4 (Below.trod Try.laidOut (by kernel_rfl) (of_decide_eq_true (by kernel_rfl)) h0 hw fun x hx => hlt x (by simp [hx]))
    (Below.trod Try.laidOut (by kernel_rfl) (of_decide_eq_true (by kernel_rfl)) h1 hw fun x hx => hlt x (by simp [hx]))
    (Below.trod Try.laidOut (by kernel_rfl) (of_decide_eq_true (by kernel_rfl)) h2 hw fun x hx => hlt x (by simp [hx]))
    (shut_int Try.underlying5 wa)

theorem vmOwn_holds : Rows.VmOwnSaid :=
  OpenClaim.holds_of_wide 5 Try.f5 rfl rfl rfl rfl rfl rfl rfl ⟨rfl, rfl, rfl, rfl, rfl⟩ rfl rfl rfl rfl rfl (by kernel_rfl) Try.func5 (by kernel_rfl)
    (of_decide_eq_true (by kernel_rfl)) (by unfold Func.isWrapper; first | (rw [if_pos (by decide +kernel)]; kernel_rfl) | (rw [if_neg (by decide +kernel)]; exact ⟨rfl, rfl⟩))
    (fun os started H enc _ => vmOwn_lifted os started H enc)

#print axioms vmOwn_holds
end Go.Proofs.Ytihajgmknhifiaa
