/- The two runs of VmOwn, without memory: by a budget, then to the end. -/
import Derived.Test.YtihajgmknhifiaaWb
namespace Go.Proofs.Ytihajgmknhifiaa
open Go.RowKit
set_option linter.unusedVariables false

theorem two_runs {l : List In} {c : Cf} {ins : List Int} {bud : Int} (hv : (verM l c).2 = 0) (hr : (ins.length : Int) = c.reads) (hb : 0 ≤ bud) :
    ∃ (H : Int → Int) (k : Nat) (sum : Int) (s1 : Vs), runS (k + 1) bud 0 (newS l c ins) = some (sum, s1) ∧ Safe l c H s1 ∧
      (s1.ended = false → ∃ (k2 : Nat) (sum2 : Int) (s2 : Vs), runS (k2 + 1) 1099511627776 0 s1 = some (sum2, s2) ∧ Safe l c H s2 ∧ s2.ended = true) := by
  obtain ⟨hm, h1, h2, h3⟩ := verM_ok hv
  obtain ⟨H, hS, h0⟩ := new_safe hv hr
  obtain ⟨k, s1, e1, f1, f2, f3, f4⟩ := run_safe h1 hm hS bud l.length (newS l c ins) 0 h0 (Int.le_refl _) (Int.le_refl _) (fun _ => by show (l.length : Int) - 0 ≤ l.length; omega)
  refine ⟨H, k, _, s1, e1, f1, fun _ => ?_⟩
  obtain ⟨k2, s2, g1, g2, g3, g4, g5⟩ := run_safe h1 hm hS 1099511627776 l.length s1 0 f1 (Int.le_refl _) f1.sp0 (fun _ => by have := f1.a0; omega)
  refine ⟨k2, _, s2, g1, g2, ?_⟩
  rcases g3 with g3 | g3
  · exact g3
  · have := g2.sp2
    have := g2.a1
    have := f1.sp0
    omega

end Go.Proofs.Ytihajgmknhifiaa
