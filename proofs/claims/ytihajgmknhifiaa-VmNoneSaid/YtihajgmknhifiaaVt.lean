/- The call of VmNone. -/
import Derived.Test.YtihajgmknhifiaaVs
namespace Go.Proofs.Ytihajgmknhifiaa
open Go.RowKit
set_option linter.unusedVariables false

set_option maxHeartbeats 4000000 in
set_option maxRecDepth 8000 in
theorem none_c (n : Int) (w : World) : Calls Try.prog 4 #[.int .i64 n] w fun e w' => e = .returned (.bool true) ∧ Below w.heap.size w w' := by
  have hs : Calls Try.prog 13 #[.pointer none] w fun e w' => e = .returned (.tuple #[.agg #[.int .i64 0, .slice none 0 0, .slice none 0 0, .slice none 0 0, .slice none 0 0, .int .i64 0, .bool false], .int .i64 1]) ∧ Below w.heap.size w w' := save_nil w
  go_enter Try.func4, Try.ntmps4
  go_wp2_with (first | (go_at_call 20; refine (step_nil _).mono ?_; rintro e w' ⟨rfl, rfl⟩) | (go_at_call 18; refine (run_nil _ _).mono ?_; rintro e w' ⟨rfl, rfl⟩) | (go_at_call 16; refine (outs_nil _).mono ?_; rintro e w' ⟨rfl, rfl⟩) | (go_at_call 15; refine (spent_nil _).mono ?_; rintro e w' ⟨rfl, rfl⟩) | (go_at_call 13; refine hs.mono ?_; rintro e w1 ⟨rfl, hb⟩; have HB := Lib.hid hb; clear hb))
  refine (works_c _).mono ?_
  rintro e w2 ⟨rfl, hb⟩
  have HB2 := Lib.hid hb
  clear hb
  go_wp2_with (fail)
  go_ret
  refine ⟨rfl, (HB.out.alloc HB.out.size _).trans (HB2.out.mono ?_)⟩
  have := HB.out.size
  simp
  omega

end Go.Proofs.Ytihajgmknhifiaa
