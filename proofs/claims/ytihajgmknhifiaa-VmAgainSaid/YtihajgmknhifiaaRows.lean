/-
  No cell of these rows narrows 'for every input' (looked for: loops, veiled, ifaces, maps, wideKeys, modest, calm, conditions, laid).
  DERIVED. THE GIVEN ROWS OF THIS SEAT. 5 by the template 'for every input the law returns true; each argument reads behind the call as it read before'; 0 by the template 'total and deterministic' (their statements: YtihajgmknhifiaaTotals.lean).
  GIVEN WITH THE SEED: the statements are not yours to turn. If you find one false, say at which input.
  Laid BY PROGRAM, IN A SANDBOX (cutbox-rows.mjs): the forced cells as the released guide's own fill.sh prints them over the translation 1680f7c6b9112600… (all of the seat's roots in one cut). By AI agents, Wed Nov 11 2026. No macro, syntax, notation, axiom, sorry.
-/
import Derived.Test.YtihajgmknhifiaaChecked
import GoSem.Claim
import GoSem.ClaimJoined
import GoSem.ClaimMapViews
import Derived.JoinedTies
import Derived.KernelRfl
namespace Go.Proofs.Ytihajgmknhifiaa
/- THE CELL 'sum', in the pinned program and in every row, IS THE sha256 OF THE DUMP (.gsa) THAT YtihajgmknhifiaaProg.lean LOADS. Nothing in Lean hashes anything: it is a label: what it is worth is what the hold of that sum in a sandbox is worth. -/
noncomputable def Try.pinned : Pinned := { name := "ytihajgmknhifiaa", sum := "1680f7c6b9112600beb1de5d77dbf8eb67963b97626ecb1582b90727d212afeb", checked := Try.checked }
namespace Rows
def none {H : Type} : Left H := { results := [], args := [] }

/-- 'carillonlaw22.VmRuns': WHATEVER THE INPUT: true; the input reads as it did. -/
def vmRunsSpec : ChangeSpec := { name := "vmRuns", fn := fun _ => fun
  | [d1, d2, d3, d4] => { results := [.lit (.bool true)], args := [d1, d2, d3, d4] }
  | _ => none }
def vmRunsRow : OpenClaim := { program := "ytihajgmknhifiaa", sum := "1680f7c6b9112600beb1de5d77dbf8eb67963b97626ecb1582b90727d212afeb", func := "carillon/carillonlaw22.VmRuns", spec := "vmRuns", unfollowed := true, recurses := true, apart := false }
def VmRunsSaid : Prop := vmRunsRow.holds Try.pinned (OpenSpec.ofChange vmRunsSpec)

/-- ITS FALSE NEIGHBOUR: 'it returns false'. Refute it at one input. -/
def vmRunsWrong : ChangeSpec := { name := "vmRuns", fn := fun _ => fun
  | [d1, d2, d3, d4] => { results := [.lit (.bool false)], args := [d1, d2, d3, d4] }
  | _ => none }
def VmRunsWrongFalsely : Prop := vmRunsRow.holds Try.pinned (OpenSpec.ofChange vmRunsWrong)

/-- 'carillonlaw22.VmNone': WHATEVER THE INPUT: true; the input reads as it did. -/
def vmNoneSpec : ChangeSpec := { name := "vmNone", fn := fun _ => fun
  | [d] => { results := [.lit (.bool true)], args := [d] }
  | _ => none }
def vmNoneRow : OpenClaim := { program := "ytihajgmknhifiaa", sum := "1680f7c6b9112600beb1de5d77dbf8eb67963b97626ecb1582b90727d212afeb", func := "carillon/carillonlaw22.VmNone", spec := "vmNone", unfollowed := true, recurses := true, apart := false }
def VmNoneSaid : Prop := vmNoneRow.holds Try.pinned (OpenSpec.ofChange vmNoneSpec)

/-- ITS FALSE NEIGHBOUR: 'it returns false'. Refute it at one input. -/
def vmNoneWrong : ChangeSpec := { name := "vmNone", fn := fun _ => fun
  | [d] => { results := [.lit (.bool false)], args := [d] }
  | _ => none }
def VmNoneWrongFalsely : Prop := vmNoneRow.holds Try.pinned (OpenSpec.ofChange vmNoneWrong)

/-- 'carillonlaw22.VmOwn': WHATEVER THE INPUT: true; the input reads as it did. -/
def vmOwnSpec : ChangeSpec := { name := "vmOwn", fn := fun _ => fun
  | [d1, d2, d3, d4] => { results := [.lit (.bool true)], args := [d1, d2, d3, d4] }
  | _ => none }
def vmOwnRow : OpenClaim := { program := "ytihajgmknhifiaa", sum := "1680f7c6b9112600beb1de5d77dbf8eb67963b97626ecb1582b90727d212afeb", func := "carillon/carillonlaw22.VmOwn", spec := "vmOwn", unfollowed := true, recurses := true, apart := false }
def VmOwnSaid : Prop := vmOwnRow.holds Try.pinned (OpenSpec.ofChange vmOwnSpec)

/-- ITS FALSE NEIGHBOUR: 'it returns false'. Refute it at one input. -/
def vmOwnWrong : ChangeSpec := { name := "vmOwn", fn := fun _ => fun
  | [d1, d2, d3, d4] => { results := [.lit (.bool false)], args := [d1, d2, d3, d4] }
  | _ => none }
def VmOwnWrongFalsely : Prop := vmOwnRow.holds Try.pinned (OpenSpec.ofChange vmOwnWrong)

/-- 'carillonlaw22.VmLoads': WHATEVER THE INPUT: true; the input reads as it did. -/
def vmLoadsSpec : ChangeSpec := { name := "vmLoads", fn := fun _ => fun
  | [d1, d2, d3] => { results := [.lit (.bool true)], args := [d1, d2, d3] }
  | _ => none }
def vmLoadsRow : OpenClaim := { program := "ytihajgmknhifiaa", sum := "1680f7c6b9112600beb1de5d77dbf8eb67963b97626ecb1582b90727d212afeb", func := "carillon/carillonlaw22.VmLoads", spec := "vmLoads", unfollowed := true, recurses := true, apart := false }
def VmLoadsSaid : Prop := vmLoadsRow.holds Try.pinned (OpenSpec.ofChange vmLoadsSpec)

/-- ITS FALSE NEIGHBOUR: 'it returns false'. Refute it at one input. -/
def vmLoadsWrong : ChangeSpec := { name := "vmLoads", fn := fun _ => fun
  | [d1, d2, d3] => { results := [.lit (.bool false)], args := [d1, d2, d3] }
  | _ => none }
def VmLoadsWrongFalsely : Prop := vmLoadsRow.holds Try.pinned (OpenSpec.ofChange vmLoadsWrong)

/-- 'carillonlaw22.VmAgain': WHATEVER THE INPUT: true; the input reads as it did. -/
def vmAgainSpec : ChangeSpec := { name := "vmAgain", fn := fun _ => fun
  | [d1, d2, d3, d4] => { results := [.lit (.bool true)], args := [d1, d2, d3, d4] }
  | _ => none }
def vmAgainRow : OpenClaim := { program := "ytihajgmknhifiaa", sum := "1680f7c6b9112600beb1de5d77dbf8eb67963b97626ecb1582b90727d212afeb", func := "carillon/carillonlaw22.VmAgain", spec := "vmAgain", unfollowed := true, recurses := true, apart := false }
def VmAgainSaid : Prop := vmAgainRow.holds Try.pinned (OpenSpec.ofChange vmAgainSpec)

/-- ITS FALSE NEIGHBOUR: 'it returns false'. Refute it at one input. -/
def vmAgainWrong : ChangeSpec := { name := "vmAgain", fn := fun _ => fun
  | [d1, d2, d3, d4] => { results := [.lit (.bool false)], args := [d1, d2, d3, d4] }
  | _ => none }
def VmAgainWrongFalsely : Prop := vmAgainRow.holds Try.pinned (OpenSpec.ofChange vmAgainWrong)

/- THE SECOND FORM. 'bulk': how many values and letters a reading holds, each counted each time it is reached (what is shared counts as often as it is met; a slice's spare places count too). A statement '..UptoSaid' is the law's where the arguments, and the package variables that the reading takes, are together of bulk at most 1048576: NARROWER than '..Said'. Prove '..Said' where nothing that the law and all that it calls make is longer than what came in: it says more and counts as full. Else prove '..UptoSaid'. A law counts once. -/
mutual
def uptoBulk {H : Type} : DataW H → Nat
  | .lit (.string bytes) => bytes.length + 1
  | .lit _ => 1
  | .nil => 1
  | .ptr d => uptoBulk d + 1
  | .slice elems spare => uptoBulkAll elems + uptoBulkAll spare + 1
  | .agg parts => uptoBulkAll parts + 1
  | .iface _ d => uptoBulk d + 1
  | .map entries => uptoBulkEntries entries + 1
  | .held _ => 1
def uptoBulkAll {H : Type} : List (DataW H) → Nat
  | [] => 0
  | d :: r => uptoBulk d + uptoBulkAll r
def uptoBulkEntries {H : Type} : List (Lit × DataW H) → Nat
  | [] => 0
  | x :: r => uptoBulkEntry x + uptoBulkEntries r
def uptoBulkEntry {H : Type} : Lit × DataW H → Nat
  | (.string bytes, d) => bytes.length + uptoBulk d + 1
  | (_, d) => uptoBulk d + 1
 end
def uptoSmall : (H : Type) → List (DataW H) → Bool := fun _ ds => decide (uptoBulkAll ds ≤ 1048576)
def OpenSpec.upto (s : _root_.Go.ChangeSpec) : _root_.Go.OpenSpec := { _root_.Go.OpenSpec.ofChange s with cond := some uptoSmall }

/-- 'carillonlaw22.VmRuns', WHERE WHAT IT READS IS OF BULK AT MOST 1048576: true; the input reads as it did. -/
def vmRunsUptoRow : OpenClaim := { program := "ytihajgmknhifiaa", sum := "1680f7c6b9112600beb1de5d77dbf8eb67963b97626ecb1582b90727d212afeb", func := "carillon/carillonlaw22.VmRuns", spec := "vmRuns", unfollowed := true, recurses := true, apart := false, narrowed := true }
def VmRunsUptoSaid : Prop := vmRunsUptoRow.holds Try.pinned (OpenSpec.upto vmRunsSpec)

/-- 'carillonlaw22.VmNone', WHERE WHAT IT READS IS OF BULK AT MOST 1048576: true; the input reads as it did. -/
def vmNoneUptoRow : OpenClaim := { program := "ytihajgmknhifiaa", sum := "1680f7c6b9112600beb1de5d77dbf8eb67963b97626ecb1582b90727d212afeb", func := "carillon/carillonlaw22.VmNone", spec := "vmNone", unfollowed := true, recurses := true, apart := false, narrowed := true }
def VmNoneUptoSaid : Prop := vmNoneUptoRow.holds Try.pinned (OpenSpec.upto vmNoneSpec)

/-- 'carillonlaw22.VmOwn', WHERE WHAT IT READS IS OF BULK AT MOST 1048576: true; the input reads as it did. -/
def vmOwnUptoRow : OpenClaim := { program := "ytihajgmknhifiaa", sum := "1680f7c6b9112600beb1de5d77dbf8eb67963b97626ecb1582b90727d212afeb", func := "carillon/carillonlaw22.VmOwn", spec := "vmOwn", unfollowed := true, recurses := true, apart := false, narrowed := true }
def VmOwnUptoSaid : Prop := vmOwnUptoRow.holds Try.pinned (OpenSpec.upto vmOwnSpec)

/-- 'carillonlaw22.VmLoads', WHERE WHAT IT READS IS OF BULK AT MOST 1048576: true; the input reads as it did. -/
def vmLoadsUptoRow : OpenClaim := { program := "ytihajgmknhifiaa", sum := "1680f7c6b9112600beb1de5d77dbf8eb67963b97626ecb1582b90727d212afeb", func := "carillon/carillonlaw22.VmLoads", spec := "vmLoads", unfollowed := true, recurses := true, apart := false, narrowed := true }
def VmLoadsUptoSaid : Prop := vmLoadsUptoRow.holds Try.pinned (OpenSpec.upto vmLoadsSpec)

/-- 'carillonlaw22.VmAgain', WHERE WHAT IT READS IS OF BULK AT MOST 1048576: true; the input reads as it did. -/
def vmAgainUptoRow : OpenClaim := { program := "ytihajgmknhifiaa", sum := "1680f7c6b9112600beb1de5d77dbf8eb67963b97626ecb1582b90727d212afeb", func := "carillon/carillonlaw22.VmAgain", spec := "vmAgain", unfollowed := true, recurses := true, apart := false, narrowed := true }
def VmAgainUptoSaid : Prop := vmAgainUptoRow.holds Try.pinned (OpenSpec.upto vmAgainSpec)

end Rows
end Go.Proofs.Ytihajgmknhifiaa
