/- The call of VmOwn on code that New takes: NOT WHOLE: it stands behind region 4. -/
import Derived.Test.YtihajgmknhifiaaWj
import Derived.Test.YtihajgmknhifiaaWk
import Derived.Test.YtihajgmknhifiaaWc
namespace Go.Proofs.Ytihajgmknhifiaa
open Go.RowKit
set_option linter.unusedVariables false

theorem says_ok {l : List In} {c : Cf} {ins : List Int} (hv : (verM l c).2 = 0) (hr : (ins.length : Int) = c.reads) (W : World) (X Y : Option Addr) (x y : Nat) (h1 : Rd W (.slice X l.length x) l.length 2 (insV l)) (h2 : Rd W (.slice Y ins.length y) ins.length 1 (ints ins)) :
    Calls Try.prog 9 #[.slice X l.length x, .agg #[.int .i64 c.slots, .int .i64 c.reads, .int .i64 c.writes, .int .i64 c.stack], .slice Y ins.length y] W fun e w' => ∃ b m, e = .returned (.tuple #[.pointer (some ⟨b, 0, none⟩), .int .i64 0]) ∧ NewQ W l c ins b m w' :=
  new_ok h1 h2 hv hr rfl

end Go.Proofs.Ytihajgmknhifiaa
