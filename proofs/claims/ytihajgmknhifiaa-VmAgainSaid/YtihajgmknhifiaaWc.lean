/- The call of the law's equal, where the lists are alike. -/
import Derived.Test.YtihajgmknhifiaaVr
namespace Go.Proofs.Ytihajgmknhifiaa
open Go.RowKit
set_option linter.unusedVariables false

theorem own_ix {w : World} {base n : Nat} {A : Option Addr} {c j : Nat} {xs : List Int} (h : w.ownsRow base 2 1 (.slice A n c) n (ints xs)) (hj : j < n) : ∃ g, A = some ⟨g, 0, none⟩ ∧ n ≤ c ∧ c ≤ maxLen ∧ base ≤ g ∧ w.cell? ⟨g, j, none⟩ = some (.int .i64 (at0 xs j)) ∧ w.frozen? ⟨g, j, none⟩ = false := by
  have hc := h
  have hl : xs.length = n := by have := h.1; rw [ints_length] at this; omega
  rcases h.2 with ⟨h', h2⟩ | ⟨g, cap, cur, h', hb, hg, h3, h4, h5, h6⟩
  · omega
  · injection h' with e1 e2 e3
    subst e1 e3
    refine ⟨g, rfl, h3, h4, hb, ?_, hc.frozenAt j⟩
    rw [hc.cellAt j (by omega), ints_get xs j (by omega)]
    rfl

structure EqRel (w : World) (n k : Nat) (v : Value) (wr : World) : Prop where
  j : ∃ j : Nat, j + k = n ∧ v = .int .i64 j
  upd : Upd (fun _ => False) w wr

set_option maxHeartbeats 2000000 in
set_option maxRecDepth 8000 in
theorem equal_own {w : World} {b1 b2 n : Nat} {u v : Value} {xs : List Int} (h1 : w.ownsRow b1 2 1 u n (ints xs)) (h2 : w.ownsRow b2 2 1 v n (ints xs)) (hn : n ≤ 1000000) :
    Calls Try.prog 17 #[u, v] w fun e w' => e = .returned (.bool true) ∧ Upd (fun _ => False) w w' := by
  obtain ⟨A, ca, rfl⟩ := own_slice h1
  obtain ⟨B, cb, rfl⟩ := own_slice h2
  have hne : ((n : Int) != (n : Int)) = false := by simp
  have H1 := Lib.hid h1
  have H2 := Lib.hid h2
  clear h1 h2
  go_enter Try.func17, Try.ntmps17
  go_wp2
  go_loopg [5] n (fun k v wr => EqRel w n k v wr)
  case atStart => exact ⟨⟨0, by omega, rfl⟩, Upd.refl _ _⟩
  case round =>
    obtain ⟨⟨j, hj, hv⟩, hu⟩ := hrel
    subst hv
    have HU := Lib.hid hu
    cases gk with
    | zero =>
      have hlt : decide ((j : Int) < (n : Int)) = false := by simp; omega
      clear hu
      go_wp2
      go_ret
      exact ⟨rfl, HU.out⟩
    | succ k =>
      have hlt : decide ((j : Int) < (n : Int)) = true := by simp; omega
      obtain ⟨g1, hA, q1, q2, _, q3, q4⟩ := own_ix (own_upd H1.out hu fun _ _ => id) (show j < n by omega)
      obtain ⟨g2, hB, r1, r2, _, r3, r4⟩ := own_ix (own_upd H2.out hu fun _ _ => id) (show j < n by omega)
      subst hA hB
      have i0 : (0 : Int) ≤ (j : Int) := by omega
      have i1 : (j : Int) < (n : Int) := by omega
      have ee : (at0 xs j != at0 xs j) = false := by simp
      clear hu
      go_wp2
      go_quiet (fail)
      go_wp2
      go_roundg k
      case measure => omega
      case rel =>
        exact ⟨⟨j + 1, by omega, congrArg (Value.int .i64) (by first | omega | go_num)⟩, HU.out.drewN _⟩

end Go.Proofs.Ytihajgmknhifiaa
