/- The calls of the reference's copied, equal, Same and Copy. -/
import Derived.Test.YtihajgmknhifiaaWc
namespace Go.Proofs.Ytihajgmknhifiaa
open Go.RowKit
set_option linter.unusedVariables false

set_option maxHeartbeats 1000000 in
set_option maxRecDepth 8000 in
theorem refcopied_c {w : World} {v : Value} {n : Nat} {xs : List Int} (h : Rd w v n 1 (ints xs)) (hn : n * 8 ≤ 140737488355328) :
    Calls Try.prog 37 #[v] w fun e w' => ∃ A c, e = .returned (.slice A n c) ∧ CloneQ w 2 1 (.slice A n c) n (ints xs) w' := by
  obtain ⟨i0, hi, hz0, hz1, hz2⟩ := info_parts info2
  have hown : w.ownsRow w.heap.size 2 1 (.slice none 0 0) 0 [] := World.ownsRow_nil _ _ _ _
  go_enter Try.func37, Try.ntmps37
  go_wp2_with (at_builtin; refine wpList_append2 rfl _ _ 25 rfl w.heap.size 2 i0 (.int .i64 0) 1 8 Try.underlying25 hi hz0 hz1 hz2 rfl (by decide) _ _ _ rfl hown _ n (ints xs) rfl h (one_ints _) ?c3 ?c4 ?c5 ?_)
  case c3 => unfold maxLen; omega
  case c4 => omega
  case c5 => omega
  intro A c1 w1 hown1 hgrow hv'
  have hb : Below w.heap.size w w1 := (Below.refl _ _).grown hgrow (Nat.le_refl _) (by intro k hk; cases hk)
  clear hv' hgrow hown h
  go_wp2
  go_ret
  exact ⟨A, c1, rfl, by simpa using hown1, hb⟩

structure EqDrawn (w : World) (n k : Nat) (v : Value) (wr : World) : Prop where
  j : ∃ j : Nat, j + k = n ∧ v = .int .i64 j
  drawn : ∃ d, wr = w.drewN d

set_option maxHeartbeats 2000000 in
set_option maxRecDepth 8000 in
theorem refequal_c {w : World} {b1 b2 n : Nat} {u v : Value} {xs : List Int} (h1 : w.ownsRow b1 2 1 u n (ints xs)) (h2 : w.ownsRow b2 2 1 v n (ints xs)) (hn : n ≤ 1000000) :
    Calls Try.prog 32 #[u, v] w fun e w' => e = .returned (.bool true) ∧ ∃ d, w' = w.drewN d := by
  obtain ⟨A, ca, rfl⟩ := own_slice h1
  obtain ⟨B, cb, rfl⟩ := own_slice h2
  have hne : ((n : Int) != (n : Int)) = false := by simp
  have H1 := Lib.hid h1
  have H2 := Lib.hid h2
  clear h1 h2
  go_enter Try.func32, Try.ntmps32
  go_wp2
  go_loopg [5] n (fun k v wr => EqDrawn w n k v wr)
  case atStart => exact ⟨⟨0, by omega, rfl⟩, 0, rfl⟩
  case round =>
    obtain ⟨⟨j, hj, hv⟩, d, hd⟩ := hrel
    subst hv
    subst hd
    cases gk with
    | zero =>
      have hlt : decide ((j : Int) < (n : Int)) = false := by simp; omega
      go_wp2
      go_ret
      exact ⟨rfl, d, rfl⟩
    | succ k =>
      have hlt : decide ((j : Int) < (n : Int)) = true := by simp; omega
      obtain ⟨g1, hA, q1, q2, _, q3, q4⟩ := own_ix H1.out (show j < n by omega)
      obtain ⟨g2, hB, r1, r2, _, r3, r4⟩ := own_ix H2.out (show j < n by omega)
      subst hA hB
      have i0 : (0 : Int) ≤ (j : Int) := by omega
      have i1 : (j : Int) < (n : Int) := by omega
      have ee : (at0 xs j != at0 xs j) = false := by simp
      go_wp2
      go_quiet (fail)
      go_wp2
      go_roundg k
      case measure => omega
      case rel =>
        exact ⟨⟨j + 1, by omega, congrArg (Value.int .i64) (by first | omega | go_num)⟩, d + nq, rfl⟩

/-- A context's rows. -/
structure Ctx4 (w : World) (base : Nat) (x1 x2 x3 x4 : List Int) (v1 v2 v3 v4 : Value) : Prop where
  o1 : w.ownsRow base 2 1 v1 x1.length (ints x1)
  o2 : w.ownsRow base 2 1 v2 x2.length (ints x2)
  o3 : w.ownsRow base 2 1 v3 x3.length (ints x3)
  o4 : w.ownsRow base 2 1 v4 x4.length (ints x4)

theorem Ctx4.upd {w w' : World} {base : Nat} {x1 x2 x3 x4 : List Int} {v1 v2 v3 v4 : Value} {F : Nat → Prop} (h : Ctx4 w base x1 x2 x3 x4 v1 v2 v3 v4) (hu : Upd F w w') (h1 : ∀ k, v1.ownBlock = some k → ¬ F k) (h2 : ∀ k, v2.ownBlock = some k → ¬ F k) (h3 : ∀ k, v3.ownBlock = some k → ¬ F k) (h4 : ∀ k, v4.ownBlock = some k → ¬ F k) : Ctx4 w' base x1 x2 x3 x4 v1 v2 v3 v4 :=
  ⟨own_upd h.o1 hu h1, own_upd h.o2 hu h2, own_upd h.o3 hu h3, own_upd h.o4 hu h4⟩
theorem Ctx4.grow {w w' : World} {base : Nat} {x1 x2 x3 x4 : List Int} {v1 v2 v3 v4 : Value} (h : Ctx4 w base x1 x2 x3 x4 v1 v2 v3 v4) (hb : Below w.heap.size w w') : Ctx4 w' base x1 x2 x3 x4 v1 v2 v3 v4 :=
  h.upd (F := fun _ => False) (Upd.of_below hb) (fun _ _ => id) (fun _ _ => id) (fun _ _ => id) (fun _ _ => id)

set_option maxHeartbeats 4000000 in
set_option maxRecDepth 8000 in
theorem same_c {w : World} {b1 b2 : Nat} {a sp : Int} {en : Bool} {x1 x2 x3 x4 : List Int} {u1 u2 u3 u4 v1 v2 v3 v4 : Value} (hu : Ctx4 w b1 x1 x2 x3 x4 u1 u2 u3 u4) (hv : Ctx4 w b2 x1 x2 x3 x4 v1 v2 v3 v4)
    (n1 : x1.length ≤ 1000000) (n2 : x2.length ≤ 1000000) (n3 : x3.length ≤ 1000000) (n4 : x4.length ≤ 1000000) :
    Calls Try.prog 14 #[.agg #[.int .i64 a, u1, u2, u3, u4, .int .i64 sp, .bool en], .agg #[.int .i64 a, v1, v2, v3, v4, .int .i64 sp, .bool en]] w fun e w' => e = .returned (.bool true) ∧ Below w.heap.size w w' := by
  obtain ⟨A1, c1, rfl⟩ := own_slice hu.o1
  obtain ⟨A2, c2, rfl⟩ := own_slice hu.o2
  obtain ⟨A3, c3, rfl⟩ := own_slice hu.o3
  obtain ⟨A4, c4, rfl⟩ := own_slice hu.o4
  obtain ⟨B1, d1, rfl⟩ := own_slice hv.o1
  obtain ⟨B2, d2, rfl⟩ := own_slice hv.o2
  obtain ⟨B3, d3, rfl⟩ := own_slice hv.o3
  obtain ⟨B4, d4, rfl⟩ := own_slice hv.o4
  have ea : (a == a) = true := by simp
  have es : (sp == sp) = true := by simp
  have ee : (en == en) = true := by simp
  have HU := Lib.hid hu
  have HV := Lib.hid hv
  clear hu hv
  have gb : ∀ (o1 o2 : Obj) (d : Nat), Below w.heap.size w (((w.alloc o1).alloc o2).drewN d) := fun o1 o2 d => (((Below.refl _ _).alloc (Nat.le_refl _) _).alloc (by simp) _).trans ⟨rfl, rfl, rfl, Nat.le_refl _, fun _ _ => rfl⟩
  have GB := Lib.hid gb
  clear gb
  go_enter Try.func14, Try.ntmps14
  go_wp2_with fail
  refine (refequal_c (HU.out.grow (GB.out _ _ 0)).o1 (HV.out.grow (GB.out _ _ 0)).o1 n1).mono ?_
  rintro e w1 ⟨rfl, k1, rfl⟩
  go_wp2_with fail
  refine (refequal_c (HU.out.grow (GB.out _ _ k1)).o2 (HV.out.grow (GB.out _ _ k1)).o2 n2).mono ?_
  rintro e w2 ⟨rfl, k2, rfl⟩
  go_wp2_with fail
  refine (refequal_c (HU.out.grow (GB.out _ _ (k1 + k2))).o3 (HV.out.grow (GB.out _ _ (k1 + k2))).o3 n3).mono ?_
  rintro e w3 ⟨rfl, k3, rfl⟩
  go_wp2_with fail
  refine (refequal_c (HU.out.grow (GB.out _ _ (k1 + k2 + k3))).o4 (HV.out.grow (GB.out _ _ (k1 + k2 + k3))).o4 n4).mono ?_
  rintro e w4 ⟨rfl, k4, rfl⟩
  go_wp2_with fail
  go_ret
  exact ⟨rfl, GB.out _ _ _⟩

end Go.Proofs.Ytihajgmknhifiaa
