/- The call of vm's high on verified code: how high the stack is at a place. -/
import Derived.Test.YtihajgmknhifiaaXc
import Derived.Test.YtihajgmknhifiaaVr
import Derived.Maps.OwnOps
import Derived.Maps.Views
namespace Go.Proofs.Ytihajgmknhifiaa
open Go.RowKit
set_option linter.unusedVariables false

/-- A map of the call's own from numbers to numbers; what is not there is 0. -/
def MapI (W : World) (b n : Nat) (hv : Int → Int) : Prop :=
  ∃ D : DataW Unit, W.ownsMap Try.prog 3 (plainElem Try.prog 3) b n D ∧ ∀ q, D.atKey (.int .i64 q) (.lit (.int .i64 0)) = .lit (.int .i64 (hv q))

theorem wf64 {q : Int} (h0 : -9223372036854775808 ≤ q) (h1 : q ≤ 9223372036854775807) : (Lit.int .i64 q).wf = true := by
  simp only [Lit.wf, IntKind.min, IntKind.max, IntKind.bits, IntKind.signed]
  simp
  omega

theorem MapI.made (w : World) : MapI (w.alloc (.map #[] 0)) w.heap.size 0 fun _ => 0 :=
  ⟨.map [], World.ownsMap_made _ _ _ _, fun q => rfl⟩
theorem MapI.kept {W W' : World} {b n : Nat} {hv : Int → Int} {row : Option Nat} (h : MapI W b n hv) (hg : W.grownBy W' row) (hne : some b ≠ row) : MapI W' b n hv := by
  obtain ⟨D, h1, h2⟩ := h
  exact ⟨D, h1.kept hg hne, h2⟩
theorem MapI.alloc {W : World} {b n : Nat} {hv : Int → Int} (h : MapI W b n hv) (o : Obj) : MapI (W.alloc o) b n hv := by
  obtain ⟨D, h1, h2⟩ := h
  exact ⟨D, h1.alloc o, h2⟩
theorem MapI.lt {W : World} {b n : Nat} {hv : Int → Int} (h : MapI W b n hv) : b < W.heap.size := by
  obtain ⟨D, h1, h2⟩ := h
  exact h1.lt
set_option maxRecDepth 100000 in
theorem MapI.look {W : World} {b n : Nat} {hv : Int → Int} (h : MapI W b n hv) {q : Int} (h0 : -9223372036854775808 ≤ q) (h1 : q ≤ 9223372036854775807) :
    (Instr.lookup 110 (.map (some b)) (.int .i64 q) false).run Try.prog W = .ok (.int .i64 (hv q)) W := by
  obtain ⟨D, hD, h2⟩ := h
  obtain ⟨c, hrun, hat, _⟩ := hD.lookup_int (Maps.int_keyed Try.underlying3) Try.underlying110 Try.underlying3 (Try.zeroValue3 W) (Maps.keyOf_int_mk Try.underlying3 (wf64 h0 h1))
  rw [h2 q] at hat
  have : hv q = c := by injection hat with hat; injection hat
  rw [this]
  exact hrun
set_option maxRecDepth 100000 in
theorem MapI.put {W : World} {b n : Nat} {hv : Int → Int} (h : MapI W b n hv) (hn : n < 1000000) {q x : Int} (h0 : -9223372036854775808 ≤ q) (h1 : q ≤ 9223372036854775807) (x0 : -9223372036854775808 ≤ x) (x1 : x ≤ 9223372036854775807) :
    ∃ W', (Instr.mapUpdate 110 (.map (some b)) (.int .i64 q) (.int .i64 x)).run Try.prog W = .ok () W' ∧ MapI W' b (n + 1) (fun j => if j = q then x else hv j) ∧ W.grownBy W' (some b) := by
  obtain ⟨D, hD, h2⟩ := h
  obtain ⟨W', hrun, r1, r2⟩ := hD.update (Maps.int_keyed Try.underlying3) Try.underlying110 (by unfold maxLen; omega) (Maps.keyOf_int_mk Try.underlying3 (wf64 h0 h1)) (plainElem_int Try.underlying3 (wf64 x0 x1))
  refine ⟨W', hrun, ⟨_, r1, fun j => ?_⟩, r2⟩
  try dsimp only
  by_cases e : j = q
  · subst e
    rw [if_pos rfl]
    exact Maps.atKey_put_same hD.isMap (by trivial) _ _
  · rw [if_neg e, ← h2 j]
    exact Maps.atKey_put_other (fun h => e (by injection h)) _ _

structure HighRel (w : World) (l : List In) (H : Int → Int) (b at_ gk : Nat) (v : Value) (wr : World) : Prop where
  map : ∃ k n hv, k + gk = at_ ∧ v = .int .i64 (k : Nat) ∧ MapI wr b n hv ∧ n ≤ 2 * k + 1 ∧ ∀ q, (q = 0 ∨ ∃ p : Int, 0 ≤ p ∧ p < k ∧ Succ (insAt l p) p q) → hv q = H q
  below : Below w.heap.size w wr

theorem high_tail {l : List In} {H hv hv' : Int → Int} {k : Nat} (h : ∀ q, (q = 0 ∨ ∃ p : Int, 0 ≤ p ∧ p < k ∧ Succ (insAt l p) p q) → hv q = H q)
    (h' : ∀ q, Succ (insAt l k) k q → hv' q = H q) (hs : ∀ q, hv' q = hv q ∨ Succ (insAt l k) k q) (h0 : ¬ Succ (insAt l k) k 0) :
    ∀ q, (q = 0 ∨ ∃ p : Int, 0 ≤ p ∧ p < (k + 1 : Nat) ∧ Succ (insAt l p) p q) → hv' q = H q := by
  intro q hq
  rcases hs q with e | e
  · rw [e]
    rcases hq with rfl | ⟨p, p0, p1, p2⟩
    · exact h 0 (.inl rfl)
    · by_cases ep : p = k
      · subst ep
        rw [← e]
        exact h' q p2
      · exact h q (.inr ⟨p, p0, by omega, p2⟩)
  · exact h' q e

set_option maxHeartbeats 4000000 in
set_option maxRecDepth 8000 in
theorem high_c {w : World} {A : Option Addr} {cap : Nat} {l : List In} {c : Cf} {H : Int → Int} {at_ : Nat} (hl : Rd w (.slice A l.length cap) l.length 2 (insV l)) (hv : (verM l c).2 = 0)
    (hS : ∀ p : Int, 0 ≤ p → p < l.length → Sure l c H p) (h0 : H 0 = 0) (hH : ∀ p : Int, 0 ≤ p → p < l.length → 0 ≤ H p ∧ H p ≤ 1000) (hat : at_ < l.length) :
    Calls Try.prog 43 #[.slice A l.length cap, .int .i64 at_] w fun e w' => e = .returned (.int .i64 (H at_)) ∧ Below w.heap.size w w' := by
  obtain ⟨hm, hl1, _, _⟩ := verM_ok hv
  obtain ⟨g, o, c0, e0, hcap, hg, hcells⟩ := hl.ins_at (by omega)
  injection e0 with eA _ ec
  subst eA ec
  have hmm := @run_makeMap Try.prog
  obtain ⟨w1, hrun, hm1, hg1⟩ := (MapI.made w).put (q := 0) (x := 0) (by omega) (by omega) (by omega) (by omega) (by omega)
  have hb1 : Below w.heap.size w w1 := ((Below.refl _ _).alloc (Nat.le_refl _) _).grown hg1 (by simp) (fun k e => by cases e; exact Nat.le_refl _)
  have hbg : w.heap.size < w1.heap.size := hm1.lt
  have HM1 := Lib.hid hm1
  have HB1 := Lib.hid hb1
  have HC := Lib.hid hcells
  have HV := Lib.hid hv
  have HS := Lib.hid hS
  have HH := Lib.hid hH
  have H0 := Lib.hid h0
  clear hl hm1 hb1 hg1 hcells hv hS hH h0 hm
  have i1 : (at_ : Int) ≤ (cap : Int) := by omega
  have i2 : (0 : Int) ≤ (at_ : Int) := by omega
  go_enter Try.func43, Try.ntmps43
  go_wp2
  clear hrun hmm
  go_loopg [17] at_ (fun gk v wr => HighRel w l H w.heap.size at_ gk v wr)
  case atStart =>
    refine ⟨⟨0, _, _, by omega, rfl, HM1.out, by omega, fun q hq => ?_⟩, HB1.out⟩
    rcases hq with rfl | ⟨p, p0, p1, _⟩
    · exact H0.out.symm
    · omega
  case round =>
    obtain ⟨⟨k, n, hv, hk, hvk, hmap, hn, hcome⟩, hbel⟩ := hrel
    subst hvk
    have hkl : k < l.length := by omega
    have hvH : hv k = H k := hcome k (ver_come HV.out k (by omega) (by omega))
    obtain ⟨z0, z1⟩ := HH.out k (by omega) (by omega)
    cases gk with
    | zero =>
      obtain rfl : k = at_ := by omega
      have hlook := hmap.look (q := (k : Int)) (by omega) (by omega)
      rw [hvH] at hlook
      have HB := Lib.hid hbel
      clear hmap hcome hvH hbel
      go_wp2
      go_ret
      exact ⟨rfl, HB.out⟩
    | succ gk =>
      have su := HS.out k (by omega) (by omega)
      obtain ⟨cop, carg⟩ := HC.out k hkl
      have hgr : g < wr.heap.size := Nat.lt_of_lt_of_le hg hbel.size
      rw [← hbel.cell (p := ⟨g, o + k * 2, none⟩) hg] at cop
      rw [← hbel.cell (p := ⟨g, o + k * 2 + 1, none⟩) hg] at carg
      have hlow := su.low
      have t0 := takes_bd (insAt l k).op
      have g0 := gives_bd (insAt l k).op
      have hmay := su.may
      have hnext := su.next
      obtain ⟨i, hi⟩ : ∃ i, insAt l k = i := ⟨_, rfl⟩
      rw [hi] at cop carg hlow t0 g0 hmay hnext
      obtain ⟨op, arg⟩ := i
      dsimp only at cop carg hlow t0 g0 hnext
      have hx : ∃ x, H k = x := ⟨_, rfl⟩
      obtain ⟨x, hx⟩ := hx
      rw [hx] at hvH hlow z0 z1 hnext
      have hmapA := hmap.alloc (.cells #[.int .u8 op, .int .i64 arg] 53)
      have hlook := hmapA.look (q := (k : Int)) (by omega) (by omega)
      rw [hvH] at hlook
      have hkat : (k : Int) < (at_ : Int) := by omega
      have hgt : ∀ q, Succ ⟨op, arg⟩ k q → (k : Int) < q := fun q hq => succ_gt hmay hq
      have hbk : w.heap.size < wr.heap.size := hmap.lt
      have y0 : 0 ≤ x - takes op + gives op := by omega
      have hbA : Below w.heap.size w (wr.alloc (.cells #[.int .u8 op, .int .i64 arg] 53)) := hbel.alloc hbel.size _
      have blkA := heap_alloc_new wr (.cells #[.int .u8 op, .int .i64 arg] 53)
      have n0 : ¬ Succ (insAt l k) k 0 := by rw [hi]; intro hq; have := hgt 0 hq; omega
      have hsucc : ∀ q, Succ (insAt l k) k q → H q = x - takes op + gives op := by
        rw [hi]
        intro q hq
        rw [(hnext q hq).2]
        omega
      have HI := Lib.hid hi
      have HX := Lib.hid hx
      have HCM := Lib.hid hcome
      have HN0 := Lib.hid n0
      have HSC := Lib.hid hsucc
      have HBA := Lib.hid hbA
      have HBE := Lib.hid hbel
      have HMA := Lib.hid hmapA
      clear su hmap hcome hvH hx hnext hi hgt n0 hsucc hbA hbel hmapA
      by_cases e23 : op = 23
      · subst e23
        clear hmay blkA
        go_wp2_with (go_at_call 74; (refine (effect_c _ _).mono ?_); rintro e w' ⟨rfl, rfl⟩)
        go_roundg gk
        case measure => omega
        case rel =>
          refine ⟨⟨k + 1, n, hv, by omega, by go_num, HMA.out, by omega, high_tail HCM.out ?_ (fun q => .inl rfl) HN0.out⟩, HBA.out⟩
          rw [HI.out]
          intro q hq
          rcases hq with ⟨h1, _⟩ | ⟨h1, _⟩
          · exact absurd rfl h1
          · simp at h1
      by_cases e22 : op = 22
      · subst e22
        obtain ⟨a0, a1⟩ := mayI_jump hmay (.inr rfl)
        obtain ⟨W2, hr2, m2, gr2⟩ := HMA.out.put (q := (k : Int) + 1) (x := x - takes 22 + gives 22) (by omega) (by omega) (by omega) (by omega) (by omega)
        have blk2 : W2.heap[wr.heap.size]? = some (.cells #[.int .u8 22, .int .i64 arg] 53 (0, 0)) := (gr2.block _ (by simp) (by simp; omega)).trans blkA
        have c21 := cell_blk blk2 1
        obtain ⟨W3, hr3, m3, gr3⟩ := m2.put (q := (k : Int) + arg) (x := x - takes 22 + gives 22) (by omega) (by omega) (by omega) (by omega) (by omega)
        have M3 := Lib.hid m3
        have hsz : w.heap.size ≤ (wr.alloc (.cells #[.int .u8 22, .int .i64 arg] 53)).heap.size := by simp; omega
        have b2 := HBA.out.grown gr2 hsz (fun k e => by cases e; exact Nat.le_refl _)
        have b3 := b2.grown gr3 (Nat.le_trans hsz gr2.size) (fun k e => by cases e; exact Nat.le_refl _)
        have B3 := Lib.hid b3
        clear hmay blkA blk2 m2 m3 gr2 gr3 b2 b3 hsz
        go_wp2_with (go_at_call 74; (refine (effect_c _ _).mono ?_); rintro e w' ⟨rfl, rfl⟩)
        go_roundg gk
        case measure => omega
        case rel =>
          refine ⟨⟨k + 1, n + 1 + 1, _, by omega, by go_num, M3.out, by omega, high_tail HCM.out ?_ ?_ HN0.out⟩, B3.out⟩
          · intro q hq
            have hs := HSC.out q hq
            rw [HI.out] at hq
            try dsimp only
            rcases hq with ⟨_, _, rfl⟩ | ⟨_, rfl⟩
            · split
              · exact hs.symm
              · rw [if_pos rfl]; exact hs.symm
            · rw [if_pos rfl]; exact hs.symm
          · intro q
            try dsimp only
            rw [HI.out]
            by_cases e1 : q = (k : Int) + arg
            · exact .inr (.inr ⟨.inr rfl, e1⟩)
            · rw [if_neg e1]
              by_cases e2 : q = (k : Int) + 1
              · exact .inr (.inl ⟨by simp, by simp, e2⟩)
              · rw [if_neg e2]; exact .inl rfl
      by_cases e21 : op = 21
      · subst e21
        obtain ⟨a0, a1⟩ := mayI_jump hmay (.inl rfl)
        obtain ⟨W2, hr2, m2, gr2⟩ := HMA.out.put (q := (k : Int) + arg) (x := x - takes 21 + gives 21) (by omega) (by omega) (by omega) (by omega) (by omega)
        have M3 := Lib.hid m2
        have hsz : w.heap.size ≤ (wr.alloc (.cells #[.int .u8 21, .int .i64 arg] 53)).heap.size := by simp; omega
        have b2 := HBA.out.grown gr2 hsz (fun k e => by cases e; exact Nat.le_refl _)
        have B3 := Lib.hid b2
        clear hmay blkA m2 gr2 b2 hsz
        go_wp2_with (go_at_call 74; (refine (effect_c _ _).mono ?_); rintro e w' ⟨rfl, rfl⟩)
        go_roundg gk
        case measure => omega
        case rel =>
          refine ⟨⟨k + 1, n + 1, _, by omega, by go_num, M3.out, by omega, high_tail HCM.out ?_ ?_ HN0.out⟩, B3.out⟩
          · intro q hq
            have hs := HSC.out q hq
            rw [HI.out] at hq
            try dsimp only
            rcases hq with ⟨_, h2, _⟩ | ⟨_, rfl⟩
            · exact absurd rfl h2
            · rw [if_pos rfl]; exact hs.symm
          · intro q
            try dsimp only
            rw [HI.out]
            by_cases e1 : q = (k : Int) + arg
            · exact .inr (.inr ⟨.inl rfl, e1⟩)
            · rw [if_neg e1]; exact .inl rfl
      have f1 : (op == 22) = false := by simp; omega
      have f2 : (op == 21) = false := by simp; omega
      have f3 : (op == 23) = false := by simp; omega
      obtain ⟨W2, hr2, m2, gr2⟩ := HMA.out.put (q := (k : Int) + 1) (x := x - takes op + gives op) (by omega) (by omega) (by omega) (by omega) (by omega)
      have M3 := Lib.hid m2
      have hsz : w.heap.size ≤ (wr.alloc (.cells #[.int .u8 op, .int .i64 arg] 53)).heap.size := by simp; omega
      have b2 := HBA.out.grown gr2 hsz (fun k e => by cases e; exact Nat.le_refl _)
      have B3 := Lib.hid b2
      clear hmay blkA m2 gr2 b2 hsz
      go_wp2_with (go_at_call 74; (refine (effect_c _ _).mono ?_); rintro e w' ⟨rfl, rfl⟩)
      go_roundg gk
      case measure => omega
      case rel =>
        refine ⟨⟨k + 1, n + 1, _, by omega, by go_num, M3.out, by omega, high_tail HCM.out ?_ ?_ HN0.out⟩, B3.out⟩
        · intro q hq
          have hs := HSC.out q hq
          rw [HI.out] at hq
          try dsimp only
          rcases hq with ⟨_, _, rfl⟩ | ⟨h1, _⟩
          · rw [if_pos rfl]; exact hs.symm
          · dsimp only at h1; omega
        · intro q
          try dsimp only
          rw [HI.out]
          by_cases e1 : q = (k : Int) + 1
          · exact .inr (.inl ⟨e23, e21, e1⟩)
          · rw [if_neg e1]; exact .inl rfl

end Go.Proofs.Ytihajgmknhifiaa
