/- The call of VmOwn on code that New takes. -/
import Derived.Test.YtihajgmknhifiaaWn
namespace Go.Proofs.Ytihajgmknhifiaa
open Go.RowKit
set_option linter.unusedVariables false

/-- The second machine. -/
def SecondQ (w3 : World) (l : List In) (c : Cf) (ins : List Int) (v13 v14 : Value) (wc : World) : Prop :=
  ∃ b2 m2, v13 = .pointer (some ⟨b2, 0, none⟩) ∧ v14 = .int .i64 0 ∧ m2.s = newS l c ins ∧ VmAt w3.heap.size wc b2 m2 ∧ Below w3.heap.size w3 wc

structure Rel1 (B : Nat) (w0 : World) (b1 : Nat) (m1 : Vm) (b2 : Nat) (m2 : Vm) (A1 A2 : Option Addr) (a1 a2 n1 n2 n k : Nat) (v : Value) (W : World) : Prop where
  j : ∃ j : Nat, j + k = n ∧ v = .int .i64 j
  ri : RowI B (Feet b1 m1 b2 m2) W (.slice A1 n1 a1) n1
  rn : RowN B (Feet b1 m1 b2 m2) W (.slice A2 n2 a2) n2
  two : Two B w0 W b1 m1 b2 m2

theorem Rel1.setI {B : Nat} {w0 : World} {b1 : Nat} {m1 : Vm} {b2 : Nat} {m2 : Vm} {A1 A2 : Option Addr} {a1 a2 n1 n2 n k : Nat} {v : Value} {W : World} (h : Rel1 B w0 b1 m1 b2 m2 A1 A2 a1 a2 n1 n2 n k v W)
    {j : Nat} (hj : j < n1) : ∃ g x y, A1 = some ⟨g, 0, none⟩ ∧ n1 ≤ a1 ∧ a1 ≤ maxLen ∧ g < W.heap.size ∧ W.cell? ⟨g, j * 2, none⟩ = some (.int .u8 x) ∧ W.cell? ⟨g, j * 2 + 1, none⟩ = some (.int .i64 y) ∧ W.frozen? ⟨g, j * 2, none⟩ = false ∧ W.frozen? ⟨g, j * 2 + 1, none⟩ = false ∧
      ∀ x y n' k' v', (∃ j : Nat, j + k' = n' ∧ v' = .int .i64 j) → Rel1 B w0 b1 m1 b2 m2 A1 A2 a1 a2 n1 n2 n' k' v' ((W.setCell ⟨g, j * 2, none⟩ (.int .u8 x)).setCell ⟨g, j * 2 + 1, none⟩ (.int .i64 y)) := by
  obtain ⟨g, x, y, hA, h1, h2, h3, h4, h5, h6, h7, h8, h9, h10⟩ := h.ri.at_ hj
  refine ⟨g, x, y, hA, h1, h2, h4, h6, h7, h8, h9, fun x y n' k' v' hj' => ⟨hj', h10 x y, ?_, ?_⟩⟩
  · obtain ⟨xs, hx⟩ := h.rn.row
    obtain ⟨ys, hy⟩ := h.ri.row
    have hf := own_far hy hx (by decide) (by rw [hA])
    exact h.rn.upd (G := fun k => k = g) ((Upd.one _ _ _ _).trans (Upd.one _ _ _ _)) hf
  · exact h.two.upd (F := fun k => k = g) ((Upd.one _ _ _ _).trans (Upd.one _ _ _ _)) (fun k hk => by rw [hk]; exact h5) (fun k hk => by rw [hk]; exact h3)

theorem Rel1.setN {B : Nat} {w0 : World} {b1 : Nat} {m1 : Vm} {b2 : Nat} {m2 : Vm} {A1 A2 : Option Addr} {a1 a2 n1 n2 n k : Nat} {v : Value} {W : World} (h : Rel1 B w0 b1 m1 b2 m2 A1 A2 a1 a2 n1 n2 n k v W)
    {j : Nat} (hj : j < n2) : ∃ g x, A2 = some ⟨g, 0, none⟩ ∧ n2 ≤ a2 ∧ a2 ≤ maxLen ∧ g < W.heap.size ∧ W.cell? ⟨g, j, none⟩ = some (.int .i64 x) ∧ W.frozen? ⟨g, j, none⟩ = false ∧
      ∀ x n' k' v', (∃ j : Nat, j + k' = n' ∧ v' = .int .i64 j) → Rel1 B w0 b1 m1 b2 m2 A1 A2 a1 a2 n1 n2 n' k' v' (W.setCell ⟨g, j, none⟩ (.int .i64 x)) := by
  obtain ⟨g, x, hA, h1, h2, h3, h4, h5, h6, h7, h8⟩ := h.rn.at_ hj
  refine ⟨g, x, hA, h1, h2, h4, h6, h7, fun x n' k' v' hj' => ⟨hj', ?_, h8 x, ?_⟩⟩
  · obtain ⟨xs, hx⟩ := h.rn.row
    obtain ⟨ys, hy⟩ := h.ri.row
    have hf := own_far hx hy (by decide) (by rw [hA])
    exact h.ri.upd (G := fun k => k = g) (Upd.one _ _ _ _) hf
  · exact h.two.upd (F := fun k => k = g) (Upd.one _ _ _ _) (fun k hk => by rw [hk]; exact h5) (fun k hk => by rw [hk]; exact h3)

theorem Rel1.again {B : Nat} {w0 : World} {b1 : Nat} {m1 : Vm} {b2 : Nat} {m2 : Vm} {A1 A2 : Option Addr} {a1 a2 n1 n2 n k : Nat} {v : Value} {W : World} (h : Rel1 B w0 b1 m1 b2 m2 A1 A2 a1 a2 n1 n2 n k v W) {n' k' : Nat} {v' : Value} (hj : ∃ j : Nat, j + k' = n' ∧ v' = .int .i64 j) : Rel1 B w0 b1 m1 b2 m2 A1 A2 a1 a2 n1 n2 n' k' v' W := ⟨hj, h.ri, h.rn, h.two⟩

set_option maxHeartbeats 32000000 in
set_option maxRecDepth 100000 in
theorem own_ok {w : World} {A B : Option Addr} {c1 c2 : Nat} {l : List In} {ins : List Int} {c : Cf} {bud : Int} (h1 : l.length ≤ 200) (h2 : ins.length ≤ 100)
    (hl : Rd w (.slice A l.length c1) l.length 2 (insV l)) (hi : Rd w (.slice B ins.length c2) ins.length 1 (ints ins)) (hv : (verM l c).2 = 0) (hr : (ins.length : Int) = c.reads) (hb0 : 0 ≤ bud) (hb1 : bud ≤ 255) :
    Calls Try.prog 5 #[.slice A l.length c1, c.val, .slice B ins.length c2, .int .u8 bud] w fun e w' => e = .returned (.bool true) ∧ Below w.heap.size w w' := by
  have d1 : decide ((200 : Int) < (l.length : Int)) = false := by simp; omega
  have d2 : decide ((100 : Int) < (ins.length : Int)) = false := by simp; omega
  have bx : Below w.heap.size w (w.alloc (.cells #[.int .i64 c.slots, .int .i64 c.reads, .int .i64 c.writes, .int .i64 c.stack] 24)) := (Below.refl _ _).alloc (Nat.le_refl _) _
  obtain ⟨H, s1, s2, R1, f1, R2, f2, e2⟩ := own_runs (bud := bud) hv hr hb0
  have hm := (verM_ok hv).1
  have S1 := Lib.hid (f1.small' hm)
  have S2 := Lib.hid (f2.small' hm)
  have E2 := Lib.hid e2
  have R1 := Lib.hid R1
  have R2 := Lib.hid R2
  have HN := Lib.hid (says_ok (l := l) (c := c) (ins := ins) hv hr)
  have HL := Lib.hid hl
  have HI := Lib.hid hi
  have BX := Lib.hid bx
  clear hl hi hv hr hm bx e2 f1 f2
  unfold Cf.val
  go_enter Try.func5, Try.ntmps5
  go_wp2_with (go_at_call 10; refine (copied_c (HL.out.below BX.out) (by omega)).mono ?_; rintro e w1 ⟨A1, a1, rfl, q1⟩; have Q1 := Lib.hid q1; have B1 := Lib.hid (BX.out.trans (q1.below.mono (by simp))); have k0 := (q1.below.cell (p := ⟨w.heap.size, 0, none⟩) (by simp)).trans (World.cell?_alloc_new _ _ _ 0); have k1 := (q1.below.cell (p := ⟨w.heap.size, 1, none⟩) (by simp)).trans (World.cell?_alloc_new _ _ _ 1); have k2 := (q1.below.cell (p := ⟨w.heap.size, 2, none⟩) (by simp)).trans (World.cell?_alloc_new _ _ _ 2); have k3 := (q1.below.cell (p := ⟨w.heap.size, 3, none⟩) (by simp)).trans (World.cell?_alloc_new _ _ _ 3); simp at k0 k1 k2 k3; clear q1)
  refine (numbers_c (HI.out.below B1.out) (by omega)).mono ?_
  rintro e w2 ⟨A2, a2, rfl, q2⟩
  have e2 : ∀ {p : Addr} {v : Value}, w1.cell? p = some v → w2.cell? p = some v := fun hp => by rw [q2.below.cell (World.block_lt_of_cell? _ _ hp)]; exact hp
  have K2 := Lib.hid (And.intro (e2 k0) (And.intro (e2 k1) (And.intro (e2 k2) (e2 k3))))
  have B2 := Lib.hid (B1.out.trans (q2.below.mono B1.out.size))
  have Q2 := Lib.hid q2
  clear q2 e2 k0 k1 k2 k3
  obtain ⟨k0, k1, k2, k3⟩ := K2.out
  go_wp2_with (fail)
  refine (HN.out _ _ _ _ _ (Rd.of_own (own_gn Q1.out.own Q2.out.below)) (Rd.of_own Q2.out.own)).mono ?_
  rintro e w3 ⟨b1, m1, rfl, q3⟩
  have b3 := q3.below
  have e3 : ∀ {p : Addr} {v : Value}, w2.cell? p = some v → w3.cell? p = some v := fun hp => by rw [b3.cell (World.block_lt_of_cell? _ _ hp)]; exact hp
  have K3 := Lib.hid (And.intro (e3 k0) (And.intro (e3 k1) (And.intro (e3 k2) (e3 k3))))
  have B3 := Lib.hid (B2.out.trans (b3.mono B2.out.size))
  have Q3 := Lib.hid q3
  clear q3 b3 e3 k0 k1 k2 k3
  obtain ⟨k0, k1, k2, k3⟩ := K3.out
  go_upto_region 5 with (fail)
  go_cut [13, 14] (fun v13 v14 wc => SecondQ w3 l c ins v13 v14 wc)
  case first =>
    go_region_with (first
      | (go_at_call 10; refine (copied_c (HL.out.below B3.out.drew) (by omega)).mono ?_; rintro e w4 ⟨A4, a4, rfl, q4⟩; have B4 := Lib.hid (B3.out.drew.trans (q4.below.mono B3.out.size)); have j0 := cell_go q4.below k0; have j1 := cell_go q4.below k1; have j2 := cell_go q4.below k2; have j3 := cell_go q4.below k3; clear k0 k1 k2 k3; have k0 := j0; have k1 := j1; have k2 := j2; have k3 := j3; clear j0 j1 j2 j3; have Q4 := Lib.hid q4; clear q4)
      | (go_at_call 11; refine (numbers_c (HI.out.below B4.out) (by omega)).mono ?_; rintro e w5 ⟨A5, a5, rfl, q5⟩; have B5 := Lib.hid (B4.out.trans (q5.below.mono B4.out.size)); have j0 := cell_go q5.below k0; have j1 := cell_go q5.below k1; have j2 := cell_go q5.below k2; have j3 := cell_go q5.below k3; clear k0 k1 k2 k3; have k0 := j0; have k1 := j1; have k2 := j2; have k3 := j3; clear j0 j1 j2 j3; have Q5 := Lib.hid q5; clear q5)
      | (go_at_call 9; refine (HN.out _ _ _ _ _ (Rd.of_own (own_gn Q4.out.own Q5.out.below)) (Rd.of_own Q5.out.own)).mono ?_; rintro e w6 ⟨b2, m2, rfl, q6⟩; have Q6 := Lib.hid q6; clear q6))
    all_goals
      go_wp2_with fail
      go_meet
      exact ⟨b2, m2, rfl, rfl, Q6.out.s, Q6.out.at_.mono (Nat.le_trans Q4.out.below.size Q5.out.below.size), (Below.refl _ _).drew.trans (Q4.out.below.trans ((Q5.out.below.trans (Q6.out.below.mono Q5.out.below.size)).mono Q4.out.below.size))⟩
  case rest =>
    obtain ⟨b2, m2, rfl, rfl, hs2, hat2, hb2⟩ := hcut
    have hs1 := Q3.out.s
    have hz3 : w.heap.size ≤ w3.heap.size := B3.out.size
    have hz2 : w.heap.size ≤ w2.heap.size := B2.out.size
    have hz1 : w.heap.size ≤ w1.heap.size := B1.out.size
    have hat1 : VmAt w.heap.size wc b1 m1 := (Q3.out.at_.upd (Upd.of_below (F := fun _ => False) hb2) fun _ _ => id).mono hz2
    have hfar : ∀ k, m1.foot b1 k → ¬ m2.foot b2 k := fun k hk hf => by
      have := (Q3.out.at_.foot_base k hk).2
      have := (hat2.foot_base k hf).1
      omega
    have T0 : Two w.heap.size w wc b1 m1 b2 m2 := ⟨B3.out.trans (hb2.mono hz3), Nat.le_trans hz3 hb2.size, hat1, hat2.mono hz3, hfar⟩
    have hlow : ∀ k, k < w2.heap.size → ¬ Feet b1 m1 b2 m2 k := fun k hk hf => by
      rcases hf with hf | hf
      · have := (Q3.out.at_.foot_base k hf).1; omega
      · have := (hat2.foot_base k hf).1
        have := Q3.out.below.size
        omega
    have own1 := own_gn (own_gn (own_gn Q1.out.own Q2.out.below) Q3.out.below) hb2
    have own2 := own_gn (own_gn Q2.out.own Q3.out.below) hb2
    have l1 := fun k hk => ((own_gn Q1.out.own Q2.out.below).lt k hk).2
    have l2 := fun k hk => (Q2.out.own.lt k hk).2
    have b1z : w.heap.size ≤ (w.alloc (.cells #[.int .i64 c.slots, .int .i64 c.reads, .int .i64 c.writes, .int .i64 c.stack] 24)).heap.size := by simp
    have RI0 : RowI w.heap.size (Feet b1 m1 b2 m2) wc (.slice A1 l.length a1) l.length := ⟨⟨l, own_mono own1 b1z⟩, fun k hk => hlow k (l1 k hk)⟩
    have RN0 : RowN w.heap.size (Feet b1 m1 b2 m2) wc (.slice A2 ins.length a2) ins.length := ⟨⟨ins, own_mono own2 hz1⟩, fun k hk => hlow k (l2 k hk)⟩
    have T0 := Lib.hid T0
    have RI0 := Lib.hid RI0
    have RN0 := Lib.hid RN0
    have HS1 := Lib.hid hs1
    have HS2 := Lib.hid hs2
    clear hs1 hs2 hz3 hz2 hz1 hat1 hat2 hfar hlow own1 own2 l1 l2 b1z hb2 k0 k1 k2 k3
    clear B1 B2 B3 Q1 Q2 Q3 K2 K3 BX HN HL HI
    go_wp2_with fail
    go_loopg [15] l.length (fun k v wr => Rel1 w.heap.size w b1 m1 b2 m2 A1 A2 a1 a2 l.length ins.length l.length k v wr)
    case atStart => exact ⟨⟨0, by omega, rfl⟩, RI0.out, RN0.out, T0.out⟩
    case round =>
      have hrel0 := hrel
      obtain ⟨⟨j, hj, hv⟩, _, _, _⟩ := hrel0
      subst hv
      cases gk with
      | succ k =>
        have hlt : decide ((j : Int) < (l.length : Int)) = true := by simp; omega
        obtain ⟨g, x, y, hA, e1, e2, e3, e4, e5, e6, e7, e8⟩ := hrel.setI (show j < l.length by omega)
        subst hA
        have i0 : (0 : Int) ≤ (j : Int) := by omega
        have i1 : (j : Int) < (l.length : Int) := by omega
        have E8 := Lib.hid e8
        unfold maxLen at e2
        clear hrel e8
        go_wp2_with fail
        go_roundg k
        case measure => omega
        case rel => exact E8.out _ _ _ _ _ ⟨j + 1, by omega, congrArg (Value.int .i64) (by first | omega | go_num)⟩
      | zero =>
        have hlt : decide ((j : Int) < (l.length : Int)) = false := by simp; omega
        have HR := Lib.hid hrel
        clear hrel
        go_wp2_with fail
        obtain ⟨wo, rfl⟩ : ∃ wo : World, wo = wr := ⟨_, rfl⟩
        clear hj hlt
        go_loopg [16] ins.length (fun k v wr => Rel1 w.heap.size w b1 m1 b2 m2 A1 A2 a1 a2 l.length ins.length ins.length k v wr)
        case atStart => exact HR.out.again ⟨0, by omega, rfl⟩
        case round =>
          have hrel0 := hrel
          obtain ⟨⟨j2, hj, hv⟩, _, _, _⟩ := hrel0
          subst hv
          cases gk with
          | succ k =>
            have hlt : decide ((j2 : Int) < (ins.length : Int)) = true := by simp; omega
            obtain ⟨g, x, hA, e1, e2, e3, e4, e5, e8⟩ := hrel.setN (show j2 < ins.length by omega)
            subst hA
            have i0 : (0 : Int) ≤ (j2 : Int) := by omega
            have i1 : (j2 : Int) < (ins.length : Int) := by omega
            have E8 := Lib.hid e8
            unfold maxLen at e2
            clear hrel e8
            go_wp2_with fail
            go_roundg k
            case measure => omega
            case rel => exact E8.out _ _ _ _ ⟨j2 + 1, by omega, congrArg (Value.int .i64) (by first | omega | go_num)⟩
          | zero =>
            have hlt : decide ((j2 : Int) < (ins.length : Int)) = false := by simp; omega
            have HT := Lib.hid hrel.two
            clear hrel HR T0 RI0 RN0
            go_wp2_with fail
            refine (R1.out _ _ _ _ HT.out.v1 HS1.out).mono ?_
            rintro e w4 ⟨⟨r1, rfl⟩, m3, g3, s3⟩
            have T3 := Lib.hid (HT.out.go1 g3)
            have HS3 := Lib.hid s3
            clear g3 s3 hlt hj
            go_wp2_with fail
            refine (R1.out _ _ _ _ T3.out.v2 HS2.out).mono ?_
            rintro e w5 ⟨⟨r2, rfl⟩, m4, g4, s4⟩
            have T4 := Lib.hid (T3.out.go2 g4)
            have HS4 := Lib.hid s4
            clear g4 s4
            go_wp2_with fail
            refine (save_any T4.out.v1 (vm_small HS3.out S1.out)).mono ?_
            rintro e w6 ⟨p1, p2, P1, k1, P2, k2, P3, p3, k3, P4, p4, k4, rfl, hp1, hp2, q6⟩
            have Q6 := Lib.hid q6
            clear q6
            go_wp2_with fail
            go_loopg [19] p1 (fun k v wr => Rel3 w.heap.size w b1 m3 b2 m4 w6.heap.size #[.int .i64 m3.at_, .slice P1 p1 k1, .slice P2 p2 k2, .slice P3 p3 k3, .slice P4 p4 k4, .int .i64 m3.spent, .bool m3.ended] (.slice P1 p1 k1) (.slice P2 p2 k2) p1 p2 p1 k v wr)
            case atStart => exact Rel3.start T4.out Q6.out _
            case round =>
              have hrel0 := hrel
              obtain ⟨j3, hj, hv⟩ := hrel0.j
              subst hv
              clear hrel0
              have hc1 := cell_blk hrel.blk 1
              simp at hc1
              cases gk with
              | succ k =>
                have hlt : decide ((j3 : Int) < (p1 : Int)) = true := by simp; omega
                obtain ⟨g, y, hA, e1, e2, e3, e4, e5, e8⟩ := hrel.set (show j3 < p1 by omega)
                subst hA
                have i0 : (0 : Int) ≤ (j3 : Int) := by omega
                have i1 : (j3 : Int) < (p1 : Int) := by omega
                have E8 := Lib.hid e8
                unfold maxLen at e2
                clear hrel e8
                go_wp2_with fail
                go_roundg k
                case measure => omega
                case rel => exact (E8.out _ _ _ _ ⟨j3 + 1, by omega, congrArg (Value.int .i64) (by first | omega | go_num)⟩)
              | zero =>
                have hlt : decide ((j3 : Int) < (p1 : Int)) = false := by simp; omega
                have HR := Lib.hid hrel
                clear hrel
                go_wp2_with fail
                obtain ⟨wo, rfl⟩ : ∃ wo : World, wo = wr := ⟨_, rfl⟩
                clear hj hlt hc1
                go_loopg [20] p2 (fun k v wr => Rel3 w.heap.size w b1 m3 b2 m4 w6.heap.size #[.int .i64 m3.at_, .slice P1 p1 k1, .slice P2 p2 k2, .slice P3 p3 k3, .slice P4 p4 k4, .int .i64 m3.spent, .bool m3.ended] (.slice P1 p1 k1) (.slice P2 p2 k2) p1 p2 p2 k v wr)
                case atStart => exact HR.out.again ⟨0, by omega, rfl⟩
                case round =>
                  have hrel0 := hrel
                  obtain ⟨j4, hj, hv⟩ := hrel0.j
                  subst hv
                  clear hrel0
                  have hc2 := cell_blk hrel.blk 2
                  simp at hc2
                  cases gk with
                  | succ k =>
                    have hlt : decide ((j4 : Int) < (p2 : Int)) = true := by simp; omega
                    obtain ⟨g, y, hA, e1, e2, e3, e4, e5, e8⟩ := hrel.swap.set (show j4 < p2 by omega)
                    subst hA
                    have i0 : (0 : Int) ≤ (j4 : Int) := by omega
                    have i1 : (j4 : Int) < (p2 : Int) := by omega
                    have E8 := Lib.hid e8
                    unfold maxLen at e2
                    clear hrel e8
                    go_wp2_with fail
                    go_roundg k
                    case measure => omega
                    case rel => exact Rel3.swap (E8.out _ _ _ _ ⟨j4 + 1, by omega, congrArg (Value.int .i64) (by first | omega | go_num)⟩)
                  | zero =>
                    have hlt : decide ((j4 : Int) < (p2 : Int)) = false := by simp; omega
                    have HR := Lib.hid hrel
                    clear hrel
                    go_wp2_with fail
                    have HT := Lib.hid HR.out.two
                    clear HR hlt hj hc2
                    refine (outs_any HT.out.v1 (vm_small HS3.out S1.out).2.2.2).mono ?_
                    rintro e w7 ⟨O1, on, oc, oz, rfl, hon, q7⟩
                    have Q7 := Lib.hid q7
                    clear q7
                    go_wp2_with fail
                    go_loopg [23] on (fun k v wr => Rel5 w.heap.size w b1 m3 b2 m4 (.slice O1 on oc) on on k v wr)
                    case atStart => exact Rel5.start HT.out Q7.out
                    case round =>
                      have hrel0 := hrel
                      obtain ⟨j5, hj, hv⟩ := hrel0.j
                      subst hv
                      clear hrel0
                      cases gk with
                      | succ k =>
                        have hlt : decide ((j5 : Int) < (on : Int)) = true := by simp; omega
                        obtain ⟨g, y, hA, e1, e2, e3, e4, e5, e8⟩ := hrel.set (show j5 < on by omega)
                        subst hA
                        have i0 : (0 : Int) ≤ (j5 : Int) := by omega
                        have i1 : (j5 : Int) < (on : Int) := by omega
                        have E8 := Lib.hid e8
                        unfold maxLen at e2
                        clear hrel e8
                        go_wp2_with fail
                        go_roundg k
                        case measure => omega
                        case rel => exact (E8.out _ _ _ _ ⟨j5 + 1, by omega, congrArg (Value.int .i64) (by first | omega | go_num)⟩)
                      | zero =>
                        have hlt : decide ((j5 : Int) < (on : Int)) = false := by simp; omega
                        have HR := Lib.hid hrel
                        clear hrel
                        go_wp2_with fail
                        have HT := Lib.hid HR.out.two
                        clear HR hlt hj
                        refine (R2.out _ _ _ _ HT.out.v1 HS3.out).mono ?_
                        rintro e w8 ⟨⟨r3, rfl⟩, m5, g5, s5⟩
                        have T8 := Lib.hid (HT.out.go1 g5)
                        have HS5 := Lib.hid s5
                        clear g5 s5 HT
                        go_wp2_with fail
                        refine (R2.out _ _ _ _ T8.out.v2 HS4.out).mono ?_
                        rintro e w9 ⟨⟨r4, rfl⟩, m6, g6, s6⟩
                        have T9 := Lib.hid (T8.out.go2 g6)
                        have HS6 := Lib.hid s6
                        clear g6 s6 T8
                        go_wp2_with fail
                        refine (outs_end T9.out.v1 HS5.out E2.out S2.out.2.2.2).mono ?_
                        rintro e w10 ⟨O2, oc2, rfl, q10⟩
                        have T10 := Lib.hid (T9.out.grow q10.below)
                        have Q10 := Lib.hid q10
                        clear q10 T9
                        go_wp2_with fail
                        refine (outs_end T10.out.v2 HS6.out E2.out S2.out.2.2.2).mono ?_
                        rintro e w11 ⟨O3, oc3, rfl, q11⟩
                        have T11 := Lib.hid (T10.out.grow q11.below)
                        have Q11 := Lib.hid q11
                        clear q11 T10
                        have ess : (s2.spent == s2.spent) = true := by simp
                        go_wp2_with fail
                        refine (equal_own (own_gn Q10.out.own Q11.out.below) Q11.out.own S2.out.2.2.2).mono ?_
                        rintro e w12 ⟨rfl, hu⟩
                        have T12 := Lib.hid (T11.out.upd hu (fun _ => False.elim) (fun _ => False.elim))
                        clear hu T11
                        go_wp2_with fail
                        refine (spent_end T12.out.v1 HS5.out).mono ?_
                        rintro e w' ⟨rfl, rfl⟩
                        go_wp2_with fail
                        refine (spent_end T12.out.v2 HS6.out).mono ?_
                        rintro e w' ⟨rfl, rfl⟩
                        go_wp2_with fail
                        refine (works_c _).mono ?_
                        rintro e w13 ⟨rfl, b13⟩
                        have B13 := Lib.hid b13
                        clear b13
                        go_wp2_with fail
                        go_ret
                        exact ⟨rfl, T12.out.below.trans (B13.out.mono T12.out.size)⟩

end Go.Proofs.Ytihajgmknhifiaa
