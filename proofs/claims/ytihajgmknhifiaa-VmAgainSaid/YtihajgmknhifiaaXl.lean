/- The call of VmAgain on code that New takes. -/
import Derived.Test.YtihajgmknhifiaaXe
import Derived.Test.YtihajgmknhifiaaXh
import Derived.Test.YtihajgmknhifiaaXj
import Derived.Test.YtihajgmknhifiaaXk
import Derived.Test.YtihajgmknhifiaaWo
namespace Go.Proofs.Ytihajgmknhifiaa
open Go.RowKit
set_option linter.unusedVariables false

theorem own_cap {w : World} {base n c : Nat} {e : TypeId} {size : Nat} {A : Option Addr} {xs : List Value} (h : w.ownsRow base e size (.slice A n c) n xs) : c ≤ 9223372036854775807 := by
  rcases h.2 with ⟨h', _⟩ | ⟨g, cap, cur, h', _, _, _, h2, _⟩
  · injection h' with _ _ e3; omega
  · injection h' with _ _ e3
    unfold maxLen at h2
    omega

theorem heldM_load {n k : Nat} {c : Cf} {a : Int} {v1 v2 v3 v4 : Value} {sp : Int} {en : Bool} {wc W W' : World} {s : Vs} {b : Nat} {m : Vm} (h : HeldM n k c a v1 v2 v3 v4 sp en wc W) (q : LoadQ W s b m W') : HeldM n k c a v1 v2 v3 v4 sp en wc W' := heldM_grow h q.below

structure AgainRel (B : Nat) (w0 : World) (l : List In) (c : Cf) (H : Int → Int) (t : Vs) (b1 : Nat) (m1 : Vm) (n gk : Nat) (v11 v19 : Value) (W : World) : Prop where
  ex : ∃ (j b2 : Nat) (m2 : Vm), j + gk = n ∧ v19 = .int .i64 (j : Nat) ∧ v11 = .pointer (some ⟨b2, 0, none⟩) ∧ Two B w0 W b1 m1 b2 m2 ∧ Good l c H t m2.s

theorem save_k {B : Nat} {W : World} {b : Nat} {m : Vm} (h : VmAt B W b m) {k : Nat} (hk : m.at_ = k) (sm : m.stack.length ≤ 1000000 ∧ m.slots.length ≤ 1000000 ∧ m.ins.length ≤ 1000000 ∧ m.outs.length ≤ 1000000) :
    Calls Try.prog 13 #[.pointer (some ⟨b, 0, none⟩)] W fun e w' => ∃ A1 a1 A2 a2 A3 a3 A4 a4, e = .returned (.tuple #[.agg #[.int .i64 (k : Nat), .slice A1 m.stack.length a1, .slice A2 m.slots.length a2, .slice A3 m.ins.length a3, .slice A4 m.outs.length a4, .int .i64 m.spent, .bool m.ended], .int .i64 0]) ∧
      CopyQ W m.stack m.slots m.ins m.outs (.slice A1 m.stack.length a1) (.slice A2 m.slots.length a2) (.slice A3 m.ins.length a3) (.slice A4 m.outs.length a4) w' := by
  refine (save_c h sm.1 sm.2.1 sm.2.2.1 sm.2.2.2).mono ?_
  rintro e w' ⟨v1, v2, v3, v4, rfl, q⟩
  obtain ⟨A1, c1, rfl⟩ := own_slice q.o1
  obtain ⟨A2, c2, rfl⟩ := own_slice q.o2
  obtain ⟨A3, c3, rfl⟩ := own_slice q.o3
  obtain ⟨A4, c4, rfl⟩ := own_slice q.o4
  exact ⟨_, _, _, _, _, _, _, _, by rw [hk], q⟩

theorem copy_k {w : World} {s1 s2 s3 s4 : Value} {a sp : Int} {en : Bool} {x1 x2 x3 x4 : List Int} (h1 : Rd w s1 x1.length 1 (ints x1)) (h2 : Rd w s2 x2.length 1 (ints x2)) (h3 : Rd w s3 x3.length 1 (ints x3)) (h4 : Rd w s4 x4.length 1 (ints x4))
    (sm : x1.length ≤ 1000000 ∧ x2.length ≤ 1000000 ∧ x3.length ≤ 1000000 ∧ x4.length ≤ 1000000) :
    Calls Try.prog 24 #[.agg #[.int .i64 a, s1, s2, s3, s4, .int .i64 sp, .bool en]] w fun e w' => ∃ A1 a1 A2 a2 A3 a3 A4 a4, e = .returned (.agg #[.int .i64 a, .slice A1 x1.length a1, .slice A2 x2.length a2, .slice A3 x3.length a3, .slice A4 x4.length a4, .int .i64 sp, .bool en]) ∧
      CopyQ w x1 x2 x3 x4 (.slice A1 x1.length a1) (.slice A2 x2.length a2) (.slice A3 x3.length a3) (.slice A4 x4.length a4) w' := by
  refine (refcopy_c h1 h2 h3 h4 sm.1 sm.2.1 sm.2.2.1 sm.2.2.2).mono ?_
  rintro e w' ⟨v1, v2, v3, v4, rfl, q⟩
  obtain ⟨A1, c1, rfl⟩ := own_slice q.o1
  obtain ⟨A2, c2, rfl⟩ := own_slice q.o2
  obtain ⟨A3, c3, rfl⟩ := own_slice q.o3
  obtain ⟨A4, c4, rfl⟩ := own_slice q.o4
  exact ⟨_, _, _, _, _, _, _, _, rfl, q⟩

/-- The rows of a saved context, and its block. -/
structure SavedX (lo hi : Nat) (W : World) (k : Nat) (cs : Array Value) (x1 x2 x3 x4 : List Int) (v1 v2 v3 v4 : Value) : Prop where
  o : Ctx4 W lo x1 x2 x3 x4 v1 v2 v3 v4
  top : ∀ j, v1.ownBlock = some j ∨ v2.ownBlock = some j ∨ v3.ownBlock = some j ∨ v4.ownBlock = some j → j < hi
  blk : W.heap[k]? = some (.cells cs 37 (0, 0))
  lo_ : lo ≤ k
  hi_ : k < hi

theorem SavedX.upd {lo hi : Nat} {W W' : World} {k : Nat} {cs : Array Value} {x1 x2 x3 x4 : List Int} {v1 v2 v3 v4 : Value} {F : Nat → Prop} (h : SavedX lo hi W k cs x1 x2 x3 x4 v1 v2 v3 v4) (hu : Upd F W W') (hn : ∀ j, lo ≤ j → j < hi → ¬ F j) : SavedX lo hi W' k cs x1 x2 x3 x4 v1 v2 v3 v4 :=
  { o := h.o.upd hu (fun j hj => hn j (h.o.o1.lt j hj).1 (h.top j (.inl hj))) (fun j hj => hn j (h.o.o2.lt j hj).1 (h.top j (.inr (.inl hj)))) (fun j hj => hn j (h.o.o3.lt j hj).1 (h.top j (.inr (.inr (.inl hj))))) (fun j hj => hn j (h.o.o4.lt j hj).1 (h.top j (.inr (.inr (.inr hj)))))
    top := h.top, blk := (hu.block k (Array.getElem?_eq_some_iff.1 h.blk).1 (hn k h.lo_ h.hi_)).trans h.blk, lo_ := h.lo_, hi_ := h.hi_ }
theorem SavedX.grow {lo hi : Nat} {W W' : World} {k : Nat} {cs : Array Value} {x1 x2 x3 x4 : List Int} {v1 v2 v3 v4 : Value} (h : SavedX lo hi W k cs x1 x2 x3 x4 v1 v2 v3 v4) (hb : Below W.heap.size W W') : SavedX lo hi W' k cs x1 x2 x3 x4 v1 v2 v3 v4 :=
  h.upd (F := fun _ => False) (Upd.of_below hb) fun _ _ _ => id
theorem SavedX.new {W0 w6 : World} {cs : Array Value} {x1 x2 x3 x4 : List Int} {v1 v2 v3 v4 : Value} (q : CopyQ W0 x1 x2 x3 x4 v1 v2 v3 v4 w6) : SavedX W0.heap.size (w6.heap.size + 1) (w6.alloc (.cells cs 37)) w6.heap.size cs x1 x2 x3 x4 v1 v2 v3 v4 := by
  have g : Below w6.heap.size w6 (w6.alloc (.cells cs 37)) := (Below.refl _ _).alloc (Nat.le_refl _) _
  refine ⟨⟨own_gn q.o1 g, own_gn q.o2 g, own_gn q.o3 g, own_gn q.o4 g⟩, fun j hj => ?_, heap_alloc_new w6 _, q.below.size, Nat.lt_succ_self _⟩
  rcases hj with hj | hj | hj | hj
  · exact Nat.lt_succ_of_lt (q.o1.lt j hj).2
  · exact Nat.lt_succ_of_lt (q.o2.lt j hj).2
  · exact Nat.lt_succ_of_lt (q.o3.lt j hj).2
  · exact Nat.lt_succ_of_lt (q.o4.lt j hj).2

def bytesV (xs : List Int) : List Value := xs.map (Value.int .u8)

theorem bytesV_get (xs : List Int) (i : Nat) (h : i < xs.length) : (bytesV xs)[i]? = some (.int .u8 (xs.getD i 0)) := by
  simp [bytesV, List.getElem?_eq_getElem h, List.getD_eq_getElem?_getD]
theorem rd_byte {W : World} {D : Option Addr} {c : Nat} {bs : List Int} (h : Rd W (.slice D bs.length c) bs.length 1 (bytesV bs)) {j : Nat} (hj : j < bs.length) :
    ∃ g o, D = some ⟨g, o, none⟩ ∧ bs.length ≤ c ∧ g < W.heap.size ∧ W.cell? ⟨g, o + j, none⟩ = some (.int .u8 (bs.getD j 0)) := by
  obtain ⟨a, c', e, h1, h2, h3⟩ := h.form
  injection e with e1 e2 e3
  subst e1 e3
  cases D with
  | none => obtain ⟨e, _⟩ := h2 rfl; omega
  | some ad =>
    obtain ⟨g, o, sp⟩ := ad
    have hz := h3 _ rfl 0 _ (bytesV_get bs 0 (by omega))
    have hsp : sp = none := by
      cases sp with
      | none => rfl
      | some n =>
        simp only [Addr.add, World.cell?] at hz
        split at hz <;> simp_all
    subst hsp
    have hc := h3 _ rfl j _ (bytesV_get bs j hj)
    have hadd : (⟨g, o, none⟩ : Addr).add j = ⟨g, o + j, none⟩ := by unfold Addr.add; split <;> simp_all
    rw [hadd] at hc
    exact ⟨g, o, rfl, h1, World.block_lt_of_cell? _ _ hc, hc⟩

set_option maxHeartbeats 64000000 in
set_option maxRecDepth 100000 in
theorem again_ok {w : World} {A B D : Option Addr} {c1 c2 c3 : Nat} {l : List In} {ins bs : List Int} {c : Cf} (h1 : l.length ≤ 200) (h2 : ins.length ≤ 100) (h3 : bs.length ≤ 200)
    (hl : Rd w (.slice A l.length c1) l.length 2 (insV l)) (hi : Rd w (.slice B ins.length c2) ins.length 1 (ints ins)) (hbs : Rd w (.slice D bs.length c3) bs.length 1 (bytesV bs)) (hbv : ∀ x ∈ bs, 0 ≤ x ∧ x ≤ 255)
    (hv : (verM l c).2 = 0) (hr : (ins.length : Int) = c.reads) :
    Calls Try.prog 7 #[.slice A l.length c1, c.val, .slice B ins.length c2, .slice D bs.length c3] w fun e w' => e = .returned (.bool true) ∧ Below w.heap.size w w' := by
  have d1 : decide ((200 : Int) < (l.length : Int)) = false := by simp; omega
  have d2 : decide ((100 : Int) < (ins.length : Int)) = false := by simp; omega
  have d3 : decide ((200 : Int) < (bs.length : Int)) = false := by simp; omega
  obtain ⟨H, t, hS, h0, hH, hG0, hRF, hSt, hTe, hCo⟩ := again_pure hv hr
  obtain ⟨hm, hl1, hl0, _⟩ := verM_ok hv
  have SM := Lib.hid (hSt.small' hm)
  have HS := Lib.hid hS
  have H0 := Lib.hid h0
  have HH := Lib.hid hH
  have HG0 := Lib.hid hG0
  have RF := Lib.hid hRF
  have TE := Lib.hid hTe
  have HCO := Lib.hid hCo
  have HM := Lib.hid hm
  have HV := Lib.hid hv
  have HN := Lib.hid (says_ok (l := l) (c := c) (ins := ins) hv hr)
  have HL := Lib.hid hl
  have HI := Lib.hid hi
  have HBS := Lib.hid hbs
  have HBV := Lib.hid hbv
  clear hl hi hv hr hm hS h0 hH hG0 hRF hSt hTe hCo hbs hbv
  unfold Cf.val
  go_enter Try.func7, Try.ntmps7
  go_upto_region 3 with (fail)
  obtain ⟨W0, hW0⟩ : ∃ W0, W0 = w.alloc (.cells #[.int .i64 c.slots, .int .i64 c.reads, .int .i64 c.writes, .int .i64 c.stack] 24) := ⟨_, rfl⟩
  rw [← hW0]
  have hblk : W0.heap[w.heap.size]? = some (.cells #[.int .i64 c.slots, .int .i64 c.reads, .int .i64 c.writes, .int .i64 c.stack] 24 (0, 0)) := by rw [hW0]; exact heap_alloc_new w _
  have bx : Below w.heap.size w W0 := by rw [hW0]; exact (Below.refl _ _).alloc (Nat.le_refl _) _
  have hsz : W0.heap.size = w.heap.size + 1 := by rw [hW0]; simp
  have k0 := cell_blk hblk 0
  have k1 := cell_blk hblk 1
  have k2 := cell_blk hblk 2
  have k3 := cell_blk hblk 3
  simp at k0 k1 k2 k3
  have HBLK := Lib.hid hblk
  have BX := Lib.hid bx
  have HSZ := Lib.hid hsz
  clear hW0 hblk bx hsz
  go_cut [9, 10] (fun v9 v10 wc => SecondQ W0 l c ins v9 v10 wc)
  case first =>
    -- SLOW {
    go_region_with (first
      | (go_at_call 10; refine (copied_c (HL.out.below BX.out.drew) (by omega)).mono ?_; rintro e w4 ⟨A4, a4, rfl, q4⟩; have B4 := Lib.hid (BX.out.drew.trans (q4.below.mono BX.out.size)); have j0 := cell_go q4.below k0; have j1 := cell_go q4.below k1; have j2 := cell_go q4.below k2; have j3 := cell_go q4.below k3; clear k0 k1 k2 k3; have k0 := j0; have k1 := j1; have k2 := j2; have k3 := j3; clear j0 j1 j2 j3; have Q4 := Lib.hid q4; clear q4)
      | (go_at_call 11; refine (numbers_c (HI.out.below B4.out) (by omega)).mono ?_; rintro e w5 ⟨A5, a5, rfl, q5⟩; have B5 := Lib.hid (B4.out.trans (q5.below.mono B4.out.size)); have j0 := cell_go q5.below k0; have j1 := cell_go q5.below k1; have j2 := cell_go q5.below k2; have j3 := cell_go q5.below k3; clear k0 k1 k2 k3; have k0 := j0; have k1 := j1; have k2 := j2; have k3 := j3; clear j0 j1 j2 j3; have Q5 := Lib.hid q5; clear q5)
      | (go_at_call 9; refine (HN.out _ _ _ _ _ (Rd.of_own (own_gn Q4.out.own Q5.out.below)) (Rd.of_own Q5.out.own)).mono ?_; rintro e w6 ⟨b2, m2, rfl, q6⟩; have Q6 := Lib.hid q6; clear q6))
    all_goals
      go_wp2_with fail
      go_meet
      exact ⟨b2, m2, rfl, rfl, Q6.out.s, Q6.out.at_.mono (Nat.le_trans Q4.out.below.size Q5.out.below.size), (Below.refl _ _).drew.trans (Q4.out.below.trans ((Q5.out.below.trans (Q6.out.below.mono Q5.out.below.size)).mono Q4.out.below.size))⟩
    -- SLOW }
  case rest =>
    obtain ⟨b1, m1, rfl, rfl, hs1, hat1, hb1⟩ := hcut
    have HS1 := Lib.hid hs1
    have HAT1 := Lib.hid hat1
    have B1 := Lib.hid (BX.out.trans (hb1.mono BX.out.size))
    have HB1 := Lib.hid hb1
    have e1 : ∀ {p : Addr} {v : Value}, W0.cell? p = some v → wc.cell? p = some v := fun hp => by rw [hb1.cell (World.block_lt_of_cell? _ _ hp)]; exact hp
    have K1 := Lib.hid (And.intro (e1 k0) (And.intro (e1 k1) (And.intro (e1 k2) (e1 k3))))
    clear hs1 hat1 hb1 e1 k0 k1 k2 k3
    obtain ⟨k0, k1, k2, k3⟩ := K1.out
    go_upto_region 6 with (fail)
    obtain ⟨wb, rfl⟩ : ∃ wb : World, wb = wc := ⟨_, rfl⟩
    go_cut [11, 12] (fun v11 v12 wc => SecondQ wb l c ins v11 v12 wc)
    case first =>
      -- SLOW {
      go_region_with (first
        | (go_at_call 10; refine (copied_c (HL.out.below B1.out.drew) (by omega)).mono ?_; rintro e w4 ⟨A4, a4, rfl, q4⟩; have B4 := Lib.hid (B1.out.drew.trans (q4.below.mono B1.out.size)); have j0 := cell_go q4.below k0; have j1 := cell_go q4.below k1; have j2 := cell_go q4.below k2; have j3 := cell_go q4.below k3; clear k0 k1 k2 k3; have k0 := j0; have k1 := j1; have k2 := j2; have k3 := j3; clear j0 j1 j2 j3; have Q4 := Lib.hid q4; clear q4)
        | (go_at_call 11; refine (numbers_c (HI.out.below B4.out) (by omega)).mono ?_; rintro e w5 ⟨A5, a5, rfl, q5⟩; have B5 := Lib.hid (B4.out.trans (q5.below.mono B4.out.size)); have j0 := cell_go q5.below k0; have j1 := cell_go q5.below k1; have j2 := cell_go q5.below k2; have j3 := cell_go q5.below k3; clear k0 k1 k2 k3; have k0 := j0; have k1 := j1; have k2 := j2; have k3 := j3; clear j0 j1 j2 j3; have Q5 := Lib.hid q5; clear q5)
        | (go_at_call 9; refine (HN.out _ _ _ _ _ (Rd.of_own (own_gn Q4.out.own Q5.out.below)) (Rd.of_own Q5.out.own)).mono ?_; rintro e w6 ⟨b2, m2, rfl, q6⟩; have Q6 := Lib.hid q6; clear q6))
      all_goals
        go_wp2_with fail
        go_meet
        exact ⟨b2, m2, rfl, rfl, Q6.out.s, Q6.out.at_.mono (Nat.le_trans Q4.out.below.size Q5.out.below.size), (Below.refl _ _).drew.trans (Q4.out.below.trans ((Q5.out.below.trans (Q6.out.below.mono Q5.out.below.size)).mono Q4.out.below.size))⟩
      -- SLOW }
    case rest =>
      obtain ⟨b2, m2, rfl, rfl, hs2, hat2, hb2⟩ := hcut
      have hz0 : W0.heap.size ≤ wb.heap.size := HB1.out.size
      have hat1 : VmAt W0.heap.size wc b1 m1 := HAT1.out.upd (Upd.of_below (F := fun _ => False) hb2) fun _ _ => id
      have hfar : ∀ k, m1.foot b1 k → ¬ m2.foot b2 k := fun k hk hf => by
        have := (HAT1.out.foot_base k hk).2
        have := (hat2.foot_base k hf).1
        omega
      have T0 : Two W0.heap.size W0 wc b1 m1 b2 m2 := ⟨HB1.out.trans (hb2.mono hz0), Nat.le_trans hz0 hb2.size, hat1, hat2.mono hz0, hfar⟩
      have T0 := Lib.hid T0
      have HS2 := Lib.hid hs2
      clear hs2 hat2 hb2 hat1 hfar hz0 k0 k1 k2 k3 K1 HAT1 HB1 B1 HN HI
      go_wp2_with fail
      refine (RF.out _ _ _ _ T0.out.v1 HS1.out).mono ?_
      rintro e w3 ⟨rfl, m3, g3, s3⟩
      have T3 := Lib.hid (T0.out.go1 g3)
      have HS3 := Lib.hid s3
      clear g3 s3 T0 HS1
      go_wp2_with fail
      refine (copied_c (HL.out.below (BX.out.trans (T3.out.below.mono BX.out.size))) (by omega)).mono ?_
      rintro e w4 ⟨A4, a4, rfl, q4⟩
      have T4 := Lib.hid (T3.out.grow q4.below)
      have hcap4 := own_cap q4.own
      have Q4 := Lib.hid q4
      clear q4 T3
      go_wp2_with fail
      refine (callsIn_wide.1 (bound_in (Rd.of_own Q4.out.own) HV.out HS.out hcap4)).mono ?_
      rintro e w5 ⟨ba, bb, rfl, hco, hb5⟩
      obtain ⟨hlo, hhi⟩ := hco _ HCO.out
      have T5 := Lib.hid (T4.out.grow hb5)
      have dlo : decide (t.spent < ba) = false := by simpa using hlo
      have dhi : decide (bb < t.spent) = false := by simpa using hhi
      have dne : (t.spent != t.spent) = false := by simp
      clear hco hb5 T4 Q4 hcap4 hlo hhi
      go_wp2_with fail
      refine (spent_end T5.out.v1 HS3.out).mono ?_
      rintro e w' ⟨rfl, rfl⟩
      go_wp2_with fail
      clear dlo dhi dne
      go_loopg [11, 19] bs.length (fun k v11 v19 wr => AgainRel W0.heap.size W0 l c H t b1 m3 bs.length k v11 v19 wr)
      case atStart => exact ⟨0, b2, m2, by omega, rfl, rfl, T5.out, by rw [HS2.out]; exact HG0.out⟩
      case round =>
        obtain ⟨j, b4, m4, hj, hv19, hv11, hT, hG⟩ := hrel.ex
        subst hv19 hv11
        clear hrel
        have HT := Lib.hid hT
        have HG := Lib.hid hG
        clear hT hG
        cases gk with
        | zero =>
          have hlt : decide ((j : Int) < (bs.length : Int)) = false := by simp; omega
          go_wp2_with fail
          refine (run_last hl1 HM.out HS.out HG.out _ _ _ _ HT.out.v2 rfl).mono ?_
          rintro e w9 ⟨⟨r4, rfl⟩, m6, g6, s6⟩
          have T9 := Lib.hid (HT.out.go2 g6)
          have HS6 := Lib.hid s6
          clear g6 s6 HT
          go_wp2_with fail
          refine (outs_end T9.out.v1 HS3.out TE.out SM.out.2.2.2).mono ?_
          rintro e w10 ⟨O2, oc2, rfl, q10⟩
          have T10 := Lib.hid (T9.out.grow q10.below)
          have Q10 := Lib.hid q10
          clear q10 T9
          go_wp2_with fail
          refine (outs_end T10.out.v2 HS6.out TE.out SM.out.2.2.2).mono ?_
          rintro e w11 ⟨O3, oc3, rfl, q11⟩
          have T11 := Lib.hid (T10.out.grow q11.below)
          have Q11 := Lib.hid q11
          clear q11 T10
          have ess : (t.spent == t.spent) = true := by simp
          go_wp2_with fail
          refine (equal_own (own_gn Q10.out.own Q11.out.below) Q11.out.own SM.out.2.2.2).mono ?_
          rintro e w12 ⟨rfl, hu⟩
          have T12 := Lib.hid (T11.out.upd hu (fun _ => False.elim) (fun _ => False.elim))
          clear hu T11
          go_wp2_with fail
          refine (spent_end T12.out.v2 HS6.out).mono ?_
          rintro e w' ⟨rfl, rfl⟩
          go_wp2_with fail
          refine (works_c _).mono ?_
          rintro e w13 ⟨rfl, b13⟩
          have B13 := Lib.hid b13
          clear b13
          go_wp2_with fail
          go_ret
          have hall := T12.out.below.trans (B13.out.mono T12.out.size)
          exact ⟨rfl, BX.out.trans (hall.mono BX.out.size)⟩
        | succ gk =>
          have hlt : decide ((j : Int) < (bs.length : Int)) = true := by simp; omega
          have hjl : j < bs.length := by omega
          obtain ⟨k, hk⟩ : ∃ k : Nat, m4.at_ = k := ⟨m4.at_.toNat, by have := HG.out.safe.a0; have e : m4.s.at_ = m4.at_ := rfl; omega⟩
          have hkl : k < l.length := by have := HG.out.safe.a1; have e : m4.s.at_ = m4.at_ := rfl; omega
          have hsm := HG.out.safe.small' HM.out
          have SM4 := Lib.hid (show m4.stack.length ≤ 1000000 ∧ m4.slots.length ≤ 1000000 ∧ m4.ins.length ≤ 1000000 ∧ m4.outs.length ≤ 1000000 from hsm)
          have he1 : (m4.stack.length : Int) = H k := by
            cases hen : m4.ended with
            | true => have := (HG.out.stop hen).2; rw [← hk]; exact this
            | false => have := HG.out.safe.high hen; rw [← hk]; exact this
          have hop : m4.ended = true → (insAt l k).op = 23 := fun hen => by rw [← hk]; exact (HG.out.stop hen).1
          have hsp : 0 ≤ m4.spent ∧ m4.spent ≤ 1099511627776 := by
            have a := HG.out.safe.sp0
            have b := HG.out.safe.sp2
            have d := HG.out.safe.a1
            have e1 : m4.s.spent = m4.spent := rfl
            rw [e1] at a b
            omega
          have hll : (m4.slots.length : Int) = c.slots ∧ (m4.ins.length : Int) = c.reads ∧ (m4.outs.length : Int) = c.writes := ⟨HG.out.safe.slots, HG.out.safe.ins, HG.out.safe.outs⟩
          have hms : m4.s = ⟨c, l, (k : Nat), m4.stack, m4.slots, m4.ins, m4.outs, m4.spent, m4.ended⟩ := by
            have a := HG.out.safe.code
            have b := HG.out.safe.cf
            have e : m4.s = ⟨m4.cf, m4.code, m4.at_, m4.stack, m4.slots, m4.ins, m4.outs, m4.spent, m4.ended⟩ := rfl
            have e1 : m4.s.code = m4.code := rfl
            have e2 : m4.s.cf = m4.cf := rfl
            rw [e1] at a
            rw [e2] at b
            rw [e, a, b, hk]
          have HK := Lib.hid hk
          have HE1 := Lib.hid he1
          have HOP := Lib.hid hop
          have HSP := Lib.hid hsp
          have HLL := Lib.hid hll
          have HMS := Lib.hid hms
          have cblk : wr.heap[w.heap.size]? = some (.cells #[.int .i64 c.slots, .int .i64 c.reads, .int .i64 c.writes, .int .i64 c.stack] 24 (0, 0)) := (HT.out.below.block w.heap.size (by have := HSZ.out; omega)).trans HBLK.out
          have CBLK := Lib.hid cblk
          clear hk he1 hop hsp hll hms hsm cblk
          go_wp2_with fail
          refine (save_k HT.out.v2 HK.out SM4.out).mono ?_
          rintro e w6 ⟨A1, a1, A2, a2, A3, a3, A4, a4, rfl, q6⟩
          have hzr : w.heap.size < wr.heap.size := (Array.getElem?_eq_some_iff.1 CBLK.out).1
          have Q6 := Lib.hid q6
          have hz6 : wr.heap.size ≤ w6.heap.size := q6.below.size
          clear q6
          go_upto_region 17 with (fail)
          obtain ⟨WX, hWX⟩ : ∃ WX, WX = w6.alloc (.cells #[.int .i64 (k : Nat), .slice A1 m4.stack.length a1, .slice A2 m4.slots.length a2, .slice A3 m4.ins.length a3, .slice A4 m4.outs.length a4, .int .i64 m4.spent, .bool m4.ended] 37) := ⟨_, rfl⟩
          rw [← hWX]
          have sx : SavedX wr.heap.size (w6.heap.size + 1) WX w6.heap.size #[.int .i64 (k : Nat), .slice A1 m4.stack.length a1, .slice A2 m4.slots.length a2, .slice A3 m4.ins.length a3, .slice A4 m4.outs.length a4, .int .i64 m4.spent, .bool m4.ended] m4.stack m4.slots m4.ins m4.outs (.slice A1 m4.stack.length a1) (.slice A2 m4.slots.length a2) (.slice A3 m4.ins.length a3) (.slice A4 m4.outs.length a4) := by rw [hWX]; exact SavedX.new Q6.out
          have bX : Below w6.heap.size w6 WX := by rw [hWX]; exact (Below.refl _ _).alloc (Nat.le_refl _) _
          have hzX : WX.heap.size = w6.heap.size + 1 := by rw [hWX]; simp
          have cX := (bX.block w.heap.size (by omega)).trans ((Q6.out.below.block w.heap.size hzr).trans CBLK.out)
          have HT17 : HeldM w.heap.size w6.heap.size c (k : Nat) (.slice A1 m4.stack.length a1) (.slice A2 m4.slots.length a2) (.slice A3 m4.ins.length a3) (.slice A4 m4.outs.length a4) m4.spent m4.ended WX WX := HeldL.m ⟨cell_blk cX 0, cell_blk cX 1, cell_blk cX 2, cell_blk cX 3, cell_blk sx.blk 0, cell_blk sx.blk 1, cell_blk sx.blk 2, cell_blk sx.blk 3, cell_blk sx.blk 4, cell_blk sx.blk 5, cell_blk sx.blk 6, Below.refl _ _⟩
          have TX := Lib.hid ((HT.out.grow Q6.out.below).grow bX)
          have SX := Lib.hid sx
          have bwX : Below w.heap.size w WX := BX.out.trans (TX.out.below.mono BX.out.size)
          have BWX := Lib.hid bwX
          have HZX := Lib.hid hzX
          clear hWX sx bX hzX cX bwX
          go_region_held3 (fun W => W.cell? ⟨w.heap.size, 0, none⟩ = some (.int .i64 c.slots) ∧ W.cell? ⟨w.heap.size, 1, none⟩ = some (.int .i64 c.reads) ∧ W.cell? ⟨w.heap.size, 2, none⟩ = some (.int .i64 c.writes) ∧ W.cell? ⟨w.heap.size, 3, none⟩ = some (.int .i64 c.stack) ∧ W.cell? ⟨w6.heap.size, 0, none⟩ = some (.int .i64 (k : Nat)) ∧ W.cell? ⟨w6.heap.size, 1, none⟩ = some (.slice A1 m4.stack.length a1) ∧ W.cell? ⟨w6.heap.size, 2, none⟩ = some (.slice A2 m4.slots.length a2) ∧ W.cell? ⟨w6.heap.size, 3, none⟩ = some (.slice A3 m4.ins.length a3) ∧ W.cell? ⟨w6.heap.size, 4, none⟩ = some (.slice A4 m4.outs.length a4) ∧ W.cell? ⟨w6.heap.size, 5, none⟩ = some (.int .i64 m4.spent) ∧ W.cell? ⟨w6.heap.size, 6, none⟩ = some (.bool m4.ended) ∧ HeldL w.heap.size w6.heap.size c (k : Nat) (.slice A1 m4.stack.length a1) (.slice A2 m4.slots.length a2) (.slice A3 m4.ins.length a3) (.slice A4 m4.outs.length a4) m4.spent m4.ended WX W)
            ((show HeldM w.heap.size w6.heap.size c (k : Nat) (.slice A1 m4.stack.length a1) (.slice A2 m4.slots.length a2) (.slice A3 m4.ins.length a3) (.slice A4 m4.outs.length a4) m4.spent m4.ended WX _; (repeat (first | with_reducible exact HT17 | with_reducible apply heldM_drew | with_reducible apply heldM_alloc | with_reducible refine heldM_clone ?_ (by assumption) | with_reducible refine heldM_load ?_ (by assumption)))))
            ((first | (go_at_call 10; refine (copied_c ((HL.out.below BWX.out).drew) (by omega)).mono ?_; rintro e w7 ⟨A7, a7, rfl, q7⟩; have Q7 := Lib.hid q7)
                    | (go_at_call 23; refine (load_ok (Rd.of_own Q7.out.own) (((Rd.of_own SX.out.o.o1).drew).below Q7.out.below) (((Rd.of_own SX.out.o.o2).drew).below Q7.out.below) (((Rd.of_own SX.out.o.o3).drew).below Q7.out.below) (((Rd.of_own SX.out.o.o4).drew).below Q7.out.below) HV.out HS.out H0.out HH.out hkl HLL.out.1 HLL.out.2.1 HLL.out.2.2 HSP.out.1 HSP.out.2 HOP.out HE1.out).mono ?_; rintro e w8 ⟨b5, m5, rfl, q8⟩; have Q8 := Lib.hid q8)))
          have b8 : Below WX.heap.size WX w8 := ((Below.refl _ _).drew).trans (Q7.out.below.trans (Q8.out.below.mono Q7.out.below.size))
          have hs5 : m5.s = m4.s := Q8.out.s.trans HMS.out.symm
          have hF4 : ∀ k, m4.foot b4 k → k < wr.heap.size := fun k hk => (HT.out.v2.foot_base k hk).2
          have hF3 : ∀ k, m3.foot b1 k → k < wr.heap.size := fun k hk => (HT.out.v1.foot_base k hk).2
          have z7 : WX.heap.size ≤ w7.heap.size := Q7.out.below.size
          have hF5 : ∀ k, m5.foot b5 k → WX.heap.size ≤ k ∧ k < w8.heap.size := fun k hk => ⟨Nat.le_trans z7 (Q8.out.at_.foot_base k hk).1, (Q8.out.at_.foot_base k hk).2⟩
          have hB5 : W0.heap.size ≤ WX.heap.size := TX.out.size
          have V8 := Lib.hid (Q8.out.at_.mono (Nat.le_trans hB5 z7))
          have S8 := SX.out.grow b8
          have z8 : WX.heap.size ≤ w8.heap.size := b8.size
          have e0 := cell_blk S8.blk 0
          have e1 := cell_blk S8.blk 1
          have e2 := cell_blk S8.blk 2
          have e3 := cell_blk S8.blk 3
          have e4 := cell_blk S8.blk 4
          have e5 := cell_blk S8.blk 5
          have e6 := cell_blk S8.blk 6
          have T8 := Lib.hid (TX.out.grow b8)
          have S8 := Lib.hid S8
          have B8 := Lib.hid (BWX.out.trans (b8.mono BWX.out.size))
          have HS5 := Lib.hid hs5
          have HF := Lib.hid (And.intro hF3 (And.intro hF4 hF5))
          have hzz : wr.heap.size ≤ WX.heap.size ∧ WX.heap.size ≤ w8.heap.size ∧ WX.heap.size = w6.heap.size + 1 ∧ w.heap.size < wr.heap.size := by
            have := HZX.out
            omega
          have HZ := Lib.hid hzz
          rename_i hHeld
          clear hHeld HT17 q7 Q7 q8 Q8 hs5 hF3 hF4 hF5 hB5 z7 z8 b8 hz6 hzr hzz
          go_upto_region 20 with (fail)
          go_wp2_with fail
          refine (copy_k (Rd.of_own S8.out.o.o1) (Rd.of_own S8.out.o.o2) (Rd.of_own S8.out.o.o3) (Rd.of_own S8.out.o.o4) SM4.out).mono ?_
          rintro e w9 ⟨B1, f1, B2, f2, B3, f3, B4, f4, rfl, q9⟩
          clear e0 e1 e2 e3 e4 e5 e6
          have Q9 := Lib.hid q9
          clear q9
          go_upto_region 21 with (fail)
          obtain ⟨WZ, hWZ⟩ : ∃ WZ, WZ = w9.alloc (.cells #[.int .i64 (k : Nat), .slice B1 m4.stack.length f1, .slice B2 m4.slots.length f2, .slice B3 m4.ins.length f3, .slice B4 m4.outs.length f4, .int .i64 m4.spent, .bool m4.ended] 37) := ⟨_, rfl⟩
          rw [← hWZ]
          have sz : SavedX w8.heap.size (w9.heap.size + 1) WZ w9.heap.size #[.int .i64 (k : Nat), .slice B1 m4.stack.length f1, .slice B2 m4.slots.length f2, .slice B3 m4.ins.length f3, .slice B4 m4.outs.length f4, .int .i64 m4.spent, .bool m4.ended] m4.stack m4.slots m4.ins m4.outs (.slice B1 m4.stack.length f1) (.slice B2 m4.slots.length f2) (.slice B3 m4.ins.length f3) (.slice B4 m4.outs.length f4) := by rw [hWZ]; exact SavedX.new Q9.out
          have bZ : Below w8.heap.size w8 WZ := by rw [hWZ]; exact Q9.out.below.trans (((Below.refl _ _).alloc (Nat.le_refl _) _).mono Q9.out.below.size)
          have SZ := Lib.hid sz
          have SX1 := Lib.hid (S8.out.grow bZ)
          have TZ := Lib.hid (T8.out.grow bZ)
          have VZ := Lib.hid (V8.out.upd (Upd.of_below (F := fun _ => False) bZ) fun _ _ => id)
          have BZ := Lib.hid (B8.out.trans (bZ.mono B8.out.size))
          clear hWZ sz bZ T8 S8 V8 SX TX BWX
          obtain ⟨g, o, rfl, hcap, hg, hcell⟩ := rd_byte HBS.out hjl
          obtain ⟨y0, y1⟩ := HBV.out (bs.getD j 0) (by rw [List.getD_eq_getElem?_getD, List.getElem?_eq_getElem hjl]; exact List.getElem_mem _)
          have hcell1 := (BZ.out.cell (p := ⟨g, o + j, none⟩) hg).trans hcell
          obtain ⟨y, hy⟩ : ∃ y, y = bs.getD j 0 := ⟨_, rfl⟩
          rw [← hy] at hcell1 hcell y0 y1
          have HCELL := Lib.hid hcell
          clear hcell hy
          have i0 : (0 : Int) ≤ (j : Int) := by omega
          have i1 : (j : Int) < (bs.length : Int) := by omega
          go_upto_region 21 with (fail)
          go_wp2_with fail
          obtain ⟨s6, G6, R6⟩ := run_step hl1 HM.out HS.out HG.out (show 0 ≤ y % 16 by omega)
          refine (R6 _ _ _ _ TZ.out.v2 rfl).mono ?_
          rintro e w10 ⟨⟨r6, rfl⟩, m6, g6, hs6⟩
          clear hcell1
          have T10 := Lib.hid (TZ.out.go2 g6)
          have V10 := Lib.hid (VZ.out.upd g6.upd (fun q hf hq => by have := HF.out.2.1 q hq; have := (HF.out.2.2 q hf).1; have := HZ.out; omega))
          have SX2 := SX1.out.upd g6.upd (fun q q0 q1 hf => by have := HF.out.2.1 q hf; omega)
          have SZ2 := SZ.out.upd g6.upd (fun q q0 q1 hf => by have := HF.out.2.1 q hf; have := HZ.out; omega)
          have e0 := cell_blk SX2.blk 0
          have e1 := cell_blk SX2.blk 1
          have e2 := cell_blk SX2.blk 2
          have e3 := cell_blk SX2.blk 3
          have e4 := cell_blk SX2.blk 4
          have e5 := cell_blk SX2.blk 5
          have e6 := cell_blk SX2.blk 6
          have q0 := cell_blk SZ2.blk 0
          have q1 := cell_blk SZ2.blk 1
          have q2 := cell_blk SZ2.blk 2
          have q3 := cell_blk SZ2.blk 3
          have q4 := cell_blk SZ2.blk 4
          have q5 := cell_blk SZ2.blk 5
          have q6 := cell_blk SZ2.blk 6
          have SX2 := Lib.hid SX2
          have SZ2 := Lib.hid SZ2
          have G6 := Lib.hid G6
          have R6 := Lib.hid R6
          clear g6 hs6 TZ VZ SX1 SZ BZ
          go_upto_region 22 with (fail)
          go_wp2_with fail
          refine (same_c SX2.out.o SZ2.out.o SM4.out.1 SM4.out.2.1 SM4.out.2.2.1 SM4.out.2.2.2).mono ?_
          rintro e w11 ⟨rfl, b11⟩
          clear e0 e1 e2 e3 e4 e5 e6 q0 q1 q2 q3 q4 q5 q6
          have T11 := Lib.hid (T10.out.grow b11)
          have V11 := Lib.hid (V10.out.upd (Upd.of_below (F := fun _ => False) b11) fun _ _ => id)
          have SX3 := Lib.hid (SX2.out.grow b11)
          have SZ3 := Lib.hid (SZ2.out.grow b11)
          clear b11 T10 V10 SX2 SZ2
          have B11 := BX.out.trans (T11.out.below.mono BX.out.size)
          have hcell1 := (B11.cell (p := ⟨g, o + j, none⟩) hg).trans HCELL.out
          clear B11
          go_upto_region 25 with (fail)
          go_wp2_with fail
          have TN : Two W0.heap.size W0 w11 b1 m3 b5 m5 := ⟨T11.out.below, T11.out.size, T11.out.v1, V11.out, fun q hq hf => by have := HF.out.1 q hq; have := (HF.out.2.2 q hf).1; have := HZ.out; omega⟩
          have TN := Lib.hid TN
          refine (R6.out _ _ _ _ TN.out.v2 HS5.out).mono ?_
          rintro e w12 ⟨⟨r7, rfl⟩, m7, g7, hs7⟩
          clear hcell1
          have T12 := Lib.hid (TN.out.go2 g7)
          have SX4 := SX3.out.upd g7.upd (fun q q0 q1 hf => by have := (HF.out.2.2 q hf).1; have := HZ.out; omega)
          have SZ4 := SZ3.out.upd g7.upd (fun q q0 q1 hf => by have := (HF.out.2.2 q hf).2; omega)
          have e0 := cell_blk SX4.blk 0
          have e1 := cell_blk SX4.blk 1
          have e2 := cell_blk SX4.blk 2
          have e3 := cell_blk SX4.blk 3
          have e4 := cell_blk SX4.blk 4
          have e5 := cell_blk SX4.blk 5
          have e6 := cell_blk SX4.blk 6
          have q0 := cell_blk SZ4.blk 0
          have q1 := cell_blk SZ4.blk 1
          have q2 := cell_blk SZ4.blk 2
          have q3 := cell_blk SZ4.blk 3
          have q4 := cell_blk SZ4.blk 4
          have q5 := cell_blk SZ4.blk 5
          have q6 := cell_blk SZ4.blk 6
          have SX4 := Lib.hid SX4
          have SZ4 := Lib.hid SZ4
          have HS7 := Lib.hid hs7
          clear g7 hs7 TN T11 V11 SX3 SZ3
          go_upto_region 26 with (fail)
          go_wp2_with fail
          refine (same_c SX4.out.o SZ4.out.o SM4.out.1 SM4.out.2.1 SM4.out.2.2.1 SM4.out.2.2.2).mono ?_
          rintro e w13 ⟨rfl, b13⟩
          clear e0 e1 e2 e3 e4 e5 e6 q0 q1 q2 q3 q4 q5 q6
          have T13 := Lib.hid (T12.out.grow b13)
          clear b13 T12 SX4 SZ4
          go_wp2_with fail
          go_roundg gk
          case measure => omega
          case rel => exact ⟨j + 1, b5, m7, by omega, congrArg (Value.int .i64) (by first | omega | go_num), rfl, T13.out, by rw [HS7.out]; exact G6.out⟩

end Go.Proofs.Ytihajgmknhifiaa
