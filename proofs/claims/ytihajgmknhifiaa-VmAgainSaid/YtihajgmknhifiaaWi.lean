/- The call of vm's Save. -/
import Derived.Test.YtihajgmknhifiaaWd
namespace Go.Proofs.Ytihajgmknhifiaa
open Go.RowKit
set_option linter.unusedVariables false

set_option maxHeartbeats 4000000 in
set_option maxRecDepth 8000 in
theorem save_c {base : Nat} {w : World} {b : Nat} {m : Vm} (h : VmAt base w b m) (b1 : m.stack.length ≤ 1000000) (b2 : m.slots.length ≤ 1000000) (b3 : m.ins.length ≤ 1000000) (b4 : m.outs.length ≤ 1000000) :
    Calls Try.prog 13 #[.pointer (some ⟨b, 0, none⟩)] w fun e w' => ∃ v1 v2 v3 v4, e = .returned (.tuple #[.agg #[.int .i64 m.at_, v1, v2, v3, v4, .int .i64 m.spent, .bool m.ended], .int .i64 0]) ∧ CopyQ w m.stack m.slots m.ins m.outs v1 v2 v3 v4 w' := by
  have c5 := h.c5
  have c6 := h.c6
  have c7 := h.c7
  have c8 := h.c8
  have c9 := h.c9
  have c10 := h.c10
  have c11 := h.c11
  have lt := h.lt
  have Z : Obj := .cells #[.int .i64 0, .slice none 0 0, .slice none 0 0, .slice none 0 0, .slice none 0 0, .int .i64 0, .bool false] 37
  have hcp := copied_vm (w := w.alloc (.cells #[.int .i64 0, .slice none 0 0, .slice none 0 0, .slice none 0 0, .slice none 0 0, .int .i64 0, .bool false] 37)) (a := m.at_) (sp := m.spent) (en := m.ended)
    ((Rd.of_own h.rs).alloc _) ((Rd.of_own h.rl).alloc _) ((Rd.of_own h.ri).alloc _) ((Rd.of_own h.ro).alloc _) b1 b2 b3 b4
  have HC := Lib.hid hcp
  have lt1 : b < w.heap.size + 1 := by omega
  clear hcp h Z
  go_enter Try.func13, Try.ntmps13
  go_wp2_with (go_at_call 31; refine HC.out.mono ?_; rintro e w1 ⟨v1, v2, v3, v4, rfl, hq⟩; obtain ⟨A1, d1, rfl⟩ := own_slice hq.o1; obtain ⟨A2, d2, rfl⟩ := own_slice hq.o2; obtain ⟨A3, d3, rfl⟩ := own_slice hq.o3; obtain ⟨A4, d4, rfl⟩ := own_slice hq.o4; have hblk := (hq.below.block w.heap.size (by simp)).trans (heap_alloc_new w _); have g0 := cell_blk hblk 0; have g1 := cell_blk hblk 1; have g2 := cell_blk hblk 2; have g3 := cell_blk hblk 3; have g4 := cell_blk hblk 4; have g5 := cell_blk hblk 5; have g6 := cell_blk hblk 6; have gf := fun i => frozen_blk hblk i; have HB := Lib.hid hblk; have HQ := Lib.hid hq; clear hblk hq)
  (try simp only [Exit.inBlock, Exit.then])
  refine bodyPost_ret (by rw [results_cell_tmp rfl]; go_simp; rfl) rfl ?_
  refine ⟨_, _, _, _, rfl, own_set (w := w) ?_ (Nat.le_refl _) HB.out⟩
  have q := HQ.out
  have e : w.heap.size ≤ (w.alloc (.cells #[.int .i64 0, .slice none 0 0, .slice none 0 0, .slice none 0 0, .slice none 0 0, .int .i64 0, .bool false] 37)).heap.size := by simp
  exact ⟨own_mono q.o1 e, own_mono q.o2 e, own_mono q.o3 e, own_mono q.o4 e, q.f12, q.f13, q.f14, q.f23, q.f24, q.f34, ((Below.refl _ _).alloc (Nat.le_refl _) _).trans (q.below.mono e)⟩

end Go.Proofs.Ytihajgmknhifiaa
