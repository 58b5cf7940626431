/- What verify's state tells of an instruction: the calls of slot and checks. -/
import Derived.Test.YtihajgmknhifiaaVh
namespace Go.Proofs.Ytihajgmknhifiaa
open Go.RowKit
set_option linter.unusedVariables false

/-- The state at an instruction. -/
structure St where
  high : Int
  has : List Int
  wrote : Int
deriving DecidableEq

def St.cells (s : St) : Array Value := ((Value.int .i64 s.high :: s.has.map (Value.int .u64)) ++ [Value.int .u64 s.wrote]).toArray

def bitOf (n : Int) : Int := IntKind.u64.wrap (2 ^ n.toNat)
def andU (x y : Int) : Int := bits .and .u64 x y
def orU (x y : Int) : Int := bits .or .u64 x y
def wd (s : St) (k : Int) : Int := s.has.getD k.toNat 0
def allBits (n : Int) : Int := IntKind.u64.wrap (IntKind.u64.wrap (2 ^ n.toNat) - 1)

/-- What an instruction asks of the state: its own error, and the state behind it. -/
def checksM (i : In) (c : Cf) (s : St) : Int × St :=
  if mayI i = false then (180, s)
  else if s.high < takes i.op ∨ c.stack < s.high - takes i.op + gives i.op then (191, s)
  else
    let s1 : St := { s with high := s.high + (gives i.op - takes i.op) }
    if i.op = 2 then
      (if c.slots ≤ i.arg ∨ andU (wd s (i.arg / 64)) (bitOf (i.arg % 64)) = 0 then (192, s1) else (0, { s1 with has := s.has.set (i.arg / 64).toNat (orU (wd s (i.arg / 64)) (bitOf (i.arg % 64))) }))
    else if i.op = 3 then
      (if c.slots ≤ i.arg then (192, s1) else (0, { s1 with has := s.has.set (i.arg / 64).toNat (orU (wd s (i.arg / 64)) (bitOf (i.arg % 64))) }))
    else if i.op = 4 then (if c.reads ≤ i.arg then (193, s1) else (0, s1))
    else if i.op = 5 then (if c.writes ≤ i.arg ∨ andU s.wrote (bitOf i.arg) ≠ 0 then (193, s1) else (0, { s1 with wrote := orU s.wrote (bitOf i.arg) }))
    else if i.op = 23 then (if 0 < s1.high then (191, s1) else if s.wrote ≠ allBits c.writes then (193, s1) else (0, s1))
    else (0, s1)

theorem slot_c (n : Int) (h0 : 0 ≤ n) (h1 : n < 512) (w : World) : Calls Try.prog 77 #[.int .i64 n] w fun e w' => e = .returned (.tuple #[.int .i64 (n / 64), .int .u64 (bitOf (n % 64))]) ∧ Drawn w w' := by
  go_enter Try.func77, Try.ntmps77
  go_wp2_with fail
  go_quiet (fail)
  go_wp2
  go_ret2
  exact ⟨rfl, nq, rfl⟩

/-- The block of a state. -/
structure StAt (w : World) (b : Nat) (s : St) : Prop where
  blk : w.heap[b]? = some (.cells s.cells 98 (0, 0))
  len : s.has.length = 8
theorem StAt.c0 {w : World} {b : Nat} {s : St} (h : StAt w b s) : w.cell? ⟨b, 0, none⟩ = some (.int .i64 s.high) := by
  rw [cell_blk h.blk]; simp [St.cells]
theorem StAt.ck {w : World} {b : Nat} {s : St} (h : StAt w b s) (k : Int) (h0 : 0 ≤ k) (h1 : k < 8) : w.cell? ⟨b, 1 + k.toNat, none⟩ = some (.int .u64 (wd s k)) := by
  rw [cell_blk h.blk]
  have hk : k.toNat < s.has.length := by rw [h.len]; omega
  have hl := h.len
  simp only [St.cells, List.getElem?_toArray, List.cons_append, Nat.add_comm 1 k.toNat, List.getElem?_cons_succ]
  rw [List.getElem?_append_left (by simpa using hk)]
  simp [wd, hk]
theorem StAt.c9 {w : World} {b : Nat} {s : St} (h : StAt w b s) : w.cell? ⟨b, 9, none⟩ = some (.int .u64 s.wrote) := by
  rw [cell_blk h.blk]
  have hl := h.len
  simp only [St.cells, List.getElem?_toArray, List.cons_append]
  rw [show (9 : Nat) = 8 + 1 from rfl, List.getElem?_cons_succ, List.getElem?_append_right (by simp [hl])]
  simp [hl]
theorem StAt.fz {w : World} {b : Nat} {s : St} (h : StAt w b s) (i : Nat) : w.frozen? ⟨b, i, none⟩ = false := frozen_blk h.blk i
theorem StAt.lt {w : World} {b : Nat} {s : St} (h : StAt w b s) : b < w.heap.size := (Array.getElem?_eq_some_iff.1 h.blk).1
theorem StAt.setHigh {w : World} {b : Nat} {s : St} (h : StAt w b s) (x : Int) : StAt (w.setCell ⟨b, 0, none⟩ (.int .i64 x)) b { s with high := x } :=
  ⟨by rw [heap_setCell w b _ _ _ h.blk]; simp [St.cells], h.len⟩
theorem StAt.setHas {w : World} {b : Nat} {s : St} (h : StAt w b s) (k : Int) (h0 : 0 ≤ k) (h1 : k < 8) (x : Int) : StAt (w.setCell ⟨b, 1 + k.toNat, none⟩ (.int .u64 x)) b { s with has := s.has.set k.toNat x } := by
  have hl := h.len
  refine ⟨?_, by simpa using hl⟩
  rw [heap_setCell w b _ _ _ h.blk]
  have hk : k.toNat < (s.has.map (Value.int .u64)).length := by simp [hl]; omega
  simp only [St.cells, List.setIfInBounds_toArray, Nat.add_comm 1 k.toNat, List.cons_append, List.set_cons_succ, List.map_set]
  rw [List.set_append_left _ _ hk]
theorem StAt.setWrote {w : World} {b : Nat} {s : St} (h : StAt w b s) (x : Int) : StAt (w.setCell ⟨b, 9, none⟩ (.int .u64 x)) b { s with wrote := x } := by
  have hl := h.len
  refine ⟨?_, hl⟩
  rw [heap_setCell w b _ _ _ h.blk]
  simp only [St.cells, List.setIfInBounds_toArray, List.cons_append]
  rw [show (9 : Nat) = 8 + 1 from rfl, List.set_cons_succ, List.set_append_right _ _ (by simp [hl])]
  simp [hl]
theorem StAt.upd {w w' : World} {b : Nat} {s : St} {F : Nat → Prop} (h : StAt w b s) (hu : Upd F w w') (hn : ¬ F b) : StAt w' b s := ⟨(hu.block b h.lt hn).trans h.blk, h.len⟩
theorem StAt.alloc {w : World} {b : Nat} {s : St} (h : StAt w b s) (o : Obj) : StAt (w.alloc o) b s := h.upd (F := fun _ => False) ((Upd.refl _ _).alloc o) id
theorem StAt.drew {w : World} {b : Nat} {s : St} (h : StAt w b s) : StAt w.drew b s := h.upd (F := fun _ => False) (Upd.refl _ _).drew id
theorem StAt.drewN {w : World} {b : Nat} {s : St} (h : StAt w b s) (n : Nat) : StAt (w.drewN n) b s := h.upd (F := fun _ => False) ((Upd.refl _ _).drewN n) id

/-- What 'checks' leaves: of what was there its state alone has turned; where it tells no error, it is the next state. -/
structure ChkQ (w : World) (b : Nat) (r : Int × St) (w' : World) : Prop where
  upd : Upd (fun k => k = b) w w'
  ok : r.1 = 0 → StAt w' b r.2

def Cf.ok (c : Cf) : Prop := mayC c = true

end Go.Proofs.Ytihajgmknhifiaa
