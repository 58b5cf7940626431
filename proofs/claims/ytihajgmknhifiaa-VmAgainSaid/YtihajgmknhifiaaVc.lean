/- The calls of the small functions of packages code, verify, num and vm that only reckon: size, Cycles, May, Effect, truth, Div, Mod, what is made of two numbers. -/
import Derived.Test.YtihajgmknhifiaaVb
namespace Go.Proofs.Ytihajgmknhifiaa
open Go.RowKit

/-! ### What they reckon -/
def opSize (a : Int) : Int := if a = 1 then 8 else if a = 2 ∨ a = 3 ∨ a = 21 ∨ a = 22 then 2 else if a = 4 ∨ a = 5 then 1 else 0
def opIs (a : Int) : Bool := decide (1 ≤ a) && decide (a ≤ 23)
def cyc (a : Int) : Int := if opIs a = true then (if a = 4 ∨ a = 5 ∨ a = 22 then 2 else if a = 10 then 3 else if a = 11 ∨ a = 12 then 8 else 1) else 0
def takes (a : Int) : Int := if 8 ≤ a ∧ a ≤ 20 then 2 else if a = 6 ∨ a = 7 ∨ a = 3 ∨ a = 5 ∨ a = 22 then 1 else 0
def gives (a : Int) : Int := if 8 ≤ a ∧ a ≤ 20 ∨ a = 6 ∨ a = 7 ∨ a = 1 ∨ a = 2 ∨ a = 4 then 1 else 0
def truth (b : Bool) : Int := if b then 1 else 0
def divI (a b : Int) : Int := if b = -1 then wrap64 (-a) else if b = 1 then a else if b = 0 then 0 else wrap64 (a.tdiv b)
def modI (a b : Int) : Int := if b = -1 ∨ b = 0 ∨ b = 1 then 0 else a.tmod b
def bin (op d t : Int) : Int :=
  if op = 8 then wrap64 (d + t) else if op = 9 then wrap64 (d - t) else if op = 10 then wrap64 (d * t) else if op = 11 then divI d t else if op = 12 then modI d t
  else if op = 13 then truth (d == t) else if op = 14 then truth (d != t) else if op = 15 then truth (decide (d < t)) else if op = 16 then truth (decide (d ≤ t))
  else if op = 17 then truth (decide (t < d)) else if op = 18 then truth (decide (t ≤ d)) else if op = 19 then truth (d != 0 && t != 0) else truth (d != 0 || t != 0)
def mayI (i : In) : Bool :=
  opIs i.op && !(opSize i.op == 0 && i.arg != 0) &&
  (if i.op = 2 ∨ i.op = 3 then decide (0 ≤ i.arg) && decide (i.arg < 512) else if i.op = 4 ∨ i.op = 5 then decide (0 ≤ i.arg) && decide (i.arg < 64)
   else if i.op = 21 ∨ i.op = 22 then decide (1 ≤ i.arg) && decide (i.arg ≤ 4096) else true)
def within (n least most : Int) : Bool := decide (least ≤ n) && decide (n ≤ most)
def mayC (c : Cf) : Bool := within c.slots 0 512 && within c.reads 0 64 && within c.writes 0 64 && within c.stack 1 256

/-! ### Their calls -/
set_option maxHeartbeats 1000000 in
theorem size_c (a : Int) (w : World) :
    Calls Try.prog 68 #[.int .u8 a] w fun e w' => e = .returned (.tuple #[.int .i64 (opSize a), .bool (opIs a)]) ∧ w = w' := by
  go_enter Try.func68, Try.ntmps68
  go_wp2
  all_goals
    go_ret2
    refine ⟨?_, rfl⟩
    simp only [beq_iff_eq, beq_eq_false_iff_ne] at *
    simp only [opSize, opIs]
    first | (simp_all; done) | (simp_all; omega)

set_option maxHeartbeats 1000000 in
theorem cycles_c (a : Int) (w : World) : Calls Try.prog 34 #[.int .u8 a] w fun e w' => e = .returned (.int .i64 (cyc a)) ∧ w = w' := by
  by_cases hi : opIs a = true
  all_goals
    go_enter Try.func34, Try.ntmps34
    go_wp2_with (go_at_call 68; refine (size_c _ _).mono ?_; rintro e w' ⟨rfl, rfl⟩)
  all_goals
    go_ret
    refine ⟨?_, rfl⟩
    simp only [beq_iff_eq, beq_eq_false_iff_ne] at *
    simp only [cyc]
    first | (simp_all; done) | (simp_all; omega)

set_option maxHeartbeats 1000000 in
theorem effect_c (a : Int) (w : World) : Calls Try.prog 74 #[.int .u8 a] w fun e w' => e = .returned (.tuple #[.int .i64 (takes a), .int .i64 (gives a)]) ∧ w = w' := by
  go_enter Try.func74, Try.ntmps74
  go_wp2
  all_goals
    go_ret2
    refine ⟨?_, rfl⟩
    simp only [beq_iff_eq, beq_eq_false_iff_ne] at *
    simp only [takes, gives]
    first | (simp_all; done) | (simp_all; omega)

set_option maxHeartbeats 2000000 in
theorem may_c (op arg : Int) (w : World) : Calls Try.prog 44 #[.agg #[.int .u8 op, .int .i64 arg]] w fun e w' => e = .returned (.bool (mayI ⟨op, arg⟩)) ∧ w.alloc (.cells #[.int .u8 op, .int .i64 arg] 53) = w' := by
  by_cases hi : opIs op = true
  case neg =>
    have hi' : opIs op = false := by simpa using hi
    clear hi
    go_enter Try.func44, Try.ntmps44
    go_wp2_with (go_at_call 68; refine (size_c _ _).mono ?_; rintro e w' ⟨rfl, rfl⟩)
    go_ret
    exact ⟨by simp [mayI, hi'], rfl⟩
  go_enter Try.func44, Try.ntmps44
  go_wp2_with (go_at_call 68; refine (size_c _ _).mono ?_; rintro e w' ⟨rfl, rfl⟩)
  all_goals
    go_ret
    refine ⟨?_, rfl⟩
    simp only [beq_iff_eq, beq_eq_false_iff_ne, bne_iff_ne, bne_eq_false_iff_eq] at *
    simp only [mayI]
    first | (simp_all; done) | (simp_all; omega) | (simp_all [opSize]; done) | (simp_all [opSize]; omega)

theorem truth_c (b : Bool) (w : World) : Calls Try.prog 58 #[.bool b] w fun e w' => e = .returned (.int .i64 (truth b)) ∧ w = w' := by
  cases b
  all_goals
    go_enter Try.func58, Try.ntmps58
    go_wp2
    go_ret
    exact ⟨rfl, rfl⟩

set_option maxHeartbeats 1000000 in
theorem div_c (a b : Int) (w : World) : Calls Try.prog 55 #[.int .i64 a, .int .i64 b] w fun e w' => e = .returned (.int .i64 (divI a b)) ∧ w = w' := by
  by_cases h0 : b = 0
  · subst h0
    go_enter Try.func55, Try.ntmps55
    go_wp2
    go_ret
    exact ⟨by simp [divI], rfl⟩
  by_cases h1 : b = 1
  · subst h1
    go_enter Try.func55, Try.ntmps55
    go_wp2
    go_ret
    exact ⟨by simp [divI], rfl⟩
  by_cases h2 : b = -1
  · subst h2
    go_enter Try.func55, Try.ntmps55
    go_wp2
    go_ret
    exact ⟨by simp [divI], rfl⟩
  go_enter Try.func55, Try.ntmps55
  go_wp2
  go_ret
  exact ⟨by simp [divI, h0, h1, h2], rfl⟩

set_option maxHeartbeats 1000000 in
theorem mod_c (a b : Int) (w : World) : Calls Try.prog 56 #[.int .i64 a, .int .i64 b] w fun e w' => e = .returned (.int .i64 (modI a b)) ∧ w = w' := by
  by_cases h0 : b = 0
  · subst h0
    go_enter Try.func56, Try.ntmps56
    go_wp2
    go_ret
    exact ⟨by simp [modI], rfl⟩
  by_cases h1 : b = 1
  · subst h1
    go_enter Try.func56, Try.ntmps56
    go_wp2
    go_ret
    exact ⟨by simp [modI], rfl⟩
  by_cases h2 : b = -1
  · subst h2
    go_enter Try.func56, Try.ntmps56
    go_wp2
    go_ret
    exact ⟨by simp [modI], rfl⟩
  go_enter Try.func56, Try.ntmps56
  go_wp2
  go_ret
  exact ⟨by simp [modI, h0, h1, h2], rfl⟩

theorem bin8_c (d t : Int) (w : World) : Calls Try.prog 52 #[.int .i64 d, .int .i64 t] w fun e w' => e = .returned (.int .i64 (bin 8 d t)) ∧ w = w' := by
  go_enter Try.func52, Try.ntmps52
  go_wp2_with (go_at_call 58; refine (truth_c _ _).mono ?_; rintro e w' ⟨rfl, rfl⟩)
  all_goals
    go_ret
    refine ⟨?_, rfl⟩
    first | rfl | (simp [bin, *]; done) | (simp [bin]; rfl) | ((have hd : (d != 0) = true := by simpa using ‹¬ d = 0›); simp [bin, hd])
theorem bin9_c (d t : Int) (w : World) : Calls Try.prog 53 #[.int .i64 d, .int .i64 t] w fun e w' => e = .returned (.int .i64 (bin 9 d t)) ∧ w = w' := by
  go_enter Try.func53, Try.ntmps53
  go_wp2_with (go_at_call 58; refine (truth_c _ _).mono ?_; rintro e w' ⟨rfl, rfl⟩)
  all_goals
    go_ret
    refine ⟨?_, rfl⟩
    first | rfl | (simp [bin, *]; done) | (simp [bin]; rfl) | ((have hd : (d != 0) = true := by simpa using ‹¬ d = 0›); simp [bin, hd])
theorem bin10_c (d t : Int) (w : World) : Calls Try.prog 54 #[.int .i64 d, .int .i64 t] w fun e w' => e = .returned (.int .i64 (bin 10 d t)) ∧ w = w' := by
  go_enter Try.func54, Try.ntmps54
  go_wp2_with (go_at_call 58; refine (truth_c _ _).mono ?_; rintro e w' ⟨rfl, rfl⟩)
  all_goals
    go_ret
    refine ⟨?_, rfl⟩
    first | rfl | (simp [bin, *]; done) | (simp [bin]; rfl) | ((have hd : (d != 0) = true := by simpa using ‹¬ d = 0›); simp [bin, hd])
theorem bin13_c (d t : Int) (w : World) : Calls Try.prog 57 #[.int .i64 d, .int .i64 t] w fun e w' => e = .returned (.int .i64 (bin 13 d t)) ∧ w = w' := by
  go_enter Try.func57, Try.ntmps57
  go_wp2_with (go_at_call 58; refine (truth_c _ _).mono ?_; rintro e w' ⟨rfl, rfl⟩)
  all_goals
    go_ret
    refine ⟨?_, rfl⟩
    first | rfl | (simp [bin, *]; done) | (simp [bin]; rfl) | ((have hd : (d != 0) = true := by simpa using ‹¬ d = 0›); simp [bin, hd])
theorem bin14_c (d t : Int) (w : World) : Calls Try.prog 59 #[.int .i64 d, .int .i64 t] w fun e w' => e = .returned (.int .i64 (bin 14 d t)) ∧ w = w' := by
  go_enter Try.func59, Try.ntmps59
  go_wp2_with (go_at_call 58; refine (truth_c _ _).mono ?_; rintro e w' ⟨rfl, rfl⟩)
  all_goals
    go_ret
    refine ⟨?_, rfl⟩
    first | rfl | (simp [bin, *]; done) | (simp [bin]; rfl) | ((have hd : (d != 0) = true := by simpa using ‹¬ d = 0›); simp [bin, hd])
theorem bin15_c (d t : Int) (w : World) : Calls Try.prog 60 #[.int .i64 d, .int .i64 t] w fun e w' => e = .returned (.int .i64 (bin 15 d t)) ∧ w = w' := by
  go_enter Try.func60, Try.ntmps60
  go_wp2_with (go_at_call 58; refine (truth_c _ _).mono ?_; rintro e w' ⟨rfl, rfl⟩)
  all_goals
    go_ret
    refine ⟨?_, rfl⟩
    first | rfl | (simp [bin, *]; done) | (simp [bin]; rfl) | ((have hd : (d != 0) = true := by simpa using ‹¬ d = 0›); simp [bin, hd])
theorem bin16_c (d t : Int) (w : World) : Calls Try.prog 61 #[.int .i64 d, .int .i64 t] w fun e w' => e = .returned (.int .i64 (bin 16 d t)) ∧ w = w' := by
  go_enter Try.func61, Try.ntmps61
  go_wp2_with (go_at_call 58; refine (truth_c _ _).mono ?_; rintro e w' ⟨rfl, rfl⟩)
  all_goals
    go_ret
    refine ⟨?_, rfl⟩
    first | rfl | (simp [bin, *]; done) | (simp [bin]; rfl) | ((have hd : (d != 0) = true := by simpa using ‹¬ d = 0›); simp [bin, hd])
theorem bin17_c (d t : Int) (w : World) : Calls Try.prog 62 #[.int .i64 d, .int .i64 t] w fun e w' => e = .returned (.int .i64 (bin 17 d t)) ∧ w = w' := by
  go_enter Try.func62, Try.ntmps62
  go_wp2_with (go_at_call 58; refine (truth_c _ _).mono ?_; rintro e w' ⟨rfl, rfl⟩)
  all_goals
    go_ret
    refine ⟨?_, rfl⟩
    first | rfl | (simp [bin, *]; done) | (simp [bin]; rfl) | ((have hd : (d != 0) = true := by simpa using ‹¬ d = 0›); simp [bin, hd])
theorem bin18_c (d t : Int) (w : World) : Calls Try.prog 63 #[.int .i64 d, .int .i64 t] w fun e w' => e = .returned (.int .i64 (bin 18 d t)) ∧ w = w' := by
  go_enter Try.func63, Try.ntmps63
  go_wp2_with (go_at_call 58; refine (truth_c _ _).mono ?_; rintro e w' ⟨rfl, rfl⟩)
  all_goals
    go_ret
    refine ⟨?_, rfl⟩
    first | rfl | (simp [bin, *]; done) | (simp [bin]; rfl) | ((have hd : (d != 0) = true := by simpa using ‹¬ d = 0›); simp [bin, hd])
theorem bin19_c (d t : Int) (w : World) : Calls Try.prog 64 #[.int .i64 d, .int .i64 t] w fun e w' => e = .returned (.int .i64 (bin 19 d t)) ∧ w = w' := by
  go_enter Try.func64, Try.ntmps64
  go_wp2_with (go_at_call 58; refine (truth_c _ _).mono ?_; rintro e w' ⟨rfl, rfl⟩)
  all_goals
    go_ret
    refine ⟨?_, rfl⟩
    first | rfl | (simp [bin, *]; done) | (simp [bin]; rfl) | ((have hd : (d != 0) = true := by simpa using ‹¬ d = 0›); simp [bin, hd])
theorem bin20_c (d t : Int) (w : World) : Calls Try.prog 65 #[.int .i64 d, .int .i64 t] w fun e w' => e = .returned (.int .i64 (bin 20 d t)) ∧ w = w' := by
  go_enter Try.func65, Try.ntmps65
  go_wp2_with (go_at_call 58; refine (truth_c _ _).mono ?_; rintro e w' ⟨rfl, rfl⟩)
  all_goals
    go_ret
    refine ⟨?_, rfl⟩
    first | rfl | (simp [bin, *]; done) | (simp [bin]; rfl) | ((have hd : (d != 0) = true := by simpa using ‹¬ d = 0›); simp [bin, hd])
theorem bin11_c (d t : Int) (w : World) : Calls Try.prog 55 #[.int .i64 d, .int .i64 t] w fun e w' => e = .returned (.int .i64 (bin 11 d t)) ∧ w = w' := div_c d t w
theorem bin12_c (d t : Int) (w : World) : Calls Try.prog 56 #[.int .i64 d, .int .i64 t] w fun e w' => e = .returned (.int .i64 (bin 12 d t)) ∧ w = w' := mod_c d t w

end Go.Proofs.Ytihajgmknhifiaa
