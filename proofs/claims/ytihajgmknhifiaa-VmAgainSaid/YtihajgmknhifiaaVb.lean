/- The calls of the small methods of package vm: pop, push, Spent. Each is told over a Vm whose block and rows are known (VmAt). -/
import Derived.Test.YtihajgmknhifiaaVa
namespace Go.Proofs.Ytihajgmknhifiaa
open Go.RowKit

theorem info2 : (Try.prog.info? 2).map (fun i => (i.zero, i.size, i.bytes)) = some (some (.int .i64 0), 1, 8) := by kernel_rfl
theorem info53 : (Try.prog.info? 53).map (fun i => (i.zero, i.size, i.bytes)) = some (some (.agg #[.int .u8 0, .int .i64 0]), 2, 16) := by kernel_rfl

/-- A slice cut by its last element. -/
def cutS : Value → Value
  | .slice a n c => .slice a (n - 1) c
  | v => v
theorem cutS_own (v : Value) : (cutS v).ownBlock = v.ownBlock := by
  cases v with
  | slice a n c => cases a <;> rfl
  | _ => rfl

theorem own_cut {w : World} {base : Nat} {v : Value} {xs : List Int} {t : Int} (h : w.ownsRow base 2 1 v (xs ++ [t]).length (ints (xs ++ [t]))) :
    (∃ g c, v = .slice (some ⟨g, 0, none⟩) (xs.length + 1) c ∧ xs.length + 1 ≤ c ∧ c ≤ maxLen ∧ w.cell? ⟨g, xs.length, none⟩ = some (.int .i64 t)) ∧ w.ownsRow base 2 1 (cutS v) xs.length (ints xs) := by
  have hc := h
  rcases h.2 with ⟨rfl, hn⟩ | ⟨g, cap, cur, rfl, hb, hg, h1, h2, h3, h4⟩
  · simp at hn
  · have hcell := hc.cells (g := g) rfl xs.length (.int .i64 t) (by simp [ints])
    have hadd : (⟨g, 0, none⟩ : Addr).add xs.length = ⟨g, xs.length, none⟩ := by unfold Addr.add; split <;> simp_all
    rw [hadd] at hcell
    refine ⟨⟨g, cap, by simp, by simpa using h1, h2, hcell⟩, ⟨by simp [ints], .inr ⟨g, cap, cur, by simp [cutS], hb, hg, ?_, h2, h3, ?_⟩⟩⟩
    · simp at h1; omega
    · have := congrArg (List.take xs.length) h4
      simp only [List.take_take, ints_append] at this
      rw [show min xs.length ((xs ++ [t]).length * 1) = xs.length * 1 by simp] at this
      rw [this, List.take_left' (by simp [ints])]

theorem VmAt.popped {base : Nat} {w : World} {b : Nat} {m : Vm} {xs : List Int} {t : Int} (h : VmAt base w b m) (hs : m.stack = xs ++ [t]) :
    VmAt base (w.setCell ⟨b, 6, none⟩ (cutS m.ss)) b { m with ss := cutS m.ss, stack := xs } := by
  have hr := h.rs
  rw [hs] at hr
  have hf : ∀ v, Far m.ss v → Far (cutS m.ss) v := fun v hv => by unfold Far at *; rw [cutS_own]; exact hv
  exact h.set (m' := { m with ss := cutS m.ss, stack := xs }) 6 _ (by simp [Vm.cells]) rfl h.rc (own_cut hr).2 h.rl h.ri h.ro (hf _ h.sl_) (hf _ h.si_) (hf _ h.so_) h.li_ h.lo_ h.io_

set_option maxHeartbeats 1000000 in
theorem pop_c {base : Nat} {w : World} {b : Nat} {m : Vm} {xs : List Int} {t : Int} (h : VmAt base w b m) (hs : m.stack = xs ++ [t]) :
    Calls Try.prog 67 #[.pointer (some ⟨b, 0, none⟩)] w fun e w' => e = .returned (.int .i64 t) ∧ w.setCell ⟨b, 6, none⟩ (cutS m.ss) = w' := by
  have hr := h.rs
  rw [hs] at hr
  obtain ⟨⟨g, c, hv, hc, hm, ht⟩, _⟩ := own_cut hr
  have h6 := h.c6
  have hf := h.fz 6
  rw [hv] at h6
  have hcut : cutS m.ss = .slice (some ⟨g, 0, none⟩) xs.length c := by rw [hv]; simp [cutS]
  rw [hcut]
  unfold maxLen at hm
  clear h hs hr hv hcut
  generalize xs.length = n at *
  go_enter Try.func67, Try.ntmps67
  go_wp2
  go_ret
  exact ⟨rfl, rfl⟩

theorem one_int (k : IntKind) (t : Int) : ∀ u ∈ [Value.int k t], u.oneCell' = true := by
  intro u hu
  simp only [List.mem_singleton] at hu
  subst hu
  rfl
theorem one_ints (xs : List Int) : ∀ u ∈ ints xs, u.oneCell' = true := by
  intro u hu
  obtain ⟨_, _, rfl⟩ := List.mem_map.1 hu
  rfl
theorem one_insV (l : List In) : ∀ u ∈ insV l, u.oneCell' = true := by
  intro u hu
  obtain ⟨_, _, h⟩ := List.mem_flatMap.1 hu
  simp only [List.mem_cons, List.not_mem_nil, or_false] at h
  rcases h with rfl | rfl <;> rfl
theorem rd_new (w : World) (v : Value) (t : TypeId) : Rd (w.alloc (.cells #[v] t)) (.slice (some ⟨w.heap.size, 0, none⟩) 1 1) 1 1 [v] :=
  ⟨rfl, _, _, rfl, Nat.le_refl _, fun h => (by cases h), fun ad had j u hj => by
    obtain rfl := Option.some.inj had
    cases j with
    | zero => simp at hj; subst hj; simp [Addr.add, World.cell?_alloc_at]
    | succ j => simp at hj⟩

theorem Far.of_new {v v' m : Value} {n : Nat} (h : v.ownBlock = m.ownBlock ∨ v.ownBlock = some n) (hf : Far m v') (hv : ∀ k, v'.ownBlock = some k → k < n) : Far v v' := by
  rcases h with h | h
  · unfold Far at *; rw [h]; exact hf
  · unfold Far
    rw [h]
    refine .inr fun e => ?_
    have := hv n e.symm
    omega

/-- The world behind an append to the stack, and the store of its value. -/
theorem push_go {base : Nat} {w w1 : World} {b : Nat} {m : Vm} {o : Obj} {v : Value} {t : Int} (h : VmAt base w b m) (hg : (w.alloc o).grownBy w1 m.ss.ownBlock)
    (hown : w1.ownsRow base 2 1 v (m.stack.length + 1) (ints m.stack ++ [.int .i64 t])) (hv : v.ownBlock = m.ss.ownBlock ∨ v.ownBlock = some (w.alloc o).heap.size) :
    VmGo base b w m (w1.setCell ⟨b, 6, none⟩ v) { m with ss := v, stack := m.stack ++ [t] } := by
  have hu0 : Upd (fun k => m.ss.ownBlock = some k) w w1 := ((Upd.refl _ _).alloc o).trans (Upd.of_grown hg fun _ => id)
  have hss : ∀ k, m.ss.ownBlock = some k → m.foot b k := fun k hk => .inr (.inr (.inr (.inl hk)))
  have hne : ∀ {v' : Value} {n e size xs}, w.ownsRow base e size v' n xs → Far m.ss v' → ∀ k, v'.ownBlock = some k → ¬ m.ss.ownBlock = some k := fun _ hf k hk e => by
    rcases hf with hf | hf
    · rw [hf] at e; cases e
    · exact hf (e.trans hk.symm)
  have hlt : ∀ {v' : Value} {n e size xs}, w.ownsRow base e size v' n xs → ∀ k, v'.ownBlock = some k → k < (w.alloc o).heap.size := fun hr k hk => by
    have := hr.lt k hk
    rw [World.size_alloc]
    omega
  have hc := own_ne_type h.rs h.rc (by decide)
  have hblk : w1.heap[b]? = some (.cells m.cells 70 (0, 0)) := (hu0.block b h.lt fun e => (h.row_ne h.rs (by decide) b e).1 rfl).trans h.blk
  have hdoes : w1.heap[m.gm]? = some (.map doesEs 13) := (hu0.block m.gm (h.foot_base m.gm (.inr (.inl rfl))).2 fun e => (h.row_ne h.rs (by decide) m.gm e).2 rfl).trans h.does
  have rc := own_upd h.rc hu0 (hne h.rc hc)
  have rl := own_upd h.rl hu0 (hne h.rl h.sl_)
  have ri := own_upd h.ri hu0 (hne h.ri h.si_)
  have ro := own_upd h.ro hu0 (hne h.ro h.so_)
  have hlen : (m.stack ++ [t]).length = m.stack.length + 1 := by simp
  have rs : w1.ownsRow base 2 1 v (m.stack ++ [t]).length (ints (m.stack ++ [t])) := by rw [hlen, ints_append]; exact hown
  have hu1 : Upd (fun k => k = b) w1 (w1.setCell ⟨b, 6, none⟩ v) := Upd.setCell (F := fun k => k = b) (Upd.refl _ _) ⟨b, 6, none⟩ (.inl rfl) v
  have hrow : ∀ {v' : Value} {n e size xs}, w1.ownsRow base e size v' n xs → e ≠ 70 → ∀ k, v'.ownBlock = some k → ¬ k = b := by
    intro v' n e size xs hr he k hk
    rcases hr.2 with ⟨rfl, _⟩ | ⟨g, cap, cur, rfl, _, hgg, _⟩
    · simp [Value.ownBlock] at hk
    · have e1 : g = k := by simpa [Value.ownBlock] using hk
      rintro rfl
      subst e1
      rw [hblk] at hgg
      injection hgg with hgg
      injection hgg with _ ht
      exact he ht.symm
  refine ⟨{ blk := ?_, does := ?_, rc := own_upd rc hu1 (hrow rc (by decide)), rs := own_upd rs hu1 (hrow rs (by decide)), rl := own_upd rl hu1 (hrow rl (by decide)), ri := own_upd ri hu1 (hrow ri (by decide)), ro := own_upd ro hu1 (hrow ro (by decide)),
            bb := h.bb, bm := h.bm, sl_ := Far.of_new hv h.sl_ (hlt h.rl), si_ := Far.of_new hv h.si_ (hlt h.ri), so_ := Far.of_new hv h.so_ (hlt h.ro), li_ := h.li_, lo_ := h.lo_, io_ := h.io_ }, ?_, ?_⟩
  · rw [heap_setCell w1 b _ _ _ hblk 6 v]
    simp [Vm.cells]
  · rw [hu1.block m.gm (Array.getElem?_eq_some_iff.1 hdoes).1 h.gm_ne]
    exact hdoes
  · exact (hu0.mono hss).trans' hu1 fun i hi => .inl (.inl hi)
  · intro k hk
    rcases hk with hk | hk | hk | hk | hk | hk | hk
    · exact .inl (.inl hk)
    · exact .inl (.inr (.inl hk))
    · exact .inl (.inr (.inr (.inl hk)))
    · rcases hv with hv | hv
      · exact .inl (.inr (.inr (.inr (.inl (hv.symm.trans hk)))))
      · have e : (w.alloc o).heap.size = k := Option.some.inj (hv.symm.trans hk)
        rw [World.size_alloc] at e
        exact .inr (by omega)
    · exact .inl (.inr (.inr (.inr (.inr (.inl hk)))))
    · exact .inl (.inr (.inr (.inr (.inr (.inr (.inl hk))))))
    · exact .inl (.inr (.inr (.inr (.inr (.inr (.inr hk))))))

/-- What a push leaves. -/
def PushQ (base : Nat) (w : World) (b : Nat) (m : Vm) (t : Int) (w' : World) : Prop := ∃ v, VmGo base b w m w' { m with ss := v, stack := m.stack ++ [t] }

set_option maxHeartbeats 1000000 in
set_option maxRecDepth 4000 in
theorem push_c {base : Nat} {w : World} {b : Nat} {m : Vm} (t : Int) (h : VmAt base w b m) (hl : m.stack.length ≤ 1000000) :
    Calls Try.prog 66 #[.pointer (some ⟨b, 0, none⟩), .int .i64 t] w fun e w' => e = .returned (.tuple #[]) ∧ PushQ base w b m t w' := by
  have h6 := h.c6
  have hf := h.fz 6
  have hb := h.lt
  have hbase := h.bb
  obtain ⟨i0, hi, hz0, hz1, hz2⟩ := info_parts info2
  have hown := h.rs.alloc (.cells #[.int .i64 t] 2)
  have hrd := rd_new w (.int .i64 t) 2
  have hne : ∀ k, m.ss.ownBlock = some k → k ≠ b := fun k hk => (h.row_ne h.rs (by decide) k hk).1
  have H := Lib.hid h
  have Hne := Lib.hid hne
  clear h hne
  go_enter Try.func66, Try.ntmps66
  go_wp2_with (at_builtin; refine wpList_append2 rfl _ _ 25 rfl base 2 i0 (.int .i64 0) 1 8 Try.underlying25 hi hz0 hz1 hz2 rfl (by decide) _ _ _ rfl hown _ 1 [.int .i64 t] rfl hrd (one_int _ _) ?c3 ?c4 ?c5 ?_)
  case c3 => unfold maxLen; omega
  case c4 => omega
  case c5 => rw [World.size_alloc]; omega
  intro A c w1 hown' hgrow hv'
  have hb1 : w1.heap[b]? = (w.alloc (.cells #[.int .i64 t] 2)).heap[b]? := hgrow.block b (by rw [World.size_alloc]; omega) (fun e => Hne.out b e.symm rfl)
  have hb2 : w1.heap[b]? = some (.cells m.cells 70 (0, 0)) := by rw [hb1, Below.heap_alloc _ _ _ hb]; exact H.out.blk
  have g6 : w1.cell? ⟨b, 6, none⟩ = some m.ss := cell_blk hb2 6
  have gf : w1.frozen? ⟨b, 6, none⟩ = false := frozen_blk hb2 6
  have G : Hid (VmGo base b w m (w1.setCell ⟨b, 6, none⟩ (.slice A (m.stack.length + 1) c)) { m with ss := .slice A (m.stack.length + 1) c, stack := m.stack ++ [t] }) := push_go H.out hgrow hown' (by rw [World.size_alloc]; exact hv')
  clear hown' hgrow hv' hb1 hb2 hown hrd h6 hf hi hz0 hz1 hz2
  go_wp2
  go_end0
  exact ⟨rfl, _, G.out⟩

end Go.Proofs.Ytihajgmknhifiaa
