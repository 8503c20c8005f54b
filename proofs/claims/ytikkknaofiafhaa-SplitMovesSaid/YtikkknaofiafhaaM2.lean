/- Contracts: same.Find, same.Part. -/
import Derived.Test.YtikkknaofiafhaaM1
namespace Go.Proofs.Ytikkknaofiafhaa
open Go.RowKit

def hasK (l : List PairD) (key : List UInt8) : Bool := l.any fun p => decide (p.k = key)
theorem hasK_take {l : List PairD} {key : List UInt8} {k : Nat} (h : k < l.length) : hasK (l.take (k + 1)) key = (hasK (l.take k) key || decide (l[k].k = key)) := by
  unfold hasK
  rw [List.take_succ_eq_append_getElem h, List.any_append]
  simp
set_option maxRecDepth 100000 in
set_option maxHeartbeats 1600000 in
theorem find_any {ok ok2 : Nat → Prop} (v kv : Value) (l : List PairD) (key : List UInt8) (w : World) (hr : RSl rPair ok w v l) (hk : RB ok2 w kv key) :
    Calls Try.prog 132 #[v, kv] w fun e w' => (∃ A n c B m d z, e = .returned (.tuple #[.agg #[.slice A n c, .slice B m d, .int .i64 z], .bool (hasK l key)])) ∧ Below w.heap.size w w' := by
  obtain ⟨A0, c0, rfl, hc0, hbd⟩ := hr.form
  obtain ⟨A9, c9, rfl, _, _⟩ := hk.form
  have hbd' : l.length * 56 ≤ 140737488351232 := hbd
  go_enter Try.func132, Try.ntmps132
  go_wp2
  go_loopw [6] (fun j wr => ∃ k : Nat, k ≤ l.length ∧ j = .int .i64 (k : Int) ∧ Below w.heap.size w wr ∧ Blk wr w.heap.size 98 #[nl, nl, .int .i64 0] ∧ hasK (l.take k) key = false) (fun j _ => l.length - (intOf j).toNat)
  case atStart => exact ⟨0, by omega, rfl, (Below.refl _ _).alloc (Nat.le_refl _) _, Blk.new _ _ _, rfl⟩
  case round =>
    obtain ⟨k, hk', rfl, hb, kb, hno⟩ := hrel
    have HNO := Lib.hid hno
    clear hno
    obtain ⟨z0, z1, z2⟩ := set3_cells kb
    have fz := fun i => kb.frozen i
    by_cases hlt : k < l.length
    · obtain ⟨b, off, c, cs, hv, _, ⟨a1, a2, rfl, ha1, ha2, hi64⟩, hcell⟩ := (hr.below hb).at_ hlt
      simp only [Value.slice.injEq, true_and] at hv
      obtain ⟨rfl, rfl⟩ := hv
      have q0 := hcell 0 _ rfl
      have q1 := hcell 1 _ rfl
      have q2 := hcell 2 _ rfl
      simp only [Nat.add_zero, show rPair.sz = 3 from rfl] at q0 q1 q2
      clear hcell
      obtain ⟨A1, c1, rfl, hc1, _⟩ := ha1.form
      obtain ⟨A2, c2, rfl, hc2, _⟩ := ha2.form
      have HT := Lib.hid (hasK_take (key := key) hlt)
      obtain ⟨p, hp⟩ : ∃ p, p = l[k] := ⟨_, rfl⟩
      rw [← hp] at q0 q1 q2 ha1 ha2 hi64 hc1 hc2
      rw [← hp] at HT
      clear hp
      go_wp2_with fail
      refine (bytes_rb _ _ p.k key _ ha1 (hk.below hb)).mono ?_
      rintro e w1 ⟨rfl, hww⟩
      subst hww
      cases hD : decide (p.k = key)
      · have HD := Lib.hid hD
        clear hD
        go_wp2
        go_roundw
        case rel => exact ⟨k + 1, by omega, by go_num, hb, kb, by rw [HT.out, HNO.out, HD.out]; rfl⟩
        case measure => simp [intOf]; omega
      · have HD := Lib.hid hD
        clear hD
        have HF : Hid (hasK l key = true) := by
          have h1 : hasK (l.take (k + 1)) key = true := by rw [HT.out, HD.out]; simp
          have : hasK l key = true := by
            unfold hasK at h1 ⊢
            obtain ⟨x, hx, hx2⟩ := List.any_eq_true.1 h1
            exact List.any_eq_true.2 ⟨x, List.mem_of_mem_take hx, hx2⟩
          exact Lib.hid this
        go_wp2
        obtain ⟨d0, d1, d2⟩ := set3_cells (kb.set3 (.slice A1 p.k.length c1) (.slice A2 p.v.length c2) (.int .i64 p.n))
        refine bodyPost_ret (v := .tuple #[.agg #[.slice A1 p.k.length c1, .slice A2 p.v.length c2, .int .i64 p.n], .bool true]) (by simp [results, Try.results132, go_sem, d0, d1, d2]) rfl ?_
        exact ⟨⟨_, _, _, _, _, _, _, by rw [HF.out]⟩, below_set3 hb (by omega) _ _ _⟩
    · have HF : Hid (hasK l key = false) := by
        have := HNO.out
        rw [List.take_of_length_le (by omega)] at this
        exact Lib.hid this
      go_wp2
      obtain ⟨d0, d1, d2⟩ := set3_cells (kb.set3 nl nl (.int .i64 0))
      refine bodyPost_ret (v := .tuple #[.agg #[nl, nl, .int .i64 0], .bool false]) (by simp [results, Try.results132, go_sem, d0, d1, d2]) rfl ?_
      exact ⟨⟨_, _, _, _, _, _, _, by rw [HF.out]⟩, below_set3 hb (by omega) _ _ _⟩

def partL (l : List PairD) (f t : List UInt8) : List PairD := l.filter fun p => withinB f t p.k
theorem partL_take {l : List PairD} {f t : List UInt8} {k : Nat} (h : k < l.length) : partL (l.take (k + 1)) f t = if withinB f t l[k].k then partL (l.take k) f t ++ [l[k]] else partL (l.take k) f t := by
  unfold partL
  rw [List.take_succ_eq_append_getElem h, List.filter_append]
  cases hw : withinB f t l[k].k <;> simp [hw]
theorem partL_len (l : List PairD) (f t : List UInt8) : (partL l f t).length ≤ l.length := List.length_filter_le _ _
set_option maxRecDepth 100000 in
set_option maxHeartbeats 1600000 in
theorem part_any {ok ok2 : Nat → Prop} (v f t : Value) (l : List PairD) (lf lu : List UInt8) (w : World) (hr : RSl rPair ok w v l) (h1 : RB ok2 w f lf) (h2 : RB ok2 w t lu) :
    Calls Try.prog 135 #[v, .agg #[f, t]] w fun e w' => (∃ v', e = .returned v' ∧ RSl rPair (fun b => ok b ∨ w.heap.size ≤ b) w' v' (partL l lf lu)) ∧ Below w.heap.size w w' := by
  obtain ⟨A0, c0, rfl, hc0, hbd⟩ := hr.form
  obtain ⟨A8, c8, rfl, _, _⟩ := h1.form
  obtain ⟨A9, c9, rfl, _, _⟩ := h2.form
  have hbd' : l.length * 56 ≤ 140737488351232 := hbd
  have hr0 : RSl rPair (fun b => ok b ∧ b < w.heap.size) w (.slice A0 l.length c0) l := hr.mono (by decide) fun b h h2 => ⟨h, h2⟩
  go_enter Try.func135, Try.ntmps135
  go_wp2
  go_loopw [5, 6] (fun v j wr => ∃ k : Nat, k ≤ l.length ∧ j = .int .i64 (k : Int) ∧ Below w.heap.size w wr ∧ Blk wr w.heap.size 50 #[.slice A8 lf.length c8, .slice A9 lu.length c9] ∧ OwnL rPair (fun b => ok b ∧ b < w.heap.size) (w.heap.size + 1) 98 wr v (partL (l.take k) lf lu)) (fun _ j _ => l.length - (intOf j).toNat)
  case atStart => exact ⟨0, by omega, rfl, (Below.refl _ _).alloc (Nat.le_refl _) _, Blk.new _ _ _, OwnL.nil_ _ _ _ _ _⟩
  case round =>
    obtain ⟨k, hk', rfl, hb, kb, hown⟩ := hrel
    have hzr : w.heap.size + 1 ≤ wr.heap.size := kb.lt
    by_cases hlt : k < l.length
    · obtain ⟨b, off, c, cs, hv, _, ⟨a1, a2, rfl, ha1, ha2, hi64⟩, hcell⟩ := (hr0.below hb).at_ hlt
      simp only [Value.slice.injEq, true_and] at hv
      obtain ⟨rfl, rfl⟩ := hv
      have q0 := hcell 0 _ rfl
      have q1 := hcell 1 _ rfl
      have q2 := hcell 2 _ rfl
      simp only [Nat.add_zero, show rPair.sz = 3 from rfl] at q0 q1 q2
      clear hcell
      obtain ⟨A1, c1, rfl, hc1, _⟩ := ha1.form
      obtain ⟨A2, c2, rfl, hc2, _⟩ := ha2.form
      have HT := Lib.hid (partL_take (f := lf) (t := lu) hlt)
      obtain ⟨p, hp⟩ : ∃ p, p = l[k] := ⟨_, rfl⟩
      rw [← hp] at q0 q1 q2 ha1 ha2 hi64 hc1 hc2
      rw [← hp] at HT
      clear hp
      have l0 := Later.cell q0
      have s0 : ∀ s : Later wr, s.val.cell? ⟨w.heap.size, 0, none⟩ = some (.slice A8 lf.length c8) := kb.later rfl
      have s1 : ∀ s : Later wr, s.val.cell? ⟨w.heap.size, 1, none⟩ = some (.slice A9 lu.length c9) := kb.later rfl
      go_wp2
      obtain ⟨B, hB⟩ : ∃ b, b = withinB lf lu p.k := ⟨_, rfl⟩
      have HB := Lib.hid hB
      clear hB
      refine wp_later_many [(6, Sp.val (.bool B))] [6] (by as_aux_lemma => kernel_rfl) (by as_aux_lemma => kernel_rfl) ?_
      intro vv hv
      have e6 : vv 6 = .bool B := hv 6 (by decide)
      refine many_pre 6 (by decide) ?_
      simp only [List.take_succ_cons, List.take_zero, List.drop_succ_cons, List.drop_zero]
      repeat (go_big_quiet_step (fail))
      refine wpQuiet_nil (many_wild (by decide) rfl ?_ ?_)
      · intro s _
        unfold Gives
        go_simp
        refine (within_any _ _ _ lf lu p.k _ (h1.below (hb.trans (s.below.mono hb.size))) (h2.below (hb.trans (s.below.mono hb.size))) (ha1.below s.below)).mono ?_
        rintro e w4 ⟨rfl, hb4⟩
        exact ⟨_, rfl, by rw [HB.out]; rfl, hb4⟩
      intro a' ha'
      subst ha'
      simp only [Act.put, List.setIfInBounds_toArray, List.set_cons_succ, List.set_cons_zero]
      rw [e6]
      refine many_end ?_
      intro s _
      have hbs := hb.trans (s.below.mono hb.size)
      have kbs := kb.below s.below kb.lt
      have own2 := hown.below s.below
      have hle := partL_len (l.take k) lf lu
      have hlk : (l.take k).length = k := by rw [List.length_take]; omega
      have x0 := l0 s
      have x1 := Later.cell q1 s
      have x2 := Later.cell q2 s
      obtain ⟨PL, hPL⟩ : ∃ q, q = partL (l.take k) lf lu := ⟨_, rfl⟩
      rw [← hPL] at own2 hle HT
      have hzs : w.heap.size + 1 ≤ s.val.heap.size := Nat.le_trans hzr s.below.size
      clear l0 s0 s1 q0 q1 q2 e6 hv hPL hown
      cases B
      · go_wp2
        go_roundw
        case rel => exact ⟨k + 1, by omega, by go_num, hbs, kbs, by rw [HT.out, ← HB.out]; exact own2⟩
        case measure => simp [intOf]; omega
      · have hne : ∀ b, (ok b ∧ b < w.heap.size) → b < s.val.heap.size → (ok b ∧ b < w.heap.size) ∧ some b ≠ u5.ownBlock := fun b h _ => ⟨h, fun e => by have := (own2.lt b e.symm).1; have := h.2; omega⟩
        have y1 := (ha1.below s.below).mono (by decide) hne
        have y2 := (ha2.below s.below).mono (by decide) hne
        go_wp2_with (at_builtin; go_loud (refine wp_app1 (E := rPair) (okd := fun b => ok b ∧ b < w.heap.size) Try.rowPair (by decide) rfl _ _ rfl u5 PL s.val _ p rfl own2 rfl ⟨_, _, rfl, y1, y2, hi64⟩ (by show (_ + 1) * 56 ≤ _; omega) (by omega) hzs ?_); intro v' w2 hown2 hk2 _)
        have hbel := own2.bel hk2 hzs
        go_wp2
        go_roundw
        case rel => exact ⟨k + 1, by omega, by go_num, hbs.trans (hbel.mono (by omega)), kbs.below hbel (by omega), by rw [HT.out, ← HB.out]; exact hown2⟩
        case measure => simp [intOf]; omega
    · go_wp2
      go_ret
      rw [List.take_of_length_le (by omega)] at hown
      have hle := partL_len l lf lu
      exact ⟨⟨_, rfl, hown.rsl (by decide) (by show (partL l lf lu).length * 56 ≤ _; omega) (fun b h => .inr (by omega)) (fun b h => .inl h.1)⟩, hb⟩
end Go.Proofs.Ytikkknaofiafhaa
