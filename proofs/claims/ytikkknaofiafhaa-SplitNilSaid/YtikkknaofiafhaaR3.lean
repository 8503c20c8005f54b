/- Contracts: the document's pick; rows.Fits, head, Key, Name; the document's Key. -/
import Derived.Test.YtikkknaofiafhaaR2
import Derived.Test.YtikkknaofiafhaaS0
namespace Go.Proofs.Ytikkknaofiafhaa
open Go.RowKit

set_option maxRecDepth 100000 in
set_option maxHeartbeats 1600000 in
theorem refPick_any {ok ok2 : Nat → Prop} (v p : Value) (row : List Val) (places : List Int) (w : World) (hr : RV ok w v row) (hp : RSl rInt ok2 w p places) (hn : places.length ≤ 1000000) (hin : ∀ q ∈ places, 0 ≤ q ∧ q < row.length) :
    Calls Try.prog 121 #[v, p] w fun e w' => (∃ v', e = .returned v' ∧ RV (fun b => w.heap.size ≤ b) w' v' (pickV row places)) ∧ Below w.heap.size w w' := by
  obtain ⟨A, c, rfl, hc, hbd⟩ := hp.form
  obtain ⟨A2, c2, rfl, hc2, hbd2⟩ := hr.form
  have hbd2' : row.length * 32 ≤ 140737488351232 := hbd2
  have HIN := Lib.hid hin
  clear hbd hbd2 hin
  go_enter Try.func121, Try.ntmps121
  go_wp2
  go_loopw [5, 6] (fun v j wr => ∃ k : Nat, k ≤ places.length ∧ j = .int .i64 (k : Int) ∧ Below w.heap.size w wr ∧ OwnL rVal (fun b => w.heap.size ≤ b) w.heap.size 24 wr v (pickV row (places.take k))) (fun _ j _ => places.length - (intOf j).toNat)
  case atStart => exact ⟨0, by omega, rfl, Below.refl _ _, OwnL.nil_ _ _ _ _ _⟩
  case round =>
    obtain ⟨k, hk, rfl, hb, hown⟩ := hrel
    by_cases hlt : k < places.length
    · obtain ⟨b1, off1, c1', cs1, hv1, _, ⟨rfl, _⟩, hcell1⟩ := (hp.below hb).at_ hlt
      simp only [Value.slice.injEq, true_and] at hv1
      obtain ⟨rfl, rfl⟩ := hv1
      have p0 := hcell1 0 _ rfl
      simp only [Nat.add_zero, show rInt.sz = 1 from rfl, Nat.mul_one] at p0
      clear hcell1
      have HS := Lib.hid (pickV_take_succ row places k hlt)
      have hpl := pickV_length_le row (places.take k)
      have htl : (places.take k).length ≤ k := List.length_take_le _ _
      have hq0 := HIN.out places[k] (List.getElem_mem hlt)
      obtain ⟨q, hq⟩ : ∃ q, q = places[k] := ⟨_, rfl⟩
      rw [← hq] at p0 HS hq0
      clear hq
      obtain ⟨h0, h1⟩ := hq0
      obtain ⟨q, rfl⟩ := Int.eq_ofNat_of_zero_le h0
      have h1 : q < row.length := by omega
      obtain ⟨_, hat⟩ := at_some (row := row) (k := (q : Int)) (by omega) (by omega)
      simp only [Int.toNat_natCast] at hat
      obtain ⟨b2, off2, c2', cs2, hv2, _, ⟨rfl, hok⟩, hcell2⟩ := (hr.below hb).at_ h1
      simp only [Value.slice.injEq, true_and] at hv2
      obtain ⟨rfl, rfl⟩ := hv2
      have q0 := hcell2 0 _ rfl
      have q1 := hcell2 1 _ rfl
      have q2 := hcell2 2 _ rfl
      simp only [Nat.add_zero, show rVal.sz = 3 from rfl] at q0 q1 q2
      clear hcell2
      obtain ⟨x, hx⟩ : ∃ x, x = row[q] := ⟨_, rfl⟩
      rw [← hx] at q0 q1 q2 hok hat
      have HAT := Lib.hid hat
      clear hx hat
      go_wp2_with (at_builtin; go_loud (refine wp_app1 (E := rVal) (okd := fun b => w.heap.size ≤ b) Try.rowVal (by decide) rfl _ _ rfl _ (pickV row (places.take k)) wr _ x rfl hown rfl ⟨rfl, hok⟩ (by show (_ + 1) * 32 ≤ _; omega) (by omega) hb.size ?_); intro v' w' hown2 hk2 _)
      go_roundw
      case rel => exact ⟨k + 1, by omega, by go_num, hb.trans (hown.bel hk2 hb.size), by rw [HS.out, HAT.out]; exact hown2⟩
      case measure => simp [intOf]; omega
    · have hfin : places.take k = places := List.take_of_length_le (by omega)
      have HF := Lib.hid hfin
      clear hfin
      go_wp2
      go_ret
      rw [HF.out] at hown
      exact ⟨⟨_, rfl, hown.rv (by have := pickV_length_le row places; omega) (fun _ h => h)⟩, hb⟩

theorem fitC_no1 {t : TabD} {k : Int} {x : Val} (h : ¬ 0 ≤ k) : fitC t k x = false := by simp [fitC, h]
theorem fitC_no2 {t : TabD} {k : Int} {x : Val} (h : ¬ k < t.cols.length) : fitC t k x = false := by
  unfold fitC; rw [decide_eq_false h]; simp
theorem fitC_at {t : TabD} {q : Nat} {x : Val} (h : q < t.cols.length) : fitC t (q : Int) x = (rightB x.k x.i x.s && t.cols[q].kind == x.k) := by
  have h' : (q : Int) < t.cols.length := by omega
  simp [fitC, h', h]

set_option maxRecDepth 100000 in
set_option maxHeartbeats 3200000 in
theorem fits_any {ok ok2 : Nat → Prop} (t : TabD) (a b v : Value) (row : List Val) (w : World) (ht : TabR ok w a b t) (hr : RV ok2 w v row) :
    Calls Try.prog 118 #[.agg (tabCs t a b), v] w fun e w' => e = .returned (.bool (fitAll t t.key row)) ∧ Below w.heap.size w w' := by
  obtain ⟨A, c, rfl, hc, hbd⟩ := ht.cols.form
  obtain ⟨A3, c3, rfl, hc3, hbd3⟩ := ht.key.form
  obtain ⟨A2, c2, rfl, hc2, hbd2⟩ := hr.form
  have hbd' : t.cols.length * 32 ≤ 140737488351232 := hbd
  have hbd2' : row.length * 32 ≤ 140737488351232 := hbd2
  have hbd3' : t.key.length * 8 ≤ 140737488351232 := hbd3
  clear hbd hbd2 hbd3
  by_cases hl : row.length = t.key.length
  · have HL := Lib.hid hl
    have hle : row.length ≤ t.key.length := by omega
    have hge : t.key.length ≤ row.length := by omega
    have ht1 : ((row.length : Int) != (t.key.length : Int)) = false := by rw [hl]; simp
    clear hl
    go_enter Try.func118, Try.ntmps118
    unfold tabCs
    go_wp2
    go_loopw [16] (fun j wr => ∃ k : Nat, k ≤ row.length ∧ j = .int .i64 (k : Int) ∧ Below (w.heap.size + 1) (w.alloc (.cells #[.int .i64 t.id, .string t.name, .slice A t.cols.length c, .slice A3 t.key.length c3] 56)) wr ∧ w.heap.size + 1 ≤ wr.heap.size ∧
      Hid (∀ q (h1 : q < t.key.length) (h2 : q < row.length), q < k → fitC t t.key[q] row[q] = true)) (fun j _ => row.length - (intOf j).toNat)
    case atStart => exact ⟨0, by omega, rfl, Below.refl _ _, by simp, fun q _ _ h => absurd h (by omega)⟩
    case round =>
      obtain ⟨k, hk, rfl, hb, hz, HA⟩ := hrel
      have hbw := box_below hb
      by_cases hlt : k < row.length
      · have hlt2 : k < t.key.length := by omega
        obtain ⟨b1, off1, c1', cs1, hv1, _, ⟨rfl, hok⟩, hcell1⟩ := (hr.below hbw).at_ hlt
        simp only [Value.slice.injEq, true_and] at hv1
        obtain ⟨rfl, rfl⟩ := hv1
        obtain ⟨b2, off2, c2', cs2, hv2, _, ⟨rfl, _⟩, hcell2⟩ := (ht.key.below hbw).at_ hlt2
        simp only [Value.slice.injEq, true_and] at hv2
        obtain ⟨rfl, rfl⟩ := hv2
        have p0 := hcell1 0 _ rfl
        have p1 := hcell1 1 _ rfl
        have p2 := hcell1 2 _ rfl
        have q0 := hcell2 0 _ rfl
        simp only [Nat.add_zero, show rVal.sz = 3 from rfl, show rInt.sz = 1 from rfl, Nat.mul_one] at p0 p1 p2 q0
        clear hcell1 hcell2
        have bx := box_at (i := 2) hb rfl
        have by_ := box_at (i := 3) hb rfl
        obtain ⟨q, hq⟩ : ∃ q, q = t.key[k] := ⟨_, rfl⟩
        obtain ⟨x, hx⟩ : ∃ x, x = row[k] := ⟨_, rfl⟩
        have HM0 : Hid (fitC t t.key[k] row[k] = fitC t q x) := by rw [hq, hx]; rfl
        rw [← hq] at q0
        rw [← hx] at p0 p1 p2
        clear hq hx
        have NO : Hid (fitC t q x = false → fitAll t t.key row = false) := fun h => fitAll_no k hlt2 hlt (by rw [HM0.out]; exact h)
        have e0 := alloc1 q0
        have e1 := alloc1 by_
        have m0 : ∀ s : Later (wr.alloc (.cells #[.int .i64 x.k, .int .i64 x.i, .string x.s] 24)), s.val.cell? ⟨wr.heap.size, 0, none⟩ = some (.int .i64 x.k) := Later.cell (by simp)
        have m1 : ∀ s : Later (wr.alloc (.cells #[.int .i64 x.k, .int .i64 x.i, .string x.s] 24)), s.val.cell? ⟨wr.heap.size, 1, none⟩ = some (.int .i64 x.i) := Later.cell (by simp)
        have m2 : ∀ s : Later (wr.alloc (.cells #[.int .i64 x.k, .int .i64 x.i, .string x.s] 24)), s.val.cell? ⟨wr.heap.size, 2, none⟩ = some (.string x.s) := Later.cell (by simp)
        have l3 := Later.cell (alloc1 bx (.cells #[.int .i64 x.k, .int .i64 x.i, .string x.s] 24))
        have HBX : Hid (∀ s : Later (wr.alloc (.cells #[.int .i64 x.k, .int .i64 x.i, .string x.s] 24)), Below (w.heap.size + 1) (w.alloc (.cells #[.int .i64 t.id, .string t.name, .slice A t.cols.length c, .slice (some ⟨b2, off2, none⟩) t.key.length c3] 56)) s.val ∧ w.heap.size + 1 ≤ s.val.heap.size) := fun s =>
          ⟨(hb.alloc (by omega) _).trans (s.below.mono (by simp; omega)), by have := s.below.size; simp at this; omega⟩
        by_cases h0 : 0 ≤ q
        · obtain ⟨q, rfl⟩ := Int.eq_ofNat_of_zero_le h0
          clear h0
          by_cases h1 : q < t.cols.length
          · obtain ⟨b3, off3, c3', cs3, hv3, _, ⟨rfl, _⟩, hcell3⟩ := (ht.cols.below hbw).at_ h1
            simp only [Value.slice.injEq, true_and] at hv3
            obtain ⟨rfl, rfl⟩ := hv3
            have r1 := hcell3 1 _ rfl
            simp only [show rCol.sz = 3 from rfl] at r1
            clear hcell3
            have HF := Lib.hid (fitC_at (x := x) h1)
            obtain ⟨ck, hck⟩ : ∃ ck, ck = t.cols[q].kind := ⟨_, rfl⟩
            rw [← hck] at r1 HF
            clear hck
            have l4 := Later.cell (alloc1 r1 (.cells #[.int .i64 x.k, .int .i64 x.i, .string x.s] 24))
            have d0 : decide ((q : Int) < 0) = false := decide_eq_false (by omega)
            have d1 : decide ((t.cols.length : Int) ≤ (q : Int)) = false := decide_eq_false (by omega)
            have d2 : decide (t.cols.length ≤ q) = false := decide_eq_false (by omega)
            cases hR : rightB x.k x.i x.s
            · have HR := Lib.hid hR
              go_wp2
              refine wp_region_later (by kernel_rfl) (by kernel_rfl) ?_
              repeat (go_big_quiet_step ((go_at_call 19; exact Later.call (by have := right_any x.k x.i x.s; rw [HR.out] at this; exact this _))))
              refine wpQuiet_nil ?_
              intro s1
              go_wp2
              go_ret
              exact ⟨ret_bool (NO.out (by rw [HF.out, HR.out]; rfl)).symm, box_below (HBX.out s1).1⟩
            · have HR := Lib.hid hR
              cases hK : (ck == x.k)
              · have hne : (x.k != ck) = true := by rw [bne_iff_ne]; intro h; subst h; simp at hK
                have HK := Lib.hid hK
                clear hK
                go_wp2
                refine wp_region_later (by kernel_rfl) (by kernel_rfl) ?_
                repeat (go_big_quiet_step ((go_at_call 19; exact Later.call (by have := right_any x.k x.i x.s; rw [HR.out] at this; exact this _))))
                refine wpQuiet_nil ?_
                intro s1
                go_wp2
                go_ret
                exact ⟨ret_bool (NO.out (by rw [HF.out, HR.out, HK.out]; rfl)).symm, box_below (HBX.out s1).1⟩
              · have hne : (x.k != ck) = false := by have := beq_iff_eq.1 hK; subst this; simp
                have HK := Lib.hid hK
                clear hK
                go_wp2
                refine wp_region_later (by kernel_rfl) (by kernel_rfl) ?_
                repeat (go_big_quiet_step ((go_at_call 19; exact Later.call (by have := right_any x.k x.i x.s; rw [HR.out] at this; exact this _))))
                refine wpQuiet_nil ?_
                intro s1
                have hbx := (HBX.out s1).1
                have hz1 := (HBX.out s1).2
                go_wp2
                go_roundw
                case rel => exact ⟨k + 1, by omega, by go_num, hbx, hz1, fun q' h1 h2 hq => by
                  rcases Nat.lt_or_ge q' k with h | h
                  · exact HA.out q' h1 h2 h
                  · obtain rfl : q' = k := by omega
                    rw [HM0.out, HF.out, HR.out, HK.out]; rfl⟩
                case measure => simp [intOf]; omega
          · have HN := Lib.hid (NO.out (fitC_no2 (by omega)))
            have d0 : decide ((q : Int) < 0) = false := decide_eq_false (by omega)
            have d1 : decide ((t.cols.length : Int) ≤ (q : Int)) = true := decide_eq_true (by omega)
            have d2 : decide (t.cols.length ≤ q) = true := decide_eq_true (by omega)
            go_wp2
            refine wp_region_later (by kernel_rfl) (by kernel_rfl) ?_
            repeat (go_big_quiet_step (fail))
            refine wpQuiet_nil ?_
            intro s1
            go_wp2
            go_ret
            exact ⟨ret_bool HN.out.symm, box_below (HBX.out s1).1⟩
        · have HN := Lib.hid (NO.out (fitC_no1 h0))
          have d0 : decide (q < 0) = true := decide_eq_true (by omega)
          clear h0
          go_wp2
          refine wp_region_later (by kernel_rfl) (by kernel_rfl) ?_
          repeat (go_big_quiet_step (fail))
          refine wpQuiet_nil ?_
          intro s1
          go_wp2
          go_ret
          exact ⟨ret_bool HN.out.symm, box_below (HBX.out s1).1⟩
      · go_wp2
        go_ret
        refine ⟨ret_bool ?_, hbw⟩
        rw [fitAll_yes HL.out fun q h1 h2 => HA.out q h1 h2 (by omega)]
  · have ht1 : ((row.length : Int) != (t.key.length : Int)) = true := by rw [bne_iff_ne]; omega
    have HM := Lib.hid (fitAll_len_no (t := t) hl)
    clear hl
    go_enter Try.func118, Try.ntmps118
    unfold tabCs
    go_wp2
    go_ret
    exact ⟨ret_bool HM.out.symm, (Below.refl _ _).alloc (Nat.le_refl _) _⟩
end Go.Proofs.Ytikkknaofiafhaa
