/- Contracts: the document's pick; rows.Fits, head, Key, Name; the document's Key.
Contracts: rows.head, Key, Name, Pair; the document's Key.
Contracts: rows.null, ContainsFunc of it; slices.Index; bytes.Equal, HasPrefix, CutPrefix; rows.Pair. -/
import Derived.Test.YtikkknaofiafhaaR1
import Derived.Test.YtikkknaofiafhaaS0
namespace Go.Proofs.Ytikkknaofiafhaa
open Go.RowKit

set_option maxRecDepth 100000 in
set_option maxHeartbeats 1600000 in
theorem refPick_any {ok ok2 : Nat → Prop} (v p : Value) (row : List Val) (places : List Int) (w : World) (hr : RV ok w v row) (hp : RSl rInt ok2 w p places) (hn : places.length ≤ 1000000) (hin : ∀ q ∈ places, 0 ≤ q ∧ q < row.length) :
    Calls Try.prog 121 #[v, p] w fun e w' => (∃ v', e = .returned v' ∧ RV (fun b => w.heap.size ≤ b) w' v' (pickV row places)) ∧ Below w.heap.size w w' := by
  obtain ⟨A, c, rfl, hc, hbd⟩ := hp.form
  obtain ⟨A2, c2, rfl, hc2, hbd2⟩ := hr.form
  have hbd2' : row.length * 32 ≤ 140737488351232 := hbd2
  have HIN := Lib.hid hin
  clear hbd hbd2 hin
  go_enter Try.func121, Try.ntmps121
  go_wp2
  go_loopw [5, 6] (fun v j wr => ∃ k : Nat, k ≤ places.length ∧ j = .int .i64 (k : Int) ∧ Below w.heap.size w wr ∧ OwnL rVal (fun b => w.heap.size ≤ b) w.heap.size 24 wr v (pickV row (places.take k))) (fun _ j _ => places.length - (intOf j).toNat)
  case atStart => exact ⟨0, by omega, rfl, Below.refl _ _, OwnL.nil_ _ _ _ _ _⟩
  case round =>
    obtain ⟨k, hk, rfl, hb, hown⟩ := hrel
    by_cases hlt : k < places.length
    · obtain ⟨b1, off1, c1', cs1, hv1, _, ⟨rfl, _⟩, hcell1⟩ := (hp.below hb).at_ hlt
      simp only [Value.slice.injEq, true_and] at hv1
      obtain ⟨rfl, rfl⟩ := hv1
      have p0 := hcell1 0 _ rfl
      simp only [Nat.add_zero, show rInt.sz = 1 from rfl, Nat.mul_one] at p0
      clear hcell1
      have HS := Lib.hid (pickV_take_succ row places k hlt)
      have hpl := pickV_length_le row (places.take k)
      have htl : (places.take k).length ≤ k := List.length_take_le _ _
      have hq0 := HIN.out places[k] (List.getElem_mem hlt)
      obtain ⟨q, hq⟩ : ∃ q, q = places[k] := ⟨_, rfl⟩
      rw [← hq] at p0 HS hq0
      clear hq
      obtain ⟨h0, h1⟩ := hq0
      obtain ⟨q, rfl⟩ := Int.eq_ofNat_of_zero_le h0
      have h1 : q < row.length := by omega
      obtain ⟨_, hat⟩ := at_some (row := row) (k := (q : Int)) (by omega) (by omega)
      simp only [Int.toNat_natCast] at hat
      obtain ⟨b2, off2, c2', cs2, hv2, _, ⟨rfl, hok⟩, hcell2⟩ := (hr.below hb).at_ h1
      simp only [Value.slice.injEq, true_and] at hv2
      obtain ⟨rfl, rfl⟩ := hv2
      have q0 := hcell2 0 _ rfl
      have q1 := hcell2 1 _ rfl
      have q2 := hcell2 2 _ rfl
      simp only [Nat.add_zero, show rVal.sz = 3 from rfl] at q0 q1 q2
      clear hcell2
      obtain ⟨x, hx⟩ : ∃ x, x = row[q] := ⟨_, rfl⟩
      rw [← hx] at q0 q1 q2 hok hat
      have HAT := Lib.hid hat
      clear hx hat
      go_wp2_with (at_builtin; go_loud (refine wp_app1 (E := rVal) (okd := fun b => w.heap.size ≤ b) Try.rowVal (by decide) rfl _ _ rfl _ (pickV row (places.take k)) wr _ x rfl hown rfl ⟨rfl, hok⟩ (by show (_ + 1) * 32 ≤ _; omega) (by omega) hb.size ?_); intro v' w' hown2 hk2 _)
      go_roundw
      case rel => exact ⟨k + 1, by omega, by go_num, hb.trans (hown.bel hk2 hb.size), by rw [HS.out, HAT.out]; exact hown2⟩
      case measure => simp [intOf]; omega
    · have hfin : places.take k = places := List.take_of_length_le (by omega)
      have HF := Lib.hid hfin
      clear hfin
      go_wp2
      go_ret
      rw [HF.out] at hown
      exact ⟨⟨_, rfl, hown.rv (by have := pickV_length_le row places; omega) (fun _ h => h)⟩, hb⟩

theorem fitC_no1 {t : TabD} {k : Int} {x : Val} (h : ¬ 0 ≤ k) : fitC t k x = false := by simp [fitC, h]
theorem fitC_no2 {t : TabD} {k : Int} {x : Val} (h : ¬ k < t.cols.length) : fitC t k x = false := by
  unfold fitC; rw [decide_eq_false h]; simp
theorem fitC_at {t : TabD} {q : Nat} {x : Val} (h : q < t.cols.length) : fitC t (q : Int) x = (rightB x.k x.i x.s && t.cols[q].kind == x.k) := by
  have h' : (q : Int) < t.cols.length := by omega
  simp [fitC, h', h]

set_option maxRecDepth 100000 in
set_option maxHeartbeats 3200000 in
theorem fits_any {ok ok2 : Nat → Prop} (t : TabD) (a b v : Value) (row : List Val) (w : World) (ht : TabR ok w a b t) (hr : RV ok2 w v row) :
    Calls Try.prog 118 #[.agg (tabCs t a b), v] w fun e w' => e = .returned (.bool (fitAll t t.key row)) ∧ Below w.heap.size w w' := by
  obtain ⟨A, c, rfl, hc, hbd⟩ := ht.cols.form
  obtain ⟨A3, c3, rfl, hc3, hbd3⟩ := ht.key.form
  obtain ⟨A2, c2, rfl, hc2, hbd2⟩ := hr.form
  have hbd' : t.cols.length * 32 ≤ 140737488351232 := hbd
  have hbd2' : row.length * 32 ≤ 140737488351232 := hbd2
  have hbd3' : t.key.length * 8 ≤ 140737488351232 := hbd3
  clear hbd hbd2 hbd3
  by_cases hl : row.length = t.key.length
  · have HL := Lib.hid hl
    have hle : row.length ≤ t.key.length := by omega
    have hge : t.key.length ≤ row.length := by omega
    have ht1 : ((row.length : Int) != (t.key.length : Int)) = false := by rw [hl]; simp
    clear hl
    go_enter Try.func118, Try.ntmps118
    unfold tabCs
    go_wp2
    go_loopw [16] (fun j wr => ∃ k : Nat, k ≤ row.length ∧ j = .int .i64 (k : Int) ∧ Below (w.heap.size + 1) (w.alloc (.cells #[.int .i64 t.id, .string t.name, .slice A t.cols.length c, .slice A3 t.key.length c3] 56)) wr ∧ w.heap.size + 1 ≤ wr.heap.size ∧
      Hid (∀ q (h1 : q < t.key.length) (h2 : q < row.length), q < k → fitC t t.key[q] row[q] = true)) (fun j _ => row.length - (intOf j).toNat)
    case atStart => exact ⟨0, by omega, rfl, Below.refl _ _, by simp, fun q _ _ h => absurd h (by omega)⟩
    case round =>
      obtain ⟨k, hk, rfl, hb, hz, HA⟩ := hrel
      have hbw := box_below hb
      by_cases hlt : k < row.length
      · have hlt2 : k < t.key.length := by omega
        obtain ⟨b1, off1, c1', cs1, hv1, _, ⟨rfl, hok⟩, hcell1⟩ := (hr.below hbw).at_ hlt
        simp only [Value.slice.injEq, true_and] at hv1
        obtain ⟨rfl, rfl⟩ := hv1
        obtain ⟨b2, off2, c2', cs2, hv2, _, ⟨rfl, _⟩, hcell2⟩ := (ht.key.below hbw).at_ hlt2
        simp only [Value.slice.injEq, true_and] at hv2
        obtain ⟨rfl, rfl⟩ := hv2
        have p0 := hcell1 0 _ rfl
        have p1 := hcell1 1 _ rfl
        have p2 := hcell1 2 _ rfl
        have q0 := hcell2 0 _ rfl
        simp only [Nat.add_zero, show rVal.sz = 3 from rfl, show rInt.sz = 1 from rfl, Nat.mul_one] at p0 p1 p2 q0
        clear hcell1 hcell2
        have bx := box_at (i := 2) hb rfl
        have by_ := box_at (i := 3) hb rfl
        obtain ⟨q, hq⟩ : ∃ q, q = t.key[k] := ⟨_, rfl⟩
        obtain ⟨x, hx⟩ : ∃ x, x = row[k] := ⟨_, rfl⟩
        have HM0 : Hid (fitC t t.key[k] row[k] = fitC t q x) := by rw [hq, hx]; rfl
        rw [← hq] at q0
        rw [← hx] at p0 p1 p2
        clear hq hx
        have NO : Hid (fitC t q x = false → fitAll t t.key row = false) := fun h => fitAll_no k hlt2 hlt (by rw [HM0.out]; exact h)
        have e0 := alloc1 q0
        have e1 := alloc1 by_
        have m0 : ∀ s : Later (wr.alloc (.cells #[.int .i64 x.k, .int .i64 x.i, .string x.s] 24)), s.val.cell? ⟨wr.heap.size, 0, none⟩ = some (.int .i64 x.k) := Later.cell (by simp)
        have m1 : ∀ s : Later (wr.alloc (.cells #[.int .i64 x.k, .int .i64 x.i, .string x.s] 24)), s.val.cell? ⟨wr.heap.size, 1, none⟩ = some (.int .i64 x.i) := Later.cell (by simp)
        have m2 : ∀ s : Later (wr.alloc (.cells #[.int .i64 x.k, .int .i64 x.i, .string x.s] 24)), s.val.cell? ⟨wr.heap.size, 2, none⟩ = some (.string x.s) := Later.cell (by simp)
        have l3 := Later.cell (alloc1 bx (.cells #[.int .i64 x.k, .int .i64 x.i, .string x.s] 24))
        have HBX : Hid (∀ s : Later (wr.alloc (.cells #[.int .i64 x.k, .int .i64 x.i, .string x.s] 24)), Below (w.heap.size + 1) (w.alloc (.cells #[.int .i64 t.id, .string t.name, .slice A t.cols.length c, .slice (some ⟨b2, off2, none⟩) t.key.length c3] 56)) s.val ∧ w.heap.size + 1 ≤ s.val.heap.size) := fun s =>
          ⟨(hb.alloc (by omega) _).trans (s.below.mono (by simp; omega)), by have := s.below.size; simp at this; omega⟩
        by_cases h0 : 0 ≤ q
        · obtain ⟨q, rfl⟩ := Int.eq_ofNat_of_zero_le h0
          clear h0
          by_cases h1 : q < t.cols.length
          · obtain ⟨b3, off3, c3', cs3, hv3, _, ⟨rfl, _⟩, hcell3⟩ := (ht.cols.below hbw).at_ h1
            simp only [Value.slice.injEq, true_and] at hv3
            obtain ⟨rfl, rfl⟩ := hv3
            have r1 := hcell3 1 _ rfl
            simp only [show rCol.sz = 3 from rfl] at r1
            clear hcell3
            have HF := Lib.hid (fitC_at (x := x) h1)
            obtain ⟨ck, hck⟩ : ∃ ck, ck = t.cols[q].kind := ⟨_, rfl⟩
            rw [← hck] at r1 HF
            clear hck
            have l4 := Later.cell (alloc1 r1 (.cells #[.int .i64 x.k, .int .i64 x.i, .string x.s] 24))
            have d0 : decide ((q : Int) < 0) = false := decide_eq_false (by omega)
            have d1 : decide ((t.cols.length : Int) ≤ (q : Int)) = false := decide_eq_false (by omega)
            have d2 : decide (t.cols.length ≤ q) = false := decide_eq_false (by omega)
            cases hR : rightB x.k x.i x.s
            · have HR := Lib.hid hR
              go_wp2
              refine wp_region_later (by kernel_rfl) (by kernel_rfl) ?_
              repeat (go_big_quiet_step ((go_at_call 19; exact Later.call (by have := right_any x.k x.i x.s; rw [HR.out] at this; exact this _))))
              refine wpQuiet_nil ?_
              intro s1
              go_wp2
              go_ret
              exact ⟨ret_bool (NO.out (by rw [HF.out, HR.out]; rfl)).symm, box_below (HBX.out s1).1⟩
            · have HR := Lib.hid hR
              cases hK : (ck == x.k)
              · have hne : (x.k != ck) = true := by rw [bne_iff_ne]; intro h; subst h; simp at hK
                have HK := Lib.hid hK
                clear hK
                go_wp2
                refine wp_region_later (by kernel_rfl) (by kernel_rfl) ?_
                repeat (go_big_quiet_step ((go_at_call 19; exact Later.call (by have := right_any x.k x.i x.s; rw [HR.out] at this; exact this _))))
                refine wpQuiet_nil ?_
                intro s1
                go_wp2
                go_ret
                exact ⟨ret_bool (NO.out (by rw [HF.out, HR.out, HK.out]; rfl)).symm, box_below (HBX.out s1).1⟩
              · have hne : (x.k != ck) = false := by have := beq_iff_eq.1 hK; subst this; simp
                have HK := Lib.hid hK
                clear hK
                go_wp2
                refine wp_region_later (by kernel_rfl) (by kernel_rfl) ?_
                repeat (go_big_quiet_step ((go_at_call 19; exact Later.call (by have := right_any x.k x.i x.s; rw [HR.out] at this; exact this _))))
                refine wpQuiet_nil ?_
                intro s1
                have hbx := (HBX.out s1).1
                have hz1 := (HBX.out s1).2
                go_wp2
                go_roundw
                case rel => exact ⟨k + 1, by omega, by go_num, hbx, hz1, fun q' h1 h2 hq => by
                  rcases Nat.lt_or_ge q' k with h | h
                  · exact HA.out q' h1 h2 h
                  · obtain rfl : q' = k := by omega
                    rw [HM0.out, HF.out, HR.out, HK.out]; rfl⟩
                case measure => simp [intOf]; omega
          · have HN := Lib.hid (NO.out (fitC_no2 (by omega)))
            have d0 : decide ((q : Int) < 0) = false := decide_eq_false (by omega)
            have d1 : decide ((t.cols.length : Int) ≤ (q : Int)) = true := decide_eq_true (by omega)
            have d2 : decide (t.cols.length ≤ q) = true := decide_eq_true (by omega)
            go_wp2
            refine wp_region_later (by kernel_rfl) (by kernel_rfl) ?_
            repeat (go_big_quiet_step (fail))
            refine wpQuiet_nil ?_
            intro s1
            go_wp2
            go_ret
            exact ⟨ret_bool HN.out.symm, box_below (HBX.out s1).1⟩
        · have HN := Lib.hid (NO.out (fitC_no1 h0))
          have d0 : decide (q < 0) = true := decide_eq_true (by omega)
          clear h0
          go_wp2
          refine wp_region_later (by kernel_rfl) (by kernel_rfl) ?_
          repeat (go_big_quiet_step (fail))
          refine wpQuiet_nil ?_
          intro s1
          go_wp2
          go_ret
          exact ⟨ret_bool HN.out.symm, box_below (HBX.out s1).1⟩
      · go_wp2
        go_ret
        refine ⟨ret_bool ?_, hbw⟩
        rw [fitAll_yes HL.out fun q h1 h2 => HA.out q h1 h2 (by omega)]
  · have ht1 : ((row.length : Int) != (t.key.length : Int)) = true := by rw [bne_iff_ne]; omega
    have HM := Lib.hid (fitAll_len_no (t := t) hl)
    clear hl
    go_enter Try.func118, Try.ntmps118
    unfold tabCs
    go_wp2
    go_ret
    exact ⟨ret_bool HM.out.symm, (Below.refl _ _).alloc (Nat.le_refl _) _⟩
end Go.Proofs.Ytikkknaofiafhaa

namespace Go.Proofs.Ytikkknaofiafhaa
open Go.RowKit

theorem encSpec_len (l : List Val) : (encSpec l).1.length ≤ 688 := by
  unfold encSpec
  cases h : allRight l
  · simp
  · rw [if_pos rfl]
    split
    · simp
    · have := encL_length_le l h
      simp only
      omega
/-- Enc over data -/
theorem enc_rv {ok : Nat → Prop} (v : Value) (vs : List Val) (w : World) (hr : RV ok w v vs) :
    Calls Try.prog 16 #[v] w fun e w' => (∃ A n c, e = .returned (.tuple #[.slice A n c, .int .i64 (encSpec vs).2]) ∧ OwnB w.heap.size w' A n c (encSpec vs).1) ∧ Below w.heap.size w w' := by
  obtain ⟨A, c, rfl, hc, hm, hrd, hok, _⟩ := hr.open_
  exact enc_any A _ c vs w hrd (by omega) hok
theorem head_enc (id : Int) : encSpec [⟨1, id, ⟨#[]⟩⟩] = (encL [⟨1, id, ⟨#[]⟩⟩], 0) := by
  have : allRight [⟨1, id, ⟨#[]⟩⟩] = true := by
    simp [allRight, rightB, Val.right]
  simp [encSpec, this]
theorem headB_length (f : UInt8) (id : Int) : (headB f id).length = 10 := by
  simp [headB, encL, encV, intB_length]

set_option maxRecDepth 100000 in
set_option maxHeartbeats 1600000 in
theorem head_any (f : UInt8) (id : Int) (w : World) (hid : I64 id) :
    Calls Try.prog 115 #[.int .u8 (f.toNat : Int), .int .i64 id] w fun e w' => (∃ A c, e = .returned (.slice A 10 c) ∧ OwnB w.heap.size w' A 10 c (headB f id)) ∧ Below w.heap.size w w' := by
  have HI := Lib.hid hid; clear hid
  go_enter Try.func115, Try.ntmps115
  go_wp2_with fail
  refine (enc_any (some ⟨w.heap.size, 0, none⟩) 1 1 [⟨1, id, ⟨#[]⟩⟩] _ (Rd.new w _ 3 1 _ rfl) (by omega) (by intro x hx; simp at hx; subst hx; exact HI.out)).mono ?_
  unfold EncPost
  rw [head_enc]
  rintro e w1 ⟨⟨A, n, c, rfl, hown⟩, hb1⟩
  have hn : 9 = n := by have := hown.len; simpa [encL, encV, intB_length] using this
  subst hn
  have hb0 : Below w.heap.size w w1 := ((Below.refl _ _).alloc (Nat.le_refl _) _).trans (hb1.mono (by simp))
  have ho1 := own_first w1 (f.toNat : Int) f rfl w.heap.size hb0.size
  go_wp2_with (at_builtin; refine wp_append_bytes rfl _ _ rfl w.heap.size _ 1 1 [f] _ rfl ho1 A 9 c (encL [⟨1, id, ⟨#[]⟩⟩]) rfl (hown.rd.below ((Below.refl _ _).alloc (Nat.le_refl _) _)) (by omega) (by have := hb0.size; simp; omega) ?_; intro A2 c2 w2 hown2 hb2)
  go_ret
  exact ⟨⟨A2, c2, rfl, hown2⟩, (hb0.alloc hb0.size _).trans hb2⟩

set_option maxRecDepth 100000 in
set_option maxHeartbeats 1600000 in
theorem key_any {ok ok2 : Nat → Prop} (t : TabD) (a b v : Value) (row : List Val) (w : World) (ht : TabR ok w a b t) (hr : RV ok2 w v row) (hn : t.key.length ≤ 1000000) :
    Calls Try.prog 57 #[.agg (tabCs t a b), v] w fun e w' => (∃ v', e = .returned v' ∧ RV (fun b => w.heap.size ≤ b) w' v' (keyV t row)) ∧ Below w.heap.size w w' := by
  obtain ⟨A, c, rfl, _, _⟩ := ht.cols.form
  obtain ⟨A3, c3, rfl, _, _⟩ := ht.key.form
  obtain ⟨A2, c2, rfl, _, _⟩ := hr.form
  have hb0 : Below w.heap.size w (w.alloc (.cells (tabCs t (.slice A t.cols.length c) (.slice A3 t.key.length c3)) 56)) := (Below.refl _ _).alloc (Nat.le_refl _) _
  go_enter Try.func57, Try.ntmps57
  unfold tabCs
  go_wp2_with fail
  refine (rowRight_any t _ _ _ row _ (ht.below hb0) (hr.below hb0)).mono ?_
  rintro e w1 ⟨rfl, hb1⟩
  have hb2 : Below (w.heap.size + 1) (w.alloc (.cells (tabCs t (.slice A t.cols.length c) (.slice A3 t.key.length c3)) 56)) w1 := hb1.mono (by simp)
  have bx := box_at (i := 3) hb2 rfl
  have hbw := box_below hb2
  cases hM : mayAll t.cols row
  · have HM := Lib.hid hM
    clear hM
    go_wp2
    go_ret
    refine ⟨⟨_, rfl, ?_⟩, hbw⟩
    unfold keyV
    rw [HM.out]
    exact RSl.nil_ _ _ _
  · have HM := Lib.hid hM
    clear hM
    go_wp2_with fail
    refine (pick_any _ _ row t.key _ (hr.below hbw) (ht.key.below hbw) hn).mono ?_
    rintro e w2 ⟨⟨v', rfl, hv'⟩, hb3⟩
    go_wp2
    go_ret
    refine ⟨⟨_, rfl, ?_⟩, hbw.trans (hb3.mono hbw.size)⟩
    unfold keyV
    rw [HM.out]
    exact hv'.mono (by decide) fun b hb _ => Nat.le_trans hbw.size hb

set_option maxRecDepth 100000 in
set_option maxHeartbeats 1600000 in
theorem refKey_any {ok ok2 : Nat → Prop} (t : TabD) (a b v : Value) (row : List Val) (w : World) (ht : TabR ok w a b t) (hr : RV ok2 w v row) (hn : t.key.length ≤ 1000000) (hin : ∀ q ∈ t.key, 0 ≤ q ∧ q < t.cols.length) :
    Calls Try.prog 59 #[.agg (tabCs t a b), v] w fun e w' => (∃ v', e = .returned v' ∧ RV (fun b => w.heap.size ≤ b) w' v' (keyV t row)) ∧ Below w.heap.size w w' := by
  obtain ⟨A, c, rfl, _, _⟩ := ht.cols.form
  obtain ⟨A3, c3, rfl, _, _⟩ := ht.key.form
  obtain ⟨A2, c2, rfl, _, _⟩ := hr.form
  have HIN := Lib.hid hin
  clear hin
  have hb0 : Below w.heap.size w (w.alloc (.cells (tabCs t (.slice A t.cols.length c) (.slice A3 t.key.length c3)) 56)) := (Below.refl _ _).alloc (Nat.le_refl _) _
  go_enter Try.func59, Try.ntmps59
  unfold tabCs
  go_wp2_with fail
  refine (refRowRight_any t _ _ _ row _ (ht.below hb0) (hr.below hb0)).mono ?_
  rintro e w1 ⟨rfl, hb1⟩
  have hb2 : Below (w.heap.size + 1) (w.alloc (.cells (tabCs t (.slice A t.cols.length c) (.slice A3 t.key.length c3)) 56)) w1 := hb1.mono (by simp)
  have bx := box_at (i := 3) hb2 rfl
  have hbw := box_below hb2
  cases hM : mayAll t.cols row
  · have HM := Lib.hid hM
    clear hM
    go_wp2
    go_ret
    refine ⟨⟨_, rfl, ?_⟩, hbw⟩
    unfold keyV
    rw [HM.out]
    exact RSl.nil_ _ _ _
  · have HM := Lib.hid hM
    clear hM
    go_wp2_with fail
    refine (refPick_any _ _ row t.key _ (hr.below hbw) (ht.key.below hbw) hn (fun q hq => by rw [mayAll_length HM.out]; exact HIN.out q hq)).mono ?_
    rintro e w2 ⟨⟨v', rfl, hv'⟩, hb3⟩
    go_wp2
    go_ret
    refine ⟨⟨_, rfl, ?_⟩, hbw.trans (hb3.mono hbw.size)⟩
    unfold keyV
    rw [HM.out]
    exact hv'.mono (by decide) fun b hb _ => Nat.le_trans hbw.size hb

set_option maxRecDepth 100000 in
set_option maxHeartbeats 1600000 in
theorem name_any {ok ok2 : Nat → Prop} (t : TabD) (a b v : Value) (row : List Val) (w : World) (ht : TabR ok w a b t) (hr : RV ok2 w v row) :
    Calls Try.prog 56 #[.agg (tabCs t a b), v] w fun e w' => (∃ v', e = .returned v' ∧ RB (fun b => w.heap.size ≤ b) w' v' (nameB t row)) ∧ Below w.heap.size w w' := by
  obtain ⟨A, c, rfl, _, _⟩ := ht.cols.form
  obtain ⟨A3, c3, rfl, _, _⟩ := ht.key.form
  obtain ⟨A2, c2, rfl, _, _⟩ := hr.form
  have hb0 : Below w.heap.size w (w.alloc (.cells (tabCs t (.slice A t.cols.length c) (.slice A3 t.key.length c3)) 56)) := (Below.refl _ _).alloc (Nat.le_refl _) _
  go_enter Try.func56, Try.ntmps56
  unfold tabCs
  go_wp2_with fail
  refine (fits_any t _ _ _ row _ (ht.below hb0) (hr.below hb0)).mono ?_
  rintro e w1 ⟨rfl, hb1⟩
  have hb2 : Below (w.heap.size + 1) (w.alloc (.cells (tabCs t (.slice A t.cols.length c) (.slice A3 t.key.length c3)) 56)) w1 := hb1.mono (by simp)
  have bx := box_at (i := 0) hb2 rfl
  have hbw := box_below hb2
  cases hM : fitAll t t.key row
  · have HM := Lib.hid hM
    clear hM
    go_wp2
    go_ret
    refine ⟨⟨_, rfl, ?_⟩, hbw⟩
    unfold nameB
    rw [HM.out]
    exact RSl.nil_ _ _ _
  · have HM := Lib.hid hM
    clear hM
    go_wp2_with fail
    refine (enc_rv _ row _ (hr.below hbw)).mono ?_
    rintro e w2 ⟨⟨A5, n5, c5, rfl, o5⟩, hb3⟩
    have bx2 := (hb3.cell (p := ⟨w.heap.size, 0, none⟩) (by show w.heap.size < w1.heap.size; have := hb2.size; simp at this; omega)).trans bx
    have hbw2 := hbw.trans (hb3.mono hbw.size)
    have h5 : n5 ≤ 688 := by have := o5.len; have := encSpec_len row; omega
    go_wp2_with fail
    refine (head_any 114 t.id _ ht.id).mono ?_
    rintro e w3 ⟨⟨A6, c6, rfl, o6⟩, hb4⟩
    have hbw3 := hbw2.trans (hb4.mono hbw2.size)
    go_wp2_with (at_builtin; refine wp_append_bytes rfl _ _ rfl w.heap.size A6 10 c6 (headB 114 t.id) _ rfl (o6.mono hbw2.size) A5 n5 c5 (encSpec row).1 rfl (o5.rd.below hb4) (by omega) hbw3.size ?_; intro A7 c7 w4 o7 hb5)
    go_ret
    refine ⟨⟨_, rfl, ?_⟩, hbw3.trans hb5⟩
    unfold nameB
    rw [HM.out]
    exact o7.rb (by omega)
end Go.Proofs.Ytikkknaofiafhaa

namespace Go.Proofs.Ytikkknaofiafhaa
open Go.RowKit

def hasNull (l : List Val) : Bool := l.any fun v => v.k == 0
theorem hasNull_yes (l : List Val) (k : Nat) (h : k < l.length) (h0 : (l[k].k == 0) = true) : hasNull l = true := List.any_eq_true.2 ⟨_, List.getElem_mem h, h0⟩
theorem hasNull_no (l : List Val) (h : ∀ k (hk : k < l.length), (l[k].k == 0) = false) : hasNull l = false := by
  unfold hasNull
  rw [List.any_eq_false]
  intro x hx
  obtain ⟨k, hk, rfl⟩ := List.getElem_of_mem hx
  rw [h k hk]
  simp

theorem null_any (k i : Int) (s : ByteArray) (w : World) :
    Calls Try.prog 116 #[.agg #[.int .i64 k, .int .i64 i, .string s]] w fun e w' => e = .returned (.bool (k == 0)) ∧ Below w.heap.size w w' := by
  go_enter Try.func116, Try.ntmps116
  go_wp2
  go_ret
  exact ⟨rfl, (Below.refl _ _).alloc (Nat.le_refl _) _⟩

set_option maxHeartbeats 800000 in
theorem indexNull_any (A : Option Addr) (n c : Nat) (vs : List Val) (w : World) (hr : Rd w 3 A n (vcs vs)) (hm : n ≤ 9223372036854775807) :
    Calls Try.prog 122 #[.slice A n c, .func (.func 116) #[] #[]] w (FoundB (hasNull vs) w) := by
  have hn : vs.length = n := by have := hr.1; rw [vcs_length] at this; omega
  have HN := Lib.hid hn; clear hn
  go_enter Try.func122, Try.ntmps122
  go_wp2
  go_loopw [8] (fun i wr => ∃ k : Nat, k ≤ n ∧ i = .int .i64 k ∧ Below w.heap.size w wr ∧ Hid (∀ q (h : q < vs.length), q < k → (vs[q].k == 0) = false)) (fun i _ => n - (intOf i).toNat)
  case atStart => exact ⟨0, Nat.zero_le _, rfl, Below.refl _ _, fun q _ h => absurd h (by omega)⟩
  case round =>
    obtain ⟨k, hk, rfl, hb, HA⟩ := hrel
    by_cases hlt : k < n
    · have hlv : k < vs.length := by rw [HN.out]; exact hlt
      obtain ⟨b, off, rfl, h0, h1, h2⟩ := (hr.below hb).val hlv
      go_wp2_with fail
      refine (null_any _ _ _ _).mono ?_
      rintro e w1 ⟨rfl, hb1⟩
      cases hR : (vs[k].k == 0)
      · go_wp2
        go_roundw
        case rel => exact ⟨k + 1, by omega, by go_num, hb.trans (hb1.mono hb.size), fun q h hq => by
          rcases Nat.lt_or_ge q k with h' | h'
          · exact HA.out q h h'
          · obtain rfl : q = k := by omega
            exact hR⟩
        case measure => simp [intOf]; omega
      · have HY := Lib.hid (hasNull_yes vs k hlv hR)
        go_wp2
        go_ret
        refine ⟨⟨k, rfl, ?_⟩, hb.trans (hb1.mono hb.size)⟩
        rw [HY.out]; simp
    · have HY := Lib.hid (hasNull_no vs fun q hq => HA.out q hq (by rw [HN.out] at hq; omega))
      go_wp2
      go_ret
      exact ⟨⟨-1, rfl, by rw [HY.out]; rfl⟩, hb⟩

theorem containsNull_any {ok : Nat → Prop} (v : Value) (vs : List Val) (w : World) (hr : RV ok w v vs) :
    Calls Try.prog 60 #[v, .func (.func 116) #[] #[]] w fun e w' => e = .returned (.bool (hasNull vs)) ∧ Below w.heap.size w w' := by
  obtain ⟨A, c, rfl, _, hm, hrd, _, _⟩ := hr.open_
  go_enter Try.func60, Try.ntmps60
  go_wp2_with fail
  refine (indexNull_any A _ c vs _ hrd (by omega)).mono ?_
  rintro e w1 ⟨⟨q, rfl, hq⟩, hb1⟩
  have HQ := Lib.hid hq; clear hq
  go_wp2
  go_ret
  exact ⟨ret_bool HQ.out, hb1⟩

/-- the first place of a number -/
def idxI : List Int → Int → Nat → Int
  | [], _, _ => -1
  | x :: l, k, n => if k = x then (n : Int) else idxI l k (n + 1)
theorem idxI_drop (l : List Int) (k : Int) (n : Nat) (h : n < l.length) : idxI (l.drop n) k n = if k = l[n] then (n : Int) else idxI (l.drop (n + 1)) k (n + 1) := by
  rw [List.drop_eq_getElem_cons h, idxI]

set_option maxHeartbeats 800000 in
theorem indexInt_any {ok : Nat → Prop} (v : Value) (l : List Int) (k : Int) (w : World) (hr : RSl rInt ok w v l) :
    Calls Try.prog 119 #[v, .int .i64 k] w fun e w' => e = .returned (.int .i64 (idxI l k 0)) ∧ w = w' := by
  obtain ⟨A, c, rfl, hc, hbd⟩ := hr.form
  have hbd' : l.length * 8 ≤ 140737488351232 := hbd
  clear hbd
  go_enter Try.func119, Try.ntmps119
  go_wp2
  go_loop [8] (fun i => ∃ n : Nat, n ≤ l.length ∧ i = .int .i64 (n : Int) ∧ Hid (idxI l k 0 = idxI (l.drop n) k n)) (fun i => l.length - (intOf i).toNat)
  case atStart => exact ⟨0, by omega, rfl, rfl⟩
  case round =>
    obtain ⟨n, hn, rfl, HE⟩ := hrel
    by_cases hlt : n < l.length
    · obtain ⟨b1, off1, c1', cs1, hv1, _, ⟨rfl, _⟩, hcell1⟩ := hr.at_ hlt
      simp only [Value.slice.injEq, true_and] at hv1
      obtain ⟨rfl, rfl⟩ := hv1
      have p0 := hcell1 0 _ rfl
      simp only [Nat.add_zero, show rInt.sz = 1 from rfl, Nat.mul_one] at p0
      clear hcell1
      have HS := Lib.hid (idxI_drop l k n hlt)
      obtain ⟨x, hx⟩ : ∃ x, x = l[n] := ⟨_, rfl⟩
      rw [← hx] at p0 HS
      clear hx
      by_cases h : k = x
      · have ht : (k == x) = true := by simp [h]
        have HK := Lib.hid h
        clear h
        go_wp2
        go_ret
        exact ⟨ret_int (by rw [HE.out, HS.out, if_pos HK.out]), rfl⟩
      · have ht : (k == x) = false := by simpa using h
        have HK := Lib.hid h
        clear h
        go_wp2
        go_round
        case rel => exact ⟨n + 1, by omega, by go_num, by rw [HE.out, HS.out, if_neg HK.out]; trivial⟩
        case measure => simp [intOf]; omega
    · go_wp2
      go_ret
      exact ⟨ret_int (by rw [HE.out, List.drop_of_length_le (by omega)]; rfl), rfl⟩

theorem beqB (l p : List UInt8) : ((str l).toList == (str p).toList) = decide (l = p) := by
  rw [str_toList, str_toList]
  by_cases h : l = p
  · simp [h]
  · simp [h]
set_option maxHeartbeats 800000 in
theorem equal_rb {ok ok2 : Nat → Prop} (u v : Value) (l p : List UInt8) (w : World) (h1 : RB ok w u l) (h2 : RB ok2 w v p) :
    Calls Try.prog 178 #[u, v] w fun e w' => e = .returned (.bool (decide (l = p))) ∧ w = w' := by
  obtain ⟨A, c, rfl, _, _, r1, _⟩ := h1.open_
  obtain ⟨A2, c2, rfl, _, _, r2, _⟩ := h2.open_
  have e1 := run_str (c := c) (P := Try.prog) 27 9 5 Try.underlying27 Try.underlying5 Try.underlying9 r1
  have e2 := run_str (c := c2) (P := Try.prog) 27 9 5 Try.underlying27 Try.underlying5 Try.underlying9 r2
  have HB := Lib.hid (beqB l p)
  go_enter Try.func178, Try.ntmps178
  go_wp2
  go_ret
  exact ⟨ret_bool HB.out, rfl⟩
/-- Bytes over data -/
theorem bytes_rb {ok ok2 : Nat → Prop} (u v : Value) (l p : List UInt8) (w : World) (h1 : RB ok w u l) (h2 : RB ok2 w v p) :
    Calls Try.prog 18 #[u, v] w fun e w' => e = .returned (.bool (decide (l = p))) ∧ w = w' := by
  obtain ⟨A, c, rfl, _, _, r1, _⟩ := h1.open_
  obtain ⟨A2, c2, rfl, _, _, r2, _⟩ := h2.open_
  have hE : (l == p) = decide (l = p) := by
    by_cases h : l = p
    · simp [h]
    · simp [h]
  exact (bytes_any A A2 _ c _ c2 l p w r1 r2).mono fun e w' ⟨he, hw⟩ => ⟨by rw [he]; exact ret_bool hE, hw⟩
def preB (l p : List UInt8) : Bool := decide (p.length ≤ l.length) && decide (l.take p.length = p)
set_option maxHeartbeats 800000 in
theorem hasPrefix_rb {ok ok2 : Nat → Prop} (u v : Value) (l p : List UInt8) (w : World) (h1 : RB ok w u l) (h2 : RB ok2 w v p) :
    Calls Try.prog 176 #[u, v] w fun e w' => e = .returned (.bool (preB l p)) ∧ w = w' := by
  obtain ⟨A, c, rfl, hc, hm⟩ := h1.form
  obtain ⟨A2, c2, rfl, hc2, hm2⟩ := h2.form
  have hm' : l.length * 1 ≤ 140737488351232 := hm
  have hm2' : p.length * 1 ≤ 140737488351232 := hm2
  clear hm hm2
  by_cases hle : p.length ≤ l.length
  · have HB : Hid (preB l p = decide (l.take p.length = p)) := by unfold preB; simp [hle]; trivial
    have d1 : decide ((p.length : Int) ≤ (l.length : Int)) = true := decide_eq_true (by omega)
    have d2 : decide (p.length ≤ l.length) = true := decide_eq_true hle
    go_enter Try.func176, Try.ntmps176
    go_wp2_with fail
    refine (equal_rb _ _ (l.take p.length) p _ (h1.take hle) h2).mono ?_
    rintro e w1 ⟨rfl, rfl⟩
    go_wp2
    go_ret
    exact ⟨ret_bool HB.out.symm, rfl⟩
  · have HB : Hid (preB l p = false) := by unfold preB; simp [hle]; trivial
    have d1 : decide ((p.length : Int) ≤ (l.length : Int)) = false := decide_eq_false (by omega)
    have d2 : decide (p.length ≤ l.length) = false := decide_eq_false hle
    go_enter Try.func176, Try.ntmps176
    go_wp2
    go_ret
    exact ⟨ret_bool HB.out.symm, rfl⟩
theorem preB_len {l p : List UInt8} (h : preB l p = true) : p.length ≤ l.length := by simp [preB] at h; exact h.1
def cutB (l p : List UInt8) : List UInt8 := if preB l p then l.drop p.length else l
set_option maxRecDepth 100000 in
set_option maxHeartbeats 800000 in
theorem cutPrefix_rb {ok ok2 : Nat → Prop} (u v : Value) (l p : List UInt8) (w : World) (h1 : RB ok w u l) (h2 : RB ok2 w v p) :
    Calls Try.prog 162 #[u, v] w fun e w' => (∃ v', e = .returned (.tuple #[v', .bool (preB l p)]) ∧ RB ok w' v' (cutB l p)) ∧ w = w' := by
  obtain ⟨A, c, rfl, hc, hm⟩ := h1.form
  obtain ⟨A2, c2, rfl, hc2, hm2⟩ := h2.form
  have hm' : l.length * 1 ≤ 140737488351232 := hm
  have hm2' : p.length * 1 ≤ 140737488351232 := hm2
  clear hm hm2
  cases hP : preB l p
  · have HP := Lib.hid hP
    clear hP
    go_enter Try.func162, Try.ntmps162
    go_wp2_with fail
    refine (hasPrefix_rb _ _ l p _ h1 h2).mono ?_
    rintro e w1 ⟨rfl, rfl⟩
    rw [HP.out]
    go_wp2
    go_ret2
    refine ⟨⟨_, rfl, ?_⟩, rfl⟩
    unfold cutB
    rw [HP.out]
    exact h1
  · have HP := Lib.hid hP
    have hle := preB_len hP
    have hle2 : p.length ≤ c := by omega
    clear hP
    by_cases hcp : c = p.length
    · subst hcp
      have hd := h1.drop hle
      rw [if_pos rfl] at hd
      have HD := Lib.hid hd
      clear hd
      go_enter Try.func162, Try.ntmps162
      go_wp2_with fail
      refine (hasPrefix_rb _ _ l p _ h1 h2).mono ?_
      rintro e w1 ⟨rfl, rfl⟩
      rw [HP.out]
      go_wp2
      go_ret2
      refine ⟨⟨_, rfl, ?_⟩, rfl⟩
      unfold cutB
      rw [HP.out]
      have := HD.out
      simpa [show l.length - p.length = 0 by omega] using this
    · have hd := h1.drop hle
      rw [if_neg hcp] at hd
      have HD := Lib.hid hd
      clear hd
      go_enter Try.func162, Try.ntmps162
      go_wp2_with fail
      refine (hasPrefix_rb _ _ l p _ h1 h2).mono ?_
      rintro e w1 ⟨rfl, rfl⟩
      rw [HP.out]
      go_wp2
      go_ret2
      refine ⟨⟨_, rfl, ?_⟩, rfl⟩
      unfold cutB
      rw [HP.out]
      have := HD.out
      simp only [show rU8.sz = 1 from rfl, Nat.mul_one] at this
      simpa [hcp] using this
end Go.Proofs.Ytikkknaofiafhaa
