/- Contracts: rows.head, Key, Name, Pair; the document's Key. -/
import Derived.Test.YtikkknaofiafhaaR3
namespace Go.Proofs.Ytikkknaofiafhaa
open Go.RowKit

theorem encSpec_len (l : List Val) : (encSpec l).1.length ≤ 688 := by
  unfold encSpec
  cases h : allRight l
  · simp
  · rw [if_pos rfl]
    split
    · simp
    · have := encL_length_le l h
      simp only
      omega
/-- Enc over data -/
theorem enc_rv {ok : Nat → Prop} (v : Value) (vs : List Val) (w : World) (hr : RV ok w v vs) :
    Calls Try.prog 16 #[v] w fun e w' => (∃ A n c, e = .returned (.tuple #[.slice A n c, .int .i64 (encSpec vs).2]) ∧ OwnB w.heap.size w' A n c (encSpec vs).1) ∧ Below w.heap.size w w' := by
  obtain ⟨A, c, rfl, hc, hm, hrd, hok, _⟩ := hr.open_
  exact enc_any A _ c vs w hrd (by omega) hok
theorem head_enc (id : Int) : encSpec [⟨1, id, ⟨#[]⟩⟩] = (encL [⟨1, id, ⟨#[]⟩⟩], 0) := by
  have : allRight [⟨1, id, ⟨#[]⟩⟩] = true := by
    simp [allRight, rightB, Val.right]
  simp [encSpec, this]
theorem headB_length (f : UInt8) (id : Int) : (headB f id).length = 10 := by
  simp [headB, encL, encV, intB_length]

set_option maxRecDepth 100000 in
set_option maxHeartbeats 1600000 in
theorem head_any (f : UInt8) (id : Int) (w : World) (hid : I64 id) :
    Calls Try.prog 115 #[.int .u8 (f.toNat : Int), .int .i64 id] w fun e w' => (∃ A c, e = .returned (.slice A 10 c) ∧ OwnB w.heap.size w' A 10 c (headB f id)) ∧ Below w.heap.size w w' := by
  have HI := Lib.hid hid; clear hid
  go_enter Try.func115, Try.ntmps115
  go_wp2_with fail
  refine (enc_any (some ⟨w.heap.size, 0, none⟩) 1 1 [⟨1, id, ⟨#[]⟩⟩] _ (Rd.new w _ 3 1 _ rfl) (by omega) (by intro x hx; simp at hx; subst hx; exact HI.out)).mono ?_
  unfold EncPost
  rw [head_enc]
  rintro e w1 ⟨⟨A, n, c, rfl, hown⟩, hb1⟩
  have hn : 9 = n := by have := hown.len; simpa [encL, encV, intB_length] using this
  subst hn
  have hb0 : Below w.heap.size w w1 := ((Below.refl _ _).alloc (Nat.le_refl _) _).trans (hb1.mono (by simp))
  have ho1 := own_first w1 (f.toNat : Int) f rfl w.heap.size hb0.size
  go_wp2_with (at_builtin; refine wp_append_bytes rfl _ _ rfl w.heap.size _ 1 1 [f] _ rfl ho1 A 9 c (encL [⟨1, id, ⟨#[]⟩⟩]) rfl (hown.rd.below ((Below.refl _ _).alloc (Nat.le_refl _) _)) (by omega) (by have := hb0.size; simp; omega) ?_; intro A2 c2 w2 hown2 hb2)
  go_ret
  exact ⟨⟨A2, c2, rfl, hown2⟩, (hb0.alloc hb0.size _).trans hb2⟩

set_option maxRecDepth 100000 in
set_option maxHeartbeats 1600000 in
theorem key_any {ok ok2 : Nat → Prop} (t : TabD) (a b v : Value) (row : List Val) (w : World) (ht : TabR ok w a b t) (hr : RV ok2 w v row) (hn : t.key.length ≤ 1000000) :
    Calls Try.prog 57 #[.agg (tabCs t a b), v] w fun e w' => (∃ v', e = .returned v' ∧ RV (fun b => w.heap.size ≤ b) w' v' (keyV t row)) ∧ Below w.heap.size w w' := by
  obtain ⟨A, c, rfl, _, _⟩ := ht.cols.form
  obtain ⟨A3, c3, rfl, _, _⟩ := ht.key.form
  obtain ⟨A2, c2, rfl, _, _⟩ := hr.form
  have hb0 : Below w.heap.size w (w.alloc (.cells (tabCs t (.slice A t.cols.length c) (.slice A3 t.key.length c3)) 56)) := (Below.refl _ _).alloc (Nat.le_refl _) _
  go_enter Try.func57, Try.ntmps57
  unfold tabCs
  go_wp2_with fail
  refine (rowRight_any t _ _ _ row _ (ht.below hb0) (hr.below hb0)).mono ?_
  rintro e w1 ⟨rfl, hb1⟩
  have hb2 : Below (w.heap.size + 1) (w.alloc (.cells (tabCs t (.slice A t.cols.length c) (.slice A3 t.key.length c3)) 56)) w1 := hb1.mono (by simp)
  have bx := box_at (i := 3) hb2 rfl
  have hbw := box_below hb2
  cases hM : mayAll t.cols row
  · have HM := Lib.hid hM
    clear hM
    go_wp2
    go_ret
    refine ⟨⟨_, rfl, ?_⟩, hbw⟩
    unfold keyV
    rw [HM.out]
    exact RSl.nil_ _ _ _
  · have HM := Lib.hid hM
    clear hM
    go_wp2_with fail
    refine (pick_any _ _ row t.key _ (hr.below hbw) (ht.key.below hbw) hn).mono ?_
    rintro e w2 ⟨⟨v', rfl, hv'⟩, hb3⟩
    go_wp2
    go_ret
    refine ⟨⟨_, rfl, ?_⟩, hbw.trans (hb3.mono hbw.size)⟩
    unfold keyV
    rw [HM.out]
    exact hv'.mono (by decide) fun b hb _ => Nat.le_trans hbw.size hb

set_option maxRecDepth 100000 in
set_option maxHeartbeats 1600000 in
theorem refKey_any {ok ok2 : Nat → Prop} (t : TabD) (a b v : Value) (row : List Val) (w : World) (ht : TabR ok w a b t) (hr : RV ok2 w v row) (hn : t.key.length ≤ 1000000) (hin : ∀ q ∈ t.key, 0 ≤ q ∧ q < t.cols.length) :
    Calls Try.prog 59 #[.agg (tabCs t a b), v] w fun e w' => (∃ v', e = .returned v' ∧ RV (fun b => w.heap.size ≤ b) w' v' (keyV t row)) ∧ Below w.heap.size w w' := by
  obtain ⟨A, c, rfl, _, _⟩ := ht.cols.form
  obtain ⟨A3, c3, rfl, _, _⟩ := ht.key.form
  obtain ⟨A2, c2, rfl, _, _⟩ := hr.form
  have HIN := Lib.hid hin
  clear hin
  have hb0 : Below w.heap.size w (w.alloc (.cells (tabCs t (.slice A t.cols.length c) (.slice A3 t.key.length c3)) 56)) := (Below.refl _ _).alloc (Nat.le_refl _) _
  go_enter Try.func59, Try.ntmps59
  unfold tabCs
  go_wp2_with fail
  refine (refRowRight_any t _ _ _ row _ (ht.below hb0) (hr.below hb0)).mono ?_
  rintro e w1 ⟨rfl, hb1⟩
  have hb2 : Below (w.heap.size + 1) (w.alloc (.cells (tabCs t (.slice A t.cols.length c) (.slice A3 t.key.length c3)) 56)) w1 := hb1.mono (by simp)
  have bx := box_at (i := 3) hb2 rfl
  have hbw := box_below hb2
  cases hM : mayAll t.cols row
  · have HM := Lib.hid hM
    clear hM
    go_wp2
    go_ret
    refine ⟨⟨_, rfl, ?_⟩, hbw⟩
    unfold keyV
    rw [HM.out]
    exact RSl.nil_ _ _ _
  · have HM := Lib.hid hM
    clear hM
    go_wp2_with fail
    refine (refPick_any _ _ row t.key _ (hr.below hbw) (ht.key.below hbw) hn (fun q hq => by rw [mayAll_length HM.out]; exact HIN.out q hq)).mono ?_
    rintro e w2 ⟨⟨v', rfl, hv'⟩, hb3⟩
    go_wp2
    go_ret
    refine ⟨⟨_, rfl, ?_⟩, hbw.trans (hb3.mono hbw.size)⟩
    unfold keyV
    rw [HM.out]
    exact hv'.mono (by decide) fun b hb _ => Nat.le_trans hbw.size hb

set_option maxRecDepth 100000 in
set_option maxHeartbeats 1600000 in
theorem name_any {ok ok2 : Nat → Prop} (t : TabD) (a b v : Value) (row : List Val) (w : World) (ht : TabR ok w a b t) (hr : RV ok2 w v row) :
    Calls Try.prog 56 #[.agg (tabCs t a b), v] w fun e w' => (∃ v', e = .returned v' ∧ RB (fun b => w.heap.size ≤ b) w' v' (nameB t row)) ∧ Below w.heap.size w w' := by
  obtain ⟨A, c, rfl, _, _⟩ := ht.cols.form
  obtain ⟨A3, c3, rfl, _, _⟩ := ht.key.form
  obtain ⟨A2, c2, rfl, _, _⟩ := hr.form
  have hb0 : Below w.heap.size w (w.alloc (.cells (tabCs t (.slice A t.cols.length c) (.slice A3 t.key.length c3)) 56)) := (Below.refl _ _).alloc (Nat.le_refl _) _
  go_enter Try.func56, Try.ntmps56
  unfold tabCs
  go_wp2_with fail
  refine (fits_any t _ _ _ row _ (ht.below hb0) (hr.below hb0)).mono ?_
  rintro e w1 ⟨rfl, hb1⟩
  have hb2 : Below (w.heap.size + 1) (w.alloc (.cells (tabCs t (.slice A t.cols.length c) (.slice A3 t.key.length c3)) 56)) w1 := hb1.mono (by simp)
  have bx := box_at (i := 0) hb2 rfl
  have hbw := box_below hb2
  cases hM : fitAll t t.key row
  · have HM := Lib.hid hM
    clear hM
    go_wp2
    go_ret
    refine ⟨⟨_, rfl, ?_⟩, hbw⟩
    unfold nameB
    rw [HM.out]
    exact RSl.nil_ _ _ _
  · have HM := Lib.hid hM
    clear hM
    go_wp2_with fail
    refine (enc_rv _ row _ (hr.below hbw)).mono ?_
    rintro e w2 ⟨⟨A5, n5, c5, rfl, o5⟩, hb3⟩
    have bx2 := (hb3.cell (p := ⟨w.heap.size, 0, none⟩) (by show w.heap.size < w1.heap.size; have := hb2.size; simp at this; omega)).trans bx
    have hbw2 := hbw.trans (hb3.mono hbw.size)
    have h5 : n5 ≤ 688 := by have := o5.len; have := encSpec_len row; omega
    go_wp2_with fail
    refine (head_any 114 t.id _ ht.id).mono ?_
    rintro e w3 ⟨⟨A6, c6, rfl, o6⟩, hb4⟩
    have hbw3 := hbw2.trans (hb4.mono hbw2.size)
    go_wp2_with (at_builtin; refine wp_append_bytes rfl _ _ rfl w.heap.size A6 10 c6 (headB 114 t.id) _ rfl (o6.mono hbw2.size) A5 n5 c5 (encSpec row).1 rfl (o5.rd.below hb4) (by omega) hbw3.size ?_; intro A7 c7 w4 o7 hb5)
    go_ret
    refine ⟨⟨_, rfl, ?_⟩, hbw3.trans hb5⟩
    unfold nameB
    rw [HM.out]
    exact o7.rb (by omega)
end Go.Proofs.Ytikkknaofiafhaa
