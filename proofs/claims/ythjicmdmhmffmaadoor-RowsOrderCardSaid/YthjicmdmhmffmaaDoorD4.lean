/- Contracts: rows.between, rows.Span. -/
import Derived.Test.YthjicmdmhmffmaaDoorD3
import Derived.Test.YthjicmdmhmffmaaDoorC6
import Derived.Test.YthjicmdmhmffmaaDoorO1
namespace Go.Proofs.YthjicmdmhmffmaaDoor
open Go.RowKit

theorem endB_len (l : List UInt8) : (endB l).length ≤ l.length := by
  rcases endB_cases l with ⟨h, _⟩ | ⟨p, x, m, _, h1, h2⟩
  · rw [h]; simp
  · rw [h2]
    have := congrArg List.length h1
    simp at this ⊢
    omega

set_option maxRecDepth 100000 in
set_option maxHeartbeats 3200000 in
theorem between_ok {ok ok2 ok3 : Nat → Prop} (h f u : Value) (hd : List UInt8) (fr ut : List Val) (w : World) (hh : RB ok w h hd) (hf : RV ok2 w f fr) (hu : RV ok3 w u ut) (hl : hd.length ≤ 1000) (ef : (encSpec fr).2 = 0) (eu : (encSpec ut).2 = 0) (B : Bool) (hB : B = decide (ut.length = 0)) :
    Calls Tryd.prog 26 #[h, f, u] w fun e w' => (∃ s1 s2, e = .returned (.tuple #[.agg #[s1, s2], .nilIface]) ∧ RB (fun b => w.heap.size ≤ b) w' s1 (hd ++ encL fr) ∧ RB (fun b => w.heap.size ≤ b) w' s2 (if B then endB hd else hd ++ encL ut)) ∧ Below w.heap.size w w' := by
  obtain ⟨A, c, rfl, hc, hm, rhd, _⟩ := hh.open_
  obtain ⟨Af, cf, rfl, _, _⟩ := hf.form
  obtain ⟨Au, cu, rfl, _, _⟩ := hu.form
  obtain ⟨_, lf, ef'⟩ := enc_zero ef
  obtain ⟨_, lu, eu'⟩ := enc_zero eu
  have le1 := encSpec_len fr
  have le2 := encSpec_len ut
  rw [ef'] at le1
  rw [eu'] at le2
  have hz : ((ut.length : Int) == 0) = B := by rw [hB]; rcases ut with _ | ⟨x, r⟩ <;> simp; omega
  have HB := Lib.hid hB
  clear hB
  go_enter Tryd.func26, Tryd.ntmps26
  go_upto_region 1 with fail
  refine name_world (fun w1 => Below w.heap.size w w1 ∧ Blk w1 w.heap.size 43 #[.slice none 0 0, .slice none 0 0]) ⟨(Below.refl _ _).alloc (Nat.le_refl _) _, Blk.new w _ _⟩ ?_
  rintro w1 ⟨hB1, k1⟩
  have h1z : w.heap.size + 1 ≤ w1.heap.size := k1.lt
  go_wp2_with fail
  refine (enc_rv _ fr _ (hf.below hB1)).mono ?_
  rintro e w2 ⟨⟨A2, n2, c2, rfl, ho2⟩, hb2⟩
  rw [ef']
  rw [ef'] at ho2
  have hB2 := hB1.trans (hb2.mono hB1.size)
  have k2 := k1.below hb2 k1.lt
  clear k1
  go_wp2_with fail
  refine (enc_rv _ ut _ (hu.below hB2)).mono ?_
  rintro e w3 ⟨⟨A3, n3, c3, rfl, ho3⟩, hb3⟩
  rw [eu']
  rw [eu'] at ho3
  have hB3 := hB2.trans (hb3.mono hB2.size)
  have k3 := k2.below hb3 k2.lt
  clear k2
  have hz3 := hB3.size
  have r2 : RB (fun b => w.heap.size ≤ b) w3 (.slice A2 n2 c2) (encL fr) := ((ho2.rb (by have h : (encL fr).length = n2 := ho2.len; have h2 : (encL fr).length ≤ 688 := le1; omega)).below hb3).mono (by decide) fun b hb _ => Nat.le_trans hB1.size hb
  have r3 : RB (fun b => w.heap.size ≤ b) w3 (.slice A3 n3 c3) (encL ut) := (ho3.rb (by have h : (encL ut).length = n3 := ho3.len; have h2 : (encL ut).length ≤ 688 := le2; omega)).mono (by decide) fun b hb _ => Nat.le_trans hB2.size hb
  have hal := fun o => (Below.refl w3.heap.size w3).alloc (Nat.le_refl _) o
  go_wp2_with fail
  refine (concat_any w3.heap.size (.slice A hd.length c) (.slice A2 n2 c2) hd (encL fr) _ (by simp) (by simp) ((hh.below hB3).below (hal _)) (r2.below (hal _)) (by omega) (by omega)).mono ?_
  rintro e w4 ⟨⟨A4, c4, rfl, ho4⟩, hb4'⟩
  have hb4 : Below w3.heap.size w3 w4 := (hal _).trans (hb4'.mono (hal _).size)
  have hB4 := hB3.trans (hb4.mono hz3)
  have k4 := k3.below hb4 k3.lt
  have hal4 := fun o => (Below.refl w4.heap.size w4).alloc (Nat.le_refl _) o
  have r4 : RB (fun b => w3.heap.size ≤ b) w4 (.slice A4 (hd ++ encL fr).length c4) (hd ++ encL fr) := (ho4.rb (by simp; omega)).mono (by decide) fun b hb _ => Nat.le_trans (hal (.cells #[] 0)).size (by simpa using hb)
  clear k3 ho2 ho4 hb4'
  go_wp2_with fail
  refine (concat_any w4.heap.size (.slice A hd.length c) (.slice A3 n3 c3) hd (encL ut) _ (by simp) (by simp) ((hh.below hB4).below (hal4 _)) ((r3.below hb4).below (hal4 _)) (by omega) (by omega)).mono ?_
  rintro e w5 ⟨⟨A5, c5, rfl, ho5⟩, hb5'⟩
  have hb5 : Below w4.heap.size w4 w5 := (hal4 _).trans (hb5'.mono (hal4 _).size)
  have hB5 := hB4.trans (hb5.mono hB4.size)
  have k5 := k4.below hb5 k4.lt
  have r5 : RB (fun b => w4.heap.size ≤ b) w5 (.slice A5 (hd ++ encL ut).length c5) (hd ++ encL ut) := (ho5.rb (by simp; omega)).mono (by decide) fun b hb _ => Nat.le_trans (hal4 (.cells #[] 0)).size (by simpa using hb)
  clear k4 ho5 hb5'
  have l4 : (hd ++ encL fr).length = hd.length + (encL fr).length := by simp
  go_upto_region 8 with fail
  rw [l4] at r4
  have l5 : (hd ++ encL ut).length = hd.length + (encL ut).length := by simp
  rw [l5] at r5
  have hz5 := hb4.size
  have hz6 := hb5.size
  have hlt5 := k5.lt
  have q2 : w1.heap.size ≤ w2.heap.size := hb2.size
  have q3 : w2.heap.size ≤ w3.heap.size := hb3.size
  have hlt3 : w.heap.size < w3.heap.size := by omega
  have a4 : RB (fun b => w.heap.size < b ∧ b ≠ w5.heap.size) (w5.alloc (.cells #[.slice A4 (hd.length + (encL fr).length) c4, .slice A5 (hd.length + (encL ut).length) c5] 43)) (.slice A4 (hd.length + (encL fr).length) c4) (hd ++ encL fr) :=
    (((r4.below hb5).mono (ok' := fun b => w3.heap.size ≤ b ∧ b < w5.heap.size) (by decide) fun b h hl => ⟨h, hl⟩).below ((Below.refl _ _).alloc (Nat.le_refl _) _)).mono (by decide) fun b h _ => ⟨by omega, by omega⟩
  have a5 : RB (fun b => w.heap.size < b ∧ b ≠ w5.heap.size) (w5.alloc (.cells #[.slice A4 (hd.length + (encL fr).length) c4, .slice A5 (hd.length + (encL ut).length) c5] 43)) (.slice A5 (hd.length + (encL ut).length) c5) (hd ++ encL ut) :=
    ((r5.mono (ok' := fun b => w3.heap.size ≤ b ∧ b < w5.heap.size) (by decide) fun b h hl => ⟨by omega, hl⟩).below ((Below.refl _ _).alloc (Nat.le_refl _) _)).mono (by decide) fun b h _ => ⟨by omega, by omega⟩
  refine name_world (fun w6 => Below w.heap.size w w6 ∧ w5.heap.size < w6.heap.size ∧ Blk w6 w.heap.size 43 #[.slice none 0 0, .slice none 0 0] ∧ Blk w6 w5.heap.size 43 #[.slice A4 (hd.length + (encL fr).length) c4, .slice A5 (hd.length + (encL ut).length) c5] ∧
      RB (fun b => w.heap.size < b ∧ b ≠ w5.heap.size) w6 (.slice A4 (hd.length + (encL fr).length) c4) (hd ++ encL fr) ∧ RB (fun b => w.heap.size < b ∧ b ≠ w5.heap.size) w6 (.slice A5 (hd.length + (encL ut).length) c5) (hd ++ encL ut))
    ⟨hB5.alloc hB5.size _, by simp, k5.alloc _, Blk.new w5 _ _, a4, a5⟩ ?_
  rintro w6 ⟨hB6, hz7, k6, s6, x6, y6⟩
  clear a4 a5 r4 r5 k5
  cases B
  · go_upto_region 10 with fail
    refine name_world (fun w7 => Below w.heap.size w w7 ∧ Blk w7 w.heap.size 43 #[.slice none 0 0, .slice none 0 0] ∧ Blk w7 w5.heap.size 43 #[.slice A4 (hd.length + (encL fr).length) c4, .slice A5 (hd.length + (encL ut).length) c5] ∧
        RB (fun b => w.heap.size < b) w7 (.slice A4 (hd.length + (encL fr).length) c4) (hd ++ encL fr) ∧ RB (fun b => w.heap.size < b) w7 (.slice A5 (hd.length + (encL ut).length) c5) (hd ++ encL ut)) ⟨hB6, k6, s6, x6.mono (by decide) fun _ h _ => h.1, y6.mono (by decide) fun _ h _ => h.1⟩ ?_
    rintro w7 ⟨hB7, kz, ks, x4, x7⟩
    obtain ⟨i0, i1⟩ : w7.cell? ⟨w5.heap.size, 0, none⟩ = some (.slice A4 (hd.length + (encL fr).length) c4) ∧ w7.cell? ⟨w5.heap.size, 1, none⟩ = some (.slice A5 (hd.length + (encL ut).length) c5) := ⟨ks.cell 0, ks.cell 1⟩
    obtain ⟨j0, j1⟩ : w7.cell? ⟨w.heap.size, 0, none⟩ = some (.slice none 0 0) ∧ w7.cell? ⟨w.heap.size, 1, none⟩ = some (.slice none 0 0) := ⟨kz.cell 0, kz.cell 1⟩
    have fy := fun i => kz.frozen i
    go_wp2
    have hk8 : Kp (fun b => w.heap.size < b) w7 ((w7.setCell ⟨w.heap.size, 0, none⟩ (.slice A4 (hd.length + (encL fr).length) c4)).setCell ⟨w.heap.size, 1, none⟩ (.slice A5 (hd.length + (encL ut).length) c5)) :=
      ((Kp.refl _ _).setCell (fun _ h => by have : w.heap.size < w.heap.size := h; omega) _).setCell (fun _ h => by have : w.heap.size < w.heap.size := h; omega) _
    have kz2 := (kz.set_ 0 (.slice A4 (hd.length + (encL fr).length) c4)).set_ 1 (.slice A5 (hd.length + (encL ut).length) c5)
    obtain ⟨d0, d1⟩ := And.intro (kz2.cell 0) (kz2.cell 1)
    simp at d0 d1
    refine bodyPost_ret (v := .tuple #[.agg #[.slice A4 (hd.length + (encL fr).length) c4, .slice A5 (hd.length + (encL ut).length) c5], .nilIface]) (by simp [results, Tryd.results26, go_sem, d0, d1]) rfl ?_
    exact ⟨⟨_, _, rfl, (x4.kp hk8).mono (by decide) fun b h _ => by omega, (x7.kp hk8).mono (by decide) fun b h _ => by omega⟩, (hB7.setCell (by simp) _).setCell (by simp) _⟩
  · go_wp2_with fail
    refine (end_any A _ c hd _ (rhd.below hB6) hc (by omega)).mono ?_
    rintro e w6' ⟨⟨A7, n7, c7, rfl, ho7⟩, hb7⟩
    have hB6' := hB6.trans (hb7.mono hB6.size)
    have k6' := k6.below hb7 k6.lt
    have s6' := s6.below hb7 s6.lt
    have x6' := x6.below hb7
    have r7 : RB (fun b => w6.heap.size ≤ b) w6' (.slice A7 n7 c7) (endB hd) := ho7.rb (by have h1 : (endB hd).length = n7 := ho7.len; have h2 := endB_len hd; omega)
    obtain ⟨i0, i1⟩ : w6'.cell? ⟨w5.heap.size, 0, none⟩ = some (.slice A4 (hd.length + (encL fr).length) c4) ∧ w6'.cell? ⟨w5.heap.size, 1, none⟩ = some (.slice A5 (hd.length + (encL ut).length) c5) := ⟨s6'.cell 0, s6'.cell 1⟩
    have fy := fun i => s6'.frozen i
    go_upto_region 10 with fail
    clear i0 i1 fy
    have hk7 : Kp (fun b => b ≠ w5.heap.size) w6' (w6'.setCell ⟨w5.heap.size, 1, none⟩ (.slice A7 n7 c7)) := (Kp.refl _ _).setCell (fun _ h => h rfl) _
    refine name_world (fun w7 => Below w.heap.size w w7 ∧ Blk w7 w.heap.size 43 #[.slice none 0 0, .slice none 0 0] ∧ Blk w7 w5.heap.size 43 #[.slice A4 (hd.length + (encL fr).length) c4, .slice A7 n7 c7] ∧
        RB (fun b => w.heap.size < b) w7 (.slice A4 (hd.length + (encL fr).length) c4) (hd ++ encL fr) ∧ RB (fun b => w.heap.size < b) w7 (.slice A7 n7 c7) (endB hd))
      ⟨hB6'.setCell (by simp; omega) _, k6'.far (by simp; omega) _, ?_, (x6'.kp (hk7.mono fun b h => h.2)).mono (by decide) fun _ h _ => h.1, ((r7.mono (ok' := fun b => w.heap.size < b ∧ b ≠ w5.heap.size) (by decide) fun b h _ => ⟨by omega, by omega⟩).kp (hk7.mono fun b h => h.2)).mono (by decide) fun _ h _ => h.1⟩ ?_
    · have := s6'.set_ 1 (.slice A7 n7 c7)
      simpa using this
    rintro w7 ⟨hB7, kz, ks, x4, x7⟩
    obtain ⟨i0, i1⟩ : w7.cell? ⟨w5.heap.size, 0, none⟩ = some (.slice A4 (hd.length + (encL fr).length) c4) ∧ w7.cell? ⟨w5.heap.size, 1, none⟩ = some (.slice A7 n7 c7) := ⟨ks.cell 0, ks.cell 1⟩
    obtain ⟨j0, j1⟩ : w7.cell? ⟨w.heap.size, 0, none⟩ = some (.slice none 0 0) ∧ w7.cell? ⟨w.heap.size, 1, none⟩ = some (.slice none 0 0) := ⟨kz.cell 0, kz.cell 1⟩
    have fy := fun i => kz.frozen i
    go_wp2
    have hk8 : Kp (fun b => w.heap.size < b) w7 ((w7.setCell ⟨w.heap.size, 0, none⟩ (.slice A4 (hd.length + (encL fr).length) c4)).setCell ⟨w.heap.size, 1, none⟩ (.slice A7 n7 c7)) :=
      ((Kp.refl _ _).setCell (fun _ h => by have : w.heap.size < w.heap.size := h; omega) _).setCell (fun _ h => by have : w.heap.size < w.heap.size := h; omega) _
    have kz2 := (kz.set_ 0 (.slice A4 (hd.length + (encL fr).length) c4)).set_ 1 (.slice A7 n7 c7)
    obtain ⟨d0, d1⟩ := And.intro (kz2.cell 0) (kz2.cell 1)
    simp at d0 d1
    refine bodyPost_ret (v := .tuple #[.agg #[.slice A4 (hd.length + (encL fr).length) c4, .slice A7 n7 c7], .nilIface]) (by simp [results, Tryd.results26, go_sem, d0, d1]) rfl ?_
    exact ⟨⟨_, _, rfl, (x4.kp hk8).mono (by decide) fun b h _ => by omega, (x7.kp hk8).mono (by decide) fun b h _ => by omega⟩, (hB7.setCell (by simp) _).setCell (by simp) _⟩

theorem new_faultB (x : Int) (s : ByteArray) (w : World) (hx : (x == 0) = false) : Calls Tryd.prog 41 #[.int .i64 x, .string s] w fun e w' => e = .returned (.iface 83 (.pointer (some ⟨w.heap.size, 0, none⟩))) ∧ Below w.heap.size w w' ∧ Blk w' w.heap.size 85 #[.string s, .iface 44 (.int .i64 x)] :=
  (new_fault x s w hx).mono fun e w' ⟨he, hw⟩ => by subst hw; exact ⟨he, (Below.refl _ _).alloc (Nat.le_refl _) _, Blk.new w _ _⟩
set_option maxRecDepth 100000 in
set_option maxHeartbeats 3200000 in
theorem between_from {ok2 : Nat → Prop} (h f u : Value) (fr : List Val) (w : World) (hf : RV ok2 w f fr) (ef : ¬ (encSpec fr).2 = 0) :
    Calls Tryd.prog 26 #[h, f, u] w fun e w' => (∃ g, e = .returned (.tuple #[.agg #[.slice none 0 0, .slice none 0 0], .iface 83 (.pointer (some ⟨g, 0, none⟩))]) ∧ w'.cell? ⟨g, 1, none⟩ = some (.iface 44 (.int .i64 9))) ∧ Below w.heap.size w w' := by
  obtain ⟨Af, cf, rfl, _, _⟩ := hf.form
  have hne : ((encSpec fr).2 != 0) = true := by simpa using ef
  generalize hE : (encSpec fr).2 = E at hne
  clear ef
  go_enter Tryd.func26, Tryd.ntmps26
  go_upto_region 1 with fail
  refine name_world (fun w1 => Below w.heap.size w w1 ∧ Blk w1 w.heap.size 43 #[.slice none 0 0, .slice none 0 0]) ⟨(Below.refl _ _).alloc (Nat.le_refl _) _, Blk.new w _ _⟩ ?_
  rintro w1 ⟨hB1, k1⟩
  go_wp2_with fail
  refine (enc_rv _ fr _ (hf.below hB1)).mono ?_
  rintro e w2 ⟨⟨A2, n2, c2, rfl, ho2⟩, hb2⟩
  rw [hE]
  clear ho2
  have hB2 := hB1.trans (hb2.mono hB1.size)
  have kz := k1.below hb2 k1.lt
  clear k1
  go_wp2_with fail
  refine (new_faultB 9 ⟨#[102, 114, 111, 109]⟩ _ (by decide)).mono ?_
  rintro e w7 ⟨rfl, hb7, s7⟩
  have h9 : w.heap.size < w2.heap.size := kz.lt
  have hB7 := hB2.trans (hb7.mono hB2.size)
  have k7 := kz.below hb7 kz.lt
  obtain ⟨j0, j1⟩ : w7.cell? ⟨w.heap.size, 0, none⟩ = some (.slice none 0 0) ∧ w7.cell? ⟨w.heap.size, 1, none⟩ = some (.slice none 0 0) := ⟨k7.cell 0, k7.cell 1⟩
  have fy := fun i => k7.frozen i
  go_wp2
  have kz2 := (k7.set_ 0 (.slice none 0 0)).set_ 1 (.slice none 0 0)
  obtain ⟨d0, d1⟩ := And.intro (kz2.cell 0) (kz2.cell 1)
  simp at d0 d1
  refine bodyPost_ret (v := .tuple #[.agg #[.slice none 0 0, .slice none 0 0], .iface 83 (.pointer (some ⟨w2.heap.size, 0, none⟩))]) (by simp [results, Tryd.results26, go_sem, d0, d1]) rfl ?_
  refine ⟨⟨w2.heap.size, rfl, ?_⟩, (hB7.setCell (by simp) _).setCell (by simp) _⟩
  exact ((s7.far (by simp; omega) _).far (by simp; omega) _).cell 1

set_option maxRecDepth 100000 in
set_option maxHeartbeats 3200000 in
theorem between_upto {ok2 ok3 : Nat → Prop} (h f u : Value) (fr ut : List Val) (w : World) (hf : RV ok2 w f fr) (hu : RV ok3 w u ut) (ef : (encSpec fr).2 = 0) (eu : ¬ (encSpec ut).2 = 0) :
    Calls Tryd.prog 26 #[h, f, u] w fun e w' => (∃ g, e = .returned (.tuple #[.agg #[.slice none 0 0, .slice none 0 0], .iface 83 (.pointer (some ⟨g, 0, none⟩))]) ∧ w'.cell? ⟨g, 1, none⟩ = some (.iface 44 (.int .i64 9))) ∧ Below w.heap.size w w' := by
  obtain ⟨Af, cf, rfl, _, _⟩ := hf.form
  obtain ⟨Au, cu, rfl, _, _⟩ := hu.form
  have hne : ((encSpec ut).2 != 0) = true := by simpa using eu
  generalize hE : (encSpec ut).2 = E at hne
  clear eu
  go_enter Tryd.func26, Tryd.ntmps26
  go_upto_region 1 with fail
  refine name_world (fun w1 => Below w.heap.size w w1 ∧ Blk w1 w.heap.size 43 #[.slice none 0 0, .slice none 0 0]) ⟨(Below.refl _ _).alloc (Nat.le_refl _) _, Blk.new w _ _⟩ ?_
  rintro w1 ⟨hB1, k1⟩
  go_wp2_with fail
  refine (enc_rv _ fr _ (hf.below hB1)).mono ?_
  rintro e w2 ⟨⟨A2, n2, c2, rfl, ho2⟩, hb2⟩
  rw [ef]
  clear ho2
  have hB2 := hB1.trans (hb2.mono hB1.size)
  have k2 := k1.below hb2 k1.lt
  clear k1
  go_wp2_with fail
  refine (enc_rv _ ut _ (hu.below hB2)).mono ?_
  rintro e w3 ⟨⟨A3, n3, c3, rfl, ho3⟩, hb3⟩
  rw [hE]
  clear ho3
  have hB3 := hB2.trans (hb3.mono hB2.size)
  have kz := k2.below hb3 k2.lt
  clear k2
  go_wp2_with fail
  refine (new_faultB 9 ⟨#[116, 111]⟩ _ (by decide)).mono ?_
  rintro e w7 ⟨rfl, hb7, s7⟩
  have h9 : w.heap.size < w3.heap.size := kz.lt
  have hB7 := hB3.trans (hb7.mono hB3.size)
  have k7 := kz.below hb7 kz.lt
  obtain ⟨j0, j1⟩ : w7.cell? ⟨w.heap.size, 0, none⟩ = some (.slice none 0 0) ∧ w7.cell? ⟨w.heap.size, 1, none⟩ = some (.slice none 0 0) := ⟨k7.cell 0, k7.cell 1⟩
  have fy := fun i => k7.frozen i
  go_wp2
  have kz2 := (k7.set_ 0 (.slice none 0 0)).set_ 1 (.slice none 0 0)
  obtain ⟨d0, d1⟩ := And.intro (kz2.cell 0) (kz2.cell 1)
  simp at d0 d1
  refine bodyPost_ret (v := .tuple #[.agg #[.slice none 0 0, .slice none 0 0], .iface 83 (.pointer (some ⟨w3.heap.size, 0, none⟩))]) (by simp [results, Tryd.results26, go_sem, d0, d1]) rfl ?_
  refine ⟨⟨w3.heap.size, rfl, ?_⟩, (hB7.setCell (by simp) _).setCell (by simp) _⟩
  exact ((s7.far (by simp; omega) _).far (by simp; omega) _).cell 1
end Go.Proofs.YthjicmdmhmffmaaDoor
