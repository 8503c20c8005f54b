/- (*Log).tell, whole. -/
import Derived.Test.YtnlhjhpikjmoaaaGreatDoorW20
import Derived.Deep.DeepCutAuto
namespace Go.Proofs.YtnlhjhpikjmoaaaGreatDoor
open Go.RowKit
def Both (f : Nat → Prop) (w : World) (gl gd : Nat) (l : LogD) (d : DskD) : Prop := ∃ fl fd : Nat → Prop, (∀ x, fl x → f x ∧ x < w.heap.size) ∧ (∀ x, fd x → f x ∧ x < w.heap.size) ∧ (∀ x, fd x → ¬ fl x) ∧ LogR fl w gl gd l ∧ DiskR fd w gd d
theorem Both.mk_ {fl fd : Nat → Prop} {w : World} {gl gd : Nat} {l : LogD} {d : DskD} (h : LogR fl w gl gd l) (hd : DiskR fd w gd d) (hdis : ∀ x, fd x → x < w.heap.size → ¬ fl x) : Both (fun x => fl x ∨ fd x) w gl gd l d :=
  ⟨fun x => fl x ∧ x < w.heap.size, fun x => fd x ∧ x < w.heap.size, fun _ hx => ⟨.inl hx.1, hx.2⟩, fun _ hx => ⟨.inr hx.1, hx.2⟩, fun x hx hl => hdis x hx.1 hx.2 hl.1, h.mono fun _ hb hlt => ⟨hb, hlt⟩, hd.mono fun _ hb hlt => ⟨hb, hlt⟩⟩
theorem Both.mono {f f' : Nat → Prop} {w : World} {gl gd : Nat} {l : LogD} {d : DskD} (h : Both f w gl gd l d) (hm : ∀ b, f b → b < w.heap.size → f' b) : Both f' w gl gd l d := by
  obtain ⟨fl, fd, h1, h2, h3, h4, h5⟩ := h
  exact ⟨fl, fd, fun x hx => ⟨hm x (h1 x hx).1 (h1 x hx).2, (h1 x hx).2⟩, fun x hx => ⟨hm x (h2 x hx).1 (h2 x hx).2, (h2 x hx).2⟩, h3, h4, h5⟩
theorem Both.kp {f ok : Nat → Prop} {w w' : World} {gl gd : Nat} {l : LogD} {d : DskD} (h : Both f w gl gd l d) (hk : Kp ok w w') (hok : ∀ b, f b → ok b) : Both f w' gl gd l d := by
  obtain ⟨fl, fd, h1, h2, h3, h4, h5⟩ := h
  have hz := hk.size
  exact ⟨fl, fd, fun x hx => ⟨(h1 x hx).1, Nat.lt_of_lt_of_le (h1 x hx).2 hz⟩, fun x hx => ⟨(h2 x hx).1, Nat.lt_of_lt_of_le (h2 x hx).2 hz⟩, h3, h4.kp hk fun b hb => hok b (h1 b hb).1, h5.kp hk fun b hb => hok b (h2 b hb).1⟩
theorem Both.below {f : Nat → Prop} {w w' : World} {gl gd : Nat} {l : LogD} {d : DskD} (h : Both f w gl gd l d) (hb : Below w.heap.size w w') : Both f w' gl gd l d := h.kp (.of_below hb (ok := fun _ => True)) fun _ _ => trivial
theorem LogR.ok {fl : Nat → Prop} {w : World} {gl gd : Nat} {l : LogD} (h : LogR fl w gl gd l) : l.Ok := by
  obtain ⟨vr, vp, h1, h2, h3, h4, h5, h6, h7, h8, h9, h10⟩ := h
  exact h10
theorem Kp.thenW {ok ok2 : Nat → Prop} {w w' w'' : World} (h : Kp ok w w') (k : Kp ok2 w' w'') (hm : ∀ b, b < w.heap.size → ok b → ok2 b) : Kp ok w w'' :=
  ⟨k.os.trans h.os, k.tape.trans h.tape, k.output.trans h.output, Nat.le_trans h.size k.size, fun i hi ho => (k.block i (Nat.lt_of_lt_of_le hi h.size) (hm i hi ho)).trans (h.block i hi ho)⟩
theorem OwnL.base_ {α : Type} {E : Rel α} {okd : Nat → Prop} {base b : Nat} {T : TypeId} {w : World} {v : Value} {l : List α} (h : OwnL E okd base T w v l) (hb : b ≤ base) : OwnL E okd b T w v l := by
  obtain ⟨css, ho, hch⟩ := h
  refine ⟨css, ⟨ho.1, ?_⟩, hch⟩
  rcases ho.2 with h2 | ⟨g, cap, cur, hv, hg, r⟩
  · exact .inl h2
  · exact .inr ⟨g, cap, cur, hv, Nat.le_trans hb hg, r⟩
theorem secN_pos (n : Nat) : 1 ≤ secN n := by unfold secN; omega
theorem secSum_ge : ∀ rs : List (List UInt8), rs.length ≤ secSum rs
  | [] => Nat.le_refl _
  | r :: rs => by
    have := secSum_ge rs
    have := secN_pos r.length
    simp only [secSum, List.map_cons, List.sum_cons, List.length_cons] at *
    omega
theorem secSum_take (rs : List (List UInt8)) (n : Nat) : secSum (rs.take n) ≤ secSum rs := by
  conv => rhs; rw [← List.take_append_drop n rs]
  simp only [secSum, List.map_append, List.sum_append]
  omega
theorem secSum_succ (rs : List (List UInt8)) (i : Nat) (h : i < rs.length) : secSum (rs.take (i + 1)) = secSum (rs.take i) + secN rs[i].length := by
  rw [List.take_succ_eq_append_getElem h]
  simp only [secSum, List.map_append, List.sum_append, List.map_cons, List.map_nil, List.sum_cons, List.sum_nil, Nat.add_zero]
set_option maxRecDepth 100000 in
set_option maxHeartbeats 3200000 in
theorem tell_try {fl fd : Nat → Prop} {gl gd : Nat} {l : LogD} {d : DskD} {w : World} (n : Nat) (h : LogR fl w gl gd l) (hd : DiskR fd w gd d) (hdis : ∀ b, fd b → ¬ fl b) (hlfl : ∀ b, fl b → b < w.heap.size) (hlfd : ∀ b, fd b → b < w.heap.size) (hs : ¬ d.kept.length < 3) (hf : d.flush.2 = 0) (hn : n ≤ l.recs.length) (hus : l.used = secSum l.recs) (ht : l.turn + 1 < 18446744073709551616) (hwl : d.wait.length + 1 ≤ 1000000000) :
    Calls Tryz.prog 51 #[.pointer (some ⟨gl, 0, none⟩), .int .i64 (n : Int)] w fun e w' => e = .returned (.int .i64 (tellL l d n).2.2) ∧ Both (fun x => fl x ∨ fd x ∨ w.heap.size ≤ x) w' gl gd (tellL l d n).1 (tellL l d n).2.1 ∧ Kp (fun x => ¬ fl x ∧ ¬ fd x) w w' := by
  obtain ⟨p, hp0⟩ : ∃ p, p = d.flush.1.write (((l.turn + 1) % 2 : Nat) : Int) (tellB l n) := ⟨_, rfl⟩
  have htl : tellL l d n = if p.2 ≠ 0 then (l, p.1, p.2) else if p.1.flush.2 ≠ 0 then (l, p.1.flush.1, p.1.flush.2) else ({ l with turn := l.turn + 1, first := l.first + n, recs := l.recs.drop n, places := l.places.drop n, used := l.used - secSum (l.recs.take n) }, p.1.flush.1, 0) := by
    unfold tellL
    rw [if_neg hs, if_neg (by rw [hf]; decide), hp0]
  obtain ⟨R, hR⟩ : ∃ R, R = tellL l d n := ⟨_, rfl⟩
  rw [← hR] at htl ⊢
  obtain ⟨d2, E1⟩ := p
  simp only at htl
  have HP0 := Lib.hid hp0
  have HTL := Lib.hid htl
  clear htl hp0 hR
  have hfl := h.ftl
  have ht' : (l.turn : Int) + 1 < 18446744073709551616 := by omega
  have HR := Lib.hid (ring_any h hd)
  have HF := Lib.hid (dFlush_any hd)
  have c0 : w.cell? ⟨gl, 0, none⟩ = some (.pointer (some ⟨gd, 0, none⟩)) := by obtain ⟨vr, vp, hb, _⟩ := h; exact hb.cell 0
  have t1 : decide ((d.kept.length : Int) - 2 < 1) = false := decide_eq_false (by omega)
  have t2 : decide ((d.kept.length : Int) - 2 ≤ 0) = false := decide_eq_false (by omega)
  rw [hf] at HF
  obtain ⟨C, hC⟩ : ∃ C, C = (bs (List.replicate 64 0)).toArray := ⟨_, rfl⟩
  have HM := fun w : World => make64 w
  rw [← hC] at HM
  have HC := Lib.hid hC
  clear hC
  go_enter Tryz.func51, Tryz.ntmps51
  go_wp2_with fail
  refine HR.out.mono ?_
  rintro e w1 ⟨rfl, rfl⟩
  go_wp2_with fail
  refine HF.out.mono ?_
  rintro e w2 ⟨rfl, hd2, hK2⟩
  have h2 := h.kp hK2 fun b hb e => hdis b e hb
  have c2 : w2.cell? ⟨gl, 2, none⟩ = some (.int .u64 (l.turn : Int)) := by obtain ⟨vr, vp, hb, _⟩ := h2; exact hb.cell 2
  clear c0
  go_upto_region 8 with fail
  refine name_world (fun w3 => Below w2.heap.size w2 w3 ∧ Blk w3 w2.heap.size 5 C) ⟨(Below.refl _ _).alloc (Nat.le_refl _) _, Blk.new _ _ _⟩ ?_
  rintro w3 ⟨hB3, k3⟩
  have h3 := h2.below hB3
  have hd3 := hd2.below hB3
  have hgl : gl < w2.heap.size := by obtain ⟨vr, vp, hb, _⟩ := h2; exact hb.lt
  obtain ⟨bb, hbb⟩ : ∃ bb, bb = w2.heap.size := ⟨_, rfl⟩
  have hglb : gl ≠ bb := by omega
  rw [← hbb] at k3
  rw [← hbb]
  have HBB := Lib.hid hbb
  clear hbb
  have H3 := Lib.hid h3
  obtain ⟨vr, vp, hb, hr, hp, _⟩ := h3
  obtain ⟨e0, e1, e2, e3, e4, e5, e6, e7, e8⟩ := lg_cells hb
  obtain ⟨A5, c5, rfl, _⟩ := hp.form
  have HPL := Lib.hid h2.ok.places
  have hrl : l.recs.length ≤ 65536 := by have := h2.ok.used; have := secSum_ge l.recs; omega
  have hfi := h2.ok.first
  clear c2 hb hr
  obtain ⟨st, hst⟩ : ∃ st : Nat, st = if hx : n < l.places.length then l.places[n] else l.end_ := ⟨_, rfl⟩
  have HST := Lib.hid hst
  clear hst
  go_upto_if 40 with fail
  go_cut [8] (fun v8 wx => v8 = .int .i64 (st : Int) ∧ wx = w3)
  case first =>
    by_cases hnp : n < l.places.length
    · have hst := HST.out
      rw [dif_pos hnp] at hst
      have u0 : decide ((n : Int) < (l.places.length : Int)) = true := decide_eq_true (by omega)
      have u1 : decide (n < l.places.length) = true := decide_eq_true hnp
      obtain ⟨b5, off5, c5', cs5, hv5, _, hcs5, hcell5⟩ := (hp.rsl (ok := fun _ => True) (by decide) (by have := HPL.out; show _ * 8 ≤ _; omega) (fun _ _ => trivial) (fun _ _ => trivial)).at_ hnp
      obtain rfl : A5 = some ⟨b5, off5, none⟩ := by injection hv5
      have hc50 := hcell5 0 _ (by rw [hcs5]; rfl)
      rw [show off5 + n * rNat.sz + 0 = off5 + n from by show off5 + n * 1 + 0 = _; omega] at hc50
      have hc51 := hc50
      rw [show off5 + n = off5 + n * 1 by omega] at hc51
      rw [← hst] at hc50 hc51
      clear hp hcell5 hcs5 hv5 hst hfi ht ht' hwl hrl HM
      go_wp2
      go_meet
      exact ⟨rfl, rfl⟩
    · have hst := HST.out
      rw [dif_neg hnp] at hst
      have u0 : decide ((n : Int) < (l.places.length : Int)) = false := decide_eq_false (by omega)
      have u1 : decide (n < l.places.length) = false := decide_eq_false hnp
      clear hp hfi ht ht' hwl hrl HM
      go_wp2
      go_meet
      exact ⟨by rw [hst], rfl⟩
  obtain ⟨rfl, hwx⟩ := hcut
  rw [hwx]
  clear hwx
  have hflb : ∀ b, fl b → b ≠ bb := fun b hb => by have := hlfl b hb; have := hK2.size; have := HBB.out; omega
  have hz0 : (List.replicate 64 (0 : UInt8)).length = 64 := List.length_replicate
  rw [HC.out] at k3
  obtain ⟨L0, hL0⟩ : ∃ L0, L0 = List.replicate 64 (0 : UInt8) := ⟨_, rfl⟩
  rw [← hL0] at k3 hz0
  have HL0 := Lib.hid hL0
  clear hL0 HM HC
  have h4 := lay_any bb 0 64 64 (l.turn + 1) L0 w3 k3 (by omega) (by omega) (by omega) ht
  rw [show (((l.turn + 1 : Nat)) : Int) = (l.turn : Int) + 1 from by omega] at h4
  have H4 := Lib.hid h4
  clear h4 k3 e0 e1 e2 e4 e5 e7 e8
  go_wp2_with fail
  refine H4.out.mono ?_
  rintro e w4 ⟨⟨x4, rfl⟩, kb4, hK4⟩
  obtain ⟨L4, hL4⟩ : ∃ L, L = putN L0 0 (l.turn + 1) := ⟨_, rfl⟩
  rw [← hL4] at kb4
  have hz4 : L4.length = 64 := by rw [hL4, putN_len (by omega), hz0]
  have HL4 := Lib.hid hL4
  clear hL4
  have g3 := LaterB.cell (bad := fun b => b = bb) (hK4.cell (p := ⟨gl, 3, none⟩) hglb e3) hglb
  have b1 : (l.first : Int) + (n : Int) < 18446744073709551616 := by omega
  have b2 : (n : Int) < 18446744073709551616 := by omega
  clear H4
  go_upto_region 12 with fail
  refine wp_seqB (fun b => b = bb) 9 [9] (by as_aux_lemma => kernel_rfl) (by as_aux_lemma => kernel_rfl) fun w5 hb5 => ?_
  refine seqB_pre 9 (by kernel_rfl) ?_
  simp only [List.take_succ_cons, List.take_zero, List.drop_succ_cons, List.drop_zero]
  repeat (go_big_quiet_step (fail))
  refine wpQuiet_nil ?_
  refine seqB_wild (Kp.of_below hb5) rfl rfl fun K hK => ?_
  unfold Gives
  go_simp
  have h6 := lay_any bb 8 56 56 (l.first + n) L4 w5 (kb4.below hb5 kb4.lt) (by omega) (by omega) (by omega) (by omega)
  rw [show (((l.first + n : Nat)) : Int) = (l.first : Int) + (n : Int) from by omega] at h6
  refine h6.mono ?_
  clear h6
  rintro e w6 ⟨⟨x6, rfl⟩, kb6, hK6⟩
  refine ⟨_, rfl, hK _ _ (hK6) fun hK46 => ?_⟩
  clear hK
  clear K
  simp only [Act.put, List.setIfInBounds_toArray, List.set_cons_succ, List.set_cons_zero]
  refine seqB_nil ?_
  obtain ⟨L6, hL6⟩ : ∃ L, L = putN L4 8 (l.first + n) := ⟨_, rfl⟩
  rw [← hL6] at kb6
  have hz6 : L6.length = 64 := by rw [hL6, putN_len (by omega), hz4]
  have HL6 := Lib.hid hL6
  clear hL6
  have KB6 : Kp (fun b => b ≠ bb) w3 w6 := hK4.trans hK46
  clear g3 hK46 hK6 hK4 b1
  have h6 := H3.out.kp KB6 hflb
  have b3 : (l.first : Int) + (l.recs.length : Int) < 18446744073709551616 := by omega
  go_upto_region 13 with fail
  refine wp_seqB (fun b => b = bb) 4 [3, 4] (by as_aux_lemma => kernel_rfl) (by as_aux_lemma => kernel_rfl) fun w7 hb7 => ?_
  refine seqB_pre 3 (by kernel_rfl) ?_
  simp only [List.take_succ_cons, List.take_zero, List.drop_succ_cons, List.drop_zero]
  repeat (go_big_quiet_step (fail))
  refine wpQuiet_nil ?_
  refine seqB_wild0 hb7 rfl rfl fun K hK => ?_
  unfold Gives
  go_simp
  refine (next_any (h6.below hb7)).mono ?_
  rintro e w8 ⟨rfl, hb8⟩
  refine ⟨_, rfl, hK _ _ (hb8) fun hb8' => ?_⟩
  clear hK
  clear K
  simp only [Act.put, List.setIfInBounds_toArray, List.set_cons_succ, List.set_cons_zero]
  refine seqB_wild (Kp.of_below hb8') rfl rfl fun K hK => ?_
  unfold Gives
  go_simp
  refine (lay_any bb 16 48 48 (l.first + l.recs.length) L6 w8 ((kb6.below hb7 kb6.lt).below hb8 (Nat.lt_of_lt_of_le kb6.lt hb7.size)) (by omega) (by omega) (by omega) hfi).mono ?_
  rintro e w9 ⟨⟨x9, rfl⟩, kb9, hK9⟩
  refine ⟨_, rfl, hK _ _ (hK9) fun hK69 => ?_⟩
  clear hK
  clear K
  simp only [Act.put, List.setIfInBounds_toArray, List.set_cons_succ, List.set_cons_zero]
  refine seqB_nil ?_
  obtain ⟨L9, hL9⟩ : ∃ L, L = putN L6 16 (l.first + l.recs.length) := ⟨_, rfl⟩
  rw [← hL9] at kb9
  have hz9 : L9.length = 64 := by rw [hL9, putN_len (by omega), hz6]
  have HL9 := Lib.hid hL9
  clear hL9
  have KB9 : Kp (fun b => b ≠ bb) w3 w9 := KB6.trans hK69
  clear hK69 hK9 h6 KB6 hb7 hb8 hb8' kb6
  have hst1 : st < 65536 := by
    rw [HST.out]
    split
    · exact h2.ok.placed _ (List.getElem_mem _)
    · exact h2.ok.end_
  have b4 : (st : Int) < 18446744073709551616 := by omega
  have H10 := Lib.hid (lay_any bb 24 40 40 st L9 w9 kb9 (by omega) (by omega) (by omega) (by omega))
  go_wp2_with fail
  refine H10.out.mono ?_
  rintro e w10 ⟨⟨x10, rfl⟩, kb10, hK10⟩
  obtain ⟨L10, hL10⟩ : ∃ L, L = putN L9 24 st := ⟨_, rfl⟩
  rw [← hL10] at kb10
  have hz10 : L10.length = 64 := by rw [hL10, putN_len (by omega), hz9]
  have HL10 := Lib.hid hL10
  clear hL10
  have KB10 : Kp (fun b => b ≠ bb) w3 w10 := KB9.trans hK10
  clear H10 hK10 KB9 kb9
  have g6 := LaterB.cell (bad := fun b => b = bb) (KB10.cell (p := ⟨gl, 6, none⟩) hglb e6) hglb
  have hen := h2.ok.end_
  have b5 : (l.end_ : Int) < 18446744073709551616 := by omega
  go_upto_region 15 with fail
  refine wp_seqB (fun b => b = bb) 7 [7] (by as_aux_lemma => kernel_rfl) (by as_aux_lemma => kernel_rfl) fun w11 hb11 => ?_
  refine seqB_pre 7 (by kernel_rfl) ?_
  simp only [List.take_succ_cons, List.take_zero, List.drop_succ_cons, List.drop_zero]
  repeat (go_big_quiet_step (fail))
  refine wpQuiet_nil ?_
  refine seqB_wild (Kp.of_below hb11) rfl rfl fun K hK => ?_
  unfold Gives
  go_simp
  refine (lay_any bb 32 32 32 l.end_ L10 w11 (kb10.below hb11 kb10.lt) (by omega) (by omega) (by omega) (by omega)).mono ?_
  rintro e w12 ⟨⟨x12, rfl⟩, kb12, hK12⟩
  refine ⟨_, rfl, hK _ _ (hK12) fun hK1012 => ?_⟩
  clear hK
  clear K
  simp only [Act.put, List.setIfInBounds_toArray, List.set_cons_succ, List.set_cons_zero]
  refine seqB_nil ?_
  obtain ⟨L12, hL12⟩ : ∃ L, L = putN L10 32 l.end_ := ⟨_, rfl⟩
  rw [← hL12] at kb12
  have hz12 : L12.length = 64 := by rw [hL12, putN_len (by omega), hz10]
  have HL12 := Lib.hid hL12
  clear hL12
  have KB12 : Kp (fun b => b ≠ bb) w3 w12 := KB10.trans hK1012
  clear hK1012 hK12 hb11 kb10 KB10 g6
  have h13 := lay_any bb 56 8 8 (l.turn + 1) L12 w12 kb12 (by omega) (by omega) (by omega) ht
  rw [show (((l.turn + 1 : Nat)) : Int) = (l.turn : Int) + 1 from by omega] at h13
  have H13 := Lib.hid h13
  clear h13
  go_wp2_with fail
  refine H13.out.mono ?_
  rintro e w13 ⟨⟨x13, rfl⟩, kb13, hK13⟩
  obtain ⟨L13, hL13⟩ : ∃ L, L = putN L12 56 (l.turn + 1) := ⟨_, rfl⟩
  rw [← hL13] at kb13
  have hz13 : L13.length = 64 := by rw [hL13, putN_len (by omega), hz12]
  have HL13 := Lib.hid hL13
  clear hL13
  have KB13 : Kp (fun b => b ≠ bb) w3 w13 := KB12.trans hK13
  clear H13 hK13 KB12 kb12
  have hLz : L13 = tellB l n := by
    rw [HL13.out, HL12.out, HL10.out, HL9.out, HL6.out, HL4.out, HL0.out, hdB_put, HST.out]
    rfl
  rw [hLz] at kb13 hz13
  clear hLz HL13 HL12 HL10 HL9 HL6 HL4 HL0 hz12 hz10 hz9 hz6 hz4 hz0 HST
  obtain ⟨TB, hTB⟩ : ∃ TB, TB = tellB l n := ⟨_, rfl⟩
  rw [← hTB] at kb13 hz13
  have HTB := Lib.hid hTB
  clear hTB
  have h13 := H3.out.kp KB13 hflb
  have hd13 := hd3.kp KB13 fun b hb => by have := hlfd b hb; have := hK2.size; have := HBB.out; omega
  have hbfd : ∀ b, b = bb → ¬ fd b := fun b e hb => by have := hlfd b hb; have := hK2.size; have := HBB.out; omega
  have hrb : RB (fun b => b = bb) w13 (.slice (some ⟨bb, 0, none⟩) 64 64) TB := RB.mk_ ⟨by rw [bs_len, hz13], fun _ => ⟨bb, 0, rfl, fun j u hu => by rw [Nat.zero_add, kb13.cell j, List.getElem?_toArray]; exact hu⟩⟩ (Nat.le_refl _) (by omega) (fun _ a ha => by rw [← Option.some.inj ha])
  have d13 : w13.cell? ⟨gl, 0, none⟩ = some (.pointer (some ⟨gd, 0, none⟩)) := by obtain ⟨vr, vp, hb, _⟩ := h13; exact hb.cell 0
  have hwl2 : d.flush.1.wait.length + 1 ≤ 1000000000 := by
    have : d.flush.1.wait.length ≤ d.wait.length := by
      unfold DskD.flush
      split
      · exact Nat.le_refl _
      split
      · unfold DskD.hit
        split <;> exact Nat.le_refl _
      · exact Nat.zero_le _
    omega
  have HWr := Lib.hid (fun p hp => dWrite_any hd13 (.slice (some ⟨bb, 0, none⟩) 64 64) TB hrb hbfd p hp hwl2)
  have hK113 : Kp (fun x => ¬ fl x ∧ ¬ fd x) w1 w13 := ((hK2.mono fun b hb => hb.2).trans (.of_below hB3)).thenW KB13 fun b hb _ e => by have := hK2.size; have := HBB.out; omega
  have hz113 : w1.heap.size ≤ w13.heap.size := hK113.size
  have HK113 := Lib.hid hK113
  have H13 := Lib.hid h13
  have HW2 := HWr.out (((l.turn + 1) % 2 : Nat) : Int) (by constructor <;> omega)
  rw [HTB.out, ← HP0.out, show (((l.turn + 1) % 2 : Nat) : Int) = ((l.turn : Int) + 1) % 2 from by omega] at HW2
  simp only at HW2
  have HW := Lib.hid HW2
  clear hrb hwl2 kb13 KB13 e3 e6 hp b3 b4 HW2 HWr hK113 h13 hd13 hd3 h2 hd2 hK2 hB3 H3
  go_wp2_with fail
  refine HW.out.mono ?_
  rintro e w14 ⟨rfl, hd14, hK14⟩
  have h14 := H13.out.kp hK14 fun b hb e => hdis b e hb
  have hz14 := hK14.size
  have hd14' : DiskR (fun x => fd x ∨ w13.heap.size ≤ x) w14 gd d2 := hd14
  have hK114 : Kp (fun x => ¬ fl x ∧ ¬ fd x) w1 w14 := HK113.out.trans (hK14.mono fun b hb => hb.2)
  have HK114 := Lib.hid hK114
  have hB14 : Both (fun x => fl x ∨ fd x ∨ w1.heap.size ≤ x) w14 gl gd l d2 := (Both.mk_ h14 hd14 (fun x hx _ hl => hx.elim (fun h => hdis x h hl) fun h => by have := hlfl x hl; omega)).mono fun b hb _ => hb.elim .inl fun h => h.elim (fun h => .inr (.inl h)) fun h => .inr (.inr (by omega))
  have HB14 := Lib.hid hB14
  clear hK114 hB14 HW H13 HK113 d13 hd14 hK14
  have HT := Lib.hid ht
  have HFI := Lib.hid hfi
  clear ht ht' hfi hwl b2 b5
  by_cases hE1 : E1 = 0
  case neg =>
    have hRR : R = (l, d2, E1) := by rw [HTL.out, if_pos hE1]
    have HRR := Lib.hid hRR
    clear hRR
    have t3 : (E1 == 0) = false := by simpa using hE1
    have t4 : decide (E1 = 0) = false := decide_eq_false hE1
    clear h14 hd14'
    go_wp2
    go_ret
    rw [HRR.out]
    exact ⟨rfl, HB14.out, HK114.out⟩
  subst hE1
  clear HB14
  obtain ⟨q, hq⟩ : ∃ q, q = d2.flush := ⟨_, rfl⟩
  have HF2 := Lib.hid (dFlush_any hd14')
  have htl := HTL.out
  rw [if_neg (by decide), ← hq] at htl
  rw [← hq] at HF2
  obtain ⟨d3, E2⟩ := q
  simp only at HF2 htl
  clear HTL
  have HTL := Lib.hid htl
  clear htl
  have d14 : w14.cell? ⟨gl, 0, none⟩ = some (.pointer (some ⟨gd, 0, none⟩)) := by obtain ⟨vr, vp, hb, _⟩ := h14; exact hb.cell 0
  have H14 := Lib.hid h14
  clear hq hd14' h14
  go_wp2_with fail
  refine HF2.out.mono ?_
  rintro e w15 ⟨rfl, hd15, hK15⟩
  have hfdl : ∀ x, fl x → ¬ (fd x ∨ w13.heap.size ≤ x) := fun x hl hx => hx.elim (fun h => hdis x h hl) fun h => by have := hlfl x hl; omega
  have h15 := H14.out.kp hK15 hfdl
  have hz15 := hK15.size
  have hK115 : Kp (fun x => ¬ fl x ∧ ¬ fd x) w1 w15 := HK114.out.thenW hK15 fun b hb hx e => e.elim hx.2 fun e => by omega
  have HK115 := Lib.hid hK115
  clear hK115 HK114 HF2 H14 d14 hK15
  by_cases hE2 : E2 = 0
  case neg =>
    have hRR : R = (l, d3, E2) := by rw [HTL.out, if_pos hE2]
    have HRR := Lib.hid hRR
    clear hRR
    have hB15 : Both (fun x => fl x ∨ fd x ∨ w1.heap.size ≤ x) w15 gl gd l d3 := (Both.mk_ h15 hd15 (fun x hx _ hl => hfdl x hl hx)).mono fun b hb _ => hb.elim .inl fun h => h.elim (fun h => .inr (.inl h)) fun h => .inr (.inr (by omega))
    have HB15 := Lib.hid hB15
    have t3 : (E2 == 0) = false := by simpa using hE2
    have t4 : decide (E2 = 0) = false := decide_eq_false hE2
    clear h15 hd15 hB15
    go_wp2
    go_ret
    rw [HRR.out]
    exact ⟨rfl, HB15.out, HK115.out⟩
  subst hE2
  have HRR : Hid (R = ({ l with turn := l.turn + 1, first := l.first + n, recs := l.recs.drop n, places := l.places.drop n, used := l.used - secSum (l.recs.take n) }, d3, 0)) := Lib.hid (by rw [HTL.out, if_neg (by decide)])
  clear HTL
  have hlok := h15.ok
  have hlt15 : gl < w15.heap.size := by obtain ⟨vr, vp, hb, _⟩ := h15; exact hb.lt
  obtain ⟨vr2, vp2, h1, hrr, hpp, q4, q5, q6, q7, q8, q9, _⟩ := h15
  have hrs : RSl rBs (fun b => b ≠ gl) w15 vr2 l.recs := hrr.rslP (show l.recs.length * 24 ≤ _ by omega) (fun b _ e h => q4 (by rw [← e, h])) (fun b hb => hb.2.1)
  obtain ⟨A4, c4, rfl, hc4, _⟩ := hrs.form
  have hUSD := hlok.used
  have HUS := Lib.hid hus
  have r4 : w15.cell? ⟨gl, 4, none⟩ = some (.slice A4 l.recs.length c4) := h1.cell 4
  clear hus
  obtain ⟨us, husd⟩ : ∃ us : Nat → Nat, us = fun i => l.used - secSum (l.recs.take i) := ⟨_, rfl⟩
  have hus0 : us 0 = l.used := by rw [husd]; rfl
  have husS : ∀ i (hi : i < l.recs.length), us i = us (i + 1) + secN l.recs[i].length ∧ us i ≤ 65536 := fun i hi => by
    have e1 := secSum_succ l.recs i hi
    have e2 := secSum_take l.recs (i + 1)
    have e3 := HUS.out
    rw [husd]
    simp only
    rw [e1] at e2 ⊢
    omega
  have HUSS := Lib.hid husS
  have HUSD := Lib.hid husd
  clear husS husd
  have hbl0 : Blk w15 gl 97 (lgCs gd { l with used := us 0 } (.slice A4 l.recs.length c4) vp2) := by rw [hus0]; exact h1
  have H1 := Lib.hid h1
  clear hus0 h1
  go_upto_region 23 with fail
  go_wp2
  go_loopw [110] (fun j wr => ∃ i : Nat, i ≤ n ∧ j = .int .i64 (i : Int) ∧ Blk wr gl 97 (lgCs gd { l with used := us i } (.slice A4 l.recs.length c4) vp2) ∧ Kp (fun b => b ≠ gl) w15 wr) (fun j _ => n - (intOf j).toNat)
  case atStart => exact ⟨0, Nat.zero_le _, rfl, hbl0, Kp.refl _ _⟩
  clear hbl0 r4
  case round =>
    obtain ⟨i, hi, rfl, hbl, hkk⟩ := hrel
    by_cases hin : i < n
    · have u0 : decide ((i : Int) < (n : Int)) = true := decide_eq_true (by omega)
      have hir : i < l.recs.length := by omega
      have hU := HUSS.out i hir
      have hrl2 := hlok.recs _ (List.getElem_mem hir)
      obtain ⟨b9, off9, c9, cs9, hv9, hb9, ⟨v9, rfl, hr9⟩, hcell9⟩ := hrs.at_ hir
      simp only [Value.slice.injEq, true_and] at hv9
      obtain ⟨rfl, rfl⟩ := hv9
      obtain ⟨A9, c9, rfl, hc9, _⟩ := hr9.form
      have x1 := hkk.cell (p := ⟨b9, off9 + i, none⟩) hb9 (by have := hcell9 0 _ rfl; rw [show off9 + i * rBs.sz + 0 = off9 + i from by show off9 + i * 1 + 0 = _; omega] at this; exact this)
      have x2 := x1
      rw [show off9 + i = off9 + i * 1 by omega] at x2
      obtain ⟨m, hm⟩ : ∃ m, m = l.recs[i].length := ⟨_, rfl⟩
      rw [← hm] at hU hrl2 x1 x2
      obtain ⟨uu, huu⟩ : ∃ uu, uu = us (i + 1) := ⟨_, rfl⟩
      obtain ⟨u, hu⟩ : ∃ u, u = us i := ⟨_, rfl⟩
      rw [← huu, ← hu] at hU
      obtain ⟨sn, hsn⟩ : ∃ sn, sn = secN m := ⟨_, rfl⟩
      have hSec := fun w => sectors_any m (by omega) w
      rw [← hsn] at hU hSec
      have y7 : ∀ s : Later wr, s.val.cell? ⟨gl, 7, none⟩ = some (.int .i64 (u : Int)) := Later.cell (by rw [hu]; exact hbl.cell 7)
      have HU := Lib.hid hu
      have HUU := Lib.hid huu
      have HHU := Lib.hid hU.1
      have hU2 := hU.2
      have hU3 : sn ≤ u := by omega
      clear hcell9 hr9 hm hsn hu huu hU
      go_upto_region 26 with fail
      refine wp_seqB (fun b => b = gl) 10 [6, 10] (by as_aux_lemma => kernel_rfl) (by as_aux_lemma => kernel_rfl) fun w16 hb16 => ?_
      refine seqB_pre 3 (by kernel_rfl) ?_
      simp only [List.take_succ_cons, List.take_zero, List.drop_succ_cons, List.drop_zero]
      repeat (go_big_quiet_step (fail))
      refine wpQuiet_nil ?_
      refine seqB_pre0 1 (by kernel_rfl) (by kernel_rfl) ?_
      simp only [List.take_succ_cons, List.take_zero, List.drop_succ_cons, List.drop_zero]
      repeat (go_big_quiet_step (fail))
      refine wpQuiet_nil ?_
      refine seqB_pre 2 (by kernel_rfl) ?_
      simp only [List.take_succ_cons, List.take_zero, List.drop_succ_cons, List.drop_zero]
      repeat (go_big_quiet_step (fail))
      refine wpQuiet_nil ?_
      refine seqB_wild0 hb16 rfl rfl fun K hK => ?_
      unfold Gives
      go_simp
      refine (hSec _).mono ?_
      rintro e w17 ⟨rfl, rfl⟩
      refine ⟨_, rfl, hK _ _ ((Below.refl _ _)) fun hb17 => ?_⟩
      clear hK
      clear K
      simp only [Act.put, List.setIfInBounds_toArray, List.set_cons_succ, List.set_cons_zero]
      refine seqB_pre 3 (by kernel_rfl) ?_
      simp only [List.take_succ_cons, List.take_zero, List.drop_succ_cons, List.drop_zero]
      repeat (go_big_quiet_step (fail))
      refine wpQuiet_nil ?_
      have hbl17 := hbl.below hb16 hbl.lt
      have fg := fun i => hbl17.frozen i
      have y717 : w17.cell? ⟨gl, 7, none⟩ = some (.int .i64 (u : Int)) := by rw [HU.out]; exact hbl17.cell 7
      refine seqB_wild (Kp.of_below hb17) rfl rfl fun K hK => ?_
      unfold Gives
      go_simp
      have hkp : ∀ u, Kp (fun x => ¬ x = gl) w17 (w17.setCell ⟨gl, 7, none⟩ u) := fun u => (Kp.refl _ _).setCell (fun _ h => h rfl) _
      refine hK _ _ (hkp _) fun hK18 => ?_
      clear hK
      clear K
      simp only [Act.put, List.setIfInBounds_toArray, List.set_cons_succ, List.set_cons_zero]
      refine seqB_nil ?_
      have hfin : ∀ z, z = .int .i64 (uu : Int) → Blk (w17.setCell ⟨gl, 7, none⟩ z) gl 97 (lgCs gd { l with used := us (i + 1) } (.slice (some ⟨b9, off9, none⟩) l.recs.length c4) vp2) := fun z hz => by
        rw [hz, HUU.out]
        exact hbl17.set_ 7 _
      have hK15z := hkk.trans hK18
      have HFIN := Lib.hid hfin
      clear hfin y7 y717 fg
      go_wp2
      go_roundw
      case rel => exact ⟨i + 1, by omega, by go_num, HFIN.out _ (by first | rfl | (congr 1; have := HHU.out; omega)), hK15z⟩
      case measure => simp [intOf]; omega
    · obtain rfl : i = n := by omega
      have u0 : decide ((i : Int) < (i : Int)) = false := decide_eq_false (by omega)
      have HUn : us i = l.used - secSum (l.recs.take i) := by rw [HUSD.out]
      have fg := fun j => hbl.frozen j
      have y2 : wr.cell? ⟨gl, 2, none⟩ = some (.int .u64 (l.turn : Int)) := hbl.cell 2
      have y3 : wr.cell? ⟨gl, 3, none⟩ = some (.int .u64 (l.first : Int)) := hbl.cell 3
      have hfin : ∀ y z, y = .int .u64 ((l.turn + 1 : Nat) : Int) → z = .int .u64 ((l.first + i : Nat) : Int) → Blk ((wr.setCell ⟨gl, 2, none⟩ y).setCell ⟨gl, 3, none⟩ z) gl 97 (lgCs gd { l with turn := l.turn + 1, first := l.first + i, used := l.used - secSum (l.recs.take i) } (.slice A4 l.recs.length c4) vp2) ∧ Kp (fun b => b ≠ gl) w15 ((wr.setCell ⟨gl, 2, none⟩ y).setCell ⟨gl, 3, none⟩ z) := fun y z hy hz => by
        rw [hy, hz]
        rw [HUn] at hbl
        exact ⟨(hbl.set_ 2 _).set_ 3 _, hkk.trans (((Kp.refl _ _).setCell (fun _ h => h rfl) _).setCell (fun _ h => h rfl) _)⟩
      have HFIN := Lib.hid hfin
      clear hfin hbl hkk HUn
      have HW9 : Hid (IntKind.u64.wrap ((l.first : Int) + (i : Int)) = ((l.first + i : Nat) : Int)) := Lib.hid (by
        have := HFI.out
        rw [IntKind.wrap_u64]
        omega)
      go_upto_region 29 with fail
      refine name_world (fun w16 => Blk w16 gl 97 (lgCs gd { l with turn := l.turn + 1, first := l.first + i, used := l.used - secSum (l.recs.take i) } (.slice A4 l.recs.length c4) vp2) ∧ Kp (fun b => b ≠ gl) w15 w16) (HFIN.out _ _ (by first | rfl | (congr 1; omega)) (by rw [← HW9.out])) ?_
      clear HFIN y2 y3 fg HW9
      rintro w16 ⟨hbl, hkk⟩
      have hz16 := hkk.size
      have g4 : ∀ s : Later w16, s.val.cell? ⟨gl, 4, none⟩ = some (.slice A4 l.recs.length c4) := Later.cell (hbl.cell 4)
      obtain ⟨A5, c5, rfl, hc5⟩ := hpp.form
      have g5 : ∀ s : Later w16, s.val.cell? ⟨gl, 5, none⟩ = some (.slice A5 l.places.length c5) := Later.cell (hbl.cell 5)
      have hrs2 : RSl rBs (fun b => fl b ∧ b ≠ gl) w15 (.slice A4 l.recs.length c4) l.recs := hrr.rslP (show l.recs.length * 24 ≤ _ by omega) (fun b _ e => ⟨q8 b e.symm, fun h => q4 (by rw [← e, h])⟩) (fun b hb => ⟨hb.1, hb.2.1⟩)
      have hps2 : RSl rNat (fun b => b ≠ gl) w15 (.slice A5 l.places.length c5) l.places := hpp.rslP (show l.places.length * 8 ≤ _ by rw [hlok.places]; omega) (fun b _ e h => q5 (by rw [← e, h])) (fun b hb => hb.elim)
      have hdr := hrs2.drop (k := i) hn
      have hdp := hps2.drop (k := i) (by rw [hlok.places]; exact hn)
      rw [show i * rBs.sz = i from Nat.mul_one i] at hdr
      rw [show i * rNat.sz = i from Nat.mul_one i] at hdp
      have HDR := Lib.hid (RSl.kp (hkk.mono fun b hb => hb.2) hdr)
      have HDP := Lib.hid (RSl.kp hkk hdp)
      have HPLC := Lib.hid hlok.places
      have hpl2 : i ≤ l.places.length := by rw [hlok.places]; exact hn
      have hpl3 : l.places.length ≤ 65536 := by rw [hlok.places]; exact hrl
      clear hdr hdp hrs2 hps2 hrs
      refine wp_seqB (fun b => b = gl) 18 [8, 15, 18, 21] (by as_aux_lemma => kernel_rfl) (by as_aux_lemma => kernel_rfl) fun w17 hb17 => ?_
      refine seqB_pre 5 (by kernel_rfl) ?_
      simp only [List.take_succ_cons, List.take_zero, List.drop_succ_cons, List.drop_zero]
      repeat (go_big_quiet_step (fail))
      refine wpQuiet_nil ?_
      refine seqB_pre0 1 (by kernel_rfl) (by kernel_rfl) ?_
      simp only [List.take_succ_cons, List.take_zero, List.drop_succ_cons, List.drop_zero]
      repeat (go_big_quiet_step (fail))
      refine wpQuiet_nil ?_
      refine seqB_pre 2 (by kernel_rfl) ?_
      simp only [List.take_succ_cons, List.take_zero, List.drop_succ_cons, List.drop_zero]
      repeat (go_big_quiet_step (fail))
      refine wpQuiet_nil ?_
      refine seqB_wild0 hb17 rfl rfl fun K hK => ?_
      unfold Gives
      go_simp
      refine (cloneBs_any _ _ w17 (HDR.out.below hb17) (by rw [List.length_drop]; omega)).mono ?_
      rintro e w18 ⟨⟨v18, rfl, ho18⟩, hb18⟩
      refine ⟨_, rfl, hK _ _ (hb18) fun hb18' => ?_⟩
      clear hK
      clear K
      simp only [Act.put, List.setIfInBounds_toArray, List.set_cons_succ, List.set_cons_zero]
      refine seqB_pre 3 (by kernel_rfl) ?_
      simp only [List.take_succ_cons, List.take_zero, List.drop_succ_cons, List.drop_zero]
      repeat (go_big_quiet_step (fail))
      refine wpQuiet_nil ?_
      refine seqB_pre0 1 (by kernel_rfl) (by kernel_rfl) ?_
      simp only [List.take_succ_cons, List.take_zero, List.drop_succ_cons, List.drop_zero]
      repeat (go_big_quiet_step (fail))
      refine wpQuiet_nil ?_
      refine seqB_pre 2 (by kernel_rfl) ?_
      simp only [List.take_succ_cons, List.take_zero, List.drop_succ_cons, List.drop_zero]
      repeat (go_big_quiet_step (fail))
      refine wpQuiet_nil ?_
      refine seqB_wild0 hb18' rfl rfl fun K hK => ?_
      unfold Gives
      go_simp
      refine (cloneNat_any _ _ w18 (HDP.out.below hb18') (by rw [List.length_drop]; omega)).mono ?_
      rintro e w19 ⟨⟨v19, rfl, ho19⟩, hb19⟩
      refine ⟨_, rfl, hK _ _ (hb19) fun hb19' => ?_⟩
      clear hK
      clear K
      simp only [Act.put, List.setIfInBounds_toArray, List.set_cons_succ, List.set_cons_zero]
      refine seqB_pre 2 (by kernel_rfl) ?_
      simp only [List.take_succ_cons, List.take_zero, List.drop_succ_cons, List.drop_zero]
      repeat (go_big_quiet_step (fail))
      refine wpQuiet_nil ?_
      have hbl19 := hbl.below hb19' hbl.lt
      have ho18' := ho18.below hb19
      have hl18 := ho18.lt
      have hl19 := ho19.lt
      obtain ⟨A18, c18, rfl, _⟩ := ho18'.form
      obtain ⟨A19, c19, rfl, _⟩ := ho19.form
      have fg := fun j => hbl19.frozen j
      have z4 : w19.cell? ⟨gl, 4, none⟩ = some (.slice A4 l.recs.length c4) := hbl19.cell 4
      have z5 : w19.cell? ⟨gl, 5, none⟩ = some (.slice A5 l.places.length c5) := hbl19.cell 5
      obtain ⟨n18, hn18⟩ : ∃ n18, n18 = (l.recs.drop i).length := ⟨_, rfl⟩
      obtain ⟨n19, hn19⟩ : ∃ n19, n19 = (l.places.drop i).length := ⟨_, rfl⟩
      rw [← hn18] at ho18' hl18 ⊢
      rw [← hn19] at ho19 hl19 ⊢
      have HN18 := Lib.hid hn18
      have HN19 := Lib.hid hn19
      clear hn18 hn19
      have hkp : ∀ (w : World) o u, Kp (fun b => ¬ b = gl) w (w.setCell ⟨gl, o, none⟩ u) := fun w o u => (Kp.refl _ _).setCell (fun _ h => h rfl) _
      refine seqB_wild (Kp.of_below hb19') rfl rfl fun K hK => ?_
      unfold Gives
      go_simp
      refine hK _ _ (hkp _ _ _) fun hK20 => ?_
      clear hK
      clear K
      simp only [Act.put, List.setIfInBounds_toArray, List.set_cons_succ, List.set_cons_zero]
      refine seqB_pre 2 (by kernel_rfl) ?_
      simp only [List.take_succ_cons, List.take_zero, List.drop_succ_cons, List.drop_zero]
      repeat (go_big_quiet_step (fail))
      refine wpQuiet_nil ?_
      refine seqB_wild hK20 rfl rfl fun K hK => ?_
      unfold Gives
      go_simp
      refine hK _ _ (hkp _ _ _) fun hK21 => ?_
      clear hK
      clear K
      simp only [Act.put, List.setIfInBounds_toArray, List.set_cons_succ, List.set_cons_zero]
      refine seqB_nil ?_
      have hz17 := hb17.size
      have hz18 := hb18.size
      have hz19 := hb19.size
      have hlt16 : gl < w16.heap.size := hbl.lt
      have hflz : ∀ b, fl b → b < w15.heap.size := fun b hb => by have := hlfl b hb; omega
      have hng18 : (Value.slice A18 n18 c18).ownBlock ≠ some gl := fun e => by have := (hl18 _ e).1; omega
      have hng19 : (Value.slice A19 n19 c19).ownBlock ≠ some gl := fun e => by have := (hl19 _ e).1; omega
      have hap : ∀ b, (Value.slice A18 n18 c18).ownBlock = some b → (Value.slice A19 n19 c19).ownBlock ≠ some b := fun b e e2 => by have := (hl18 _ e).2; have := (hl19 _ e2).1; omega
      have hKs : Kp (fun b => b ≠ gl) w19 ((w19.setCell ⟨gl, 4, none⟩ (.slice A18 n18 c18)).setCell ⟨gl, 5, none⟩ (.slice A19 n19 c19)) := ((Kp.refl _ _).setCell (fun _ h => h rfl) _).setCell (fun _ h => h rfl) _
      have hblz := (hbl19.set_ 4 (.slice A18 n18 c18)).set_ 5 (.slice A19 n19 c19)
      have hoz : OwnL rBs (fun b => (fl b ∨ w15.heap.size ≤ b) ∧ b ≠ gl ∧ some b ≠ (Value.slice A19 n19 c19).ownBlock) 0 25 ((w19.setCell ⟨gl, 4, none⟩ (.slice A18 n18 c18)).setCell ⟨gl, 5, none⟩ (.slice A19 n19 c19)) (.slice A18 n18 c18) (l.recs.drop i) :=
        ((ho18'.base_ (Nat.zero_le _)).kp hKs (fun b hb => hb.2) (fun b hb e => hng18 (by rw [hb, e]))).monoW fun b hb _ => ⟨.inl hb.1, hb.2, fun e => by have := (hl19 _ e.symm).1; have := hflz b hb.1; omega⟩
      have hpz : OwnL rNat (fun _ => False) 0 3 ((w19.setCell ⟨gl, 4, none⟩ (.slice A18 n18 c18)).setCell ⟨gl, 5, none⟩ (.slice A19 n19 c19)) (.slice A19 n19 c19) (l.places.drop i) :=
        (ho19.base_ (Nat.zero_le _)).kp hKs (fun _ h => h.elim) (fun b hb e => hng19 (by rw [hb, e]))
      have hLz : LogR (fun b => fl b ∨ w15.heap.size ≤ b) ((w19.setCell ⟨gl, 4, none⟩ (.slice A18 n18 c18)).setCell ⟨gl, 5, none⟩ (.slice A19 n19 c19)) gl gd { l with turn := l.turn + 1, first := l.first + i, recs := l.recs.drop i, places := l.places.drop i, used := l.used - secSum (l.recs.take i) } := by
        refine ⟨_, _, hblz, hoz, hpz, fun e => hng18 e.symm, fun e => hng19 e.symm, hap, .inl hfl, fun b hb => .inr (by have := (hl18 b hb).1; omega), fun b hb => .inr (by have := (hl19 b hb).1; omega), ⟨HT.out, ?_, fun r hr => hlok.recs r (List.mem_of_mem_drop hr), ?_, fun r hr => hlok.placed r (List.mem_of_mem_drop hr), hlok.end_, ?_⟩⟩
        · show l.first + i + (l.recs.drop i).length < _
          rw [List.length_drop]
          have := HFI.out
          omega
        · show (l.places.drop i).length = (l.recs.drop i).length
          rw [List.length_drop, List.length_drop, HPLC.out]
        · show l.used - _ ≤ _
          omega
      have hKz : Kp (fun b => b ≠ gl) w15 ((w19.setCell ⟨gl, 4, none⟩ (.slice A18 n18 c18)).setCell ⟨gl, 5, none⟩ (.slice A19 n19 c19)) := hkk.trans hK21
      have hDz := (hd15.mono (ft' := fun x => (fd x ∨ w13.heap.size ≤ x) ∧ x < w15.heap.size) fun b hb hlt => ⟨hb, hlt⟩).kp hKz fun b hb e => hfdl gl hfl (e ▸ hb.1)
      have hBz := (Both.mk_ hLz hDz fun x hx _ hl => hl.elim (fun h => hfdl x h hx.1) fun h => by have := hx.2; omega).mono (f' := fun x => fl x ∨ fd x ∨ w1.heap.size ≤ x) fun b hb _ => hb.elim (fun h => h.elim .inl fun h => .inr (.inr (by omega))) fun h => h.1.elim (fun h => .inr (.inl h)) fun h => .inr (.inr (by omega))
      have hKzz : Kp (fun x => ¬ fl x ∧ ¬ fd x) w1 ((w19.setCell ⟨gl, 4, none⟩ (.slice A18 n18 c18)).setCell ⟨gl, 5, none⟩ (.slice A19 n19 c19)) := HK115.out.thenW hKz fun b _ hx e => hx.1 (e ▸ hfl)
      have HBz := Lib.hid hBz
      have HKzz := Lib.hid hKzz
      clear hBz hKzz hDz hKz hLz hpz hoz hblz hKs z4 z5 fg hbl hbl19 ho18 ho18' ho19 g4 g5
      go_wp2
      all_goals
        go_ret
        rw [HRR.out]
        exact ⟨rfl, HBz.out, HKzz.out⟩
theorem tell_any {f : Nat → Prop} {gl gd : Nat} {l : LogD} {d : DskD} {w : World} (n : Nat) (h : Both f w gl gd l d) (hn : n ≤ l.recs.length) (hus : l.used = secSum l.recs) (ht : l.turn + 1 < 18446744073709551616) (hwl : d.wait.length + 1 ≤ 1000000000) :
    Calls Tryz.prog 51 #[.pointer (some ⟨gl, 0, none⟩), .int .i64 (n : Int)] w fun e w' => e = .returned (.int .i64 (tellL l d n).2.2) ∧ Both (fun x => f x ∨ w.heap.size ≤ x) w' gl gd (tellL l d n).1 (tellL l d n).2.1 ∧ Kp (fun x => ¬ f x) w w' := by
  have hB := h
  obtain ⟨fl, fd, h1, h2, h3, h4, h5⟩ := h
  by_cases hs : d.kept.length < 3
  · have ht : tellL l d n = (l, d, 0) := by unfold tellL; rw [if_pos hs]
    rw [ht]
    refine (tell_small n h4 h5 hs).mono ?_
    rintro e w' ⟨rfl, rfl⟩
    exact ⟨rfl, hB.mono fun b hb _ => .inl hb, Kp.refl _ _⟩
  by_cases hf : d.flush.2 = 0
  · refine (tell_try n h4 h5 h3 (fun b hb => (h1 b hb).2) (fun b hb => (h2 b hb).2) hs hf hn hus ht hwl).mono ?_
    rintro e w' ⟨rfl, hb, hk⟩
    exact ⟨rfl, hb.mono fun b hb _ => hb.elim (fun h => .inl (h1 b h).1) fun h => h.elim (fun h => .inl (h2 b h).1) .inr, hk.mono fun b hb => ⟨fun h => hb (h1 b h).1, fun h => hb (h2 b h).1⟩⟩
  · have ht : tellL l d n = (l, d.flush.1, d.flush.2) := by unfold tellL; rw [if_neg hs, if_pos hf]
    rw [ht]
    refine (tell_flush n h4 h5 hs hf).mono ?_
    rintro e w' ⟨rfl, hd, hk⟩
    have hz := hk.size
    have h4' := h4.kp hk fun b hb hf => h3 b hf hb
    exact ⟨rfl, ⟨fl, fd, fun x hx => ⟨.inl (h1 x hx).1, Nat.lt_of_lt_of_le (h1 x hx).2 hz⟩, fun x hx => ⟨.inl (h2 x hx).1, Nat.lt_of_lt_of_le (h2 x hx).2 hz⟩, h3, h4', hd⟩, hk.mono fun b hb hf => hb (h2 b hf).1⟩
end Go.Proofs.YtnlhjhpikjmoaaaGreatDoor
