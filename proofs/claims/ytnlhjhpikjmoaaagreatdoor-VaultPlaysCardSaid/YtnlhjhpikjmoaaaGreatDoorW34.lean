/- (*Log).Append: the walk.
The log on a calm disk: what each function does, as plain data. No walk.
A log on a calm disk: states, one behind the other. No walk.
A log on a calm disk, in memory: contracts in one's own words. -/
import Derived.Test.YtnlhjhpikjmoaaaGreatDoorW30
import Derived.Lib.SlBytesConst
namespace Go.Proofs.YtnlhjhpikjmoaaaGreatDoor
open Go.RowKit Go.Shelf
attribute [local go_sem] Oper.semAt_some
theorem name_in {F : Fence} {n : Nat} {P : Program} {c : Code} {Q : Exit → Act → World → Prop} {a : Act} {W : World} (R : World → Prop) (h : R W) (k : ∀ w, R w → c.wpIn F n P Q a w) : c.wpIn F n P Q a W := k W h
set_option maxRecDepth 100000 in
set_option maxHeartbeats 6400000 in
theorem append_main {f okb : Nat → Prop} {gl gd : Nat} {l : LogD} {d : DskD} {w : World} (A : Option Addr) (c : Nat) (b : List UInt8) (h : Both f w gl gd l d) (hrb : RB okb w (.slice A b.length c) b) (hokb : ∀ x, okb x → ¬ f x) (hfl : ∀ x, f x → x < w.heap.size) (hlen : b.length ≤ 32768) (hrd : rdyE l d = 0) (hfit : l.used + secN b.length + 2 ≤ d.kept.length) (hus : l.used = secSum l.recs) (hfs : l.first + 70000 < 18446744073709551616) (hwl : d.wait.length + 1000 ≤ 1000000000) :
    Calls Tryz.prog 73 #[.pointer (some ⟨gl, 0, none⟩), .slice A b.length c] w fun e w' => e = .returned (.int .i64 (appendL l d b).2.2) ∧ Both (fun x => f x ∨ w.heap.size ≤ x) w' gl gd (appendL l d b).1 (appendL l d b).2.1 ∧ Kp (fun x => ¬ f x) w w' := by
  have hr0 : rdy l d = l := (rdyE_or l d).elim (fun e => by rw [e] at hrd; exact absurd hrd (by decide)) fun e => e.2
  have hlo := h.ok
  obtain ⟨ring, hring⟩ : ∃ ring, ring = d.kept.length - 2 := ⟨_, rfl⟩
  have hri : (d.kept.length : Int) - 2 = (ring : Int) := by omega
  have hsp := secN_pos b.length
  have hr1 : 1 ≤ ring := by omega
  have hr2 : ring ≤ 65534 := by omega
  obtain ⟨R, hR⟩ : ∃ R, R = appendL l d b := ⟨_, rfl⟩
  rw [← hR]
  have hR1 : R = let s := stA b l.turn ring d l.end_ (List.range (secN b.length)); if s.2.2 ≠ 0 then ({ l with dead := l.dead || s.2.2 == 3 }, s.1, s.2.2) else ({ took l b ring with waits := true }, s.1, 0) := by
    rw [hR, appendL, if_neg (by omega), if_neg (by rw [hrd]; decide), if_neg (by omega), hring]
  have HR1 := Lib.hid hR1
  have hrdy := fun (w : World) (h : Both f w gl gd l d) => ready_b h
  rw [hrd, hr0] at hrdy
  have HRD := Lib.hid hrdy
  have HRG := Lib.hid (fun (w : World) (h : Both f w gl gd l d) => ring_b h)
  rw [hri] at HRG
  have HSE := Lib.hid (fun (w : World) => sectors_any b.length (by omega) w)
  obtain ⟨S, hS⟩ : ∃ S, S = secN b.length := ⟨_, rfl⟩
  rw [← hS] at HSE hfit
  have hfit2 : l.used + S ≤ ring := by omega
  have HB := Lib.hid h
  have hfg := h.glf
  obtain ⟨_, _, _, _, hgl⟩ := h.cells
  have z1 : decide (32768 < (b.length : Int)) = false := decide_eq_false (by omega)
  have z2 : decide (32768 < b.length) = false := decide_eq_false (by omega)
  have HS := Lib.hid hS
  have HFS := Lib.hid hfs
  have HRB := Lib.hid (hrb.mono (ok' := fun x => okb x ∧ x < w.heap.size) (by decide) fun x hx hlt => ⟨hx, hlt⟩)
  have HRING := Lib.hid hring
  have HRI := Lib.hid hri
  have HUS := Lib.hid hus
  clear hus hR hR1 hrd hr0 h hrdy hfs hS hrb hring hri
  refine (callsIn_wide (n := 9)).1 (callsIn_of_wp_marks Tryz.func73 rfl trivial ?_ rfl)
  simp only [Tryz.ntmps73, List.size_toArray, List.length_cons, List.length_nil, Nat.reduceAdd, Nat.reduceSub, Array.replicate_succ, Array.replicate_zero, List.push_toArray, List.append_toArray, List.nil_append, List.cons_append]
  refine wpIn_wide.2 ?_
  go_upto_region 5 with fail
  refine name_world (fun w1 => Below w.heap.size w w1 ∧ w.heap.size + 2 ≤ w1.heap.size ∧ Blk w1 w.heap.size 69 #[.pointer (some ⟨gl, 0, none⟩)] ∧ Blk w1 (w.heap.size + 1) 40 #[.int .i64 0]) ⟨((Below.refl _ _).alloc (Nat.le_refl _) _).alloc (by simp) _, by simp, (Blk.new w _ _).alloc _, Blk.new_ (by simp)⟩ ?_
  rintro w1 ⟨hB1, hz1, kl, kr⟩
  obtain ⟨bl, hbl⟩ : ∃ bl, bl = w.heap.size := ⟨_, rfl⟩
  obtain ⟨br, hbr⟩ : ∃ br, br = w.heap.size + 1 := ⟨_, rfl⟩
  have hn1 : bl ≠ gl := by omega
  have hn2 : br ≠ gl := by omega
  rw [← hbr, ← hbl]
  rw [← hbl] at kl
  rw [← hbr] at kr
  have HBL := Lib.hid hbl
  have HBR := Lib.hid hbr
  clear hbl hbr
  have cl : w1.cell? ⟨bl, 0, none⟩ = some (.pointer (some ⟨gl, 0, none⟩)) := kl.cell 0
  go_wp2_with fail
  refine (HRD.out _ (HB.out.below hB1)).mono ?_
  rintro e w2 ⟨rfl, hB2, hK2⟩
  have kr2 := kr.kp hK2 hn2
  have kl2 := kl.kp hK2 hn1
  have q0 : ∀ s : Later w2, s.val.cell? ⟨bl, 0, none⟩ = some (.pointer (some ⟨gl, 0, none⟩)) := Later.cell (kl2.cell 0)
  obtain ⟨vr, vp, hbk, _⟩ := hB2.cells
  have q7 : ∀ s : Later w2, s.val.cell? ⟨gl, 7, none⟩ = some (.int .i64 (l.used : Int)) := Later.cell (hbk.cell 7)
  have z5 : decide ((ring : Int) < (l.used : Int) + (S : Int)) = false := decide_eq_false (by omega)
  have z6 : decide (ring < l.used + S) = false := decide_eq_false (by omega)
  have hS2 : S ≤ 65536 := by omega
  clear cl
  go_upto_region 8 with fail
  refine wp_seqL [6, 9] (by as_aux_lemma => kernel_rfl) (by as_aux_lemma => kernel_rfl) fun w3 hb3 => ?_
  refine seqL_pre 6 (by kernel_rfl) ?_
  simp only [List.take_succ_cons, List.take_zero, List.drop_succ_cons, List.drop_zero]
  repeat (go_big_quiet_step (fail))
  refine wpQuiet_nil ?_
  refine seqL_wild hb3 rfl rfl fun K hK => ?_
  unfold Gives
  go_simp
  refine (HSE.out _).mono ?_
  rintro e w4 ⟨rfl, rfl⟩
  refine ⟨_, rfl, hK _ _ ((Below.refl _ _)) fun hb4 => ?_⟩
  clear hK
  clear K
  simp only [Act.put, List.setIfInBounds_toArray, List.set_cons_succ, List.set_cons_zero]
  refine seqL_pre 2 (by kernel_rfl) ?_
  simp only [List.take_succ_cons, List.take_zero, List.drop_succ_cons, List.drop_zero]
  repeat (go_big_quiet_step (fail))
  refine wpQuiet_nil ?_
  refine seqL_wild hb4 rfl rfl fun K hK => ?_
  unfold Gives
  go_simp
  refine (HRG.out _ (hB2.below hb4)).mono ?_
  rintro e w5 ⟨rfl, rfl⟩
  refine ⟨_, rfl, hK _ _ ((Below.refl _ _)) fun hb5 => ?_⟩
  clear hK
  clear K
  simp only [Act.put, List.setIfInBounds_toArray, List.set_cons_succ, List.set_cons_zero]
  refine seqL_pre 1 (by kernel_rfl) ?_
  simp only [List.take_succ_cons, List.take_zero, List.drop_succ_cons, List.drop_zero]
  repeat (go_big_quiet_step (fail))
  refine wpQuiet_nil ?_
  refine seqL_nil ?_
  first | rw [z5] | rw [z6] | skip
  have hB5 := hB2.below hb5
  have kr5 := kr2.below hb5 kr2.lt
  have kl5 := kl2.below hb5 kl2.lt
  have hK5 : Kp (fun x => x ≠ gl) w w5 := ((Kp.of_below hB1).thenW hK2 fun b _ h => h).trans (.of_below hb5)
  have hz05 : w.heap.size ≤ w5.heap.size := hK5.size
  have hrb5 := RSl.kp (hK5.mono (ok' := fun x => okb x ∧ x < w.heap.size) fun x hx e => hokb x hx.1 (e ▸ hfg)) HRB.out
  clear q0 q7 hbk hB2 hb5 hb4 hb3 kr2 kl2 kl kr
  go_upto_region 11 with fail
  go_wp2_with fail
  have h3 : bs ((recB b).take 3) = [.int .u8 ((b.length : Int) / 65536), .int .u8 ((b.length : Int) / 256), .int .u8 ((b.length : Int) % 256)] := by
    have e0 : (UInt8.ofNat (b.length / 65536)).toNat = b.length / 65536 := by rw [UInt8.toNat_ofNat']; omega
    have e1 : (UInt8.ofNat (b.length / 256)).toNat = b.length / 256 := by rw [UInt8.toNat_ofNat']; omega
    have e2 : (UInt8.ofNat b.length).toNat = b.length % 256 := by rw [UInt8.toNat_ofNat']
    show bs [UInt8.ofNat (b.length / 65536), UInt8.ofNat (b.length / 256), UInt8.ofNat b.length] = _
    unfold bs
    rw [List.map_cons, List.map_cons, List.map_cons, List.map_nil, e0, e1, e2, Int.natCast_ediv, Int.natCast_ediv, Int.natCast_emod]
    rfl
  obtain ⟨w6, hw6⟩ : ∃ w6, w6 = ((w5.alloc (.cells #[.int .u8 ((b.length : Int) / 65536), .int .u8 ((b.length : Int) / 256), .int .u8 ((b.length : Int) % 256)] 5)).alloc (.cells #[.slice (some ⟨w5.heap.size, 0, none⟩) 3 3, .slice A b.length c] 25)) := ⟨_, rfl⟩
  rw [← hw6]
  have hB6 : Below w5.heap.size w5 w6 := by rw [hw6]; exact ((Below.refl _ _).alloc (Nat.le_refl _) _).alloc (by simp) _
  have hz6 : w5.heap.size + 2 ≤ w6.heap.size := by rw [hw6]; simp
  have k3 : Blk w6 w5.heap.size 5 (bs ((recB b).take 3)).toArray := by rw [hw6, h3]; exact (Blk.new w5 _ _).alloc _
  have k2 : Blk w6 (w5.heap.size + 1) 25 #[.slice (some ⟨w5.heap.size, 0, none⟩) 3 3, .slice A b.length c] := by rw [hw6]; exact Blk.new_ (by simp)
  clear hw6
  have hrd3 : RB (fun _ => True) w6 (.slice (some ⟨w5.heap.size, 0, none⟩) 3 3) ((recB b).take 3) := RB.mk_ ⟨by rw [bs_len]; rfl, fun _ => ⟨_, 0, rfl, fun j u hu => by rw [Nat.zero_add, k3.cell j, List.getElem?_toArray]; exact hu⟩⟩ (Nat.le_refl _) (by omega) (fun _ _ _ => trivial)
  have hcc := concat_any (w5.heap.size + 1) _ _ _ _ w6 (k2.cell 0) (k2.cell 1) hrd3 (hrb5.below hB6) (by rw [List.length_take, recB_len]; omega) (by omega)
  rw [show (recB b).take 3 ++ b = recB b from rfl] at hcc
  have HCC := Lib.hid hcc
  have hB6' := hB5.below hB6
  have kr6 := kr5.below hB6 kr5.lt
  have kl6 := kl5.below hB6 kl5.lt
  have hK6 := hK5.trans (.of_below hB6)
  have hrb6 := hrb5.below hB6
  clear h3 k3 k2 hrd3 hcc hB5 kr5 kl5 hK5 hrb5
  refine HCC.out.mono ?_
  clear HCC
  rintro e w7 ⟨⟨Ao, co, rfl, hown⟩, hb7⟩
  have hB7 := hB6'.below hb7
  have kr7 := kr6.below hb7 kr6.lt
  have kl7 := kl6.below hb7 kl6.lt
  have hK7 := hK6.trans (.of_below hb7)
  have hrb7 := hrb6.below hb7
  obtain ⟨out, hout⟩ : ∃ out, out = recB b := ⟨_, rfl⟩
  have hol : out.length = b.length + 3 := by rw [hout, recB_len]
  rw [← hout] at hown ⊢
  rw [hol] at hown ⊢
  have HOUT := Lib.hid hout
  have hcap := hown.cap
  obtain ⟨bo, oo, rfl, hco⟩ := hown.rd.2 (by omega)
  have hbo : w6.heap.size ≤ bo := by
    obtain ⟨A', c', hv, _, _, hbb⟩ := own_slice w7 hown
    exact hbb bo rfl
  obtain ⟨vr7, vp7, hbk7, _⟩ := hB7.cells
  have c6 : w7.cell? ⟨gl, 6, none⟩ = some (.int .i64 (l.end_ : Int)) := hbk7.cell 6
  have cl7 : w7.cell? ⟨bl, 0, none⟩ = some (.pointer (some ⟨gl, 0, none⟩)) := kl7.cell 0
  clear hbk7 hB6' kr6 kl6 hK6 hrb6 hol hout
  go_upto_region 13 with fail
  refine name_world (fun w8 => Below w7.heap.size w7 w8 ∧ w7.heap.size + 1 ≤ w8.heap.size ∧ Blk w8 w7.heap.size 3 #[.int .i64 (l.end_ : Int)]) ?_ ?_
  · exact ⟨(Below.refl _ _).alloc (Nat.le_refl _) _, by simp, Blk.new _ _ _⟩
  rintro w8 ⟨hB8, hz8, ka⟩
  go_wp2_with fail
  refine (chunk_any _ _ _ _).mono ?_
  rintro e w9 ⟨rfl, hb9, hz9, cb0, cb1⟩
  clear c6 cl7
  go_wp2
  have hB9 := (hB7.below hB8).below hb9
  have kr9 := (kr7.below hB8 kr7.lt).below hb9 (Nat.lt_of_lt_of_le kr7.lt hB8.size)
  have kl9 := (kl7.below hB8 kl7.lt).below hb9 (Nat.lt_of_lt_of_le kl7.lt hB8.size)
  have ka9 := ka.below hb9 ka.lt
  have hK9 := (hK7.trans (.of_below hB8)).trans (.of_below hb9)
  have hrb9 := (hrb7.below hB8).below hb9
  have hown9 := (hown.belowB hB8).belowB hb9
  have hz7 : w6.heap.size ≤ w7.heap.size := hb7.size
  have hz65 := hB6.size
  obtain ⟨bat, hbat⟩ : ∃ bat, bat = w7.heap.size := ⟨_, rfl⟩
  obtain ⟨b0, hb0⟩ : ∃ b0, b0 = w8.heap.size := ⟨_, rfl⟩
  obtain ⟨b1, hb1⟩ : ∃ b1, b1 = w8.heap.size + 1 := ⟨_, rfl⟩
  have hzz9 : w.heap.size ≤ w7.heap.size := by omega
  obtain ⟨fl, fd, g1, g2, g3, hl9, hd9⟩ := hB9
  have hco9 : ∀ j u, (bs out)[j]? = some u → w9.cell? ⟨bo, oo + j, none⟩ = some u := by
    obtain ⟨b', o', e, hc⟩ := hown9.rd.2 (by omega)
    injection e with e
    injection e with e1 e2
    subst e1
    subst e2
    exact hc
  have hbo9 : bo < w7.heap.size := by
    have h0 : 0 < (bs out).length := by rw [bs_len, hown.len]; omega
    exact World.block_lt_of_cell? w7 _ (hco 0 _ (List.getElem?_eq_getElem h0))
  rw [← hbat, ← hb1, ← hb0]
  rw [← hbat] at ka9
  rw [← hb0] at cb0
  rw [← hb1] at cb1
  have hflt : ∀ x, fl x → x < w.heap.size := fun x hx => hfl x (g1 x hx).1
  have hfdt : ∀ x, fd x → x < w.heap.size := fun x hx => hfl x (g2 x hx).1
  have hblx : bl < w7.heap.size := kl7.lt
  have hbrx : br < w7.heap.size := kr7.lt
  have hblw : w.heap.size ≤ bl := by have := HBL.out; omega
  have hbatw : w.heap.size ≤ bat := by omega
  have hbrw : w.heap.size ≤ br := by have := HBR.out; omega
  have hlr : bl ≠ br := by have := HBL.out; have := HBR.out; omega
  have hsz9 : w7.heap.size + 3 ≤ w9.heap.size := by omega
  have hbat9 : bat < w9.heap.size := by omega
  have hbr9 : br < w9.heap.size := by omega
  have hgl9 : gl < w9.heap.size := by omega
  have hxb : bl ≠ bat ∧ br ≠ bat ∧ b0 ≠ bat ∧ b1 ≠ bat ∧ bo ≠ bat ∧ gl ≠ bat := by omega
  have hxr : b0 ≠ br ∧ b1 ≠ br ∧ bo ≠ br ∧ b0 ≠ gl ∧ b1 ≠ gl ∧ bo ≠ gl ∧ b0 < w9.heap.size ∧ b1 < w9.heap.size ∧ bo < w9.heap.size ∧ bl < w9.heap.size := by have := HBR.out; omega
  have hfb : ∀ x, fd x → x ≠ bat ∧ x ≠ br ∧ x ≠ b0 ∧ x ≠ b1 ∧ x ≠ bo ∧ x ≠ bl := fun x hx => by have := hfdt x hx; omega
  obtain ⟨N, hN⟩ : ∃ N, N = (b.length + 3 + 47) / 48 := ⟨_, rfl⟩
  have hNs : N = secN b.length := by rw [hN]; unfold secN; omega
  have hN7 : N ≤ 700 := by rw [hN]; omega
  have hst := chunk_stops 8 (by omega) b0 b1 bo oo (b.length + 3) co (by omega) hcap w9 ((by have := cb0; exact this)) cb1
  rw [← hN] at hst
  have hfl9 : ∀ x, fl x → x < w9.heap.size := fun x hx => by have := hflt x hx; omega
  have hfd9 : ∀ x, fd x → x < w9.heap.size := fun x hx => by have := hfdt x hx; omega
  have h0 : RndI fl fd w9.heap.size gl gd bat br l (stA b l.turn ring d l.end_ []) w9 w9 := ⟨hl9, ⟨fd, fun x hx => .inl hx, hd9⟩, ka9, kr9, Kp.refl _ _, rfl⟩
  have HN := Lib.hid hN
  have HNS := Lib.hid hNs
  have HBAT := Lib.hid hbat
  have HB0 := Lib.hid hb0
  have HB1 := Lib.hid hb1
  clear hN hNs hbat hb0 hb1 hB6 hB8 hb7 hb9
  refine (wpIn_wide (n := 9)).1 ?_
  refine wpIn_rangeFunc_ownG (α := Nat) rfl (by omega) (gf := 108) (lb := #[.pointer (some ⟨b0, 0, none⟩), .pointer (some ⟨b1, 0, none⟩)]) rfl trivial (enters_of Tryz.func108 (by kernel_rfl) rfl)
    hst (fun h k => h.trans_ k) (fun W x o o' hx _ _ _ => KqC.put_ W x o' (by omega) (by omega)) (Below.refl _ _) (fun _ => rfl)
    (fun pre W => RndI fl fd w9.heap.size gl gd bat br l (stA b l.turn ring d l.end_ pre) w9 W)
    (fun c pre W => c = .ret ∧ RndX fl fd w9.heap.size gl gd bat br l (stA b l.turn ring d l.end_ pre) w9 W)
    (fun s X Y row hs hg hr => hs.own (kp_row hg) (row_lt hr).1 (row_lt hr).2 hfl9 hfd9 hbat9 hbr9)
    (fun c s X Y row hs hg hr => ⟨hs.1, hs.2.own (kp_row hg) (row_lt hr).1 (row_lt hr).2 hfl9 hfd9 hbr9⟩)
    h0 ?a1 ?assign ?body ?done ?stop
  case assign =>
    intro l x W K hK
    gi_wp2
    exact hK
  case body =>
    rintro l0 pre x W hI hpre
    obtain ⟨hlog, ⟨fdW, hf1, hdW⟩, hat, hres, hkeep, hgood⟩ := hI
    obtain ⟨hfk, hfw, hfa⟩ := stA_facts b l.turn hr1 d l.end_ pre
    have hsn := stA_snoc b l.turn ring d l.end_ pre x
    obtain ⟨st, hstd⟩ : ∃ st, st = stA b l.turn ring d l.end_ pre := ⟨_, rfl⟩
    rw [← hstd] at hdW hat hgood hfk hfw hfa hsn
    have HSN := Lib.hid hsn
    have HKEEP := Lib.hid hkeep
    have hkb : ∀ y, y < w9.heap.size → y ≠ gl → y ≠ bat → y ≠ br → (∀ z, fd z → z ≠ y) → (y < w9.heap.size ∧ ¬ fd y ∧ y ≠ gl ∧ y ≠ bat ∧ y ≠ br) := fun y q1 q2 q3 q4 q5 => ⟨q1, fun h => q5 y h rfl, q2, q3, q4⟩
    have hclW : W.cell? ⟨bl, 0, none⟩ = some (.pointer (some ⟨gl, 0, none⟩)) := hkeep.cell (p := ⟨bl, 0, none⟩) (hkb bl hxr.2.2.2.2.2.2.2.2.2 hn1 hxb.1 hlr (fun z hz => (hfb z hz).2.2.2.2.2)) (kl9.cell 0)
    have hcoW : ∀ j u, (bs out)[j]? = some u → W.cell? ⟨bo, oo + j, none⟩ = some u := fun j u hu => hkeep.cell (p := ⟨bo, oo + j, none⟩) (hkb bo hxr.2.2.2.2.2.2.2.2.1 hxr.2.2.2.2.2.1 hxb.2.2.2.2.1 hxr.2.2.1 (fun z hz => (hfb z hz).2.2.2.2.1)) (hco9 j u hu)
    have hszW : w9.heap.size ≤ W.heap.size := hkeep.size
    have hflog := hlog
    obtain ⟨vrW, vpW, hbkW, _⟩ := hlog
    have c2W : W.cell? ⟨gl, 2, none⟩ = some (.int .u64 (l.turn : Int)) := hbkW.cell 2
    have c0W : W.cell? ⟨gl, 0, none⟩ = some (.pointer (some ⟨gd, 0, none⟩)) := hbkW.cell 0
    have HLOG := Lib.hid hflog
    have HDW := Lib.hid hdW
    have HAT := Lib.hid hat
    have HRES := Lib.hid hres
    have HST := Lib.hid hstd
    clear hstd hsn hkeep hflog hbkW hdW hat hres hst
    refine wpIn_block ?_
    have hno : ∀ {X : World}, ¬ LetsOut (Exit.inBlock 1 (ownPostG w9.heap.size (KqC b0 b1) (fun pre W => RndI fl fd w9.heap.size gl gd bat br l (stA b l.turn ring d l.end_ pre) w9 W) (fun c pre W => c = .ret ∧ RndX fl fd w9.heap.size gl gd bat br l (stA b l.turn ring d l.end_ pre) w9 W) (pre ++ [x]) X)) := fun ⟨a, w, h⟩ => h
    have HM := fun w : World => make64 w
    obtain ⟨C, hC⟩ : ∃ C, C = (bs (List.replicate 64 (0 : UInt8))).toArray := ⟨_, rfl⟩
    rw [← hC] at HM
    have HC := Lib.hid hC
    clear hC
    refine inR_seq (by kernel_rfl) hno fun K hK => ?_
    go_wp2
    clear HM
    refine name_in (fun W1 => Below W.heap.size W W1 ∧ Blk W1 W.heap.size 5 C) ⟨(Below.refl _ _).alloc (Nat.le_refl _) _, Blk.new _ _ _⟩ ?_
    rintro W1 ⟨hBW1, kz1⟩
    obtain ⟨bb, hbb⟩ : ∃ bb, bb = W.heap.size := ⟨_, rfl⟩
    rw [← hbb] at kz1 ⊢
    have HBB := Lib.hid hbb
    clear hbb
    have e2 : W1.cell? ⟨gl, 2, none⟩ = some (.int .u64 (l.turn : Int)) := (hBW1.cell (p := ⟨gl, 2, none⟩) (by show gl < _; omega)).trans c2W
    have el : W1.cell? ⟨bl, 0, none⟩ = some (.pointer (some ⟨gl, 0, none⟩)) := (hBW1.cell (p := ⟨bl, 0, none⟩) (by show bl < _; omega)).trans hclW
    rw [HC.out] at kz1
    obtain ⟨L0, hL0⟩ : ∃ L0, L0 = List.replicate 64 (0 : UInt8) := ⟨_, rfl⟩
    have hz0 : L0.length = 64 := by rw [hL0]; exact List.length_replicate
    rw [← hL0] at kz1
    have HL0 := Lib.hid hL0
    have HLY := Lib.hid (lay_any bb 0 64 64 l.turn L0 W1 kz1 (by omega) (by omega) (by omega) hlo.1.turn)
    clear hL0 kz1
    refine inR_seq (by kernel_rfl) hno fun K hK => ?_
    go_wp2_with fail
    refine HLY.out.mono ?_
    rintro e W2 ⟨⟨x2, rfl⟩, kb2, hKW2⟩
    obtain ⟨L2, hL2⟩ : ∃ L, L = putN L0 0 l.turn := ⟨_, rfl⟩
    rw [← hL2] at kb2
    have hz2 : L2.length = 64 := by rw [hL2, putN_len (by omega), hz0]
    have HL2 := Lib.hid hL2
    clear hL2
    clear e2 el HLY
    go_wp2
    obtain ⟨m, hm⟩ : ∃ m, m = ckN (b.length + 3) x := ⟨_, rfl⟩
    have hm48 : m ≤ 48 := by rw [hm]; unfold ckN; omega
    obtain ⟨part, hpart⟩ : ∃ part, part = partB b x := ⟨_, rfl⟩
    have hpl : part.length = m := by rw [hpart, partB_len, hm]
    have hB2 : Below bb W W2 := by
      have h1 : Below W.heap.size W W2 := hBW1.trans (hKW2.below hBW1.size fun y hy e => by have := HBB.out; omega)
      rw [HBB.out]
      exact h1
    have hcp : ∀ j u, (bs part)[j]? = some u → W2.cell? ⟨bo, oo + 48 * x + j, none⟩ = some u := fun j u hu => by
      have h1 : (bs out)[48 * x + j]? = some u := by
        rw [← hu, hpart]
        unfold bs partB
        rw [← HOUT.out, List.map_take, List.map_drop, List.getElem?_take, if_pos, List.getElem?_drop]
        have := (List.getElem?_eq_some_iff.1 hu).1
        rw [bs_len, hpl] at this
        omega
      have := hcoW (48 * x + j) u h1
      rw [← Nat.add_assoc] at this
      exact (hB2.cell (p := ⟨bo, oo + 48 * x + j, none⟩) (by show bo < bb; have := HBB.out; omega)).trans this
    have HCP := Lib.hid hcp
    have HPART := Lib.hid hpart
    have HMM := Lib.hid hm
    have hck : ckV bo oo (b.length + 3) x = .slice (some ⟨bo, oo + 48 * x, none⟩) m m := by unfold ckV; rw [hm]
    rw [hck]
    clear hck hcp hpart hm
    have hcpy : ∃ W3, (Builtin.copy_ #[25, 25] 3 #[.slice (some ⟨bb, 8, none⟩) 56 56, .slice (some ⟨bo, oo + 48 * x, none⟩) m m]).run Tryz.prog W2 = .ok (.int .i64 (m : Int)) W3 ∧ Blk W3 bb 5 (bs (splice L2 8 part)).toArray ∧ Below bb W W3 := by
      refine ⟨W2.setRow bb ((bs L2).toArray.toList.take 8 ++ bs part ++ (bs L2).toArray.toList.drop (8 + (bs part).length)).toArray, ?_, ?_, ?_⟩
      · have h1 := run_copy_row (P := Tryz.prog) W2 25 25 3 5 bb 8 56 56 ⟨bo, oo + 48 * x, none⟩ m m (bs L2).toArray 5 (bs part) Tryz.underlying25 (by kernel_rfl) kb2 (by rw [bs_len, hpl]; exact (Nat.min_eq_left (by omega)).symm) (fun j v hv => by rw [Addr.add_lit]; exact HCP.out j v hv) (by rw [List.size_toArray, bs_len, bs_len, hpl, hz2]; omega) (bs_one _)
        rw [h1, bs_len, hpl]
        rfl
      · have h2 := setRow_heap W2 bb (bs L2).toArray ((bs L2).toArray.toList.take 8 ++ bs part ++ (bs L2).toArray.toList.drop (8 + (bs part).length)).toArray 5 (0, 0) kb2
        rw [← bs_splice]
        unfold splice
        rw [← List.append_assoc]
        exact h2
      · exact below_setRow hB2 (Nat.le_refl _) _
    obtain ⟨W3, hrun3, kb3, hB3⟩ := hcpy
    refine inR_seq (by kernel_rfl) hno fun K hK => ?_
    go_wp2
    clear hrun3
    obtain ⟨L3, hL3⟩ : ∃ L3, L3 = splice L2 8 part := ⟨_, rfl⟩
    rw [← hL3] at kb3
    have hz3 : L3.length = 64 := by rw [hL3, splice_len _ _ _ (by rw [hz2, hpl]; omega), hz2]
    have HL3 := Lib.hid hL3
    have hbbW : bb = W.heap.size := HBB.out
    have hglb : gl ≠ bb := by omega
    have hblb : bl ≠ bb := by omega
    have f2 := LaterB.cell (bad := fun y => y = bb) ((hB3.cell (p := ⟨gl, 2, none⟩) (by show gl < bb; omega)).trans c2W) hglb
    have fl3 := LaterB.cell (bad := fun y => y = bb) ((hB3.cell (p := ⟨bl, 0, none⟩) (by show bl < bb; omega)).trans hclW) hblb
    have hturn := hlo.1.turn
    have HTN := Lib.hid hturn
    clear hL3 hbbW hturn hB2 hKW2 hBW1 kb2 HCP
    refine inR_seqB (fun y => y = bb) 6 [6] (by kernel_rfl) (by as_aux_lemma => kernel_rfl) (by kernel_rfl) hno fun K hK W4 hb4 => ?_
    refine seqB_pre 6 (by kernel_rfl) ?_
    simp only [List.take_succ_cons, List.take_zero, List.drop_succ_cons, List.drop_zero]
    repeat (go_big_quiet_step (fail))
    refine wpQuiet_nil ?_
    refine seqB_wild (Kp.of_below hb4) rfl rfl fun K hK => ?_
    unfold Gives
    go_simp
    refine (lay_any bb 56 8 8 l.turn L3 W4 (kb3.below hb4 kb3.lt) (by omega) (by omega) (by omega) HTN.out).mono ?_
    rintro e W5 ⟨⟨x5, rfl⟩, kb5, hKW5⟩
    refine ⟨_, rfl, hK _ _ (hKW5) fun hKW35 => ?_⟩
    clear hK
    clear K
    simp only [Act.put, List.setIfInBounds_toArray, List.set_cons_succ, List.set_cons_zero]
    refine seqB_nil ?_
    refine hK _ _ ?_
    clear hK
    clear K
    clear f2 fl3
    have hL5 : putN L3 56 l.turn = secB l.turn (partB b x) := by
      rw [HL3.out, HL2.out, HL0.out, HPART.out]
      exact secB_put l.turn (partB b x) (by rw [← HPART.out, hpl]; exact hm48)
    rw [hL5] at kb5
    obtain ⟨SB, hSB⟩ : ∃ SB, SB = secB l.turn (partB b x) := ⟨_, rfl⟩
    rw [← hSB] at kb5
    have hz5 : SB.length = 64 := by rw [hSB]; exact secB_len _ _ (by rw [← HPART.out, hpl]; exact hm48)
    have HSB := Lib.hid hSB
    have hB5 : Below bb W W5 := hB3.trans (hKW35.below (by have := hB3.size; have := HBB.out; omega) fun y hy e => by omega)
    have hbbW : bb = W.heap.size := HBB.out
    have hBW5 : Below W.heap.size W W5 := by rw [← hbbW]; exact hB5
    clear hbbW
    clear hL5 hSB hKW35 hKW5 hb4 hB3 kb3 HL3 HL2 HL0 hz2 hz3 hz0
    have hdW5 := HDW.out.below hBW5
    have hl5 := HLOG.out.below hBW5
    have hat5 := HAT.out.below hBW5 HAT.out.lt
    have hres5 := HRES.out.below hBW5 HRES.out.lt
    have hgbb : gl ≠ bb ∧ bl ≠ bb ∧ bat ≠ bb ∧ br ≠ bb := by have := HBB.out; omega
    have hfdbb : ∀ y, fdW y → y ≠ bb := fun y hy e => by
      have := HBB.out
      rcases hf1 y hy with h | h
      · have := hfd9 y h; omega
      · have := h.2.lt; omega
    have hfdn : ∀ y, fdW y → y ≠ gl ∧ y ≠ bl ∧ y ≠ bat ∧ y ≠ br ∧ ¬ fl y := fun y hy => by
      rcases hf1 y hy with h | h
      · have h1 := hfb y h
        exact ⟨fun e => g3 y h (e ▸ hl5.ftl), h1.2.2.2.2.2, h1.1, h1.2.1, g3 y h⟩
      · have h1 := h.1
        exact ⟨by omega, by omega, by omega, by omega, fun e => by have := hfl9 y e; omega⟩
    have hrb5 : RB (fun y => y = bb) W5 (.slice (some ⟨bb, 0, none⟩) 64 64) SB := RB.mk_ ⟨by rw [bs_len, hz5], fun _ => ⟨bb, 0, rfl, fun j u hu => by rw [Nat.zero_add, kb5.cell j, List.getElem?_toArray]; exact hu⟩⟩ (Nat.le_refl _) (by omega) (fun _ a ha => by rw [← Option.some.inj ha])
    have hfa2 : st.2.1 < 65536 := by have := hlo.1.end_; omega
    obtain ⟨at_, hat_⟩ : ∃ at_, at_ = st.2.1 := ⟨_, rfl⟩
    rw [← hat_] at hat5 hfa2
    have HWR := fun (W' : World) (hb : Below W5.heap.size W5 W') => dWrite_any (hdW5.below hb) (.slice (some ⟨bb, 0, none⟩) 64 64) SB (RSl.below hrb5 hb) (fun y e hy => hfdbb y hy e) ((2 + at_ : Nat) : Int) (by constructor <;> omega) (by omega)
    obtain ⟨pw, hpw⟩ : ∃ pw, pw = st.1.write ((2 + at_ : Nat) : Int) SB := ⟨_, rfl⟩
    rw [← hpw] at HWR
    have hstep : stA b l.turn ring d l.end_ (pre ++ [x]) = (pw.1, (at_ + 1) % ring, pw.2) := by
      rw [HSN.out, stepA, if_neg (by rw [hgood]; decide), hpw, hat_, HSB.out]
    have HSTEP := Lib.hid hstep
    have HWRI := Lib.hid HWR
    have HAT_ := Lib.hid hat_
    have HGD := Lib.hid hgood
    obtain ⟨d1, E⟩ := pw
    obtain ⟨vr5, vp5, hbk5, _⟩ := hl5
    have r0 : ∀ s : Later W5, s.val.cell? ⟨gl, 0, none⟩ = some (.pointer (some ⟨gd, 0, none⟩)) := Later.cell (hbk5.cell 0)
    have rb : ∀ s : LaterB W5 (fun y => fdW y ∨ y = gl), s.val.cell? ⟨bl, 0, none⟩ = some (.pointer (some ⟨gl, 0, none⟩)) := LaterB.cell ((hBW5.cell (p := ⟨bl, 0, none⟩) (by show bl < _; omega)).trans hclW) (fun e => e.elim (fun e => (hfdn bl e).2.1 rfl) fun e => hn1 e)
    have ra : ∀ s : LaterB W5 (fun y => fdW y ∨ y = gl), s.val.cell? ⟨bat, 0, none⟩ = some (.int .i64 (at_ : Int)) := LaterB.cell (hat5.cell 0) (fun e => e.elim (fun e => (hfdn bat e).2.2.1 rfl) fun e => hxb.2.2.2.2.2 e.symm)
    clear hbk5 HWR hstep hpw hat_ hrb5 hgood hdW5
    refine wpIn_seq_k fun K0 hK0 => ?_
    have hno2 : ∀ {X : World}, ¬ LetsOut (Exit.then K0 (Exit.inBlock 1 (ownPostG w9.heap.size (KqC b0 b1) (fun pre W => RndI fl fd w9.heap.size gl gd bat br l (stA b l.turn ring d l.end_ pre) w9 W) (fun c pre W => c = .ret ∧ RndX fl fd w9.heap.size gl gd bat br l (stA b l.turn ring d l.end_ pre) w9 W) (pre ++ [x]) X))) := fun ⟨a, w, h⟩ => h
    refine inR_seqB (fun y => fdW y ∨ y = gl) 8 [8, 9] (by kernel_rfl) (by as_aux_lemma => kernel_rfl) (by kernel_rfl) hno2 fun K hK W6 hb6 => ?_
    refine seqB_pre 4 (by kernel_rfl) ?_
    simp only [List.take_succ_cons, List.take_zero, List.drop_succ_cons, List.drop_zero]
    repeat (go_big_quiet_step (fail))
    refine wpQuiet_nil ?_
    refine seqB_pre0 1 (by kernel_rfl) (by kernel_rfl) ?_
    simp only [List.take_succ_cons, List.take_zero, List.drop_succ_cons, List.drop_zero]
    repeat (go_big_quiet_step (fail))
    refine wpQuiet_nil ?_
    refine seqB_pre 3 (by kernel_rfl) ?_
    simp only [List.take_succ_cons, List.take_zero, List.drop_succ_cons, List.drop_zero]
    repeat (go_big_quiet_step (fail))
    refine wpQuiet_nil ?_
    refine seqB_wild (Kp.of_below hb6) rfl rfl fun K hK => ?_
    unfold Gives
    go_simp
    have hw6 := HWRI.out W6 hb6
    rw [show ((2 + at_ : Nat) : Int) = 2 + (at_ : Int) by omega] at hw6
    refine hw6.mono ?_
    clear hw6
    rintro e W7 ⟨rfl, hd7, hKW7⟩
    have hl6 := HLOG.out.below (hBW5.trans (hb6.mono hBW5.size))
    have hl7 := hl6.kp hKW7 fun y hy e => (hfdn y e).2.2.2.2 hy
    refine ⟨_, rfl, hK _ _ ((hKW7.mono fun y hy e => hy (.inl e))) fun hKW57 => ?_⟩
    clear hK
    clear K
    simp only [Act.put, List.setIfInBounds_toArray, List.set_cons_succ, List.set_cons_zero]
    refine seqB_wild hKW57 rfl rfl fun K hK => ?_
    unfold Gives
    go_simp
    refine (met_any hl7 E).mono ?_
    rintro e W8 ⟨rfl, hl8, hKW8⟩
    have hd8 := (hd7.kp hKW8 fun y hy e => hy.elim (fun h => (hfdn y h).1 e) fun h => by have := hBW5.size; have := hb6.size; omega).tight
    refine ⟨_, rfl, hK _ _ ((hKW8.mono fun y hy e => hy (.inr e))) fun hKW58 => ?_⟩
    clear hK
    clear K
    simp only [Act.put, List.setIfInBounds_toArray, List.set_cons_succ, List.set_cons_zero]
    refine seqB_pre 1 (by kernel_rfl) ?_
    simp only [List.take_succ_cons, List.take_zero, List.drop_succ_cons, List.drop_zero]
    repeat (go_big_quiet_step (fail))
    refine wpQuiet_nil ?_
    refine seqB_nil ?_
    refine hK _ _ ?_
    clear hK
    clear K
    clear r0 rb ra
    have hsz56 := hb6.size
    have hszW5 := hBW5.size
    have hKW8' : Kp (fun y => ¬ fdW y ∧ y ≠ gl) W W8 := (Kp.of_below (ok := fun y => ¬ fdW y ∧ y ≠ gl) hBW5).trans (hKW58.mono fun y hy e => e.elim hy.1 hy.2)
    have hdisk8 : ∃ fdX : Nat → Prop, (∀ y, fdX y → fd y ∨ (w9.heap.size ≤ y ∧ isC W8 y)) ∧ DiskR fdX W8 gd d1 := ⟨_, fun y hy => hy.1.elim (fun h => (hf1 y h).imp id fun h => ⟨h.1, hy.2⟩) fun h => .inr ⟨by omega, hy.2⟩, hd8⟩
    have hres8 := HRES.out.kp hKW8' ⟨fun e => (hfdn br e).2.2.2.1 rfl, fun e => hn2 e⟩
    have hat8 := HAT.out.kp hKW8' ⟨fun e => (hfdn bat e).2.2.1 rfl, fun e => hxb.2.2.2.2.2 e.symm⟩
    have hkeep8 : Kp (fun y => y < w9.heap.size ∧ ¬ fd y ∧ y ≠ gl ∧ y ≠ bat ∧ y ≠ br) w9 W8 := HKEEP.out.trans (hKW8'.mono fun y hy => ⟨fun e => (hf1 y e).elim hy.2.1 fun e => by have := e.1; omega, hy.2.2.1⟩)
    have hkf8 : KeepsFrom w9.heap.size W W8 := keepsFrom_of hKW8' fun y hy hc => ⟨fun e => (hf1 y e).elim (fun e => by have := hfd9 y e; omega) fun e => hc e.2, by omega⟩
    have cl8 := hkeep8.cell (p := ⟨bl, 0, none⟩) (hkb bl hxr.2.2.2.2.2.2.2.2.2 hn1 hxb.1 hlr (fun z hz => (hfb z hz).2.2.2.2.2)) (kl9.cell 0)
    rw [← HAT_.out] at hat8
    have HKF8 := Lib.hid hkf8
    have HKW8 := Lib.hid hKW8'
    clear hKW8'
    have HKEEP8 := Lib.hid hkeep8
    have HDISK8 := Lib.hid hdisk8
    have HL8 := Lib.hid hl8
    clear hkf8 hkeep8 hdisk8 hd8 hd7 hKW58 hKW57 hKW8 hKW7 hl7 hl6 HWRI HRES HAT HKEEP hat5 hres5 kb5
    by_cases hE : E = 0
    case neg =>
      have t3 : (E == 0) = false := by simpa using hE
      have t4 : decide (E = 0) = false := decide_eq_false hE
      have t5 : (E != 0) = true := by simpa using hE
      have fr8 := fun i => hres8.frozen i
      have cr8 : W8.cell? ⟨br, 0, none⟩ = some (.int .i64 0) := hres8.cell 0
      have hHE := Lib.hid hE
      clear hE
      refine inR_seq (by kernel_rfl) hno2 fun K hK => ?_
      go_wp2
      refine wpIn_cond_true rfl ?_
      have hkz : Kp (fun y => y ≠ br) W8 (W8.setCell ⟨br, 0, none⟩ (.int .i64 E)) := (Kp.refl _ _).setCell (fun _ h => h rfl) _
      have hX : RndX fl fd w9.heap.size gl gd bat br l (stA b l.turn ring d l.end_ (pre ++ [x])) w9 (W8.setCell ⟨br, 0, none⟩ (.int .i64 E)) := by
        rw [HSTEP.out]
        refine ⟨HL8.out.kp hkz fun y hy e => by have := hflt y hy; omega, disk_at HDISK8.out hkz hbr9 (fun y hy => (hfb y hy).2.1), hres8.set_ 0 (.int .i64 E), HKEEP8.out.trans (hkz.mono fun y hy => hy.2.2.2.2), hHE.out⟩
      have hKF : KeepsFrom w9.heap.size W (W8.setCell ⟨br, 0, none⟩ (.int .i64 E)) := HKF8.out.trans (keepsFrom_of hkz fun y hy _ => by omega)
      have HX := Lib.hid hX
      have HKF := Lib.hid hKF
      clear hX hKF hkz
      refine inR_seq (by kernel_rfl) hno2 fun K hK => ?_
      go_wp2
      refine wpIn_ret ?_
      exact ⟨HKF.out, rfl, HX.out⟩
    subst hE
    have hdd : ({ l with dead := l.dead || (0 : Int) == 3 } : LogD) = l := by cases l; simp
    have hl9' := HL8.out
    rw [hdd] at hl9'
    clear HL8
    have HL9 := Lib.hid hl9'
    clear hl9' hdd
    refine inR_seq (by kernel_rfl) hno2 fun K hK => ?_
    go_wp2
    refine wpIn_cond_false rfl ?_
    refine wpIn_skip ?_
    refine hK0 _ _ ?_
    have fb8 := fun i => hat8.frozen i
    have cb8 : W8.cell? ⟨bat, 0, none⟩ = some (.int .i64 (at_ : Int)) := hat8.cell 0
    have ca : ∀ s : Later W8, s.val.cell? ⟨bat, 0, none⟩ = some (.int .i64 (at_ : Int)) := Later.cell cb8
    have cb : ∀ s : LaterB W8 (fun y => y = bat), s.val.cell? ⟨bl, 0, none⟩ = some (.pointer (some ⟨gl, 0, none⟩)) := LaterB.cell cl8 hxb.1
    have q0 : ((ring : Int) == 0) = false := by simpa using (show ¬ (ring : Int) = 0 by omega)
    have q1 : decide ((ring : Int) = 0) = false := decide_eq_false (by omega)
    clear cl8 cb8
    refine inR_lastB (fun y => y = bat) 5 [3, 5] (by kernel_rfl) (by as_aux_lemma => kernel_rfl) (by kernel_rfl) hno fun W9 hb9 => ?_
    refine seqB_pre0 1 (by kernel_rfl) (by kernel_rfl) ?_
    simp only [List.take_succ_cons, List.take_zero, List.drop_succ_cons, List.drop_zero]
    repeat (go_big_quiet_step (fail))
    refine wpQuiet_nil ?_
    refine seqB_pre 2 (by kernel_rfl) ?_
    simp only [List.take_succ_cons, List.take_zero, List.drop_succ_cons, List.drop_zero]
    repeat (go_big_quiet_step (fail))
    refine wpQuiet_nil ?_
    refine seqB_wild0 hb9 rfl rfl fun K hK => ?_
    unfold Gives
    go_simp
    obtain ⟨fdX, hx1, hx2⟩ := HDISK8.out
    have hfz := (stA_facts b l.turn hr1 d l.end_ (pre ++ [x])).1
    rw [HSTEP.out] at hfz
    simp only at hfz
    refine (ring_any (HL9.out.below hb9) (hx2.below hb9)).mono ?_
    rw [hfz, HRI.out]
    rintro e W10 ⟨rfl, rfl⟩
    refine ⟨_, rfl, hK _ _ ((Below.refl _ _)) fun hb10 => ?_⟩
    clear hK
    clear K
    simp only [Act.put, List.setIfInBounds_toArray, List.set_cons_succ, List.set_cons_zero]
    refine seqB_pre 1 (by kernel_rfl) ?_
    simp only [List.take_succ_cons, List.take_zero, List.drop_succ_cons, List.drop_zero]
    repeat (go_big_quiet_step (fail))
    refine wpQuiet_nil ?_
    have hat10 := hat8.below hb10 hat8.lt
    have fb10 := fun i => hat10.frozen i
    have cb10 : W10.cell? ⟨bat, 0, none⟩ = some (.int .i64 (at_ : Int)) := hat10.cell 0
    refine seqB_wild (Kp.of_below hb10) rfl rfl fun K hK => ?_
    unfold Gives
    go_simp
    have hkp : ∀ u, Kp (fun y => ¬ y = bat) W10 (W10.setCell ⟨bat, 0, none⟩ u) := fun u => (Kp.refl _ _).setCell (fun _ h => h rfl) _
    refine hK _ _ (hkp _) fun hK11 => ?_
    clear hK
    clear K
    simp only [Act.put, List.setIfInBounds_toArray, List.set_cons_succ, List.set_cons_zero]
    refine seqB_nil ?_
    have hkz : ∀ u, Kp (fun y => y ≠ bat) W10 (W10.setCell ⟨bat, 0, none⟩ u) := hkp
    have hkz8 : ∀ u, Kp (fun y => y ≠ bat) W8 (W10.setCell ⟨bat, 0, none⟩ u) := fun u => (Kp.of_below hb10).trans (hkz u)
    refine ⟨HKF8.out.trans (keepsFrom_of (hkz8 _) fun y hy _ => by omega), ((KqC.kp_ HKW8.out ⟨fun e => (hf1 b0 e).elim (fun e => (hfb b0 e).2.2.1 rfl) fun e => by have := e.1; omega, hxr.2.2.2.1⟩ ⟨fun e => (hf1 b1 e).elim (fun e => (hfb b1 e).2.2.2.1 rfl) fun e => by have := e.1; omega, hxr.2.2.2.2.1⟩).trans_ (KqC.kp_ (hkz8 _) hxb.2.2.1 hxb.2.2.2.1)), ?_⟩
    show RndI fl fd w9.heap.size gl gd bat br l (stA b l.turn ring d l.end_ (pre ++ [x])) w9 _
    rw [HSTEP.out]
    refine ⟨HL9.out.kp (hkz8 _) fun y hy e => by have := hflt y hy; have := HBAT.out; omega, disk_at HDISK8.out (hkz8 _) hbat9 (fun y hy => (hfb y hy).1), ?_, hres8.kp (hkz8 _) hxb.2.1, HKEEP8.out.trans ((hkz8 _).mono fun y hy => hy.2.2.2.1), rfl⟩
    have hz := hat10.set_ 0 (.int .i64 ((((at_ + 1) % ring : Nat)) : Int))
    rw [Int.natCast_emod, Int.natCast_add] at hz ⊢
    exact hz
  case stop =>
    rintro D c pre W hD ⟨k, hk, rfl⟩ ⟨rfl, hX⟩ hKD
    refine wpIn_ret ?_
    have hst := stA_stop (b := b) (turn := l.turn) (ring := ring) (d := d) (at_ := l.end_) (k := k) (m := N) hk hX.bad
    have hR2 := HR1.out
    rw [← HNS.out, hst] at hR2
    rw [if_pos hX.bad] at hR2
    obtain ⟨s, hs⟩ : ∃ s, s = stA b l.turn ring d l.end_ (List.range k) := ⟨_, rfl⟩
    rw [← hs] at hX hR2
    obtain ⟨x1, x2, x3, x4, x5⟩ := hX
    obtain ⟨fdW, hf1, hdW⟩ := x2
    have hnc : ∀ y, y = D → ¬ isC W y := fun y e ⟨o, ho, hc⟩ => by rw [e, hKD] at ho; cases ho; cases hc
    have hkD : Kp (fun y => y ≠ D) W (W.putObj D (.deferred none)) := (kp_row (grownBy_putObj' W D _)).mono fun y hy e => hy (Option.some.inj e)
    have hdn : ∀ y, fdW y → y ≠ D := fun y hy e => (hf1 y hy).elim (fun h => by have := hfd9 y h; omega) fun h => hnc y e h.2
    have hBf := (Both.mk_ (x1.kp hkD fun y hy e => by have := hfl9 y hy; omega) (hdW.kp hkD hdn) fun y hy _ hl => (hf1 y hy).elim (fun h => g3 y h hl) fun h => by have := h.1; have := hfl9 y hl; omega).mono (f' := fun x => f x ∨ w.heap.size ≤ x) fun y hy _ => hy.elim (fun h => .inl (g1 y h).1) fun h => (hf1 y h).elim (fun h => .inl (g2 y h).1) fun h => .inr (by have := h.1; omega)
    have hKf : Kp (fun x => ¬ f x) w (W.putObj D (.deferred none)) := ((hK9.mono (ok' := fun x => ¬ f x) fun y hy e => hy (e ▸ hfg)).thenW x4 fun y hy hn => ⟨by omega, fun h => hn (g2 y h).1, fun e => hn (e ▸ hfg), by omega, by omega⟩).thenW hkD fun y hy _ e => by omega
    have hcr := (x3.kp hkD (show br ≠ D by omega)).cell 0
    have hl := errno_load _ _ _ _ hcr
    refine ⟨by simp, .inl ⟨_, _, rfl, run_takeDeferred hKD, ?_⟩⟩
    refine ⟨.int .i64 s.2.2, ?_, by rw [hR2], by rw [hR2]; exact hBf, hKf⟩
    simp [results, Tryz.results73, Act.put, Sem.run_bind, Sem.run_pure, asAddr_ok, hl]
  case done =>
    rintro D ys W hD rfl hI hKD
    have hR2 := HR1.out
    rw [← HNS.out] at hR2
    rw [if_neg (by rw [hI.good]; decide)] at hR2
    have hfk := (stA_facts b l.turn hr1 d l.end_ (List.range N)).1
    obtain ⟨s, hs⟩ : ∃ s, s = stA b l.turn ring d l.end_ (List.range N) := ⟨_, rfl⟩
    rw [← hs] at hI hR2 hfk
    obtain ⟨x1, x2, _, x3, x4, _⟩ := hI
    obtain ⟨fdW, hf1, hdW⟩ := x2
    have hHR2 := Lib.hid hR2
    have hnc : ∀ y, y = D → ¬ isC W y := fun y e ⟨o, ho, hc⟩ => by rw [e, hKD] at ho; cases ho; cases hc
    have hdn : ∀ y, fdW y → y ≠ D ∧ y ≠ br ∧ y ≠ gl ∧ ¬ fl y ∧ y < W.heap.size := fun y hy => (hf1 y hy).elim (fun h => ⟨by have := hfd9 y h; omega, (hfb y h).2.1, fun e => g3 y h (e ▸ x1.ftl), g3 y h, by have := hfd9 y h; have := x4.size; omega⟩) fun h => ⟨fun e => hnc y e h.2, by have := h.1; omega, by have := h.1; omega, fun e => by have := hfl9 y e; have := h.1; omega, h.2.lt⟩
    have hDW : D < W.heap.size := (Array.getElem?_eq_some_iff.1 hKD).1
    have hszW : w9.heap.size ≤ W.heap.size := x4.size
    have hrbW : RB (fun x => okb x ∧ x < w.heap.size) W (.slice A b.length c) b := RSl.kp (x4.mono fun y hy => ⟨by omega, fun h => hokb y hy.1 (g2 y h).1, fun e => hokb y hy.1 (e ▸ hfg), by omega, by omega⟩) hrb9
    have clW := x4.cell (p := ⟨bl, 0, none⟩) ⟨hxr.2.2.2.2.2.2.2.2.2, fun h => (hfb bl h).2.2.2.2.2 rfl, hn1, hxb.1, hlr⟩ (kl9.cell 0)
    have qb : ∀ s : LaterB W (fun y => fl y), s.val.cell? ⟨bl, 0, none⟩ = some (.pointer (some ⟨gl, 0, none⟩)) := LaterB.cell clW (fun e => by have := hflt bl e; omega)
    clear hR2
    simp only
    go_upto_region 23 with fail
    refine wp_seqB (fun y => fl y) 3 [2, 3] (by as_aux_lemma => kernel_rfl) (by as_aux_lemma => kernel_rfl) fun W11 hb11 => ?_
    refine seqB_pre 2 (by kernel_rfl) ?_
    simp only [List.take_succ_cons, List.take_zero, List.drop_succ_cons, List.drop_zero]
    repeat (go_big_quiet_step (fail))
    refine wpQuiet_nil ?_
    refine seqB_wild0 hb11 rfl rfl fun K hK => ?_
    unfold Gives
    go_simp
    refine (clone_rb _ b _ (RSl.below hrbW hb11)).mono ?_
    rintro e W12 ⟨⟨v12, rfl, hv12⟩, hb12⟩
    refine ⟨_, rfl, hK _ _ (hb12) fun hb12' => ?_⟩
    clear hK
    clear K
    simp only [Act.put, List.setIfInBounds_toArray, List.set_cons_succ, List.set_cons_zero]
    refine seqB_wild (Kp.of_below hb12') rfl rfl fun K hK => ?_
    unfold Gives
    go_simp
    refine (took_any (okb := fun x => W11.heap.size ≤ x) (x1.below hb12') (hdW.below hb12') (fun y hy => (hdn y hy).2.2.2.1) v12 b hv12 (fun y hy e => by have := hfl9 y e; have := hb11.size; omega) hlen (by rw [hfk]; have := HRING.out; omega) (by rw [hfk, ← HS.out, ← HRING.out]; exact hfit2) (by have := HFS.out; have := secSum_ge l.recs; have := HUS.out; have := hlo.1.used; omega) (by have := secSum_ge l.recs; have := HUS.out; have := hlo.1.used; omega)).mono ?_
    rintro e W13 ⟨⟨x13, rfl⟩, hl13, hKW13⟩
    refine ⟨_, rfl, hK _ _ ((hKW13.mono fun y hy => hy)) fun hKW113 => ?_⟩
    clear hK
    clear K
    simp only [Act.put, List.setIfInBounds_toArray, List.set_cons_succ, List.set_cons_zero]
    refine seqB_nil ?_
    rw [hfk, ← HRING.out] at hl13
    have hzW12 : W11.heap.size ≤ W12.heap.size := hb12.size
    have hzW11 : W.heap.size ≤ W11.heap.size := hb11.size
    have hzW13 : W12.heap.size ≤ W13.heap.size := hKW13.size
    have hd13 := (hdW.below hb12').kp hKW13 fun y hy => (hdn y hy).2.2.2.1
    have hBo13 := Both.mk_ hl13 hd13 fun y hy _ e => e.elim (hdn y hy).2.2.2.1 fun e => by have := (hdn y hy).2.2.2.2; omega
    have hfn : ∀ y, ((fl y ∨ W11.heap.size ≤ y ∨ W12.heap.size ≤ y) ∨ fdW y) → y ≠ br ∧ y ≠ D := fun y hy => hy.elim (fun h => h.elim (fun h => ⟨fun e => by have := hflt y h; omega, fun e => by have := hfl9 y h; omega⟩) fun h => ⟨fun e => by omega, fun e => by omega⟩) fun h => ⟨(hdn y h).2.1, (hdn y h).1⟩
    have hkW13 : Kp (fun y => ¬ fl y) W W13 := (Kp.of_below hb12').trans hKW13
    have kr13 := x3.kp hkW13 fun h => by have := hflt br h; omega
    have kD13 : W13.heap[D]? = some (.deferred (some [])) := (hkW13.block D hDW fun h => by have := hfl9 D h; omega).trans hKD
    have cl13 : W13.cell? ⟨bl, 0, none⟩ = some (.pointer (some ⟨gl, 0, none⟩)) := hkW13.cell (p := ⟨bl, 0, none⟩) (fun h => by have := hflt bl h; omega) clW
    obtain ⟨vr13, vp13, hbk13, _⟩ := hBo13.cells
    have fg13 := fun i => hbk13.frozen i
    have fr13 := fun i => kr13.frozen i
    have c813 : W13.cell? ⟨gl, 8, none⟩ = some (.bool l.waits) := hbk13.cell 8
    have cr13 : W13.cell? ⟨br, 0, none⟩ = some (.int .i64 0) := kr13.cell 0
    have hsw := hBo13.setWaits true
    have hk14 : Kp (fun y => y ≠ gl) W13 (W13.setCell ⟨gl, 8, none⟩ (.bool true)) := hsw.2
    have kr14 := kr13.far (p := ⟨gl, 8, none⟩) hn2.symm.symm (.bool true)
    have cr14 : (W13.setCell ⟨gl, 8, none⟩ (.bool true)).cell? ⟨br, 0, none⟩ = some (.int .i64 0) := kr14.cell 0
    have fr14 := fun i => kr14.frozen i
    have hk15 : Kp (fun y => y ≠ br) (W13.setCell ⟨gl, 8, none⟩ (.bool true)) ((W13.setCell ⟨gl, 8, none⟩ (.bool true)).setCell ⟨br, 0, none⟩ (.int .i64 0)) := (Kp.refl _ _).setCell (fun _ h => h rfl) _
    have hBo15 := hsw.1.kp hk15 fun y hy => (hfn y hy).1
    have kr15 := kr14.set_ 0 (.int .i64 0)
    have kD15 : ((W13.setCell ⟨gl, 8, none⟩ (.bool true)).setCell ⟨br, 0, none⟩ (.int .i64 0)).heap[D]? = some (.deferred (some [])) := (hk15.block D (by have := hk14.size; omega) (by show D ≠ br; omega)).trans ((hk14.block D (by omega) (by show D ≠ gl; omega)).trans kD13)
    have hkD : Kp (fun y => y ≠ D) ((W13.setCell ⟨gl, 8, none⟩ (.bool true)).setCell ⟨br, 0, none⟩ (.int .i64 0)) (((W13.setCell ⟨gl, 8, none⟩ (.bool true)).setCell ⟨br, 0, none⟩ (.int .i64 0)).putObj D (.deferred none)) := (kp_row (grownBy_putObj' _ D _)).mono fun y hy e => hy (Option.some.inj e)
    have hBf := (hBo15.kp hkD fun y hy => (hfn y hy).2).mono (f' := fun x => f x ∨ w.heap.size ≤ x) fun y hy _ => hy.elim (fun h => h.elim (fun h => .inl (g1 y h).1) fun h => .inr (by omega)) fun h => (hf1 y h).elim (fun h => .inl (g2 y h).1) fun h => .inr (by have := h.1; omega)
    have hKf : Kp (fun x => ¬ f x) w (((W13.setCell ⟨gl, 8, none⟩ (.bool true)).setCell ⟨br, 0, none⟩ (.int .i64 0)).putObj D (.deferred none)) := (((((hK9.mono (ok' := fun x => ¬ f x) fun y hy e => hy (e ▸ hfg)).thenW x4 fun y hy hn => ⟨by omega, fun h => hn (g2 y h).1, fun e => hn (e ▸ hfg), by omega, by omega⟩).thenW hkW13 fun y _ hn h => hn (g1 y h).1).thenW hk14 fun y _ hn e => hn (e ▸ hfg)).thenW hk15 fun y hy _ e => by omega).thenW hkD fun y hy _ e => by omega
    have hcr := (kr15.kp hkD (show br ≠ D by omega)).cell 0
    have hl := errno_load _ _ _ _ hcr
    have HBF := Lib.hid hBf
    have HKF := Lib.hid hKf
    have HL := Lib.hid hl
    have HKD := Lib.hid kD15
    clear hBf hKf hl hcr hkD hBo15 hsw hk15 hk14 kr15 kD15 kD13 hBo13 hl13 hd13
    clear hb11 hb12 hb12' hKW113 qb
    go_wp2
    refine ⟨by simp, .inl ⟨_, _, rfl, run_takeDeferred HKD.out, ?_⟩⟩
    refine ⟨.int .i64 0, ?_, by rw [hHR2.out], by rw [hHR2.out]; exact HBF.out, HKF.out⟩
    have hl := HL.out
    simp [results, Tryz.results73, Act.put, Sem.run_bind, Sem.run_pure, asAddr_ok, hl]
theorem append_any {f okb : Nat → Prop} {gl gd : Nat} {l : LogD} {d : DskD} {w : World} (v : Value) (b : List UInt8) (h : Both f w gl gd l d) (hrb : RB okb w v b) (hokb : ∀ x, okb x → ¬ f x) (hlen : b.length ≤ 1000000) (hus : l.used = secSum l.recs) (hfs : l.first + 70000 < 18446744073709551616) (hwl : d.wait.length + 1000 ≤ 1000000000) :
    Calls Tryz.prog 73 #[.pointer (some ⟨gl, 0, none⟩), v] w fun e w' => e = .returned (.int .i64 (appendL l d b).2.2) ∧ Both (fun x => f x ∨ w.heap.size ≤ x) w' gl gd (appendL l d b).1 (appendL l d b).2.1 ∧ Kp (fun x => ¬ f x) w w' := by
  obtain ⟨A, c, rfl, _⟩ := hrb.form
  have h0 := h.mono (f' := fun x => f x ∧ x < w.heap.size) fun x hx hlt => ⟨hx, hlt⟩
  have hfin : ∀ (e : Ending) (w' : World), (e = .returned (.int .i64 (appendL l d b).2.2) ∧ Both (fun x => (f x ∧ x < w.heap.size) ∨ w.heap.size ≤ x) w' gl gd (appendL l d b).1 (appendL l d b).2.1 ∧ Kp (fun x => ¬ (f x ∧ x < w.heap.size)) w w') → (e = .returned (.int .i64 (appendL l d b).2.2) ∧ Both (fun x => f x ∨ w.heap.size ≤ x) w' gl gd (appendL l d b).1 (appendL l d b).2.1 ∧ Kp (fun x => ¬ f x) w w') := fun e w' ⟨h1, h2, h3⟩ => ⟨h1, h2.mono fun x hx _ => hx.imp (fun h => h.1) id, h3.mono fun x hx hh => hx hh.1⟩
  by_cases he : 32768 < b.length ∨ rdyE l d ≠ 0 ∨ d.kept.length < l.used + secN b.length + 2
  · exact (append_early A c b h0 (fun x hx => hx.2) hlen he).mono hfin
  · have h1 : ¬ 32768 < b.length := fun h => he (.inl h)
    have h2 : rdyE l d = 0 := by
      by_cases hh : rdyE l d = 0
      · exact hh
      · exact absurd (.inr (.inl hh)) he
    have h3 : ¬ d.kept.length < l.used + secN b.length + 2 := fun h => he (.inr (.inr h))
    exact (append_main A c b h0 hrb (fun x hx hf => hokb x hx hf.1) (fun x hx => hx.2) (by omega) h2 (by omega) hus hfs hwl).mono hfin
end Go.Proofs.YtnlhjhpikjmoaaaGreatDoor
namespace Go.Proofs.YtnlhjhpikjmoaaaGreatDoor
open Go.RowKit
structure Calm (d : DskD) : Prop where
  down : d.down = false
  armed : d.armed = 0
theorem Calm.hit {d : DskD} (h : Calm d) : d.hit = (d, false) := by unfold DskD.hit; rw [if_pos h.armed]
theorem Calm.flush {d : DskD} (h : Calm d) : d.flush = ({ d with kept := keepW d.kept d.wait, wait := [] }, 0) := by
  unfold DskD.flush
  rw [if_neg (by rw [h.down]; decide), h.hit]
  rfl
theorem Calm.write {d : DskD} (h : Calm d) {p : Nat} {b : List UInt8} (hp : p < d.kept.length) (hb : b.length = 64) : d.write (p : Int) b = ({ d with wait := d.wait ++ [(p, b)] }, 0) := by
  unfold DskD.write
  rw [if_neg (by rw [h.down]; decide), if_neg (by omega)]
  have hc : Calm ({ d with wait := d.wait ++ [(p, b)] } : DskD) := ⟨h.down, h.armed⟩
  have hh := hc.hit
  simp only [Int.toNat_natCast, hh]
  rfl
structure Good (n : Nat) (l : LogD) (d : DskD) : Prop where
  kept : d.kept.length = n
  calm : Calm d
  dead : l.dead = false
  sum : l.used = secSum l.recs
  fit : l.used ≤ n - 2
theorem Good.rdy {n : Nat} {l : LogD} {d : DskD} (h : Good n l d) : rdyE l d = 0 ∧ rdy l d = l := by
  unfold rdyE Go.Proofs.YtnlhjhpikjmoaaaGreatDoor.rdy
  rw [h.dead, h.calm.down]
  exact ⟨rfl, rfl⟩
def secsB (turn : Nat) (b : List UInt8) : List (List UInt8) := (List.range (secN b.length)).map fun k => secB turn (partB b k)
def putsW (ring : Nat) : Nat → List (List UInt8) → List (Nat × List UInt8)
  | _, [] => []
  | at_, s :: r => (2 + at_, s) :: putsW ring ((at_ + 1) % ring) r
theorem putsW_len (ring : Nat) : ∀ (r : List (List UInt8)) (at_ : Nat), (putsW ring at_ r).length = r.length
  | [], _ => rfl
  | s :: r, at_ => by rw [putsW, List.length_cons, putsW_len ring r, List.length_cons]
theorem stA_calm (b : List UInt8) (turn ring : Nat) (hring : 1 ≤ ring) : ∀ (ks : List Nat) (d : DskD) (at_ : Nat), Calm d → d.kept.length = ring + 2 → at_ < ring →
    ks.foldl (stepA b turn ring) (d, at_, 0) = ({ d with wait := d.wait ++ putsW ring at_ (ks.map fun k => secB turn (partB b k)) }, (at_ + ks.length) % ring, 0)
  | [], d, at_, _, _, ha => by
    rw [List.foldl_nil, List.map_nil, putsW, List.append_nil, List.length_nil, Nat.add_zero, Nat.mod_eq_of_lt ha]
  | k :: ks, d, at_, hc, hk, ha => by
    have hs : stepA b turn ring (d, at_, 0) k = ({ d with wait := d.wait ++ [(2 + at_, secB turn (partB b k))] }, (at_ + 1) % ring, 0) := by
      unfold stepA
      simp only
      rw [if_neg (by decide), hc.write (by omega) (secB_len _ _ (by rw [partB_len]; unfold ckN; omega))]
    rw [List.foldl_cons, hs, stA_calm b turn ring hring ks { d with wait := d.wait ++ [(2 + at_, secB turn (partB b k))] } ((at_ + 1) % ring) ⟨hc.down, hc.armed⟩ hk (Nat.mod_lt _ hring), List.map_cons, putsW, List.length_cons]
    simp only [List.append_assoc, List.singleton_append, Nat.mod_add_mod]
    rw [show at_ + 1 + ks.length = at_ + (ks.length + 1) by omega]
theorem append_good {n : Nat} {l : LogD} {d : DskD} (h : Good n l d) (hn : 3 ≤ n) (he : l.end_ < n - 2) {b : List UInt8} (hb : b.length ≤ 32768) (hfit : l.used + secN b.length ≤ n - 2) :
    appendL l d b = ({ took l b (n - 2) with waits := true }, { d with wait := d.wait ++ putsW (n - 2) l.end_ (secsB l.turn b) }, 0) := by
  have hk := h.kept
  unfold appendL
  rw [if_neg (by omega), if_neg (by rw [h.rdy.1]; decide), if_neg (by omega), hk]
  have := stA_calm b l.turn (n - 2) (by omega) (List.range (secN b.length)) d l.end_ h.calm (by omega) he
  unfold stA
  rw [this]
  rfl
def DskD.all (d : DskD) : DskD := { d with kept := keepW d.kept d.wait, wait := [] }
theorem Calm.all {d : DskD} (h : Calm d) : Calm d.all := ⟨h.down, h.armed⟩
theorem sync_good {n : Nat} {l : LogD} {d : DskD} (h : Good n l d) : syncL l d = (if l.waits = true then ({ l with waits := false }, d.all, 0) else (l, d, 0)) := by
  unfold syncL
  rw [if_neg (by rw [h.rdy.1]; decide)]
  cases hw : l.waits
  · rfl
  · rw [if_neg (by decide), h.calm.flush]
    simp only
    rw [if_neg (by decide), h.dead]
    rfl
theorem tell_good {n : Nat} {l : LogD} {d : DskD} (h : Good n l d) (hn : 3 ≤ n) (k : Nat) : tellL l d k = ({ l with turn := l.turn + 1, first := l.first + k, recs := l.recs.drop k, places := l.places.drop k, used := l.used - secSum (l.recs.take k) }, { d with kept := (keepW d.kept d.wait).set ((l.turn + 1) % 2) (tellB l k), wait := [] }, 0) := by
  have hk := h.kept
  unfold tellL
  rw [if_neg (by omega), h.calm.flush]
  simp only
  have hw := Calm.write (d := { d with kept := keepW d.kept d.wait, wait := [] }) ⟨h.calm.down, h.calm.armed⟩ (p := (l.turn + 1) % 2) (b := tellB l k) (by simp only [keepW_len]; omega) (hdB_len _ _ _ _ _)
  rw [if_neg (by decide), hw]
  simp only
  have hf2 := Calm.flush (d := { kept := keepW d.kept d.wait, wait := [] ++ [((l.turn + 1) % 2, tellB l k)], down := d.down, armed := d.armed }) ⟨h.calm.down, h.calm.armed⟩
  rw [if_neg (by decide), hf2]
  simp only
  rw [if_neg (by decide)]
  rfl
theorem cut_good {n : Nat} {l : LogD} {d : DskD} (h : Good n l d) (hn : 3 ≤ n) {k : Nat} (h1 : l.first ≤ k) (h2 : k ≤ l.first + l.recs.length) : cutL l d k =
    if k = l.first then syncL l d else ({ l with turn := l.turn + 1, first := k, recs := l.recs.drop (k - l.first), places := l.places.drop (k - l.first), used := l.used - secSum (l.recs.take (k - l.first)), waits := false }, { d with kept := (keepW d.kept d.wait).set ((l.turn + 1) % 2) (tellB l (k - l.first)), wait := [] }, 0) := by
  unfold cutL
  rw [if_neg (by omega)]
  split
  · rfl
  · rw [if_neg (by rw [h.rdy.1]; decide), tell_good h hn]
    simp only
    rw [if_neg (by decide), h.dead, show l.first + (k - l.first) = k by omega]
    rfl
end Go.Proofs.YtnlhjhpikjmoaaaGreatDoor
namespace Go.Proofs.YtnlhjhpikjmoaaaGreatDoor
open Go.RowKit
structure St (n : Nat) (l : LogD) (d : DskD) (recs : List (List UInt8)) (first turn wt : Nat) : Prop where
  good : Good n l d
  end_ : l.end_ < n - 2
  recs : l.recs = recs
  first : l.first = first
  turn : l.turn ≤ turn
  wait : d.wait.length ≤ wt
theorem secsB_len (turn : Nat) (b : List UInt8) : (secsB turn b).length = secN b.length := by unfold secsB; simp
theorem rdN_zero (k : Nat) : rdN (List.replicate 64 0) k = 0 := by
  unfold rdN
  rw [List.drop_replicate, List.take_replicate]
  generalize min 8 (64 - k) = m
  unfold beNat
  induction m with
  | zero => rfl
  | succ m ih => rw [List.replicate_succ, List.foldl_cons]; exact ih
theorem newD_shown (n i : Nat) : (readH ((newD n).shown i)).turn = 0 := by
  show rdN ((newD n).shown i) 0 = 0
  have : (newD n).shown i = (List.replicate n (List.replicate 64 0)).getD i [] := rfl
  rw [this, List.getD_eq_getElem?_getD, List.getElem?_replicate]
  split
  · exact rdN_zero 0
  · rfl
theorem newD_best (n : Nat) : ∀ i, bestI (newD n) i = zeroH
  | 0 => rfl
  | i + 1 => by
    rw [bestI, newD_best n i, stepH, if_neg (by rw [newD_shown]; exact fun h => absurd h.2 (Nat.lt_irrefl _))]
theorem newD_len (n : Nat) : (newD n).kept.length = n := by simp [newD]
end Go.Proofs.YtnlhjhpikjmoaaaGreatDoor
namespace Go.Proofs.YtnlhjhpikjmoaaaGreatDoor
open Go.RowKit
def LogAt (B : Nat) (w : World) (gl gd n : Nat) (recs : List (List UInt8)) (first turn wt : Nat) : Prop :=
  ∃ l d, Both (fun x => B ≤ x ∧ x < w.heap.size) w gl gd l d ∧ St n l d recs first turn wt
theorem LogAt.below {B : Nat} {w w' : World} {gl gd n : Nat} {recs : List (List UInt8)} {first turn wt : Nat} (h : LogAt B w gl gd n recs first turn wt) (hb : Below w.heap.size w w') : LogAt B w' gl gd n recs first turn wt := by
  obtain ⟨l, d, h1, h2⟩ := h
  exact ⟨l, d, (h1.below hb).mono fun x hx hlt => ⟨hx.1, hlt⟩, h2⟩
theorem LogAt.lt {B : Nat} {w : World} {gl gd n : Nat} {recs : List (List UInt8)} {first turn wt : Nat} (h : LogAt B w gl gd n recs first turn wt) : B ≤ gl ∧ gl < w.heap.size := by
  obtain ⟨l, d, h1, h2⟩ := h
  exact h1.glf
theorem LogAt.kp {B : Nat} {ok : Nat → Prop} {w w' : World} {gl gd n : Nat} {recs : List (List UInt8)} {first turn wt : Nat} (h : LogAt B w gl gd n recs first turn wt) (hk : Kp ok w w') (hok : ∀ x, B ≤ x → x < w.heap.size → ok x) : LogAt B w' gl gd n recs first turn wt := by
  obtain ⟨l, d, h1, h2⟩ := h
  exact ⟨l, d, (h1.kp hk fun x hx => hok x hx.1 hx.2).mono fun x hx hlt => ⟨hx.1, hlt⟩, h2⟩
theorem marked_rb {ok : Nat → Prop} (w : World) (l : List UInt8) (hl : l.length ≤ 1000) (f : Nat × Nat) (hok : ok w.heap.size) : RB ok (w.alloc (.cells (bs l).toArray 5 f)) (.slice (some ⟨w.heap.size, 0, none⟩) l.length l.length) l := by
  refine RB.mk_ ⟨by rw [bs_len]; simp, fun _ => ⟨_, 0, rfl, fun j u hu => ?_⟩⟩ (Nat.le_refl _) (by omega) (fun _ a ha => by rw [← Option.some.inj ha]; exact hok)
  have h1 : (w.alloc (.cells (bs l).toArray 5 f)).heap[w.heap.size]? = some (.cells (bs l).toArray 5 f) := heap_alloc_new w _
  simp only [World.cell?, h1, Nat.zero_add, Option.bind_some]
  simpa using hu
theorem conv_const (w : World) (C : Array Value) (n c : Nat) : (convert 25 25 (.slice (some ⟨w.heap.size, 0, none⟩) n c)).run Tryz.prog (w.alloc (.cells C 5)) = .ok (.slice (some ⟨w.heap.size, 0, none⟩) n c) (w.alloc (.cells C 5 (C.size, C.size + 1))) := Lib.run_convert_bytes_const w _ _ C n c Tryz.underlying25 (by kernel_rfl)
end Go.Proofs.YtnlhjhpikjmoaaaGreatDoor
