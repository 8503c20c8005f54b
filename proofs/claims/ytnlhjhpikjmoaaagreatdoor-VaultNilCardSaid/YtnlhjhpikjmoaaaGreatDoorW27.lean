/- wal.Open: the plain function.
wal.Open: the walk. -/
import Derived.Test.YtnlhjhpikjmoaaaGreatDoorW25
import Derived.Deep.DeepCutAuto
namespace Go.Proofs.YtnlhjhpikjmoaaaGreatDoor
open Go.RowKit

def zeroH : HeadD := ⟨0, 0, 0, 0, 0⟩
def stepH (best : HeadD) (s : List UInt8) : HeadD := if rdN s 0 = rdN s 56 ∧ best.turn < (readH s).turn then readH s else best
def bestI (d : DskD) : Nat → HeadD
  | 0 => zeroH
  | i + 1 => stepH (bestI d i) (d.shown i)
def zeroL : LogD := ⟨false, 0, 0, [], [], 0, 0, false⟩
/-- what Open makes of a disk: the log, the disk, the answer -/
def openL (d : DskD) : LogD × DskD × Int :=
  if d.down = true then (zeroL, d, 3) else
  let q := findL zeroL d (bestI d (min 2 d.kept.length))
  if q.2 ≠ 0 then (q.1, d, q.2) else tellL q.1 d 0
theorem findF_inv (d : DskD) (h : HeadD) (hok : d.Ok) (hk : 3 ≤ d.kept.length) : ∀ (k : Nat) (l : LogD), l.used = secSum l.recs → l.used ≤ d.kept.length - 2 → (findF d h k l).1.used = secSum (findF d h k l).1.recs ∧ (findF d h k l).1.used ≤ d.kept.length - 2 ∧ (findF d h k l).1.turn = l.turn ∧ (findF d h k l).1.first = l.first ∧ (findF d h k l).1.dead = l.dead ∧ (findF d h k l).1.waits = l.waits
  | 0, l, h1, h2 => ⟨h1, h2, rfl, rfl, rfl, rfl⟩
  | k + 1, l, h1, h2 => by
    rw [findF]
    split
    · exact ⟨h1, h2, rfl, rfl, rfl, rfl⟩
    split
    · exact ⟨h1, h2, rfl, rfl, rfl, rfl⟩
    · rename_i hn
      obtain ⟨q, hq⟩ : ∃ q, q = nextL l d (findT h l) := ⟨_, rfl⟩
      rw [← hq] at hn ⊢
      obtain ⟨b, is, e⟩ := q
      simp only [not_or] at hn
      have his : is = true := by simpa using hn.2
      subst his
      have hf := nextL_fit hok hk h2 hq.symm
      exact findF_inv d h hok hk k _ (took_sum h1) (by show l.used + secN b.length ≤ _; exact hf.1)
theorem findL_inv (l : LogD) (d : DskD) (h : HeadD) (hok : d.Ok) (h1 : l.used = secSum l.recs) (h2 : d.kept.length < 3 ∨ l.used ≤ d.kept.length - 2) : (findL l d h).1.used = secSum (findL l d h).1.recs ∧ (findL l d h).1.turn = h.turn ∧ (findL l d h).1.dead = l.dead ∧ (findL l d h).1.waits = l.waits ∧ (d.kept.length < 3 ∨ (findL l d h).1.used ≤ d.kept.length - 2) := by
  unfold findL
  split
  · exact ⟨h1, rfl, rfl, rfl, h2⟩
  · rename_i hn
    have hk : 3 ≤ d.kept.length := by omega
    have := findF_inv d h hok hk (d.kept.length - 1) { l with turn := h.turn, first := h.first, end_ := h.start } h1 (h2.elim (fun e => by omega) id)
    exact ⟨this.1, this.2.2.1, this.2.2.2.2.1, this.2.2.2.2.2, .inr this.2.1⟩
theorem rdN_lt (b : List UInt8) (k : Nat) : rdN b k < 18446744073709551616 := beNat_sm8 _
theorem bestI_lt (d : DskD) : ∀ i, (bestI d i).turn < 18446744073709551616 ∧ (bestI d i).next < 18446744073709551616 ∧ (bestI d i).start < 18446744073709551616
  | 0 => ⟨by show 0 < _; decide, by show 0 < _; decide, by show 0 < _; decide⟩
  | i + 1 => by
    rw [bestI, stepH]
    split
    · exact ⟨rdN_lt _ _, rdN_lt _ _, rdN_lt _ _⟩
    · exact bestI_lt d i
end Go.Proofs.YtnlhjhpikjmoaaaGreatDoor

namespace Go.Proofs.YtnlhjhpikjmoaaaGreatDoor
open Go.RowKit

theorem Both.disk {f : Nat → Prop} {w : World} {gl gd : Nat} {l : LogD} {d : DskD} (h : Both f w gl gd l d) : DiskR f w gd d := by
  obtain ⟨fl, fd, h1, h2, h3, h4, h5⟩ := h
  exact h5.mono fun b hb _ => (h2 b hb).1
set_option maxRecDepth 100000 in
set_option maxHeartbeats 6400000 in
theorem open_any {fd : Nat → Prop} {gd : Nat} {d : DskD} {w : World} (hd : DiskR fd w gd d) (hdlt : ∀ x, fd x → x < w.heap.size) (hhf : (bestI d (min 2 d.kept.length)).first + 70000 < 18446744073709551616) (hht : (bestI d (min 2 d.kept.length)).turn + 1 < 18446744073709551616) (hwl : d.wait.length + 1 ≤ 1000000000) :
    Calls Tryz.prog 31 #[.pointer (some ⟨gd, 0, none⟩)] w fun e w' => (∃ p, e = .returned (.tuple #[.pointer p, .int .i64 (openL d).2.2]) ∧ (((openL d).2.2 ≠ 0 ∧ p = none ∧ DiskR (fun x => fd x ∨ w.heap.size ≤ x) w' gd (openL d).2.1) ∨ ((openL d).2.2 = 0 ∧ ∃ gl, p = some ⟨gl, 0, none⟩ ∧ Both (fun x => fd x ∨ w.heap.size ≤ x) w' gl gd (openL d).1 (openL d).2.1))) ∧ Kp (fun x => ¬ fd x) w w' := by
  obtain ⟨R, hR⟩ : ∃ R, R = openL d := ⟨_, rfl⟩
  rw [← hR]
  have HDN := Lib.hid (dDown_any hd)
  have HR := Lib.hid hR
  clear hR
  by_cases hdn : d.down = true
  · have hRR : R = (zeroL, d, 3) := by rw [HR.out, openL, if_pos hdn]
    have HRR := Lib.hid hRR
    rw [hdn] at HDN
    clear hRR hdn
    go_enter Tryz.func31, Tryz.ntmps31
    go_wp2_with fail
    refine HDN.out.mono ?_
    rintro e w1 ⟨rfl, rfl⟩
    go_wp2
    go_ret2
    rw [HRR.out]
    exact ⟨⟨_, rfl, .inl ⟨by show (3 : Int) ≠ 0; decide, rfl, hd.mono fun b hb _ => .inl hb⟩⟩, Kp.refl _ _⟩
  have hdnf : d.down = false := by simpa using hdn
  rw [hdnf] at HDN
  have HDF := Lib.hid hdnf
  obtain ⟨m, hm⟩ : ∃ m, m = min 2 d.kept.length := ⟨_, rfl⟩
  rw [← hm] at hhf hht
  have hR2 : R = let q := findL zeroL d (bestI d m); if q.2 ≠ 0 then (q.1, d, q.2) else tellL q.1 d 0 := by rw [HR.out, openL, if_neg hdn, hm]
  have HR2 := Lib.hid hR2
  have HHF := Lib.hid (And.intro hhf hht)
  have hok := hd.ok
  have HM := Lib.hid hm
  clear hR2 hdn hdnf hhf hht hm HR
  go_enter Tryz.func31, Tryz.ntmps31
  go_wp2_with fail
  refine HDN.out.mono ?_
  rintro e w1 ⟨rfl, rfl⟩
  go_upto_region 7 with fail
  refine name_world (fun w2 => Below w1.heap.size w1 w2 ∧ w1.heap.size + 2 ≤ w2.heap.size ∧ Blk w2 w1.heap.size 97 (lgCs gd zeroL (.slice none 0 0) (.slice none 0 0)) ∧ Blk w2 (w1.heap.size + 1) 99 (hdCs zeroH)) ⟨((Below.refl _ _).alloc (Nat.le_refl _) _).alloc (by simp) _, by simp, (Blk.new w1 _ _).alloc _, Blk.new_ (by simp)⟩ ?_
  rintro w2 ⟨hB2, hz2, kl2, kb2⟩
  obtain ⟨ga, hga⟩ : ∃ ga, ga = w1.heap.size := ⟨_, rfl⟩
  obtain ⟨gb, hgb⟩ : ∃ gb, gb = w1.heap.size + 1 := ⟨_, rfl⟩
  have hgab : ga ≠ gb := by omega
  have hga1 : w1.heap.size ≤ ga := by omega
  have hgb1 : w1.heap.size ≤ gb := by omega
  have hgb2 : gb < w2.heap.size := by omega
  have hga2 : ga < w2.heap.size := by omega
  rw [← hgb, ← hga]
  rw [← hga] at kl2
  rw [← hgb] at kb2
  have HGA := Lib.hid hga
  have HGB := Lib.hid hgb
  clear hga hgb hz2
  have hm2 : m ≤ 2 := by have := HM.out; omega
  have hmk : m ≤ d.kept.length := by have := HM.out; omega
  go_wp2
  go_loopw [6] (fun j wr => ∃ i : Nat, i ≤ m ∧ j = .int .i64 (i : Int) ∧ Below w1.heap.size w1 wr ∧ w2.heap.size ≤ wr.heap.size ∧ Blk wr ga 97 (lgCs gd zeroL (.slice none 0 0) (.slice none 0 0)) ∧ Blk wr gb 99 (hdCs (bestI d i))) (fun j _ => 2 - (intOf j).toNat)
  case atStart => exact ⟨0, Nat.zero_le _, rfl, hB2, Nat.le_refl _, kl2, kb2⟩
  clear kl2 kb2
  case round =>
    obtain ⟨i, hi, rfl, hbw, hzw, kl, kb⟩ := hrel
    obtain ⟨go, hgo⟩ : ∃ go : Bool, go = decide (i < m) := ⟨_, rfl⟩
    have HGO := Lib.hid hgo
    clear hgo
    have hdr := hd.below hbw
    go_upto_region 8 with fail
    go_cut [27] (fun v wx => v = .bool go ∧ wx = wr)
    case first =>
      by_cases h2 : i < 2
      · have z1 : decide ((i : Int) < 2) = true := decide_eq_true (by omega)
        have z2 : decide (i < 2) = true := decide_eq_true h2
        have hg : go = decide ((i : Int) < (d.kept.length : Int)) := by rw [HGO.out]; exact decide_eq_decide.2 (by have := HM.out; omega)
        clear h2
        go_wp2_with fail
        refine (dSize_any hdr).mono ?_
        rintro e w3 ⟨rfl, rfl⟩
        go_wp2
        go_meet
        exact ⟨by rw [hg]; first | rfl | (congr 1; exact decide_eq_decide.2 (by omega)), rfl⟩
      · have z1 : decide ((i : Int) < 2) = false := decide_eq_false (by omega)
        have z2 : decide (i < 2) = false := decide_eq_false h2
        have hg : go = false := by rw [HGO.out]; exact decide_eq_false (by omega)
        go_wp2
        go_meet
        exact ⟨by rw [hg], rfl⟩
    obtain ⟨rfl, hwx⟩ := hcut
    rw [hwx]
    clear hwx
    cases go
    case true =>
      have him : i < m := of_decide_eq_true HGO.out.symm
      have hik : i < d.kept.length := by omega
      obtain ⟨S, hS⟩ : ∃ S, S = d.shown i := ⟨_, rfl⟩
      have hread : d.read (i : Int) = (S, 0) := by unfold DskD.read; rw [if_neg (by rw [HDF.out]; decide), if_neg (by omega), hS]; rfl
      have hS64 : S.length = 64 := by rw [hS]; exact DskD.shown_64 hok.1 hik
      have hRd := dRead_any hdr (i : Int) (by constructor <;> omega)
      rw [hread] at hRd
      have HRd := Lib.hid hRd
      obtain ⟨b, hbe⟩ : ∃ b, b = bestI d i := ⟨_, rfl⟩
      rw [← hbe] at kb
      have hbs : bestI d (i + 1) = stepH b S := by rw [bestI, hbe, hS]
      have HBS := Lib.hid hbs
      have HS64 := Lib.hid hS64
      clear hread hRd hS hS64 hbs hbe hik
      go_wp2_with fail
      refine HRd.out.mono ?_
      rintro e w3 ⟨⟨v, rfl, hv⟩, hb3⟩
      have hz3 := hb3.size
      have hzz := hbw.size
      have kl3 := kl.below hb3 kl.lt
      have kb3 := kb.below hb3 kb.lt
      have hbw3 : Below w1.heap.size w1 w3 := hbw.trans (hb3.mono hzz)
      obtain ⟨A8, c8, rfl, hc8, _, hrd8, _⟩ := hv.open_
      rw [HS64.out] at hrd8 hc8 ⊢
      obtain ⟨b8, o8, rfl, hcell8⟩ := hrd8.2 (by omega)
      have hcl8 : ∀ j (h : j < S.length), w3.cell? ⟨b8, o8 + j, none⟩ = some (.int .u8 ((S[j]).toNat : Int)) := fun j h => hcell8 j _ (by unfold bs; rw [List.getElem?_map, List.getElem?_eq_getElem h]; rfl)
      have HRH := Lib.hid (readHead_any b8 o8 c8 S w3 HS64.out hc8 hcl8)
      obtain ⟨Hd, hHd⟩ : ∃ Hd, Hd = readH S := ⟨_, rfl⟩
      obtain ⟨is, his⟩ : ∃ is, is = (((rdN S 0 : Nat) : Int) == ((rdN S 56 : Nat) : Int)) := ⟨_, rfl⟩
      rw [← hHd, ← his] at HRH
      have hst : stepH b S = if is = true ∧ b.turn < Hd.turn then Hd else b := by
        rw [his, hHd]
        unfold stepH
        by_cases hq : rdN S 0 = rdN S 56
        · rw [hq]
          simp
        · have : ¬ (((rdN S 0 : Nat) : Int) == ((rdN S 56 : Nat) : Int)) = true := by simpa using (show ¬ ((rdN S 0 : Nat) : Int) = ((rdN S 56 : Nat) : Int) by omega)
          rw [if_neg (fun h => hq h.1), if_neg (fun h => this h.1)]
      have HST := Lib.hid hst
      clear hst his hHd hcl8 hcell8 hrd8 hv
      go_upto_region 13 with fail
      refine wp_region_split 6 ?_
      simp only [List.take_succ_cons, List.take_zero, List.drop_succ_cons, List.drop_zero]
      go_wp2_with fail
      refine HRH.out.mono ?_
      rintro e w4 ⟨rfl, hb4⟩
      go_wp2
      show wpList _ _ _ _ _ _
      refine wpList_st (C := hdCs zeroH) rfl rfl (hdCs Hd) rfl rfl (Blk.new_ rfl) rfl Tryz.infoHead (hd_all _) ?_ rfl
      intro k9
      have hB5 := below_setCells (B := w4.heap.size) (a := w4) (b := w4.heap.size) (Nat.le_refl _) (hdCs Hd).toList 0 ((Below.refl _ _).alloc (Nat.le_refl _) (.cells #[.int .u64 0, .int .u64 0, .int .u64 0, .int .u64 0, .int .u64 0] 99))
      generalize hw5 : World.setCells (w4.alloc (.cells #[.int .u64 0, .int .u64 0, .int .u64 0, .int .u64 0, .int .u64 0] 99)) w4.heap.size 0 (hdCs Hd).toList = w5 at k9 hB5 ⊢
      obtain ⟨gh, hgh⟩ : ∃ gh, gh = w4.heap.size := ⟨_, rfl⟩
      have hz4 := hb4.size
      have hlb := kb3.lt
      have hghb : gh ≠ gb := by omega
      rw [← hgh] at k9 ⊢
      have HGH := Lib.hid hgh
      have kb5 := (kb3.below hb4 hlb).below hB5 (by omega)
      have kl5 := (kl3.below hb4 kl3.lt).below hB5 (by have := kl3.lt; omega)
      have hz13 : w1.heap.size ≤ w3.heap.size := by omega
      have hz14 : w1.heap.size ≤ w4.heap.size := by omega
      have hbw5 : Below w1.heap.size w1 w5 := (hbw3.trans (hb4.mono hz13)).trans (hB5.mono hz14)
      have hz5 := hB5.size
      clear hgh hw5 hB5
      have y1 : w5.cell? ⟨gh, 0, none⟩ = some (.int .u64 (Hd.turn : Int)) := k9.cell 0
      have y2 : w5.cell? ⟨gb, 0, none⟩ = some (.int .u64 (b.turn : Int)) := kb5.cell 0
      go_upto_region 14 with fail
      obtain ⟨tk, htk⟩ : ∃ tk : Bool, tk = decide (is = true ∧ b.turn < Hd.turn) := ⟨_, rfl⟩
      have HTK := Lib.hid htk
      clear htk
      go_cut [51] (fun v wx => v = .bool tk ∧ wx = w5)
      case first =>
        cases is
        · have hg : tk = false := by rw [HTK.out]; simp
          go_wp2
          go_meet
          exact ⟨by rw [hg], rfl⟩
        · have hg : tk = decide ((b.turn : Int) < (Hd.turn : Int)) := by rw [HTK.out]; exact decide_eq_decide.2 ⟨fun h => by have := h.2; omega, fun h => ⟨rfl, by omega⟩⟩
          go_wp2
          go_meet
          exact ⟨by rw [hg]; first | rfl | (congr 1; exact decide_eq_decide.2 (by omega)), rfl⟩
      obtain ⟨rfl, hwx⟩ := hcut
      rw [hwx]
      clear hwx y1 y2
      cases tk
      case false =>
        have hbn : bestI d (i + 1) = b := by rw [HBS.out, HST.out, if_neg (of_decide_eq_false HTK.out.symm)]
        have hkb5 : Blk w5 gb 99 (hdCs (bestI d (i + 1))) := by rw [hbn]; exact kb5
        have hwz : w2.heap.size ≤ w5.heap.size := by omega
        clear hbn kb5
        go_wp2
        go_roundw
        case rel => exact ⟨i + 1, by omega, by go_num, hbw5, hwz, kl5, hkb5⟩
        case measure => simp [intOf]; omega
      have hbn : bestI d (i + 1) = Hd := by rw [HBS.out, HST.out, if_pos (of_decide_eq_true HTK.out.symm)]
      have HBN := Lib.hid hbn
      clear hbn
      go_upto_region 15 with fail
      refine wp_region_split 0 ?_
      simp only [List.take_succ_cons, List.take_zero, List.drop_succ_cons, List.drop_zero]
      go_wp2
      show wpList _ _ _ _ _ _
      refine wpList_ld (g := gh) (k := 0) (cs := hdCs Hd) rfl rfl rfl k9.range Tryz.underlying99 rfl Tryz.infoHead ?_
      simp only [Act.put, List.setIfInBounds_toArray, List.set_cons_succ, List.set_cons_zero]
      refine wpList_st (C := hdCs b) rfl rfl (hdCs Hd) rfl rfl kb5 rfl Tryz.infoHead (hd_all _) ?_ rfl
      intro k10
      have hst10 := below_setCells (B := w1.heap.size) (b := gb) hgb1 (hdCs Hd).toList 0 hbw5
      have hk10 := Kp.setCells (ok := fun b => b ≠ gb) (a := w5) (b := gb) (fun _ hh => hh rfl) (hdCs Hd).toList 0 (Kp.refl _ _)
      generalize hw6 : World.setCells w5 gb 0 (hdCs Hd).toList = w6 at k10 hst10 hk10 ⊢
      have kl6 := kl5.kp hk10 hgab
      have hz6 := hk10.size
      have hkb6 : Blk w6 gb 99 (hdCs (bestI d (i + 1))) := by rw [HBN.out]; exact k10
      have hwz : w2.heap.size ≤ w6.heap.size := by omega
      clear hw6 k10 hk10
      go_wp2
      go_roundw
      case rel => exact ⟨i + 1, by omega, by go_num, hst10, hwz, kl6, hkb6⟩
      case measure => simp [intOf]; omega
    have him : i = m := by have := of_decide_eq_false HGO.out.symm; omega
    subst him
    have hlt := bestI_lt d i
    have hhf := HHF.out
    have hL0 : LogR (fun b => b = ga) wr ga gd zeroL := ⟨_, _, kl, OwnL.nil_ _ _ _ _ _, OwnL.nil_ _ _ _ _ _, by simp [Value.ownBlock], by simp [Value.ownBlock], (fun b hb => by cases hb), rfl, (fun b hb => by cases hb), (fun b hb => by cases hb), ⟨by decide, by decide, (fun r hr => by cases hr), rfl, (fun r hr => by cases hr), by decide, by decide⟩⟩
    have hBo : Both (fun x => x = ga ∨ fd x) wr ga gd zeroL d := Both.mk_ hL0 hdr fun x hx _ e => by have := hdlt x hx; omega
    have hfd := find_any (bestI d i) hBo hlt.1 hlt.2.1 hlt.2.2 hhf.1 rfl (.inr (Nat.zero_le _))
    have hinv := findL_inv zeroL d (bestI d i) hok.1 rfl (.inr (Nat.zero_le _))
    obtain ⟨q, hq⟩ : ∃ q, q = findL zeroL d (bestI d i) := ⟨_, rfl⟩
    have hR2 := HR2.out
    rw [← hq] at hfd hinv hR2
    have hqt : q.1.turn + 1 < 18446744073709551616 := by rw [hinv.2.1]; exact hhf.2
    have HFD := Lib.hid hfd
    have HRQ := Lib.hid hR2
    have HINV := Lib.hid hinv
    have HQT := Lib.hid hqt
    obtain ⟨H, hH⟩ : ∃ H, H = bestI d i := ⟨_, rfl⟩
    rw [← hH] at HFD kb
    clear hlt hhf hL0 hBo hfd hinv hq hR2 hqt hH HR2 HHF hdr
    obtain ⟨l1, E1⟩ := q
    go_upto_region 16 with fail
    refine wp_region_split 1 ?_
    simp only [List.take_succ_cons, List.take_zero, List.drop_succ_cons, List.drop_zero]
    go_wp2
    show wpList _ _ _ _ _ _
    refine wpList_ld (g := gb) (k := 0) (cs := hdCs H) rfl rfl rfl kb.range Tryz.underlying99 rfl Tryz.infoHead ?_
    simp only [Act.put, List.setIfInBounds_toArray, List.set_cons_succ, List.set_cons_zero]
    go_wp2_with fail
    refine HFD.out.mono ?_
    rintro e w5 ⟨rfl, hBo5, hK5⟩
    have hzw := hbw.size
    have hKd5 : Kp (fun x => ¬ fd x) w1 w5 := (Kp.of_below hbw).thenW hK5 fun b hb hn e => e.elim (fun e => by omega) hn
    have hf5 : ∀ b, ((b = ga ∨ fd b) ∨ wr.heap.size ≤ b) → fd b ∨ w1.heap.size ≤ b := fun b hb => hb.elim (fun h => h.elim (fun h => .inr (by omega)) .inl) fun h => .inr (by omega)
    have HK5 := Lib.hid hKd5
    have hz5 := hK5.size
    clear hKd5 hK5 HFD kl kb
    try simp only at *
    by_cases hE1 : E1 = 0
    case neg =>
      have hRR : R = (l1, d, E1) := by rw [HRQ.out, if_pos hE1]
      have HRR := Lib.hid hRR
      have t3 : (E1 == 0) = false := by simpa using hE1
      have t4 : decide (E1 = 0) = false := decide_eq_false hE1
      have HBo := Lib.hid hBo5
      have HE1 := Lib.hid hE1
      clear hRR hBo5 hE1
      go_wp2
      go_ret2
      rw [HRR.out]
      exact ⟨⟨_, rfl, .inl ⟨HE1.out, rfl, (HBo.out.mono fun b hb _ => hf5 b hb).disk⟩⟩, HK5.out⟩
    subst hE1
    have hRR : R = tellL l1 d 0 := by rw [HRQ.out, if_neg (by decide)]
    have hTL := tell_any 0 (hBo5.mono fun b hb _ => hf5 b hb) (Nat.zero_le _) HINV.out.1 HQT.out hwl
    rw [← hRR] at hTL
    obtain ⟨l2, d2, E2⟩ := R
    have HTL := Lib.hid hTL
    clear hRR hTL hBo5 HRQ HINV HQT
    try simp only at *
    go_wp2_with fail
    refine HTL.out.mono ?_
    rintro e w6 ⟨rfl, hBo6, hK6⟩
    have hK16 : Kp (fun x => ¬ fd x) w1 w6 := HK5.out.thenW hK6 fun b hb hn e => e.elim hn fun e => by omega
    have HK16 := Lib.hid hK16
    have HBo6 := Lib.hid (hBo6.mono (f' := fun x => fd x ∨ w1.heap.size ≤ x) fun b hb _ => hb.elim id fun h => .inr (by omega))
    clear hK16 hBo6 hK6
    by_cases hE2 : E2 = 0
    case neg =>
      have t3 : (E2 == 0) = false := by simpa using hE2
      have t4 : decide (E2 = 0) = false := decide_eq_false hE2
      have HE2 := Lib.hid hE2
      clear hE2
      go_wp2
      go_ret2
      exact ⟨⟨_, rfl, .inl ⟨HE2.out, rfl, HBo6.out.disk⟩⟩, HK16.out⟩
    subst hE2
    go_wp2
    go_ret2
    first | exact ⟨⟨_, rfl, .inr ⟨rfl, ga, rfl, HBo6.out⟩⟩, HK16.out⟩ | exact ⟨⟨_, rfl, ga, rfl, HBo6.out⟩, HK16.out⟩
end Go.Proofs.YtnlhjhpikjmoaaaGreatDoor
