/- (*Log).next: the plain function; a length in three bytes.
(*Log).next: the walk.
(*Log).find: the plain function; what next answers fits.
(*Log).find: the walk. -/
import Derived.Test.YtnlhjhpikjmoaaaGreatDoorW21
import Derived.Test.YtnlhjhpikjmoaaaGreatDoorS0
import Derived.Deep.DeepCutAuto
namespace Go.Proofs.YtnlhjhpikjmoaaaGreatDoor
open Go.RowKit
theorem i64_or_nat (a b : Nat) (ha : a < 4294967296) (hb : b < 4294967296) : bits .or .i64 (a : Int) (b : Int) = ((a ||| b : Nat) : Int) := by
  have hx : a ||| b < 2 ^ 32 := Nat.or_lt_two_pow (by omega) (by omega)
  have h1 : (BitVec.ofInt 64 (a : Int)).toNat = a := by
    rw [BitVec.ofInt_natCast, BitVec.toNat_ofNat]; exact Nat.mod_eq_of_lt (by omega)
  have h2 : (BitVec.ofInt 64 (b : Int)).toNat = b := by
    rw [BitVec.ofInt_natCast, BitVec.toNat_ofNat]; exact Nat.mod_eq_of_lt (by omega)
  show IntKind.i64.wrap ((BitVec.ofInt 64 (a : Int) ||| BitVec.ofInt 64 (b : Int)).toNat : Int) = _
  rw [BitVec.toNat_or, h1, h2, IntKind.wrap_i64]
  omega
def rd3 (b : List UInt8) : Nat := (b.getD 0 0).toNat * 65536 + (b.getD 1 0).toNat * 256 + (b.getD 2 0).toNat
theorem or3 (x y z : UInt8) : bits .or .i64 (bits .or .i64 ((x.toNat : Int) * 65536) ((y.toNat : Int) * 256)) (z.toNat : Int) = ((x.toNat * 65536 + y.toNat * 256 + z.toNat : Nat) : Int) := by
  have hx := x.toNat_lt
  have hy := y.toNat_lt
  have hz := z.toNat_lt
  rw [show (x.toNat : Int) * 65536 = ((x.toNat * 65536 : Nat) : Int) by omega, show (y.toNat : Int) * 256 = ((y.toNat * 256 : Nat) : Int) by omega, i64_or_nat _ _ (by omega) (by omega), nat_join 16 (x.toNat * 65536) (y.toNat * 256) (by omega) (by omega), i64_or_nat _ _ (by omega) (by omega), nat_join 8 (x.toNat * 65536 + y.toNat * 256) z.toNat (by omega) (by omega)]
theorem three_ : ∀ (l : List UInt8), 3 ≤ l.length → ∃ x y z tl, l = x :: y :: z :: tl
  | x :: y :: z :: tl, _ => ⟨x, y, z, tl, rfl⟩
  | [], h => absurd h (by decide)
  | [_], h => absurd h (by simp)
  | [_, _], h => absurd h (by simp)
def misT (s : List UInt8) (t : Nat) : Prop := rdN s 0 = 0 ∨ rdN s 0 ≠ rdN s 56 ∨ (t ≠ 0 ∧ rdN s 0 ≠ t)
instance (s : List UInt8) (t : Nat) : Decidable (misT s t) := by unfold misT; exact inferInstance
def nextF (d : DskD) (e0 ring t : Nat) : Nat → Nat → List UInt8 → Nat → List UInt8 × Bool × Int
  | 0, i, acc, n => if i = 0 ∨ acc.length < 3 + n then ([], false, 0) else ((acc.drop 3).take n, true, 0)
  | k + 1, i, acc, n => if i = 0 ∨ acc.length < 3 + n then
      (if (d.read ((2 + (e0 + i) % ring : Nat) : Int)).2 ≠ 0 then ([], false, (d.read ((2 + (e0 + i) % ring : Nat) : Int)).2) else
       if misT (d.read ((2 + (e0 + i) % ring : Nat) : Int)).1 t then ([], false, 0) else
       if 32768 < (if i = 0 then rd3 (acc ++ ((d.read ((2 + (e0 + i) % ring : Nat) : Int)).1.drop 8).take 48) else n) then ([], false, 0) else
       nextF d e0 ring t k (i + 1) (acc ++ ((d.read ((2 + (e0 + i) % ring : Nat) : Int)).1.drop 8).take 48) (if i = 0 then rd3 (acc ++ ((d.read ((2 + (e0 + i) % ring : Nat) : Int)).1.drop 8).take 48) else n))
    else ((acc.drop 3).take n, true, 0)
def nextL (l : LogD) (d : DskD) (t : Nat) : List UInt8 × Bool × Int := nextF d l.end_ (d.kept.length - 2) t (d.kept.length - 2 - l.used) 0 [] 0
theorem nextF_end (d : DskD) (e0 ring t k i : Nat) (acc : List UInt8) (n : Nat) (h : ¬ (i = 0 ∨ acc.length < 3 + n)) : nextF d e0 ring t k i acc n = ((acc.drop 3).take n, true, 0) := by
  cases k <;> rw [nextF, if_neg h]
theorem nextF_full (d : DskD) (e0 ring t i : Nat) (acc : List UInt8) (n : Nat) (h : i = 0 ∨ acc.length < 3 + n) : nextF d e0 ring t 0 i acc n = ([], false, 0) := by
  rw [nextF, if_pos h]
end Go.Proofs.YtnlhjhpikjmoaaaGreatDoor
namespace Go.Proofs.YtnlhjhpikjmoaaaGreatDoor
open Go.RowKit
set_option maxRecDepth 100000 in
set_option maxHeartbeats 6400000 in
theorem lnext_any {f : Nat → Prop} {gl gd : Nat} {l : LogD} {d : DskD} {w : World} (t : Nat) (ht : t < 18446744073709551616) (h : Both f w gl gd l d) (h3 : 3 ≤ d.kept.length) :
    Calls Tryz.prog 78 #[.pointer (some ⟨gl, 0, none⟩), .int .u64 (t : Int)] w fun e w' => (∃ v, e = .returned (.tuple #[v, .bool (nextL l d t).2.1, .int .i64 (nextL l d t).2.2]) ∧ RB (fun b => w.heap.size ≤ b) w' v (nextL l d t).1) ∧ Below w.heap.size w w' := by
  obtain ⟨fl, fd, f1, f2, f3, hl, hd⟩ := h
  obtain ⟨ring, hring⟩ : ∃ ring, ring = d.kept.length - 2 := ⟨_, rfl⟩
  have hdl := hd.ok
  have hlo := hl.ok
  have hri : (d.kept.length : Int) - 2 = (ring : Int) := by omega
  have hr1 : 1 ≤ ring := by omega
  have hr2 : ring ≤ 65534 := by omega
  have HL := Lib.hid hl
  have HD := Lib.hid hd
  obtain ⟨R, hR⟩ : ∃ R, R = nextL l d t := ⟨_, rfl⟩
  rw [← hR]
  have hR0 : R = nextF d l.end_ ring t (ring - l.used - 0) 0 [] 0 := by rw [hR, nextL, hring]; rfl
  have hend := hlo.end_
  have huse := hlo.used
  obtain ⟨vr, vp, hb, _⟩ := hl
  obtain ⟨c0, c1, c2, c3, c4, c5, c6, c7, c8⟩ := lg_cells hb
  have HRI := Lib.hid hri
  clear hb c1 c2 c3 c4 c5 c8 hR hring hdl hlo hd hri
  go_enter Tryz.func78, Tryz.ntmps78
  go_wp2
  go_loopw [8, 9, 10] (fun v nn j wr => ∃ (i n : Nat) (acc : List UInt8) (A : Option Addr) (c : Nat), v = .slice A (48 * i) c ∧ nn = .int .i64 (n : Int) ∧ j = .int .i64 (i : Int) ∧ OwnB w.heap.size wr A (48 * i) c acc ∧ Below w.heap.size w wr ∧ i ≤ ring ∧ n ≤ 32768 ∧ Hid (R = nextF d l.end_ ring t (ring - l.used - i) i acc n)) (fun _ _ j _ => ring + 1 - (intOf j).toNat)
  case atStart => exact ⟨0, 0, [], none, 0, rfl, rfl, rfl, OwnB.nil_ _ _, Below.refl _ _, by omega, by omega, Lib.hid hR0⟩
  clear hR0
  case round =>
    obtain ⟨i, n, acc, A, c, rfl, rfl, rfl, hown, hbw, hi, hn, HR⟩ := hrel
    have hacc := hown.len
    have hcap := hown.cap
    by_cases hc : i = 0 ∨ acc.length < 3 + n
    case neg =>
      have hRn : R = ((acc.drop 3).take n, true, 0) := by rw [HR.out, nextF_end _ _ _ _ _ _ _ _ hc]
      have HRn := Lib.hid hRn
      have hi0 : ¬ i = 0 := fun e => hc (.inl e)
      have hn3 : 3 + n ≤ 48 * i := by have : ¬ acc.length < 3 + n := fun e => hc (.inr e); omega
      have z0 : ((i : Int) == 0) = false := by simpa using hi0
      have z1 : decide ((i : Int) = 0) = false := decide_eq_false (by omega)
      have z2 : decide (48 * (i : Int) < 3 + (n : Int)) = false := decide_eq_false (by omega)
      have z3 : decide ((48 * i : Nat) < 3 + n) = false := decide_eq_false (by omega)
      obtain ⟨b9, o9, rfl, hcell9⟩ := hown.rd.2 (by omega)
      have hrd := (hown.rd.drop (k := 3) (by omega) hcap).take (k := n) (by omega)
      rw [if_neg (by omega)] at hrd
      simp only [Option.map_some, Addr.add_lit] at hrd
      have hl2 : (bs acc).drop (3 * 1) = bs (acc.drop 3) := by unfold bs; rw [List.map_drop]
      have hl3 : (bs (acc.drop 3)).take (n * 1) = bs ((acc.drop 3).take n) := by unfold bs; rw [List.map_take, Nat.mul_one]
      rw [hl2, hl3] at hrd
      have hcl := clone_rb (ok := fun _ => True) (.slice (some ⟨b9, o9 + 3, none⟩) n (c - 3)) _ wr (RB.mk_ hrd (by omega) (by omega) fun _ _ _ => trivial)
      have HCL := Lib.hid hcl
      clear hcl hrd hl2 hl3 hcell9 hRn hown
      go_wp2_with fail
      refine HCL.out.mono ?_
      rintro e w2 ⟨⟨v2, rfl, hv2⟩, hb2⟩
      have hz := hbw.size
      go_wp2
      go_ret3
      rw [HRn.out]
      exact ⟨⟨_, rfl, hv2.mono (by decide) fun b hb _ => by omega⟩, hbw.trans (hb2.mono hz)⟩
    go_upto_region 5 with fail
    go_cut [22] (fun v22 wx => v22 = .bool true ∧ wx = wr)
    case first =>
      have hcl : Hid (i = 0 ∨ acc.length < 3 + n) := Lib.hid hc
      clear hc
      by_cases hi0 : i = 0
      · subst hi0
        go_wp2_with fail
        go_meet
        exact ⟨rfl, rfl⟩
      · have z0 : ((i : Int) == 0) = false := by simpa using hi0
        have z1 : decide ((i : Int) = 0) = false := decide_eq_false (by omega)
        have hlt : acc.length < 3 + n := hcl.out.elim (fun h => absurd h hi0) id
        have z2 : decide (48 * (i : Int) < 3 + (n : Int)) = true := decide_eq_true (by omega)
        have z3 : decide ((48 * i : Nat) < 3 + n) = true := decide_eq_true (by omega)
        clear hlt
        go_wp2_with fail
        go_meet
        exact ⟨rfl, rfl⟩
    obtain ⟨rfl, hwx⟩ := hcut
    rw [hwx]
    clear hwx
    have hLr := HL.out.below hbw
    have hDr := HD.out.below hbw
    have hgl : gl < w.heap.size := by obtain ⟨vr, vp, hb, _⟩ := HL.out; exact hb.lt
    have d0 : ∀ s : Later wr, s.val.cell? ⟨gl, 0, none⟩ = some (.pointer (some ⟨gd, 0, none⟩)) := Later.cell ((hbw.cell hgl).trans c0)
    have d6 : ∀ s : Later wr, s.val.cell? ⟨gl, 6, none⟩ = some (.int .i64 (l.end_ : Int)) := Later.cell ((hbw.cell hgl).trans c6)
    have d7 : ∀ s : Later wr, s.val.cell? ⟨gl, 7, none⟩ = some (.int .i64 (l.used : Int)) := Later.cell ((hbw.cell hgl).trans c7)
    go_upto_region 7 with fail
    refine wp_seqL [7] (by as_aux_lemma => kernel_rfl) (by as_aux_lemma => kernel_rfl) fun w2 hb2 => ?_
    refine seqL_pre 7 (by kernel_rfl) ?_
    simp only [List.take_succ_cons, List.take_zero, List.drop_succ_cons, List.drop_zero]
    repeat (go_big_quiet_step (fail))
    refine wpQuiet_nil ?_
    refine seqL_wild hb2 rfl rfl fun K hK => ?_
    unfold Gives
    go_simp
    refine (ring_any (hLr.below hb2) (hDr.below hb2)).mono ?_
    rw [HRI.out]
    rintro e w3 ⟨rfl, rfl⟩
    refine ⟨_, rfl, hK _ _ ((Below.refl _ _)) fun hb3 => ?_⟩
    clear hK
    clear K
    simp only [Act.put, List.setIfInBounds_toArray, List.set_cons_succ, List.set_cons_zero]
    refine seqL_pre 1 (by kernel_rfl) ?_
    simp only [List.take_succ_cons, List.take_zero, List.drop_succ_cons, List.drop_zero]
    repeat (go_big_quiet_step (fail))
    refine wpQuiet_nil ?_
    refine seqL_nil ?_
    by_cases hfull : ring ≤ l.used + i
    · have hk0 : ring - l.used - i = 0 := by omega
      have hRf : R = ([], false, 0) := by rw [HR.out, hk0, nextF_full _ _ _ _ _ _ _ hc]
      have HRf := Lib.hid hRf
      have v0 : decide ((ring : Int) ≤ (l.used : Int) + (i : Int)) = true := decide_eq_true (by omega)
      rw [v0]
      clear hRf hk0 hfull hc
      go_wp2
      go_ret3
      rw [HRf.out]
      exact ⟨⟨_, rfl, RSl.nil_ _ _ _⟩, hbw.trans (hb3.mono hbw.size)⟩
    have v0 : decide ((ring : Int) ≤ (l.used : Int) + (i : Int)) = false := decide_eq_false (by omega)
    rw [v0]
    obtain ⟨k, hk⟩ : ∃ k, ring - l.used - i = k + 1 := ⟨ring - l.used - i - 1, by omega⟩
    have hk2 : ring - l.used - (i + 1) = k := by omega
    obtain ⟨q, hq⟩ : ∃ q : List UInt8 × Int, q = d.read ((2 + (l.end_ + i) % ring : Nat) : Int) := ⟨_, rfl⟩
    have hR1 := HR.out
    rw [hk, nextF, if_pos hc, ← hq] at hR1
    have hRA := HD.out
    have HRD := Lib.hid (fun (w' : World) (hb : Below w.heap.size w w') => dRead_any (HD.out.below hb) ((2 + (l.end_ + i) % ring : Nat) : Int) (by have := Nat.mod_lt (l.end_ + i) (show 0 < ring by omega); constructor <;> omega))
    rw [← hq] at HRD
    have hq64 : q.2 = 0 → q.1.length = 64 := fun h0 => by
      rw [hq] at h0 ⊢
      unfold DskD.read at h0 ⊢
      by_cases hd : d.down = true
      · rw [if_pos hd] at h0; exact absurd h0 (by decide)
      · rw [if_neg hd] at h0 ⊢
        by_cases hb : ((2 + (l.end_ + i) % ring : Nat) : Int) < 0 ∨ (d.kept.length : Int) ≤ ((2 + (l.end_ + i) % ring : Nat) : Int)
        · rw [if_pos hb] at h0; exact absurd h0 (by decide)
        · rw [if_neg hb]
          exact DskD.shown_64 HD.out.ok.1 (by omega)
    obtain ⟨S, E⟩ := q
    simp only at hR1 HRD hq64
    have HR1 := Lib.hid hR1
    have HQ := Lib.hid hq64
    have HK2 := Lib.hid hk2
    have r0 : ((ring : Int) == 0) = false := by simpa using (show ¬ (ring : Int) = 0 by omega)
    have r0' : decide ((ring : Int) = 0) = false := decide_eq_false (by omega)
    have e0 : ∀ s : Later w3, s.val.cell? ⟨gl, 0, none⟩ = some (.pointer (some ⟨gd, 0, none⟩)) := Later.cell (d0 ⟨w3, hb3⟩)
    have e6 : ∀ s : Later w3, s.val.cell? ⟨gl, 6, none⟩ = some (.int .i64 (l.end_ : Int)) := Later.cell (d6 ⟨w3, hb3⟩)
    have hbw3 : Below w.heap.size w w3 := hbw.trans (hb3.mono hbw.size)
    have hown3 := hown.belowB hb3
    clear hR1 hq64 hk2 hq hRA d0 d6 d7 hk hown HR
    go_upto_region 9 with fail
    refine wp_seqL [12, 15] (by as_aux_lemma => kernel_rfl) (by as_aux_lemma => kernel_rfl) fun w4 hb4 => ?_
    refine seqL_pre 12 (by kernel_rfl) ?_
    simp only [List.take_succ_cons, List.take_zero, List.drop_succ_cons, List.drop_zero]
    repeat (go_big_quiet_step (fail))
    refine wpQuiet_nil ?_
    refine seqL_wild hb4 rfl rfl fun K hK => ?_
    unfold Gives
    go_simp
    refine (ring_any (HL.out.below (hbw3.trans (hb4.mono hbw3.size))) (HD.out.below (hbw3.trans (hb4.mono hbw3.size)))).mono ?_
    rw [HRI.out]
    rintro e w5 ⟨rfl, rfl⟩
    refine ⟨_, rfl, hK _ _ ((Below.refl _ _)) fun hb5 => ?_⟩
    clear hK
    clear K
    simp only [Act.put, List.setIfInBounds_toArray, List.set_cons_succ, List.set_cons_zero]
    refine seqL_pre 2 (by kernel_rfl) ?_
    simp only [List.take_succ_cons, List.take_zero, List.drop_succ_cons, List.drop_zero]
    repeat (go_big_quiet_step (fail))
    refine wpQuiet_nil ?_
    refine seqL_wild hb5 rfl rfl fun K hK => ?_
    unfold Gives
    go_simp
    have hmd := Nat.mod_lt (l.end_ + i) (show 0 < ring by omega)
    have hwp : wrap64 (2 + ((l.end_ : Int) + (i : Int)) % (ring : Int)) = ((2 + (l.end_ + i) % ring : Nat) : Int) := by
      rw [show (2 + ((l.end_ : Int) + (i : Int)) % (ring : Int)) = ((2 + (l.end_ + i) % ring : Nat) : Int) by rw [Int.natCast_add, Int.natCast_emod, Int.natCast_add]; rfl]
      exact IntWalk.wrap64_in _ (by omega)
    rw [hwp]
    refine (HRD.out _ (hbw3.trans (hb5.mono hbw3.size))).mono ?_
    clear hwp hmd
    rintro e w6 ⟨⟨vs, rfl, hvs⟩, hb6⟩
    refine ⟨_, rfl, hK _ _ (hb6) fun hb7 => ?_⟩
    clear hK
    clear K
    simp only [Act.put, List.setIfInBounds_toArray, List.set_cons_succ, List.set_cons_zero]
    refine seqL_pre 5 (by kernel_rfl) ?_
    simp only [List.take_succ_cons, List.take_zero, List.drop_succ_cons, List.drop_zero]
    repeat (go_big_quiet_step (fail))
    refine wpQuiet_nil ?_
    refine seqL_nil ?_
    have hB6 : Below w.heap.size w w6 := hbw3.trans (hb7.mono hbw3.size)
    have hown6 := hown3.belowB hb7
    have HHC := Lib.hid hc
    clear hc HRD hown3 e0 e6 hb5 hb4
    by_cases hE : E = 0
    case neg =>
      have hRf : R = ([], false, E) := by rw [HR1.out, if_pos hE]
      have HRf := Lib.hid hRf
      have t3 : (E == 0) = false := by simpa using hE
      have t4 : decide (E = 0) = false := decide_eq_false hE
      clear hRf
      go_wp2
      go_ret3
      rw [HRf.out]
      exact ⟨⟨_, rfl, RSl.nil_ _ _ _⟩, hB6⟩
    subst hE
    have hR2 := HR1.out
    rw [if_neg (by decide)] at hR2
    have HR2 := Lib.hid hR2
    have hS64 := HQ.out rfl
    clear hR2 HR1 HQ
    obtain ⟨A8, c8, rfl, hc8, _, hrd8, _⟩ := hvs.open_
    rw [hS64] at hrd8 hc8 ⊢
    obtain ⟨b8, o8, rfl, hcell8⟩ := hrd8.2 (by omega)
    have hcl8 : ∀ j (h : j < S.length), w6.cell? ⟨b8, o8 + j, none⟩ = some (.int .u8 ((S[j]).toNat : Int)) := fun j h => hcell8 j _ (by unfold bs; rw [List.getElem?_map, List.getElem?_eq_getElem h]; rfl)
    have HT0 := Lib.hid (take_at (k := 0) (n := 64) (c := c8) S w6 hcl8 (by omega) (by omega) hc8)
    have HT56 := Lib.hid (take_at (k := 56) (n := 8) (c := c8 - 56) S w6 hcl8 (by omega) (by omega) (by omega))
    obtain ⟨a, ha⟩ : ∃ a, a = rdN S 0 := ⟨_, rfl⟩
    obtain ⟨b, hb⟩ : ∃ b, b = rdN S 56 := ⟨_, rfl⟩
    rw [← ha] at HT0
    rw [← hb] at HT56
    have hmis : misT S t ↔ (a = 0 ∨ a ≠ b ∨ (t ≠ 0 ∧ a ≠ t)) := by unfold misT; rw [← ha, ← hb]
    have HM := Lib.hid hmis
    have HS64 := Lib.hid hS64
    have HRD8 := Lib.hid hrd8
    have HC8 := Lib.hid hcl8
    have hc8' : 56 ≤ c8 := by omega
    clear hmis hrd8 hcl8 hcell8 ha hb hS64 hvs
    go_upto_region 12 with fail
    go_wp2_with fail
    refine HT0.out.mono ?_
    rintro e w7 ⟨rfl, rfl⟩
    go_upto_region 13 with fail
    obtain ⟨mb, hmb⟩ : ∃ mb : Bool, mb = decide (misT S t) := ⟨_, rfl⟩
    have HMB := Lib.hid hmb
    clear hmb
    go_cut [75] (fun v75 wx => v75 = .bool mb ∧ wx = w7)
    case first =>
      by_cases ha0 : a = 0
      · have hm : mb = true := by rw [HMB.out]; exact decide_eq_true (HM.out.2 (.inl ha0))
        have z0 : ((a : Int) == 0) = true := by simpa using ha0
        have z1 : decide ((a : Int) = 0) = true := decide_eq_true (by omega)
        clear ha0
        go_wp2_with fail
        go_meet
        exact ⟨by rw [hm], rfl⟩
      have z0 : ((a : Int) == 0) = false := by simpa using ha0
      have z1 : decide ((a : Int) = 0) = false := decide_eq_false (by omega)
      by_cases hab : a = b
      case neg =>
        have hm : mb = true := by rw [HMB.out]; exact decide_eq_true (HM.out.2 (.inr (.inl hab)))
        have z2 : ((a : Int) == (b : Int)) = false := by simpa using (show ¬ (a : Int) = (b : Int) by omega)
        have z3 : decide ((a : Int) = (b : Int)) = false := decide_eq_false (by omega)
        have y3 : decide (a = b) = false := decide_eq_false hab
        have y4 : (a == b) = false := by simpa using hab
        have n1 : ((a : Int) != (b : Int)) = true := by simp only [bne_iff_ne, bne_eq_false_iff_eq, ne_eq]; omega
        have n2 : decide (¬ ((a : Int) = (b : Int))) = true := by simp only [decide_eq_true_eq, decide_eq_false_iff_not]; omega
        clear ha0 hab
        go_wp2_with fail
        refine HT56.out.mono ?_
        rintro e w8 ⟨rfl, rfl⟩
        go_wp2_with fail
        go_meet
        exact ⟨by rw [hm], rfl⟩
      subst hab
      have z2 : ((a : Int) == (a : Int)) = true := by simp
      have y2 : decide (a = a) = true := by simp
      have n1 : ((a : Int) != (a : Int)) = false := by simp
      have n2 : decide (¬ ((a : Int) = (a : Int))) = false := by simp
      by_cases ht0 : t = 0
      · have hm : mb = false := by rw [HMB.out]; exact decide_eq_false (fun h => by rcases HM.out.1 h with h | h | h <;> omega)
        have z4 : ((t : Int) == 0) = true := by simpa using ht0
        have z5 : decide ((t : Int) = 0) = true := decide_eq_true (by omega)
        have y5 : decide (t = 0) = true := decide_eq_true ht0
        have y6 : (t == 0) = true := by simpa using ht0
        have m1 : ((t : Int) != 0) = false := by simp only [bne_iff_ne, bne_eq_false_iff_eq, ne_eq]; omega
        have m2 : decide (¬ ((t : Int) = 0)) = false := by simp only [decide_eq_true_eq, decide_eq_false_iff_not]; omega
        clear ha0 ht0 ht
        go_wp2_with fail
        refine HT56.out.mono ?_
        rintro e w8 ⟨rfl, rfl⟩
        go_wp2_with fail
        go_meet
        exact ⟨by rw [hm], rfl⟩
      have z4 : ((t : Int) == 0) = false := by simpa using ht0
      have z5 : decide ((t : Int) = 0) = false := decide_eq_false (by omega)
      have y5 : decide (t = 0) = false := decide_eq_false ht0
      have y6 : (t == 0) = false := by simpa using ht0
      have m1 : ((t : Int) != 0) = true := by simp only [bne_iff_ne, bne_eq_false_iff_eq, ne_eq]; omega
      have m2 : decide (¬ ((t : Int) = 0)) = true := by simp only [decide_eq_true_eq, decide_eq_false_iff_not]; omega
      by_cases hat : a = t
      · have hm : mb = false := by rw [HMB.out]; exact decide_eq_false (fun h => by rcases HM.out.1 h with h | h | h <;> omega)
        have z6 : ((a : Int) == (t : Int)) = true := by simpa using (show (a : Int) = (t : Int) by omega)
        have z7 : decide ((a : Int) = (t : Int)) = true := decide_eq_true (by omega)
        have y7 : decide (a = t) = true := decide_eq_true hat
        have y8 : (a == t) = true := by simpa using hat
        have k1 : ((a : Int) != (t : Int)) = false := by simp only [bne_iff_ne, bne_eq_false_iff_eq, ne_eq]; omega
        have k2 : decide (¬ ((a : Int) = (t : Int))) = false := by simp only [decide_eq_true_eq, decide_eq_false_iff_not]; omega
        have z8 : ((t : Int) == (t : Int)) = true := by simp
        clear ha0 ht0 hat ht
        go_wp2_with fail
        refine HT56.out.mono ?_
        rintro e w8 ⟨rfl, rfl⟩
        go_wp2_with fail
        go_meet
        exact ⟨by rw [hm], rfl⟩
      · have hm : mb = true := by rw [HMB.out]; exact decide_eq_true (HM.out.2 (.inr (.inr ⟨ht0, hat⟩)))
        have z6 : ((a : Int) == (t : Int)) = false := by simpa using (show ¬ (a : Int) = (t : Int) by omega)
        have z7 : decide ((a : Int) = (t : Int)) = false := decide_eq_false (by omega)
        have y7 : decide (a = t) = false := decide_eq_false hat
        have y8 : (a == t) = false := by simpa using hat
        have k1 : ((a : Int) != (t : Int)) = true := by simp only [bne_iff_ne, bne_eq_false_iff_eq, ne_eq]; omega
        have k2 : decide (¬ ((a : Int) = (t : Int))) = true := by simp only [decide_eq_true_eq, decide_eq_false_iff_not]; omega
        clear ha0 ht0 hat ht
        go_wp2_with fail
        refine HT56.out.mono ?_
        rintro e w8 ⟨rfl, rfl⟩
        go_wp2_with fail
        go_meet
        exact ⟨by rw [hm], rfl⟩
    obtain ⟨rfl, hwx⟩ := hcut
    rw [hwx]
    clear hwx
    cases mb
    case true =>
      have hRf : R = ([], false, 0) := by rw [HR2.out, if_pos (of_decide_eq_true HMB.out.symm)]
      have HRf := Lib.hid hRf
      clear hRf
      go_wp2
      go_ret3
      rw [HRf.out]
      exact ⟨⟨_, rfl, RSl.nil_ _ _ _⟩, hB6⟩
    have hR3 := HR2.out
    rw [if_neg (of_decide_eq_false HMB.out.symm)] at hR3
    obtain ⟨P, hP⟩ : ∃ P, P = (S.drop 8).take 48 := ⟨_, rfl⟩
    rw [← hP] at hR3
    have HR3 := Lib.hid hR3
    have hP48 : P.length = 48 := by rw [hP, List.length_take, List.length_drop, HS64.out]; rfl
    have hrdP : Rd w7 1 (some ⟨b8, o8 + 8, none⟩) 48 (bs P) := by
      refine ⟨by rw [bs_len, hP48], fun _ => ⟨b8, o8 + 8, rfl, fun j u hu => ?_⟩⟩
      have hj : j < 48 := by have := (List.getElem?_eq_some_iff.1 hu).1; rw [bs_len, hP48] at this; exact this
      have h8 : 8 + j < S.length := by rw [HS64.out]; omega
      rw [Nat.add_assoc, HC8.out (8 + j) h8, ← hu, hP]
      unfold bs
      rw [List.getElem?_map, List.getElem?_take, if_pos hj, List.getElem?_drop, List.getElem?_eq_getElem h8]
      rfl
    have HP := Lib.hid hP
    have HP48 := Lib.hid hP48
    clear hP hP48 hR3 HR2 HMB HM HT56 HT0
    have hzz := hB6.size
    go_upto_region 16 with (at_builtin; refine wp_append_bytes rfl _ _ rfl w.heap.size A (48 * i) c acc w7 rfl hown6 (some ⟨b8, o8 + 8, none⟩) 48 (c8 - 8) P rfl hrdP (by omega) hzz ?_; intro A9 c9 w9 hown9 hb9)
    obtain ⟨acc9, hacc9⟩ : ∃ acc9, acc9 = acc ++ P := ⟨_, rfl⟩
    rw [← hacc9] at hown9
    have hl9 := hown9.len
    have hlt9 := hown9.cap
    obtain ⟨n9, hn9⟩ : ∃ n9, n9 = if i = 0 then rd3 acc9 else n := ⟨_, rfl⟩
    have hR4 := HR3.out
    rw [← hacc9, ← hn9] at hR4
    have HR4 := Lib.hid hR4
    have HA9 := Lib.hid hacc9
    have HN9 := Lib.hid hn9
    clear hR4 HR3 hacc9 hn9 hrdP HRD8 HC8 HP hown6
    obtain ⟨g9, o9, rfl, hc9⟩ := hown9.rd.2 (by omega)
    go_upto_if 81 with fail
    go_cut [9] (fun v9 wx => v9 = .int .i64 (n9 : Int) ∧ Below w9.heap.size w9 wx)
    case first =>
      by_cases hi0 : i = 0
      · subst hi0
        have hn9 : n9 = rd3 acc9 := by rw [HN9.out, if_pos rfl]
        obtain ⟨x, y, z, tl, rfl⟩ : ∃ x y z tl, acc9 = x :: y :: z :: tl := three_ acc9 (by omega)
        have q0 : ∀ s : Later w9, s.val.cell? ⟨g9, o9, none⟩ = some (.int .u8 (x.toNat : Int)) := Later.cell (hc9 0 _ rfl)
        have q1 : ∀ s : Later w9, s.val.cell? ⟨g9, o9 + 1, none⟩ = some (.int .u8 (y.toNat : Int)) := Later.cell (hc9 1 _ rfl)
        have q2 : ∀ s : Later w9, s.val.cell? ⟨g9, o9 + 2, none⟩ = some (.int .u8 (z.toNat : Int)) := Later.cell (hc9 2 _ rfl)
        have hor := or3 x y z
        have hx := x.toNat_lt
        have hy := y.toNat_lt
        have hz := z.toNat_lt
        have hn9' : n9 = x.toNat * 65536 + y.toNat * 256 + z.toNat := by rw [hn9]; rfl
        have HOR := Lib.hid hor
        have HNN := Lib.hid hn9'
        clear hor hn9' hn9 hc9
        go_upto_region 17 with fail
        refine wp_seqL [] (by as_aux_lemma => kernel_rfl) (by as_aux_lemma => kernel_rfl) fun w10 hb10 => ?_
        refine seqL_pre 17 (by kernel_rfl) ?_
        simp only [List.take_succ_cons, List.take_zero, List.drop_succ_cons, List.drop_zero]
        repeat (go_big_quiet_step (fail))
        refine wpQuiet_nil ?_
        refine seqL_nil ?_
        go_wp2
        go_meet
        exact ⟨by rw [HOR.out, HNN.out], hb10⟩
      · have u0 : ((i : Int) == 0) = false := by simpa using hi0
        have u1 : decide ((i : Int) = 0) = false := decide_eq_false (by omega)
        have hn9 : n9 = n := by rw [HN9.out, if_neg hi0]
        go_wp2_with fail
        go_meet
        exact ⟨by rw [hn9], Below.refl _ _⟩
    obtain ⟨rfl, hb10⟩ := hcut
    have hz7 := hb7.size
    have hB9 : Below w.heap.size w w9 := hB6.trans hb9
    have hz9 := hB9.size
    have hB10 : Below w.heap.size w wc := hB9.trans (hb10.mono hz9)
    have hown10 := hown9.belowB hb10
    by_cases hbig : 32768 < n9
    · have hRf : R = ([], false, 0) := by rw [HR4.out, if_pos hbig]
      have HRf := Lib.hid hRf
      have z0 : decide (32768 < (n9 : Int)) = true := decide_eq_true (by omega)
      have z1 : decide (32768 < n9) = true := decide_eq_true hbig
      clear hRf hbig
      go_wp2
      go_ret3
      rw [HRf.out]
      exact ⟨⟨_, rfl, RSl.nil_ _ _ _⟩, hB10⟩
    have hRf : R = nextF d l.end_ ring t (ring - l.used - (i + 1)) (i + 1) acc9 n9 := by rw [HR4.out, if_neg hbig, HK2.out]
    have HRf := Lib.hid hRf
    have z0 : decide (32768 < (n9 : Int)) = false := decide_eq_false (by omega)
    have z1 : decide (32768 < n9) = false := decide_eq_false hbig
    have hn9 : n9 ≤ 32768 := by omega
    have hi9 : i + 1 ≤ ring := by omega
    clear hRf hbig
    go_wp2
    go_roundw
    case rel => exact ⟨i + 1, n9, acc9, _, _, rfl, rfl, by go_num, hown10, hB10, hi9, hn9, HRf⟩
    case measure => simp [intOf]; omega
end Go.Proofs.YtnlhjhpikjmoaaaGreatDoor
namespace Go.Proofs.YtnlhjhpikjmoaaaGreatDoor
open Go.RowKit
theorem nextF_fit (d : DskD) (e0 ring t : Nat) (hok : d.Ok) (hk : 3 ≤ d.kept.length) (hr : ring = d.kept.length - 2) (b : List UInt8) (e : Int) : ∀ (k i : Nat) (acc : List UInt8) (n : Nat), acc.length = 48 * i → n ≤ 32768 → (i = 0 ∨ 48 * (i - 1) < 3 + n) → nextF d e0 ring t k i acc n = (b, true, e) → secN b.length ≤ i + k ∧ b.length ≤ 32768 ∧ e = 0
  | 0, i, acc, n, hl, hn, hi, h => by
    rw [nextF] at h
    split at h
    · cases h
    · rename_i hc
      have hb : b = (acc.drop 3).take n := (congrArg Prod.fst h).symm
      have he : e = 0 := (congrArg (fun x => x.2.2) h).symm
      have h0 : ¬ i = 0 := fun e => hc (.inl e)
      have h1 : ¬ acc.length < 3 + n := fun e => hc (.inr e)
      have hbl : b.length = n := by rw [hb, List.length_take, List.length_drop]; omega
      rw [hbl]
      unfold secN
      omega
  | k + 1, i, acc, n, hl, hn, hi, h => by
    rw [nextF] at h
    split at h
    · rename_i hc
      split at h
      · cases h
      rename_i he
      split at h
      · cases h
      rename_i hm
      have h64 : (d.read ((2 + (e0 + i) % ring : Nat) : Int)).1.length = 64 := by
        have hmd := Nat.mod_lt (e0 + i) (show 0 < ring by omega)
        unfold DskD.read at he ⊢
        by_cases hd : d.down = true
        · rw [if_pos hd] at he; exact absurd (by decide) he
        · rw [if_neg hd] at he ⊢
          by_cases hb : ((2 + (e0 + i) % ring : Nat) : Int) < 0 ∨ (d.kept.length : Int) ≤ ((2 + (e0 + i) % ring : Nat) : Int)
          · omega
          · rw [if_neg hb]
            exact DskD.shown_64 hok (by omega)
      have hP : (((d.read ((2 + (e0 + i) % ring : Nat) : Int)).1.drop 8).take 48).length = 48 := by rw [List.length_take, List.length_drop, h64]; rfl
      generalize ((d.read ((2 + (e0 + i) % ring : Nat) : Int)).1.drop 8).take 48 = P at h hP
      generalize hn9 : (if i = 0 then rd3 (acc ++ P) else n) = n9 at h
      split at h
      · cases h
      rename_i hbig
      have := nextF_fit d e0 ring t hok hk hr b e k (i + 1) (acc ++ P) n9 (by rw [List.length_append, hl, hP]; omega) (by omega) (.inr (by
        rcases Nat.eq_zero_or_pos i with h0 | h0
        · omega
        · rw [if_neg (by omega)] at hn9
          have : acc.length < 3 + n := hc.elim (fun e => by omega) id
          omega)) h
      omega
    · rename_i hc
      have hb : b = (acc.drop 3).take n := (congrArg Prod.fst h).symm
      have he : e = 0 := (congrArg (fun x => x.2.2) h).symm
      have h0 : ¬ i = 0 := fun e => hc (.inl e)
      have h1 : ¬ acc.length < 3 + n := fun e => hc (.inr e)
      have hbl : b.length = n := by rw [hb, List.length_take, List.length_drop]; omega
      rw [hbl]
      unfold secN
      omega
theorem nextL_fit {l : LogD} {d : DskD} {t : Nat} (hok : d.Ok) (hk : 3 ≤ d.kept.length) (hu : l.used ≤ d.kept.length - 2) {b : List UInt8} {e : Int} (h : nextL l d t = (b, true, e)) : l.used + secN b.length ≤ d.kept.length - 2 ∧ b.length ≤ 32768 ∧ e = 0 := by
  have := nextF_fit d l.end_ _ t hok hk rfl b e _ 0 [] 0 rfl (by omega) (.inl rfl) h
  omega
def findT (h : HeadD) (l : LogD) : Nat := if h.next ≤ l.first + l.recs.length then h.turn else 0
def findF (d : DskD) (h : HeadD) : Nat → LogD → LogD × Int
  | 0, l => (l, 0)
  | k + 1, l => if findT h l = 0 ∧ h.next ≤ l.first + l.recs.length then (l, 0) else
    if (nextL l d (findT h l)).2.2 ≠ 0 ∨ (nextL l d (findT h l)).2.1 = false then (l, (nextL l d (findT h l)).2.2) else findF d h k (took l (nextL l d (findT h l)).1 (d.kept.length - 2))
def findL (l : LogD) (d : DskD) (h : HeadD) : LogD × Int :=
  if d.kept.length < 3 ∨ d.kept.length - 2 ≤ h.start ∨ h.next < h.first then ({ l with turn := h.turn }, 0) else
  findF d h (d.kept.length - 1) { l with turn := h.turn, first := h.first, end_ := h.start }
theorem secSum_append (a b : List (List UInt8)) : secSum (a ++ b) = secSum a + secSum b := by simp [secSum]
theorem took_sum {l : LogD} {b : List UInt8} {ring : Nat} (h : l.used = secSum l.recs) : (took l b ring).used = secSum (took l b ring).recs := by
  unfold took
  simp only [secSum_append, h]
  simp [secSum]
end Go.Proofs.YtnlhjhpikjmoaaaGreatDoor
namespace Go.Proofs.YtnlhjhpikjmoaaaGreatDoor
open Go.RowKit
theorem LogR.put {fl : Nat → Prop} {w w' : World} {gl gd : Nat} {l : LogD} (h : LogR fl w gl gd l) (hk : Kp (fun b => b ≠ gl) w w') (l' : LogD) (hr : l'.recs = l.recs) (hp : l'.places = l.places) (hok : l'.Ok)
    (hb : ∀ vr vp, Blk w gl 97 (lgCs gd l vr vp) → Blk w' gl 97 (lgCs gd l' vr vp)) : LogR fl w' gl gd l' := by
  obtain ⟨vr, vp, h1, h2, h3, h4, h5, h6, h7, h8, h9, h10⟩ := h
  exact ⟨vr, vp, hb _ _ h1, by rw [hr]; exact h2.kp hk (fun b hb => hb.2.1) (fun b hb e => h4 (by rw [hb, e])), by rw [hp]; exact h3.kp hk (fun _ h => h.elim) (fun b hb e => h5 (by rw [hb, e])), h4, h5, h6, h7, h8, h9, hok⟩
theorem Both.put {f : Nat → Prop} {w w' : World} {gl gd : Nat} {l : LogD} {d : DskD} (h : Both f w gl gd l d) (hk : Kp (fun b => b ≠ gl) w w') (l' : LogD) (hr : l'.recs = l.recs) (hp : l'.places = l.places) (hok : l'.Ok)
    (hb : ∀ vr vp, Blk w gl 97 (lgCs gd l vr vp) → Blk w' gl 97 (lgCs gd l' vr vp)) : Both f w' gl gd l' d := by
  obtain ⟨fl, fd, h1, h2, h3, h4, h5⟩ := h
  have hz := hk.size
  exact ⟨fl, fd, fun x hx => ⟨(h1 x hx).1, Nat.lt_of_lt_of_le (h1 x hx).2 hz⟩, fun x hx => ⟨(h2 x hx).1, Nat.lt_of_lt_of_le (h2 x hx).2 hz⟩, h3, h4.put hk l' hr hp hok hb, h5.kp hk fun b hb e => h3 b hb (e ▸ h4.ftl)⟩
theorem Both.cells {f : Nat → Prop} {w : World} {gl gd : Nat} {l : LogD} {d : DskD} (h : Both f w gl gd l d) : ∃ vr vp, Blk w gl 97 (lgCs gd l vr vp) ∧ f gl ∧ gl < w.heap.size := by
  obtain ⟨fl, fd, h1, h2, h3, h4, h5⟩ := h
  have hg := h4.ftl
  obtain ⟨vr, vp, hb, _⟩ := h4
  exact ⟨vr, vp, hb, (h1 _ hg).1, (h1 _ hg).2⟩
theorem Both.ok {f : Nat → Prop} {w : World} {gl gd : Nat} {l : LogD} {d : DskD} (h : Both f w gl gd l d) : l.Ok ∧ d.Ok ∧ 1 ≤ d.kept.length ∧ d.kept.length ≤ 65536 := by
  obtain ⟨fl, fd, h1, h2, h3, h4, h5⟩ := h
  exact ⟨h4.ok, h5.ok.1, h5.ok.2.1, h5.ok.2.2.1⟩
theorem ring_b {f : Nat → Prop} {w : World} {gl gd : Nat} {l : LogD} {d : DskD} (h : Both f w gl gd l d) : Calls Tryz.prog 70 #[.pointer (some ⟨gl, 0, none⟩)] w fun e w' => e = .returned (.int .i64 ((d.kept.length : Int) - 2)) ∧ w' = w := by
  obtain ⟨fl, fd, h1, h2, h3, h4, h5⟩ := h
  exact ring_any h4 h5
theorem next_b {f : Nat → Prop} {w : World} {gl gd : Nat} {l : LogD} {d : DskD} (h : Both f w gl gd l d) : Calls Tryz.prog 44 #[.pointer (some ⟨gl, 0, none⟩)] w fun e w' => e = .returned (.int .u64 ((l.first + l.recs.length : Nat) : Int)) ∧ Below w.heap.size w w' := by
  obtain ⟨fl, fd, h1, h2, h3, h4, h5⟩ := h
  exact next_any h4
theorem took_b {f : Nat → Prop} {gl gd B : Nat} {l : LogD} {d : DskD} {w w0 : World} (h : Both f w0 gl gd l d) (hb0 : Below w0.heap.size w0 w) (vb : Value) (b : List UInt8) (hb : RB (fun x => w0.heap.size ≤ x) w vb b) (hlen : b.length ≤ 32768) (hring : 3 ≤ d.kept.length) (hfit : l.used + secN b.length ≤ d.kept.length - 2) (hfst : l.first + l.recs.length + 1 < 18446744073709551616) (hn : l.recs.length ≤ 1000000) (hB : B ≤ w0.heap.size) :
    Calls Tryz.prog 79 #[.pointer (some ⟨gl, 0, none⟩), vb] w fun e w' => (∃ x, e = .returned x) ∧ Both (fun x => f x ∨ B ≤ x) w' gl gd (took l b (d.kept.length - 2)) d ∧ Kp (fun x => ¬ f x) w w' := by
  obtain ⟨fl, fd, h1, h2, h3, h4, h5⟩ := h
  have hz := hb0.size
  refine (took_any (h4.below hb0) (h5.below hb0) h3 vb b hb (fun x hx hf => by have := (h1 x hf).2; omega) hlen hring hfit hfst hn).mono ?_
  rintro e w' ⟨hx, hl, hk⟩
  refine ⟨hx, (Both.mk_ hl ((h5.below hb0).kp hk h3) fun x hx _ hl => hl.elim (h3 x hx) fun hl => hl.elim (fun e => by have := (h2 x hx).2; omega) fun e => by have := (h2 x hx).2; omega).mono fun x hx _ => hx.elim (fun hx => hx.elim (fun h => .inl (h1 x h).1) fun h => .inr (h.elim (fun h => by omega) fun h => by omega)) fun hx => .inl (h2 x hx).1, hk.mono fun x hx hf => hx (h1 x hf).1⟩
set_option maxRecDepth 100000 in
set_option maxHeartbeats 6400000 in
theorem find_any {f : Nat → Prop} {gl gd : Nat} {l : LogD} {d : DskD} {w : World} (h : HeadD) (hB : Both f w gl gd l d) (hht : h.turn < 18446744073709551616) (hhn : h.next < 18446744073709551616) (hhs : h.start < 18446744073709551616) (hhf : h.first + 70000 < 18446744073709551616) (hus : l.used = secSum l.recs) (hur : d.kept.length < 3 ∨ l.used ≤ d.kept.length - 2) :
    Calls Tryz.prog 50 #[.pointer (some ⟨gl, 0, none⟩), .agg (hdCs h)] w fun e w' => e = .returned (.int .i64 (findL l d h).2) ∧ Both (fun x => f x ∨ w.heap.size ≤ x) w' gl gd (findL l d h).1 d ∧ Kp (fun x => ¬ f x) w w' := by
  have hB0 := hB.mono (f' := fun x => f x ∧ x < w.heap.size) fun b hb hlt => ⟨hb, hlt⟩
  obtain ⟨R, hR⟩ : ∃ R, R = findL l d h := ⟨_, rfl⟩
  rw [← hR]
  have HRf := Lib.hid hR
  have hok := hB.ok
  obtain ⟨vr, vp, hb, hfg, hgl⟩ := hB0.cells
  have hfg' := hfg.1
  go_enter Tryz.func50, Tryz.ntmps50
  go_upto_region 1 with fail
  refine name_world (fun w1 => Below w.heap.size w w1 ∧ w.heap.size < w1.heap.size ∧ Blk w1 w.heap.size 99 (hdCs h)) ⟨(Below.refl _ _).alloc (Nat.le_refl _) _, by simp, Blk.new _ _ _⟩ ?_
  rintro w1 ⟨hB1, hz1, k1⟩
  have hBo1 := hB0.below hB1
  obtain ⟨gh, hgh⟩ : ∃ gh, gh = w.heap.size := ⟨_, rfl⟩
  have hghl : gh ≠ gl := by omega
  rw [← hgh] at k1
  rw [← hgh]
  have HGH := Lib.hid hgh
  have hg1 := hb.below hB1 hgl
  have fg := fun i => hg1.frozen i
  have c2 : w1.cell? ⟨gl, 2, none⟩ = some (.int .u64 (l.turn : Int)) := hg1.cell 2
  have x0 : w1.cell? ⟨gh, 0, none⟩ = some (.int .u64 (h.turn : Int)) := k1.cell 0
  have hfin : ∀ u, u = .int .u64 (h.turn : Int) → Both (fun x => f x ∧ x < w.heap.size) (w1.setCell ⟨gl, 2, none⟩ u) gl gd { l with turn := h.turn } d ∧ Kp (fun b => b ≠ gl) w1 (w1.setCell ⟨gl, 2, none⟩ u) := fun u hu => by
    subst hu
    have hk : Kp (fun b => b ≠ gl) w1 (w1.setCell ⟨gl, 2, none⟩ (.int .u64 (h.turn : Int))) := (Kp.refl _ _).setCell (fun _ h => h rfl) _
    exact ⟨hBo1.put hk _ rfl rfl ⟨hht, hok.1.first, hok.1.recs, hok.1.places, hok.1.placed, hok.1.end_, hok.1.used⟩ fun vr vp hb => hb.set_ 2 _, hk⟩
  have HFIN := Lib.hid hfin
  clear hfin hgh hb hR
  go_upto_region 2 with fail
  refine name_world (fun w2 => Both (fun x => f x ∧ x < w.heap.size) w2 gl gd { l with turn := h.turn } d ∧ Kp (fun b => b ≠ gl) w1 w2) (HFIN.out _ rfl) ?_
  clear HFIN c2 x0 fg hg1
  rintro w2 ⟨hBo2, hK2⟩
  have k2 := k1.kp hK2 hghl
  have hK12 : Kp (fun x => ¬ f x) w w2 := (Kp.of_below hB1).thenW hK2 fun b _ hb e => hb (e ▸ hfg')
  have HK12 := Lib.hid hK12
  clear hK12 hBo1 k1
  by_cases hk3 : d.kept.length < 3
  · have hRR : R = ({ l with turn := h.turn }, 0) := by rw [HRf.out, findL, if_pos (.inl hk3)]
    have HRR := Lib.hid hRR
    have z1 : decide ((d.kept.length : Int) - 2 < 1) = true := decide_eq_true (by omega)
    have z2 : decide ((d.kept.length : Int) - 2 ≤ 0) = true := decide_eq_true (by omega)
    have HBo := Lib.hid hBo2
    clear hRR k2
    go_wp2_with fail
    refine (ring_b HBo.out).mono ?_
    rintro e w3 ⟨rfl, rfl⟩
    go_wp2
    go_ret
    rw [HRR.out]
    exact ⟨rfl, HBo.out.mono fun b hb _ => .inl hb.1, HK12.out⟩
  obtain ⟨ring, hring⟩ : ∃ ring, ring = d.kept.length - 2 := ⟨_, rfl⟩
  have hri : (d.kept.length : Int) - 2 = (ring : Int) := by omega
  have HRI := Lib.hid hri
  have hr1 : 1 ≤ ring := by omega
  have hr2 : ring ≤ 65534 := by have := hok.2.2.2; omega
  have HH := Lib.hid (And.intro hht (And.intro hhn (And.intro hhs hhf)))
  have z1 : decide ((ring : Int) < 1) = false := decide_eq_false (by omega)
  have z2 : decide ((ring : Int) ≤ 0) = false := decide_eq_false (by omega)
  have z2' : decide (ring = 0) = false := decide_eq_false (by omega)
  have y1 : w2.cell? ⟨gh, 1, none⟩ = some (.int .u64 (h.first : Int)) := k2.cell 1
  have y2 : w2.cell? ⟨gh, 2, none⟩ = some (.int .u64 (h.next : Int)) := k2.cell 2
  have y3 : w2.cell? ⟨gh, 3, none⟩ = some (.int .u64 (h.start : Int)) := k2.cell 3
  have HRG := Lib.hid hring
  clear hri hring hht hhn hhs hhf
  go_upto_region 3 with fail
  refine (ring_b hBo2).mono ?_
  rw [HRI.out]
  rintro e w3 ⟨rfl, rfl⟩
  go_upto_region 3 with fail
  obtain ⟨bad, hbad⟩ : ∃ bad : Bool, bad = decide (ring ≤ h.start ∨ h.next < h.first) := ⟨_, rfl⟩
  have HBAD := Lib.hid hbad
  clear hbad
  go_cut [32] (fun v wx => v = .bool bad ∧ wx = w3)
  case first =>
    by_cases hs : ring ≤ h.start
    · have hm : bad = true := by rw [HBAD.out]; exact decide_eq_true (.inl hs)
      have z3 : decide ((ring : Int) ≤ (h.start : Int)) = true := decide_eq_true (by omega)
      have z4 : decide (ring ≤ h.start) = true := decide_eq_true hs
      clear hs
      go_wp2_with fail
      go_meet
      exact ⟨by rw [hm], rfl⟩
    · have z3 : decide ((ring : Int) ≤ (h.start : Int)) = false := decide_eq_false (by omega)
      have z4 : decide (ring ≤ h.start) = false := decide_eq_false hs
      have hm : bad = decide (h.next < h.first) := by rw [HBAD.out]; simp [hs]
      clear hs
      go_wp2_with fail
      go_meet
      exact ⟨by rw [hm], rfl⟩
  obtain ⟨rfl, hwx⟩ := hcut
  rw [hwx]
  clear hwx
  cases bad
  case true =>
    have hRR : R = ({ l with turn := h.turn }, 0) := by rw [HRf.out, findL, if_pos (.inr (by have := of_decide_eq_true HBAD.out.symm; rw [← HRG.out]; exact this))]
    have HRR := Lib.hid hRR
    have HBo := Lib.hid hBo2
    clear hRR k2 hBo2
    go_wp2
    go_ret
    rw [HRR.out]
    exact ⟨rfl, HBo.out.mono fun b hb _ => .inl hb.1, HK12.out⟩
  have hnb := of_decide_eq_false HBAD.out.symm
  have hs1 : h.start < ring := by omega
  have hR1 : R = findF d h (ring + 1) { l with turn := h.turn, first := h.first, end_ := h.start } := by
    rw [HRf.out, findL, if_neg (by rw [← HRG.out]; omega), show d.kept.length - 1 = ring + 1 by have := HRG.out; omega]
  have HR1 := Lib.hid hR1
  obtain ⟨vr, vp, hg3, _, hgl3⟩ := hBo2.cells
  have fg := fun i => hg3.frozen i
  have c3 : w3.cell? ⟨gl, 3, none⟩ = some (.int .u64 (l.first : Int)) := hg3.cell 3
  have c6 : w3.cell? ⟨gl, 6, none⟩ = some (.int .i64 (l.end_ : Int)) := hg3.cell 6
  have q1 : ∀ s : LaterB w3 (fun b => b = gl), s.val.cell? ⟨gh, 1, none⟩ = some (.int .u64 (h.first : Int)) := LaterB.cell y1 hghl
  have q3 : ∀ s : LaterB w3 (fun b => b = gl), s.val.cell? ⟨gh, 3, none⟩ = some (.int .u64 (h.start : Int)) := LaterB.cell y3 hghl
  have hwps : wrap64 (h.start : Int) = (h.start : Int) := IntWalk.wrap64_in _ (by omega)
  have HWPS := Lib.hid hwps
  clear hR1 HBAD hnb hwps
  go_upto_region 5 with fail
  refine wp_seqB (fun b => b = gl) 9 [9, 12] (by as_aux_lemma => kernel_rfl) (by as_aux_lemma => kernel_rfl) fun w4 hb4 => ?_
  refine seqB_pre 9 (by kernel_rfl) ?_
  simp only [List.take_succ_cons, List.take_zero, List.drop_succ_cons, List.drop_zero]
  repeat (go_big_quiet_step (fail))
  refine wpQuiet_nil ?_
  have hg4 := hg3.below hb4 hgl3
  have fg4 := fun i => hg4.frozen i
  have c34 : w4.cell? ⟨gl, 3, none⟩ = some (.int .u64 (l.first : Int)) := hg4.cell 3
  have c64 : w4.cell? ⟨gl, 6, none⟩ = some (.int .i64 (l.end_ : Int)) := hg4.cell 6
  have hBo4 := hBo2.below hb4
  have hkp : ∀ (w : World) o u, Kp (fun b => ¬ b = gl) w (w.setCell ⟨gl, o, none⟩ u) := fun w o u => (Kp.refl _ _).setCell (fun _ h => h rfl) _
  refine seqB_wild (Kp.of_below hb4) rfl rfl fun K hK => ?_
  unfold Gives
  go_simp
  refine hK _ _ (hkp _ _ _) fun hK5 => ?_
  clear hK
  clear K
  simp only [Act.put, List.setIfInBounds_toArray, List.set_cons_succ, List.set_cons_zero]
  refine seqB_pre 2 (by kernel_rfl) ?_
  simp only [List.take_succ_cons, List.take_zero, List.drop_succ_cons, List.drop_zero]
  repeat (go_big_quiet_step (fail))
  refine wpQuiet_nil ?_
  refine seqB_wild hK5 rfl rfl fun K hK => ?_
  unfold Gives
  go_simp
  refine hK _ _ (hkp _ _ _) fun hK6 => ?_
  clear hK
  clear K
  simp only [Act.put, List.setIfInBounds_toArray, List.set_cons_succ, List.set_cons_zero]
  refine seqB_nil ?_
  have hK37 := hK6
  have hokl : ({ l with turn := h.turn, first := h.first, end_ := h.start } : LogD).Ok := ⟨HH.out.1, by
    have h1 := secSum_ge l.recs
    have h2 := HH.out.2.2.2
    have h3 := hok.1.used
    show h.first + l.recs.length < _
    omega, hok.1.recs, hok.1.places, hok.1.placed, by show h.start < 65536; omega, hok.1.used⟩
  have hBo7 : Both (fun x => f x ∧ x < w.heap.size) ((w4.setCell ⟨gl, 3, none⟩ (.int .u64 (h.first : Int))).setCell ⟨gl, 6, none⟩ (.int .i64 (h.start : Int))) gl gd { l with turn := h.turn, first := h.first, end_ := h.start } d :=
    hBo4.put (((Kp.refl _ _).setCell (fun _ h => h rfl) _).setCell (fun _ h => h rfl) _) _ rfl rfl hokl fun vr vp hb => (hb.set_ 3 _).set_ 6 _
  have hk7 : Blk ((w4.setCell ⟨gl, 3, none⟩ (.int .u64 (h.first : Int))).setCell ⟨gl, 6, none⟩ (.int .i64 (h.start : Int))) gh 99 (hdCs h) := k2.kp hK6 hghl
  have hKz : Kp (fun x => ¬ f x) w ((w4.setCell ⟨gl, 3, none⟩ (.int .u64 (h.first : Int))).setCell ⟨gl, 6, none⟩ (.int .i64 (h.start : Int))) := HK12.out.thenW hK6 fun b _ hb e => hb (e ▸ hfg')
  have HBo7 := Lib.hid hBo7
  have HKz := Lib.hid hKz
  have Hk7 := Lib.hid hk7
  clear hBo7 hKz hk7 hK6 hK5 hK37 c34 c64 fg4 hg4 hBo4 q1 q3 c3 c6 fg hg3 hBo2 hokl y1 y2 y3 k2 HK12
  go_upto_region 6 with fail
  refine name_world (fun w7 => Both (fun x => f x ∧ x < w.heap.size) w7 gl gd { l with turn := h.turn, first := h.first, end_ := h.start } d ∧ Kp (fun x => ¬ f x) w w7 ∧ Blk w7 gh 99 (hdCs h)) ⟨HBo7.out, HKz.out, Hk7.out⟩ ?_
  clear HBo7 HKz Hk7
  rintro w7 ⟨hBo7, hKz, hk7⟩
  have hghz : gh < w7.heap.size := hk7.lt
  have hsz7 : w.heap.size ≤ w7.heap.size := hKz.size
  have hurr : l.used ≤ ring := by rw [HRG.out]; exact hur.elim (fun e => absurd e hk3) id
  have HSTART := Lib.hid (show ∃ (l' : LogD) (k : Nat), Both (fun x => (f x ∧ x < w.heap.size) ∨ w7.heap.size ≤ x) w7 gl gd l' d ∧ Kp (fun x => ¬ f x) w w7 ∧ w7.heap.size ≤ w7.heap.size ∧ Blk w7 gh 99 (hdCs h) ∧ Hid (R = findF d h k l') ∧ ring - l'.used + 1 ≤ k ∧ l'.used ≤ ring ∧ l'.used = secSum l'.recs ∧ l'.first = h.first from ⟨_, ring + 1, hBo7.mono fun b hb _ => .inl hb, hKz, Nat.le_refl _, hk7, HR1, by show ring - l.used + 1 ≤ ring + 1; omega, hurr, hus, rfl⟩)
  clear hBo7 hKz hk7 HR1 HRf hus hur hurr
  go_loopw [] (fun wr => Hid (∃ (l' : LogD) (k : Nat), Both (fun x => (f x ∧ x < w.heap.size) ∨ w7.heap.size ≤ x) wr gl gd l' d ∧ Kp (fun x => ¬ f x) w wr ∧ w7.heap.size ≤ wr.heap.size ∧ Blk wr gh 99 (hdCs h) ∧ Hid (R = findF d h k l') ∧ ring - l'.used + 1 ≤ k ∧ l'.used ≤ ring ∧ l'.used = secSum l'.recs ∧ l'.first = h.first)) (fun wr => ring + 1 - (intOf ((wr.cell? ⟨gl, 7, none⟩).getD undef)).toNat)
  case atStart => exact HSTART
  clear HSTART
  case round =>
    obtain ⟨l', k, hBo, hKw, hwr7, hkh, HR, hk, hul, hsum, hfst⟩ := hrel.out
    have hlen := secSum_ge l'.recs
    have hNx : l'.first + l'.recs.length + 1 < 18446744073709551616 := by have := HH.out.2.2.2; omega
    have HNX := Lib.hid hNx
    obtain ⟨Nx, hNxe⟩ : ∃ Nx, Nx = l'.first + l'.recs.length := ⟨_, rfl⟩
    have hnext := fun {f : Nat → Prop} {w : World} (h : Both f w gl gd l' d) => next_b h
    rw [← hNxe] at hnext
    have HNXE := Lib.hid hNxe
    have q0 : ∀ s : Later wr, s.val.cell? ⟨gh, 0, none⟩ = some (.int .u64 (h.turn : Int)) := Later.cell (hkh.cell 0)
    have q2 : ∀ s : Later wr, s.val.cell? ⟨gh, 2, none⟩ = some (.int .u64 (h.next : Int)) := Later.cell (hkh.cell 2)
    obtain ⟨t, ht⟩ : ∃ t, t = findT h l' := ⟨_, rfl⟩
    have htd : t = if h.next ≤ Nx then h.turn else 0 := by rw [ht, hNxe]; rfl
    have htb : t < 18446744073709551616 := by rw [htd]; split; exact HH.out.1; decide
    have HTD := Lib.hid htd
    have HTF := Lib.hid ht
    have HTB := Lib.hid htb
    clear hNx hNxe ht htd htb
    go_upto_region 7 with fail
    refine wp_seqL [1] (by as_aux_lemma => kernel_rfl) (by as_aux_lemma => kernel_rfl) fun w8 hb8 => ?_
    refine seqL_pre 1 (by kernel_rfl) ?_
    simp only [List.take_succ_cons, List.take_zero, List.drop_succ_cons, List.drop_zero]
    repeat (go_big_quiet_step (fail))
    refine wpQuiet_nil ?_
    refine seqL_wild hb8 rfl rfl fun K hK => ?_
    unfold Gives
    go_simp
    refine (hnext (hBo.below hb8)).mono ?_
    rintro e w9 ⟨rfl, hb9⟩
    refine ⟨_, rfl, hK _ _ (hb9) fun hb9' => ?_⟩
    clear hK
    clear K
    simp only [Act.put, List.setIfInBounds_toArray, List.set_cons_succ, List.set_cons_zero]
    refine seqL_pre 3 (by kernel_rfl) ?_
    simp only [List.take_succ_cons, List.take_zero, List.drop_succ_cons, List.drop_zero]
    repeat (go_big_quiet_step (fail))
    refine wpQuiet_nil ?_
    refine seqL_nil ?_
    have hBo9 := hBo.below hb9'
    have q09 : w9.cell? ⟨gh, 0, none⟩ = some (.int .u64 (h.turn : Int)) := q0 ⟨w9, hb9'⟩
    have hbr9 : Below wr.heap.size wr w9 := hb9'
    clear hb8 hb9
    go_upto_if 48 with fail
    go_cut [6] (fun v wx => v = .int .u64 (t : Int) ∧ Below w9.heap.size w9 wx)
    case first =>
      by_cases hn : h.next ≤ Nx
      · have z3 : decide ((h.next : Int) ≤ (Nx : Int)) = true := decide_eq_true (by omega)
        have htt : t = h.turn := by rw [HTD.out, if_pos hn]
        have z4 : decide (h.next ≤ Nx) = true := decide_eq_true hn
        first | rw [z3] | rw [z4]
        go_wp2
        go_meet
        exact ⟨by rw [htt], Below.refl _ _⟩
      · have z3 : decide ((h.next : Int) ≤ (Nx : Int)) = false := decide_eq_false (by omega)
        have htt : t = 0 := by rw [HTD.out, if_neg hn]
        have z4 : decide (h.next ≤ Nx) = false := decide_eq_false hn
        first | rw [z3] | rw [z4]
        go_wp2
        go_meet
        exact ⟨by rw [htt]; rfl, Below.refl _ _⟩
    obtain ⟨rfl, hbc⟩ := hcut
    rename World => wa
    have hBoc := hBo9.below hbc
    have hwz9 := hb9'.size
    have hbrc : Below wr.heap.size wr wa := hbr9.trans (hbc.mono hwz9)
    have r2 : ∀ s : Later wa, s.val.cell? ⟨gh, 2, none⟩ = some (.int .u64 (h.next : Int)) := Later.cell (q2 ⟨wa, hbrc⟩)
    clear q0 q2 q09
    go_upto_region 9 with fail
    obtain ⟨stop, hstop⟩ : ∃ stop : Bool, stop = decide (t = 0 ∧ h.next ≤ Nx) := ⟨_, rfl⟩
    have HSTOP := Lib.hid hstop
    clear hstop
    go_cut [59] (fun v wx => v = .bool stop ∧ Below wa.heap.size wa wx)
    case first =>
      by_cases ht0 : t = 0
      · have htz : ((t : Int) == 0) = true := by simpa using ht0
        have hs : stop = decide (h.next ≤ Nx) := by rw [HSTOP.out]; simp [ht0]
        have htv : (Value.int .u64 (t : Int)) = .int .u64 0 := by rw [ht0]; rfl
        refine wp_seqL [4] (by as_aux_lemma => kernel_rfl) (by as_aux_lemma => kernel_rfl) fun w10 hb10 => ?_
        refine seqL_pre 4 (by kernel_rfl) ?_
        simp only [List.take_succ_cons, List.take_zero, List.drop_succ_cons, List.drop_zero]
        repeat (go_big_quiet_step (fail))
        refine wpQuiet_nil ?_
        refine seqL_wild hb10 rfl rfl fun K hK => ?_
        unfold Gives
        go_simp
        refine (hnext (hBoc.below hb10)).mono ?_
        rintro e w11 ⟨rfl, hb11⟩
        refine ⟨_, rfl, hK _ _ (hb11) fun hb12 => ?_⟩
        clear hK
        clear K
        simp only [Act.put, List.setIfInBounds_toArray, List.set_cons_succ, List.set_cons_zero]
        refine seqL_pre 4 (by kernel_rfl) ?_
        simp only [List.take_succ_cons, List.take_zero, List.drop_succ_cons, List.drop_zero]
        repeat (go_big_quiet_step (fail))
        refine wpQuiet_nil ?_
        refine seqL_nil ?_
        go_wp2
        go_meet
        exact ⟨by rw [hs], hb12⟩
      · have htz : ((t : Int) == 0) = false := by simpa using ht0
        have htz' : decide ((t : Int) = 0) = false := decide_eq_false (by omega)
        have hs : stop = false := by rw [HSTOP.out]; exact decide_eq_false fun h => ht0 h.1
        refine wp_seqL [4] (by as_aux_lemma => kernel_rfl) (by as_aux_lemma => kernel_rfl) fun w10 hb10 => ?_
        refine seqL_pre 4 (by kernel_rfl) ?_
        simp only [List.take_succ_cons, List.take_zero, List.drop_succ_cons, List.drop_zero]
        repeat (go_big_quiet_step (fail))
        refine wpQuiet_nil ?_
        refine seqL_skip rfl ?_
        simp only [Act.put, List.setIfInBounds_toArray, List.set_cons_succ, List.set_cons_zero]
        refine seqL_pre 4 (by kernel_rfl) ?_
        simp only [List.take_succ_cons, List.take_zero, List.drop_succ_cons, List.drop_zero]
        repeat (go_big_quiet_step (fail))
        refine wpQuiet_nil ?_
        refine seqL_nil ?_
        go_wp2
        go_meet
        exact ⟨by rw [hs], hb10⟩
    obtain ⟨rfl, hbd⟩ := hcut
    have hBod := hBoc.below hbd
    have hwzc := hbrc.size
    have hbrd : Below wr.heap.size wr wc := hbrc.trans (hbd.mono hwzc)
    obtain ⟨k', rfl⟩ : ∃ k', k = k' + 1 := ⟨k - 1, by omega⟩
    have hR2 := HR.out
    rw [findF, ← HTF.out, ← HNXE.out] at hR2
    cases stop
    case true =>
      rw [if_pos (of_decide_eq_true HSTOP.out.symm)] at hR2
      have HR2 := Lib.hid hR2
      clear hR2 HR
      have HKf := Lib.hid (hKw.trans (.of_below hbrd))
      have HBof := Lib.hid hBod
      clear hBod hBoc hBo9 hBo hKw
      go_wp2
      go_ret
      rw [HR2.out]
      exact ⟨rfl, HBof.out.mono fun b hb _ => hb.elim (fun h => .inl h.1) fun h => .inr (by omega), HKf.out⟩
    rw [if_neg (of_decide_eq_false HSTOP.out.symm)] at hR2
    have hBok := hBod.ok
    have hn3 : 3 ≤ d.kept.length := by omega
    have hLN := lnext_any t HTB.out hBod hn3
    obtain ⟨q, hq⟩ : ∃ q, q = nextL l' d t := ⟨_, rfl⟩
    have hfit : ∀ b e, q = (b, true, e) → l'.used + secN b.length ≤ d.kept.length - 2 ∧ b.length ≤ 32768 ∧ e = 0 := fun b e he => nextL_fit hok.2.1 hn3 (by rw [← HRG.out]; exact hul) (hq ▸ he)
    rw [← hq] at hLN hR2
    have HFIT := Lib.hid hfit
    clear hq hfit
    obtain ⟨b, is, E⟩ := q
    simp only at hLN hR2
    have HLN := Lib.hid hLN
    have HR2 := Lib.hid hR2
    clear hLN hR2 HR HSTOP
    go_wp2_with fail
    refine HLN.out.mono ?_
    rintro e w20 ⟨⟨v, rfl, hv⟩, hb20⟩
    by_cases hE : E = 0
    case neg =>
      have hR3 := HR2.out
      rw [if_pos (.inl hE)] at hR3
      have HR3 := Lib.hid hR3
      have z3 : (E == 0) = false := by simpa using hE
      have z4 : decide (E = 0) = false := decide_eq_false hE
      have z5 : (E != 0) = true := by simpa using hE
      have z6 : decide (¬ E = 0) = true := by simpa using hE
      have HKf := Lib.hid ((hKw.trans (.of_below hbrd)).trans (.of_below hb20))
      have HBof := Lib.hid (hBod.below hb20)
      have hsz8 := hbrd.size
      clear hR3 hBod hBoc hBo9 hBo hKw hE
      go_wp2
      go_ret
      rw [HR3.out]
      exact ⟨rfl, HBof.out.mono fun b hb _ => hb.elim (fun h => .inl h.1) fun h => .inr (by omega), HKf.out⟩
    subst hE
    cases is
    case false =>
      have hR3 := HR2.out
      rw [if_pos (.inr rfl)] at hR3
      have HR3 := Lib.hid hR3
      have HKf := Lib.hid ((hKw.trans (.of_below hbrd)).trans (.of_below hb20))
      have HBof := Lib.hid (hBod.below hb20)
      have hsz8 := hbrd.size
      clear hR3 hBod hBoc hBo9 hBo hKw
      go_wp2
      go_ret
      rw [HR3.out]
      exact ⟨rfl, HBof.out.mono fun b hb _ => hb.elim (fun h => .inl h.1) fun h => .inr (by omega), HKf.out⟩
    have hR3 := HR2.out
    rw [if_neg (by simp)] at hR3
    have HR3 := Lib.hid hR3
    have hfit := HFIT.out b 0 rfl
    have hwz20 := hbrd.size
    have hTK := took_b (B := w7.heap.size) hBod hb20 v b hv hfit.2.1 hn3 hfit.1 HNX.out (by omega) (by omega)
    have HTK := Lib.hid hTK
    have HFT := Lib.hid hfit
    clear hR3 HR2 HFIT hTK hfit
    go_wp2_with fail
    refine HTK.out.mono ?_
    rintro e w21 ⟨⟨x21, rfl⟩, hBo21, hK21⟩
    have hK20 : Kp (fun x => ¬ f x) w w20 := (hKw.trans (.of_below hbrd)).trans (.of_below hb20)
    have hKw21 : Kp (fun x => ¬ f x) w w21 := hK20.thenW hK21 fun b hb hn e => e.elim (fun e => hn e.1) fun e => by omega
    have hz20 := hb20.size
    have hz21 := hK21.size
    have hgh7 : gh = w.heap.size := HGH.out
    have hkh21 : Blk w21 gh 99 (hdCs h) := ((hkh.below hbrd (by omega)).below hb20 (by omega)).kp hK21 fun e => e.elim (fun e => by omega) fun e => by omega
    have hsm := took_sum (b := b) (ring := d.kept.length - 2) hsum
    have hus21 : (took l' b (d.kept.length - 2)).used = l'.used + secN b.length := rfl
    have hsp := secN_pos b.length
    have hfit := HFT.out
    have hfin : ∃ (l' : LogD) (k : Nat), Both (fun x => (f x ∧ x < w.heap.size) ∨ w7.heap.size ≤ x) w21 gl gd l' d ∧ Kp (fun x => ¬ f x) w w21 ∧ w7.heap.size ≤ w21.heap.size ∧ Blk w21 gh 99 (hdCs h) ∧ Hid (R = findF d h k l') ∧ ring - l'.used + 1 ≤ k ∧ l'.used ≤ ring ∧ l'.used = secSum l'.recs ∧ l'.first = h.first :=
      ⟨took l' b (d.kept.length - 2), k', hBo21.mono fun b hb _ => hb.elim id .inr, hKw21, by omega, hkh21, HR3, by rw [hus21]; have := hfit.1; have := HRG.out; omega, by rw [hus21, HRG.out]; exact hfit.1, hsm, hfst⟩
    have hms : ∀ (ww : World) l, Both (fun x => (f x ∧ x < w.heap.size) ∨ w7.heap.size ≤ x) ww gl gd l d → (ww.cell? ⟨gl, 7, none⟩) = some (.int .i64 (l.used : Int)) := fun ww l hb => by
      obtain ⟨vr, vp, hb, _⟩ := hb.cells
      exact hb.cell 7
    have hm1 := hms _ _ hBo
    have hm2 := hms _ _ (hBo21.mono fun b hb _ => hb.elim id .inr)
    have hdec : ring + 1 - (intOf ((w21.cell? ⟨gl, 7, none⟩).getD undef)).toNat < ring + 1 - (intOf ((wr.cell? ⟨gl, 7, none⟩).getD undef)).toNat := by
      rw [hm1, hm2]
      simp only [Option.getD_some, intOf, hus21, Int.toNat_natCast]
      have := hfit.1
      omega
    have HFIN := Lib.hid hfin
    have HDEC := Lib.hid hdec
    clear hgh7 hfin hdec hm1 hm2 hms hkh21 hKw21 hBo21 hK21 hK20 hBod hBoc hBo9 hBo hKw HTK hus21 hsm hfit
    go_wp2
    go_roundw
    case rel => exact HFIN
    case measure => exact HDEC.out
end Go.Proofs.YtnlhjhpikjmoaaaGreatDoor
