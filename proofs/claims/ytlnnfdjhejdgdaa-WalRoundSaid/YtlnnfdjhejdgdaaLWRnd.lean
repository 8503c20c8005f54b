/- armoirelaw06.WalRound: the walk. -/
import Derived.Test.YtlnnfdjhejdgdaaW35
import Derived.Test.YtlnnfdjhejdgdaaW36
import Derived.Deep.DeepCutAuto
import Derived.Lib.MinMax
namespace Go.Proofs.Ytlnnfdjhejdgdaa
open Go.RowKit

theorem bytes_rb2 {ok ok2 : Nat → Prop} (u v : Value) (l p : List UInt8) (w : World) (h1 : RB ok w u l) (h2 : RB ok2 w v p) :
    Calls Try.prog 15 #[u, v] w fun e w' => e = .returned (.bool (l == p)) ∧ w' = w := by
  obtain ⟨A, c, rfl, _, _, r1, _⟩ := h1.open_
  obtain ⟨A2, c2, rfl, _, _, r2, _⟩ := h2.open_
  exact (bytes_any A A2 _ c _ c2 l p w r1 r2).mono fun e w' ⟨he, hw⟩ => ⟨he, hw.symm⟩
theorem make_any (n : Nat) (hn : n ≤ 1000000) (w : World) : (Instr.makeSlice 33 (.int .i64 (n : Int)) (.int .i64 (n : Int))).run Try.prog w = .ok (.slice (some ⟨w.heap.size, 0, none⟩) n n) (w.alloc (.cells (bs (List.replicate n 0)).toArray 5)) := by
  obtain ⟨i, hi, hz, hs, hb⟩ := info_parts Try.infoU8z
  have hm := run_make (P := Try.prog) w 33 5 i _ Try.underlying33 hi hz .i64 .i64 (n : Int) (n : Int) (by omega) (Int.le_refl _) (by rw [hb]; omega) (by omega)
  rw [hm, hs, ← made_bytes]
  rfl
def filB (n m k : Nat) : List UInt8 := (List.range m).map fun j => if j < k then UInt8.ofNat (n + j) else 0
theorem filB_len (n m k : Nat) : (filB n m k).length = m := by simp [filB]
theorem filB_zero (n m : Nat) : filB n m 0 = List.replicate m 0 := by
  apply List.ext_getElem
  · simp [filB]
  · intro i h1 h2
    simp [filB]
theorem filB_set (n m k : Nat) (h : k < m) : filB n m (k + 1) = (filB n m k).set k (UInt8.ofNat (n + k)) := by
  apply List.ext_getElem
  · simp [filB]
  · intro i h1 h2
    rw [List.getElem_set]
    simp only [filB, List.getElem_map, List.getElem_range]
    by_cases e : k = i
    · subst e
      simp
    · rw [if_neg e]
      by_cases hk : i < k
      · rw [if_pos hk, if_pos (by omega)]
      · rw [if_neg hk, if_neg (by omega)]
theorem uwrap_mod (k m : Int) (h0 : 0 < m) (h1 : m ≤ 1000) : ∃ j : Nat, (j : Int) < m ∧ wrap64 ((IntKind.u64.wrap k).tmod m) = (j : Int) := by
  have hw : 0 ≤ IntKind.u64.wrap k := by rw [IntKind.wrap_u64]; omega
  rw [Int.tmod_eq_emod_of_nonneg hw]
  generalize IntKind.u64.wrap k = x at hw
  have a1 := Int.emod_nonneg x (show m ≠ 0 by omega)
  have a2 := Int.emod_lt_of_pos x h0
  exact ⟨(x % m).toNat, by omega, by rw [IntWalk.wrap64_in _ (by omega)]; omega⟩
theorem keep_val (k : Int) : ∃ K : Nat, 1 ≤ K ∧ K ≤ 5 ∧ wrap64 (1 + wrap64 ((IntKind.u64.wrap k).tmod 5)) = (K : Int) := by
  obtain ⟨j, hj, he⟩ := uwrap_mod k 5 (by omega) (by omega)
  refine ⟨1 + j, by omega, by omega, ?_⟩
  rw [he, IntWalk.wrap64_in _ (by omega)]
  omega
theorem LogAt.le {B : Nat} {w : World} {gl gd n : Nat} {recs : List (List UInt8)} {first t t' x x' : Nat} (h : LogAt B w gl gd n recs first t x) (ht : t ≤ t') (hx : x ≤ x') : LogAt B w gl gd n recs first t' x' := by
  obtain ⟨l, d, h1, h2⟩ := h
  exact ⟨l, d, h1, ⟨h2.good, h2.end_, h2.recs, h2.first, Nat.le_trans h2.turn ht, Nat.le_trans h2.wait hx⟩⟩
theorem secSum_le (c : Nat) : ∀ rs : List (List UInt8), (∀ r ∈ rs, r.length ≤ c) → secSum rs ≤ secN c * rs.length
  | [], _ => Nat.le_refl _
  | r :: rs, h => by
    have h1 := secSum_le c rs fun x hx => h x (List.mem_cons_of_mem _ hx)
    have h2 : secN r.length ≤ secN c := by have := h r (by simp); unfold secN; omega
    have h3 : secSum (r :: rs) = secN r.length + secSum rs := by simp [secSum]
    rw [h3, List.length_cons, Nat.mul_succ]
    omega
theorem drop_last {α : Type} (l : List α) (b : α) (j : Nat) (h : j ≤ l.length) (hj : ((l ++ [b]).drop j).length - 1 < ((l ++ [b]).drop j).length) : ((l ++ [b]).drop j)[((l ++ [b]).drop j).length - 1] = b := by
  rw [List.getElem_drop]
  have : j + (((l ++ [b]).drop j).length - 1) = l.length := by simp; omega
  simp only [this]
  simp
set_option maxRecDepth 100000 in
set_option maxHeartbeats 6400000 in
theorem lawWalRound (v : Value) (sizes : List Int) (k : Int) (w : World) (h : RSl rInt (fun _ => True) w v sizes) : Calls Try.prog 3 #[v, .int .i64 k] w fun e w' => e = .returned (.bool true) ∧ Below w.heap.size w w' := by
  obtain ⟨A, c, rfl, hc, hsl⟩ := h.form
  go_enter Try.func3, Try.ntmps3
  go_wp2_with fail
  refine (dNew_any 200 (by omega) (by omega) w).mono ?_
  rintro e w1 ⟨⟨gd, rfl, hgd, hD1⟩, hb1⟩
  have HOP := Lib.hid (open_op (n := 200) (by omega) hD1 hb1.size)
  clear hD1
  go_wp2_with fail
  refine HOP.out.mono ?_
  rintro e w2 ⟨⟨gl, rfl, hL2⟩, hK2⟩
  have hb2 : Below w.heap.size w w2 := hb1.trans (hK2.below hb1.size fun x hx h => by omega)
  clear HOP hK2
  go_wp2_with fail
  refine (awake_any w2).mono ?_
  rintro e w3 ⟨rfl, hb3⟩
  have hL3 := hL2.below hb3
  have hB3 := hb2.trans (hb3.mono hb2.size)
  clear hL2
  go_upto_region 7 with fail
  obtain ⟨K, hK1, hK5, hKe⟩ := keep_val k
  rw [hKe]
  clear hKe
  go_wp2
  go_loopw [9, 10] (fun nn j wr => ∃ (i : Nat) (recs : List (List UInt8)) (first : Nat), i ≤ 120 ∧ nn = .int .u64 (i : Int) ∧ j = .int .i64 (i : Int) ∧ LogAt w.heap.size wr gl gd 200 recs first (1 + i) (i * 9) ∧ Below w.heap.size w wr ∧ first + recs.length = i ∧ recs.length = min i K ∧ (∀ r ∈ recs, r.length ≤ 399)) (fun _ j _ => 200 - (intOf j).toNat)
  case atStart => exact ⟨0, [], 0, by omega, rfl, rfl, hL3, hB3, rfl, by simp, (fun r hr => by cases hr)⟩
  clear hL3
  case round =>
    obtain ⟨i, recs, first, hi, rfl, rfl, hL, hB, hfr, hrl, hr4⟩ := hrel
    obtain ⟨go, hgo⟩ : ∃ go : Bool, go = decide (i < sizes.length ∧ i < 120) := ⟨_, rfl⟩
    have HGO := Lib.hid hgo
    have HFR := Lib.hid hfr
    have HRL := Lib.hid hrl
    clear hgo hfr hrl
    go_upto_region 8 with fail
    go_cut [45] (fun v wx => v = .bool go ∧ wx = wr)
    case first =>
      by_cases h1 : i < sizes.length
      · have z1 : decide ((i : Int) < (sizes.length : Int)) = true := decide_eq_true (by omega)
        have z2 : decide (i < sizes.length) = true := decide_eq_true h1
        have hg : go = decide ((i : Int) < 120) := by rw [HGO.out]; exact decide_eq_decide.2 (by omega)
        clear h1
        go_wp2
        go_meet
        exact ⟨by first | (rw [hg]; done) | (rw [hg]; congr 1; exact decide_eq_decide.2 (by omega)), rfl⟩
      · have z1 : decide ((i : Int) < (sizes.length : Int)) = false := decide_eq_false (by omega)
        have z2 : decide (i < sizes.length) = false := decide_eq_false h1
        have hg : go = false := by rw [HGO.out]; exact decide_eq_false (by omega)
        clear h1
        go_wp2
        go_meet
        exact ⟨by rw [hg], rfl⟩
    obtain ⟨rfl, hwx⟩ := hcut
    rw [hwx]
    clear hwx
    cases go
    case false =>
      go_wp2
      go_ret
      exact ⟨rfl, hB⟩
    have hgo := of_decide_eq_true HGO.out.symm
    have hi1 : i < sizes.length := hgo.1
    have hi2 : i < 120 := hgo.2
    obtain ⟨b5, off5, c5', cs5, hv5, _, ⟨hcs5, hI5⟩, hcell5⟩ := (RSl.below h hB).at_ hi1
    simp only [Value.slice.injEq, true_and] at hv5
    obtain ⟨rfl, rfl⟩ := hv5
    have q5 : wr.cell? ⟨b5, off5 + i * 1, none⟩ = some (.int .i64 sizes[i]) := hcell5 0 _ (by subst hcs5; rfl)
    have q6 : wr.cell? ⟨b5, off5 + i, none⟩ = some (.int .i64 sizes[i]) := by simpa using q5
    obtain ⟨x, hx⟩ : ∃ x, x = sizes[i] := ⟨_, rfl⟩
    rw [← hx] at q5 q6
    obtain ⟨m, hm4, hme⟩ := uwrap_mod x 400 (by omega) (by omega)
    have hM := make_any m (by omega)
    have hgw := hL.lt
    clear hx hcell5 hI5
    go_upto_region 10 with fail
    refine wp_region_split 7 ?_
    simp only [List.take_succ_cons, List.take_zero, List.drop_succ_cons, List.drop_zero]
    go_wp2
    rw [hme]
    show wpList _ _ _ _ _ _
    clear hme q5 q6
    go_upto_region 11 with fail
    refine name_world (fun w5 => Below wr.heap.size wr w5 ∧ Blk w5 wr.heap.size 5 (bs (filB i m 0)).toArray) ⟨(Below.refl _ _).alloc (Nat.le_refl _) _, by rw [filB_zero]; exact Blk.new _ _ _⟩ ?_
    rintro w5 ⟨hb5, k5⟩
    obtain ⟨bb, hbb⟩ : ∃ bb, bb = wr.heap.size := ⟨_, rfl⟩
    rw [← hbb] at k5 ⊢
    have HBB := Lib.hid hbb
    clear hbb hM
    obtain ⟨wo, rfl⟩ : ∃ wo, wo = wr := ⟨_, rfl⟩
    go_upto_region 12 with fail
    go_loopw [58] (fun kk wx => ∃ q : Nat, q ≤ m ∧ kk = .int .i64 (q : Int) ∧ Blk wx bb 5 (bs (filB i m q)).toArray ∧ Below wo.heap.size wo wx) (fun kk _ => m - (intOf kk).toNat)
    case atStart => exact ⟨0, Nat.zero_le _, rfl, k5, hb5⟩
    case round =>
      obtain ⟨q, hq, rfl, kq, hbq⟩ := hrel
      by_cases hqm : q < m
      · have z3 : decide ((q : Int) < (m : Int)) = true := decide_eq_true (by omega)
        have z4 : decide (q < m) = true := decide_eq_true hqm
        have hfl := filB_len i m q
        have fq := fun i => kq.frozen i
        have cq : wr.cell? ⟨bb, q, none⟩ = some (.int .u8 (((filB i m q)[q]'(by rw [hfl]; exact hqm)).toNat : Int)) := (kq.cell q).trans (by rw [List.getElem?_toArray, bs, List.getElem?_map, List.getElem?_eq_getElem (by rw [hfl]; exact hqm)]; rfl)
        have cq2 : wr.cell? ⟨bb, q * 1, none⟩ = some (.int .u8 (((filB i m q)[q]'(by rw [hfl]; exact hqm)).toNat : Int)) := by simpa using cq
        have hub : ((UInt8.ofNat (i + q)).toNat : Int) = ((i : Int) + (q : Int)) % 256 := by rw [UInt8.toNat_ofNat', Int.natCast_emod, Int.natCast_add]; rfl
        have hst : ∀ u, u = .int .u8 (((i : Int) + (q : Int)) % 256) → Blk (wr.setCell ⟨bb, q, none⟩ u) bb 5 (bs (filB i m (q + 1))).toArray ∧ Below wo.heap.size wo (wr.setCell ⟨bb, q, none⟩ u) := fun u hu => by
          rw [filB_set i m q hqm, bs_set, hub, ← hu]
          exact ⟨by simpa using kq.set_ q u, hbq.setCell (p := ⟨bb, q, none⟩) (by rw [← HBB.out]; exact Nat.le_refl _) _⟩
        have HST := Lib.hid hst
        have HUB := Lib.hid hub
        clear hst hub kq
        go_wp2
        exact ⟨⟨q + 1, by omega, by go_num, (HST.out _ rfl).1, (HST.out _ rfl).2⟩, by simp [intOf]; omega⟩
      obtain rfl : q = m := by omega
      have z3 : decide ((q : Int) < (q : Int)) = false := decide_eq_false (by omega)
      obtain ⟨b, hb⟩ : ∃ b, b = filB i q q := ⟨_, rfl⟩
      have hbl : b.length = q := by rw [hb, filB_len]
      rw [← hb] at kq
      have hrb : ∀ (ok : Nat → Prop) (w' : World), ok bb → Blk w' bb 5 (bs b).toArray → RB ok w' (.slice (some ⟨bb, 0, none⟩) q q) b := fun ok w' hok hk => RB.mk_ ⟨by rw [bs_len, hbl]; simp, fun _ => ⟨bb, 0, rfl, fun j u hu => by rw [Nat.zero_add, hk.cell j, List.getElem?_toArray]; exact hu⟩⟩ (Nat.le_refl _) (by omega) (fun _ a ha => by rw [← Option.some.inj ha]; exact hok)
      have hsm := secSum_le 399 recs hr4
      have hs9 : secN 399 = 9 := rfl
      have hsb : secN b.length ≤ 9 := by rw [hbl]; unfold secN; omega
      have hrl := HRL.out
      have hfr := HFR.out
      have HAP := Lib.hid (append_opF (by omega) (hL.free.below hbq) (.slice (some ⟨bb, 0, none⟩) q q) b (hrb _ wr (fun h => by have := HBB.out; omega) kq) (by omega) (by rw [hs9] at hsm; omega) (by omega) (by omega))
      have HRBV := Lib.hid hrb
      have HSB := Lib.hid hsb
      have HBL := Lib.hid hbl
      have HBS := Lib.hid hb
      clear hsm hs9 hsb hrl hfr hrb hb hbl k5
      go_wp2_with fail
      refine HAP.out.mono ?_
      rintro e w6 ⟨rfl, hL6, hK6⟩
      have hzq := hbq.size
      have hzo := hB.size
      have k6 := kq.kp hK6 (fun h => by have := HBB.out; omega)
      have hB6 : Below w.heap.size w w6 := (hB.trans (hbq.mono hzo)).trans (hK6.below (by omega) fun y hy h => by omega)
      have hlt : bb < wr.heap.size := kq.lt
      clear HAP kq hK6 hL
      go_upto_region 19 with fail
      have hkn : K - 0 = K := rfl
      go_cut [88] (fun v wx => v = .bool false ∧ Hid (∃ recs' first', LogAt w.heap.size wx gl gd 200 recs' first' (1 + (i + 1)) ((i + 1) * 9) ∧ Below w.heap.size w wx ∧ Blk wx bb 5 (bs b).toArray ∧ first' + recs'.length = i + 1 ∧ recs'.length = min (i + 1) K ∧ (∀ r ∈ recs', r.length ≤ 399) ∧ ∀ h : recs'.length - 1 < recs'.length, recs'[recs'.length - 1] = b))
      case first =>
        have hrl := HRL.out
        have hfr := HFR.out
        have hall : ∀ r ∈ recs ++ [b], r.length ≤ 399 := fun r hr => (List.mem_append.1 hr).elim (hr4 r) fun h => by rw [List.mem_singleton.1 h, HBL.out]; omega
        by_cases hgt : K < i + 1
        · have z5 : decide ((K : Int) < (i : Int) + 1) = true := decide_eq_true (by omega)
          have z6 : decide (K < i + 1) = true := decide_eq_true hgt
          have z7 : (K : Int) ≤ (i : Int) + 1 := by omega
          have z8 : (i : Int) + 1 - (K : Int) ≤ 200 := by omega
          have hcut := cut_opF (by omega) hL6 (i + 1 - K) (by omega) (by rw [List.length_append]; simp; omega) (by omega) (by omega) (by have := HSB.out; omega)
          rw [show ((i + 1 - K : Nat) : Int) = (i : Int) + 1 - (K : Int) by omega] at hcut
          have HC := Lib.hid hcut
          have hdl : i + 1 - K - first = 1 := by omega
          have HDL := Lib.hid hdl
          clear hcut hrl hfr hdl hgt
          go_wp2_with fail
          refine HC.out.mono ?_
          rintro e w7 ⟨rfl, hL7, hK7⟩
          have hB7 : Below w.heap.size w w7 := hB6.trans (hK7.below hB6.size fun y hy h => by omega)
          rw [HDL.out] at hL7
          have k7 := k6.kp hK7 (fun h => by have := HBB.out; omega)
          have hL7 := hL7.at (B := w.heap.size) (fun x hx => by have := hB6.size; omega)
          go_wp2
          go_meet
          exact ⟨rfl, Lib.hid ⟨_, _, hL7.le (by omega) (by have := HSB.out; omega), hB7, k7, by rw [List.length_drop, List.length_append]; simp; have := HRL.out; have := HFR.out; have := HDL.out; omega, by rw [List.length_drop, List.length_append]; simp; have := HRL.out; have := HFR.out; have := HDL.out; omega, fun r hr => hall r (List.mem_of_mem_drop hr), fun hh => drop_last recs b 1 (by have := HRL.out; have := HFR.out; have := HDL.out; omega) hh⟩⟩
        · have z5 : decide ((K : Int) < (i : Int) + 1) = false := decide_eq_false (by omega)
          have z6 : decide (K < i + 1) = false := decide_eq_false hgt
          have z9 : decide (K ≤ i) = false := decide_eq_false (by omega)
          go_wp2
          go_meet
          exact ⟨rfl, Lib.hid ⟨recs ++ [b], first, (hL6.at (B := w.heap.size) (fun x hx => by omega)).le (by omega) (by have := HSB.out; omega), hB6, k6, by rw [List.length_append]; simp; omega, by rw [List.length_append]; simp; omega, hall, fun hh => by simp⟩⟩
      obtain ⟨rfl, hH⟩ := hcut
      obtain ⟨recs', first', hLc, hBc, kc, hfr, hrl, hr4', hlast⟩ := hH.out
      clear hH hL6 hB6 k6 hkn
      go_upto_region 21 with fail
      have HRC := Lib.hid (records_op hLc)
      go_wp2_with fail
      refine HRC.out.mono ?_
      rintro e w8 ⟨⟨vr, rfl, hR8⟩, hb8⟩
      clear HRC
      have hL8 := hLc.below hb8
      have hB8 := hBc.trans (hb8.mono hBc.size)
      have k8 := kc.below hb8 kc.lt
      obtain ⟨A8, c8, rfl, _, hc8⟩ := hR8.form
      obtain ⟨R, hRe⟩ : ∃ R, R = recs'.length := ⟨_, rfl⟩
      have hR0 : R - 1 < recs'.length := by omega
      obtain ⟨b9, off9, c9, cs9, hv9, _, ⟨v9, rfl, hr9⟩, hcell9⟩ := hR8.at_ hR0
      have hlb : recs'[R - 1] = b := by subst hRe; exact hlast hR0
      rw [hlb] at hr9
      obtain ⟨A9, c9', rfl, _, _⟩ := hr9.form
      rw [HBL.out] at hcell9
      simp only [Value.slice.injEq, true_and] at hv9
      obtain ⟨rfl, rfl⟩ := hv9
      have hnx := next_op hL8
      rw [hfr, show ((i + 1 : Nat) : Int) = (i : Int) + 1 by omega] at hnx
      have HN := Lib.hid hnx
      clear hnx
      rw [← hRe] at hrl
      rw [← hRe]
      have HRE := Lib.hid hRe
      have HLS := Lib.hid hlast
      clear hRe hlast hlb hR0
      have hmin : min ((i : Int) + 1) (K : Int) = (R : Int) := by omega
      have q0 : w8.cell? ⟨b9, off9 + (R - 1) * 1, none⟩ = some (.slice A9 q c9') := hcell9 0 _ rfl
      have q1 : w8.cell? ⟨b9, off9 + (R - 1), none⟩ = some (.slice A9 q c9') := by simpa using q0
      have hRR : 1 ≤ R ∧ R ≤ 5 := by omega
      have HRR := Lib.hid hrl
      have z1 : decide ((R : Int) = (R : Int)) = true := decide_eq_true rfl
      clear hrl
      rw [HBL.out] at hr9
      have HB9 := Lib.hid (fun (w' : World) (hb : Below w8.heap.size w8 w') => bytes_rb2 (.slice A9 q c9') (.slice (some ⟨bb, 0, none⟩) q q) b b w' (hr9.kp (.of_below hb)) (HRBV.out (fun _ => True) w' trivial (k8.below hb k8.lt)))
      have hbb : (b == b) = true := by simp
      rw [hbb] at HB9
      clear hbb hr9
      go_upto_region 22 with fail
      go_cut [115] (fun v wx => v = .bool false ∧ Below w8.heap.size w8 wx)
      case first =>
        go_wp2_with fail
        refine HN.out.mono ?_
        rintro e w9 ⟨rfl, hb9⟩
        have q2 : w9.cell? ⟨b9, off9 + (R - 1) * 1, none⟩ = some (.slice A9 q c9') := (hb9.cell (World.block_lt_of_cell? _ _ q0)).trans q0
        have q3 : w9.cell? ⟨b9, off9 + (R - 1), none⟩ = some (.slice A9 q c9') := (hb9.cell (World.block_lt_of_cell? _ _ q1)).trans q1
        go_wp2_with fail
        refine (HB9.out _ hb9).mono ?_
        rintro e w10 ⟨rfl, rfl⟩
        go_wp2
        go_meet
        exact ⟨rfl, hb9⟩
      obtain ⟨rfl, hb9⟩ := hcut
      have hL9 := hL8.below hb9
      have hB9 := hB8.trans (hb9.mono hB8.size)
      go_wp2
      go_roundw
      case rel => exact ⟨i + 1, recs', first', by omega, by go_num, by go_num, by rw [← Nat.add_assoc] at hL9; exact hL9.le (by omega) (by omega), hB9, hfr, by rw [← HRE.out, HRR.out], hr4'⟩
      case measure => simp [intOf]; omega
end Go.Proofs.Ytlnnfdjhejdgdaa
