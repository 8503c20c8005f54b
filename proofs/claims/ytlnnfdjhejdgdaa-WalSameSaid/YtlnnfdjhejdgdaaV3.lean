/- A log on a disk: what stands there; writes that are torn; what is found. No walk. -/
import Derived.Test.YtlnnfdjhejdgdaaV2
namespace Go.Proofs.Ytlnnfdjhejdgdaa
open Go.RowKit

/-- a sector whose ends are small numbers -/
structure Sm (s : List UInt8) : Prop where
  len : s.length = 64
  lo : s.take 7 = List.replicate 7 0
  hi : (s.drop 56).take 7 = List.replicate 7 0
theorem be8_small {t : Nat} (h : t < 256) : (be8 t).take 7 = List.replicate 7 0 := by
  unfold be8
  have e : ∀ k, 256 ≤ k → t / k = 0 := fun k hk => Nat.div_eq_of_lt (by omega)
  rw [e _ (by omega), e _ (by omega), e _ (by omega), e _ (by omega), e _ (by omega), e _ (by omega), e _ (by omega)]
  rfl
theorem secB_sm {t : Nat} (h : t < 256) {p : List UInt8} (hp : p.length ≤ 48) : Sm (secB t p) := by
  have hb := be8_small h
  have hl := be8_length t
  refine ⟨by simp [secB, hl]; omega, ?_, ?_⟩
  · unfold secB
    rw [List.append_assoc, List.append_assoc, List.take_append_of_le_length (by omega), hb]
  · unfold secB
    rw [List.drop_append_of_le_length (by simp [hl]; omega), List.drop_of_length_le (by simp [hl]; omega), List.nil_append, hb]
theorem hdB_sm {t f n s e : Nat} (h : t < 256) : Sm (hdB t f n s e) := by
  have hb := be8_small h
  have hl := be8_length
  refine ⟨hdB_len _ _ _ _ _, ?_, ?_⟩
  · unfold hdB
    simp only [List.append_assoc]
    rw [List.take_append_of_le_length (by rw [hl]; omega), hb]
  · unfold hdB
    rw [List.drop_append_of_le_length (by simp [hl]), List.drop_of_length_le (by simp [hl]), List.nil_append, hb]
theorem zero_sm : Sm (List.replicate 64 0) := ⟨by simp, by simp, by simp⟩
/-- the beginning of a write over what was there -/
def torn (s o : List UInt8) (k : Nat) : List UInt8 := s.take k ++ o.drop k
theorem take_le {a b : List UInt8} {i k : Nat} (h : a.take k = b.take k) (hi : i ≤ k) : a.take i = b.take i := by
  have := congrArg (List.take i) h
  rwa [List.take_take, List.take_take, Nat.min_eq_left hi] at this
theorem torn_cases {s o : List UInt8} (hs : Sm s) (ho : Sm o) (k : Nat) : Sm (torn s o k) ∧ (torn s o k = o ∨ (sfront (torn s o k) = sfront s ∧ sback (torn s o k) = sback o) ∨ torn s o k = s) := by
  by_cases h7 : k ≤ 7
  · have : torn s o k = o := by
      unfold torn
      rw [take_le (b := o) (hs.lo.trans ho.lo.symm) h7, List.take_append_drop]
    rw [this]
    exact ⟨ho, .inl rfl⟩
  by_cases h64 : 64 ≤ k
  · have : torn s o k = s := by
      unfold torn
      rw [List.take_of_length_le (by rw [hs.len]; exact h64), List.drop_of_length_le (by rw [ho.len]; exact h64), List.append_nil]
    rw [this]
    exact ⟨hs, .inr (.inr rfl)⟩
  have hl := hs.len
  have hlo := ho.len
  have hfr : ∀ i, i ≤ 8 → (torn s o k).take i = s.take i := fun i hi => by
    unfold torn
    rw [List.take_append_of_le_length (by rw [List.length_take]; omega), List.take_take, Nat.min_eq_left (by omega)]
  have hbk : (torn s o k).drop 56 = o.drop 56 := by
    unfold torn
    rw [List.drop_append, List.drop_take, List.length_take, hl, Nat.min_eq_left (by omega), List.drop_drop]
    by_cases h56 : k ≤ 56
    · rw [show k - 56 = 0 by omega, List.take_zero, List.nil_append, show k + (56 - k) = 56 by omega]
    · have := take_le (i := k - 56) (hs.hi.trans ho.hi.symm) (by omega)
      rw [this, show k + (56 - k) = 56 + (k - 56) by omega, ← List.drop_drop, List.take_append_drop]
  refine ⟨⟨by unfold torn; rw [List.length_append, List.length_take, List.length_drop]; omega, by rw [hfr 7 (by omega), hs.lo], by rw [hbk, ho.hi]⟩, .inr (.inl ⟨?_, ?_⟩)⟩
  · unfold sfront rdN
    rw [List.drop_zero, List.drop_zero, hfr 8 (Nat.le_refl _)]
  · unfold sback rdN
    rw [hbk]
theorem secSum_td (l : List (List UInt8)) (k : Nat) : secSum (l.take k) + secSum (l.drop k) = secSum l := by rw [← secSum_append, List.take_append_drop]
theorem mod_add_left {p q k m : Nat} (h : p % m = q % m) : (p + k) % m = (q + k) % m := by rw [← Nat.mod_add_mod, h, Nat.mod_add_mod]
theorem Chain.same {I : List (List UInt8)} {ring T : Nat} : ∀ {r : List (Nat × List UInt8)} {p q : Nat}, p % ring = q % ring → Chain I ring T p r → Chain I ring T q r
  | [], _, _, _, _ => trivial
  | x :: r, p, q, h, hc => ⟨⟨hc.1.1, hc.1.2.1, hc.1.2.2.1, fun k hk => by
      rw [← hc.1.2.2.2 k hk]
      unfold ringAt
      rw [mod_add_left h]⟩, Chain.same (mod_add_left h) hc.2⟩
theorem plc_same {ring : Nat} : ∀ (r : List (List UInt8)) {p q : Nat}, p % ring = q % ring → plc ring p r = plc ring q r
  | [], _, _, _ => rfl
  | x :: r, p, q, h => by rw [plc, plc, h, plc_same r (mod_add_left h)]
/-- records that stand on a disk, under a head -/
structure Bas (I : List (List UInt8)) (n T first start : Nat) (rs : List (Nat × List UInt8)) : Prop where
  len : I.length = n
  n3 : 3 ≤ n
  n64 : n ≤ 65536
  sm : ∀ i, i < n → Sm (I.getD i [])
  T1 : T < 256
  st : start < n - 2
  back : ∀ p, sback (ringAt I (n - 2) p) ≤ T
  chain : Chain I (n - 2) T start rs
  fit : secSum (rs.map (·.2)) ≤ n - 2
  hd : sfront (I.getD (T % 2) []) = T ∧ sback (I.getD (T % 2) []) = T
  f64 : first + 70000 < 18446744073709551616
structure Img (I : List (List UInt8)) (n T first start nx : Nat) (rs : List (Nat × List UInt8)) (us : List (List UInt8)) : Prop where
  bas : Bas I n T first start rs
  T0 : 0 < T
  usl : ∀ u ∈ us, u.length ≤ 32768
  fit : secSum (rs.map (·.2)) + secSum us ≤ n - 2
  free : ∀ j, secSum (rs.map (·.2)) + j < n - 2 → (secs T us)[j]? = some (ringAt I (n - 2) (start + secSum (rs.map (·.2)) + j)) ∨ sback (ringAt I (n - 2) (start + secSum (rs.map (·.2)) + j)) < T
  head : ∃ e, e < 18446744073709551616 ∧ I.getD (T % 2) [] = hdB T first nx start e
  nx1 : first ≤ nx
  nx2 : nx ≤ first + rs.length
  nxT : ∀ i (h : i < rs.length), nx ≤ first + i → rs[i].1 = T
  other : sback (I.getD ((T + 1) % 2) []) ≤ T ∧ (sfront (I.getD ((T + 1) % 2) []) = sback (I.getD ((T + 1) % 2) []) → sfront (I.getD ((T + 1) % 2) []) < T)
theorem stepH_no {b : HeadD} {s : List UInt8} (h : sfront s = sback s → sfront s ≤ b.turn) : stepH b s = b := by
  unfold stepH
  refine if_neg fun hh => ?_
  have h1 := h hh.1
  have h2 : b.turn < sfront s := hh.2
  omega
theorem stepH_yes {b : HeadD} {s : List UInt8} (h1 : sfront s = sback s) (h : b.turn < sfront s) : stepH b s = readH s := if_pos ⟨h1, h⟩
theorem stepH_lt {b : HeadD} {s : List UInt8} {T : Nat} (hb : b.turn < T) (h : sfront s = sback s → sfront s < T) : (stepH b s).turn < T := by
  unfold stepH
  split
  · rename_i hh
    exact h hh.1
  · exact hb
theorem img_best {d : DskD} {I : List (List UInt8)} {n T first start nx : Nat} {rs : List (Nat × List UInt8)} {us : List (List UInt8)} (hs : Sees d I n) (h : Img I n T first start nx rs us) : ∃ e, bestI d (min 2 d.kept.length) = ⟨T, first, nx, start, e⟩ := by
  obtain ⟨e, he, hd⟩ := h.head
  have hT := h.bas.T1
  have hst := h.bas.st
  have hn := h.bas.n64
  have hf := h.bas.f64
  have hn2 := h.nx2
  have hfit := h.bas.fit
  have hrl : rs.length ≤ secSum (rs.map (·.2)) := by have := secSum_ge (rs.map (·.2)); rwa [List.length_map] at this
  have hrd := hdB_at T first nx start e (by omega) (by omega) (by omega) (by omega) he
  have hfr : sfront (hdB T first nx start e) = T := congrArg HeadD.turn hrd.1
  have hsh : ∀ i, i < n → d.shown i = I.getD i [] := fun i hi => by
    unfold DskD.shown
    rw [showW_keepW i _ _ (by rw [hs.len]; exact hi), hs.img]
  have h3 := hs.n3
  have ho := h.other.2
  refine ⟨e, ?_⟩
  rw [Nat.min_eq_left (by rw [hs.len]; omega), bestI, bestI, bestI, hsh 0 (by omega), hsh 1 (by omega), ← hrd.1]
  have hz : zeroH.turn = 0 := rfl
  have hT0 := h.T0
  rcases Nat.mod_two_eq_zero_or_one T with h0 | h0
  · rw [h0] at hd
    rw [show (T + 1) % 2 = 1 by omega] at ho
    rw [hd, stepH_yes (b := zeroH) (s := hdB T first nx start e) (by rw [hfr, hrd.2]) (by rw [hfr, hz]; exact hT0)]
    exact stepH_no fun hh => Nat.le_of_lt (Nat.lt_of_lt_of_le (ho hh) (Nat.le_of_eq (congrArg HeadD.turn hrd.1).symm))
  · rw [h0] at hd
    rw [show (T + 1) % 2 = 0 by omega] at ho
    rw [hd]
    exact stepH_yes (by rw [hfr, hrd.2]) (by rw [hfr]; exact stepH_lt (by rw [hz]; exact hT0) ho)
theorem Bas.more {I : List (List UInt8)} {n T first start : Nat} {rs q : List (Nat × List UInt8)} (h : Bas I n T first start rs) (hc : Chain I (n - 2) T (start + secSum (rs.map (·.2))) q) (hf : secSum ((rs ++ q).map (·.2)) ≤ n - 2) : Bas I n T first start (rs ++ q) :=
  ⟨h.len, h.n3, h.n64, h.sm, h.T1, h.st, h.back, h.chain.append hc, hf, h.hd, h.f64⟩
theorem snd_pairs (T : Nat) (us : List (List UInt8)) : (us.map fun b => (T, b)).map (·.2) = us := by simp [List.map_map, Function.comp_def]
/-- what Open finds -/
theorem img_find {d : DskD} {I : List (List UInt8)} {n T first start nx : Nat} {rs : List (Nat × List UInt8)} {us : List (List UInt8)} (hs : Sees d I n) (h : Img I n T first start nx rs us) :
    ∃ m e, m ≤ us.length ∧ bestI d (min 2 d.kept.length) = ⟨T, first, nx, start, e⟩ ∧ findL zeroL d ⟨T, first, nx, start, e⟩ = (lgS T first (n - 2) start (rs.map (·.2) ++ us.take m), 0) ∧ Bas I n T first start (rs ++ (us.take m).map fun b => (T, b)) ∧
      ((∀ j s, (secs T us)[j]? = some s → ringAt I (n - 2) (start + secSum (rs.map (·.2)) + j) = s) → m = us.length) := by
  obtain ⟨e, he⟩ := img_best hs h
  have hT := h.bas.T1
  have hT0 := h.T0
  have hst := h.bas.st
  have hfit := h.fit
  have hn1 := h.nx1
  have hn3 := h.bas.n3
  have hrl : rs.length ≤ secSum (rs.map (·.2)) := by have := secSum_ge (rs.map (·.2)); rwa [List.length_map] at this
  have hul := secSum_ge us
  obtain ⟨m, hm, hf, hc, hw⟩ := find_more hs (first := first) (e0 := e) (nx := nx) hT0 (by omega) us (rs.map (·.2)) (n - 1 - rs.length) (by omega) h.usl hfit (by rw [List.length_map]; exact h.nx2) h.free
  have h1 := find_some hs (first := first) (start := start) (e0 := e) (nx := nx) (T := T) (by omega) rs [] (n - 1 - rs.length) (by rw [secSum_nil, Nat.add_zero]; exact h.bas.chain) (by rw [secSum_nil, Nat.zero_add]; exact h.bas.fit)
    (fun i hi hx => h.nxT i hi (by simpa using hx)) hT0
  refine ⟨m, e, hm, he, ?_, h.bas.more hc ?_, hw⟩
  · unfold findL
    rw [hs.len, if_neg (by show ¬ (n < 3 ∨ n - 2 ≤ start ∨ nx < first); omega)]
    have hz : ({ zeroL with turn := T, first := first, end_ := start } : LogD) = lgS T first (n - 2) start [] := by
      unfold lgS zeroL
      rw [secSum_nil, Nat.add_zero, Nat.mod_eq_of_lt hst]
      rfl
    have e2 : findF d ⟨T, first, nx, start, e⟩ (n - 1) (lgS T first (n - 2) start []) = (lgS T first (n - 2) start (rs.map (·.2) ++ us.take m), 0) := by
      rw [← hf]
      have := h1
      rw [List.nil_append, show n - 1 - rs.length + rs.length = n - 1 by omega] at this
      exact this
    rw [← hz] at e2
    exact e2
  · rw [List.map_append, snd_pairs, secSum_append]
    have := secSum_td us m
    omega
/-- a head is written: what it says stands from then on -/
theorem ringAt_head {I : List (List UInt8)} {ring i : Nat} (hi : i < 2) (s : List UInt8) (p : Nat) : ringAt (I.set i s) ring p = ringAt I ring p := by
  unfold ringAt
  rw [List.getD_eq_getElem?_getD, List.getElem?_set_ne (by omega), List.getD_eq_getElem?_getD]
theorem bas_tell {I : List (List UInt8)} {n T first start : Nat} {rs : List (Nat × List UInt8)} (h : Bas I n T first start rs) (hT : T + 1 < 256) (k : Nat) (hk : k ≤ rs.length) (hf : first + k + 70000 < 18446744073709551616) (e : Nat) (he : e < 18446744073709551616) :
    Img (I.set ((T + 1) % 2) (hdB (T + 1) (first + k) (first + rs.length) ((start + secSum ((rs.take k).map (·.2))) % (n - 2)) e)) n (T + 1) (first + k) ((start + secSum ((rs.take k).map (·.2))) % (n - 2)) (first + rs.length) (rs.drop k) [] := by
  have hn3 := h.n3
  have hn64 := h.n64
  have hp : (T + 1) % 2 < 2 := Nat.mod_lt _ (by omega)
  have hr := ringAt_head (I := I) (ring := n - 2) hp (hdB (T + 1) (first + k) (first + rs.length) ((start + secSum ((rs.take k).map (·.2))) % (n - 2)) e)
  have hrl : rs.length ≤ secSum (rs.map (·.2)) := by have := secSum_ge (rs.map (·.2)); rwa [List.length_map] at this
  have hfit := h.fit
  have hst' := Nat.mod_lt (start + secSum ((rs.take k).map (·.2))) (show 0 < n - 2 by omega)
  have hrd := hdB_at (T + 1) (first + k) (first + rs.length) ((start + secSum ((rs.take k).map (·.2))) % (n - 2)) e (by omega) (by omega) (by omega) (by omega) he
  have hget : (I.set ((T + 1) % 2) (hdB (T + 1) (first + k) (first + rs.length) ((start + secSum ((rs.take k).map (·.2))) % (n - 2)) e)).getD ((T + 1) % 2) [] = hdB (T + 1) (first + k) (first + rs.length) ((start + secSum ((rs.take k).map (·.2))) % (n - 2)) e := by
    rw [List.getD_eq_getElem?_getD, List.getElem?_set_self (by rw [h.len]; omega)]
    rfl
  have hne : ∀ i, i ≠ (T + 1) % 2 → (I.set ((T + 1) % 2) (hdB (T + 1) (first + k) (first + rs.length) ((start + secSum ((rs.take k).map (·.2))) % (n - 2)) e)).getD i [] = I.getD i [] := fun i hi => by
    rw [List.getD_eq_getElem?_getD, List.getElem?_set_ne (by omega), List.getD_eq_getElem?_getD]
  have hfit' : secSum ((rs.drop k).map (·.2)) ≤ n - 2 := by
    have := secSum_td (rs.map (·.2)) k
    rw [List.map_drop]
    omega
  have hsm := hdB_sm (f := first + k) (n := first + rs.length) (s := (start + secSum ((rs.take k).map (·.2))) % (n - 2)) (e := e) hT
  generalize hs : hdB (T + 1) (first + k) (first + rs.length) ((start + secSum ((rs.take k).map (·.2))) % (n - 2)) e = s at *
  have hb : ∀ p, sback (ringAt (I.set ((T + 1) % 2) s) (n - 2) p) < T + 1 := fun p => by rw [hr]; have := h.back p; omega
  refine ⟨⟨by rw [List.length_set]; exact h.len, hn3, hn64, fun i hi => ?_, hT, hst', fun p => Nat.le_of_lt (hb p), ?_, hfit', ?_, hf⟩, Nat.succ_pos _, (fun u hu => by cases hu), by rw [secSum_nil]; exact hfit', fun j _ => .inr (hb _), ⟨e, he, ?_⟩, Nat.add_le_add_left hk _, by rw [List.length_drop]; omega, fun i hi hx => ?_, ?_⟩
  · by_cases e0 : i = (T + 1) % 2
    · rw [e0, hget]
      exact hsm
    · rw [hne i e0]
      exact h.sm i hi
  · exact Chain.same (p := start + secSum ((rs.take k).map (·.2))) (by rw [Nat.mod_mod]) ((h.chain.drop k).up (Nat.le_succ _) hr)
  · rw [hget]
    exact ⟨congrArg HeadD.turn hrd.1, hrd.2⟩
  · rw [hget, hs]
  · rw [List.length_drop] at hi
    omega
  · rw [show (T + 1 + 1) % 2 = T % 2 by omega, hne (T % 2) (by omega), h.hd.1, h.hd.2]
    exact ⟨Nat.le_succ _, fun _ => Nat.lt_succ_self _⟩
end Go.Proofs.Ytlnnfdjhejdgdaa
