/- The plain law of RowsBack: a row leads to its entry, and that back to its name; names and entries are alike just if the keys are. No program in sight. -/
import Derived.Test.YthjicmdmhmffmaaDoorR9
import Derived.Test.YthjicmdmhmffmaaDoorR10
namespace Go.Proofs.YthjicmdmhmffmaaDoor
open Go.RowKit

def gv (row : List Val) (k : Int) : Val := row.getD k.toNat ⟨0, 0, ⟨#[]⟩⟩
theorem gv_at {row : List Val} {q : Nat} (h : q < row.length) : gv row (q : Int) = row[q] := by simp [gv, h]
theorem pickV_map (row : List Val) : ∀ places : List Int, (∀ q ∈ places, 0 ≤ q ∧ q < row.length) → pickV row places = places.map (gv row)
  | [], _ => rfl
  | k :: l, h => by
    obtain ⟨h0, h1⟩ := h k (by simp)
    obtain ⟨hl, ha⟩ := at_some (row := row) h0 h1
    have ih := pickV_map row l fun q hq => h q (by simp [hq])
    unfold pickV at ih ⊢
    rw [List.filterMap_cons, ha, List.map_cons, ← ih]
    simp [gv, hl]
theorem allRight_of {l : List Val} (h : ∀ x ∈ l, x.right = true) : allRight l = true := List.all_eq_true.2 h
theorem encSpec_of {l : List Val} (h : allRight l = true) (h2 : l.length ≤ 16) : encSpec l = (encL l, 0) := by
  unfold encSpec
  rw [if_pos h, if_neg (by omega)]
theorem mayC_right {c : ColD} {x : Val} (h : mayC c x = true) : x.right = true := by
  simp [mayC] at h
  exact h.1
theorem mayAll_mem {t : List ColD} {row : List Val} (h : mayAll t row = true) {x : Val} (hx : x ∈ row) : x.right = true := by
  obtain ⟨i, hi, rfl⟩ := List.getElem_of_mem hx
  exact mayC_right (mayAll_at i (by have := mayAll_length h; omega) hi h)
theorem encL_inj {a b : List Val} (ha : allRight a = true) (hb : allRight b = true) (oa : okVals a) (ob : okVals b) (la : a.length ≤ 16) (lb : b.length ≤ 16) (h : encL a = encL b) : a = b := by
  have h1 := decB_enc a ha oa la
  rw [h, decB_enc b hb ob lb] at h1
  exact (Prod.mk.inj h1).1.symm

theorem idxI_cases : ∀ (l : List Int) (k : Int) (n : Nat), idxI l k n = -1 ∨ ∃ j : Nat, idxI l k n = ((n + j : Nat) : Int) ∧ ∃ h : j < l.length, l[j] = k
  | [], _, _ => .inl rfl
  | y :: l, k, n => by
    rw [idxI]
    split
    · rename_i h
      exact .inr ⟨0, rfl, by simp, by simp [h]⟩
    · rcases idxI_cases l k (n + 1) with h | ⟨j, h, hj, hl⟩
      · exact .inl h
      · exact .inr ⟨j + 1, by rw [h]; congr 1; omega, by simp; omega, by simpa using hl⟩
/-- all that the law knows of its table and index -/
structure Known (t : TabD) (x : IdxD) : Prop where
  cols : t.cols.length ≤ 6
  key : ∀ q ∈ t.key, 0 ≤ q ∧ q < t.cols.length
  keyn : 1 ≤ t.key.length ∧ t.key.length ≤ 6
  xc : ∀ q ∈ x.cols, 0 ≤ q ∧ q < t.cols.length
  xcn : x.cols.length ≤ 6
  null : ∀ i (h : i < t.key.length) (q : Nat), t.key[i] = q → ∀ hq : q < t.cols.length, t.cols[q].null = false
theorem places_mem {l : List Int} {n : Int} (h : PlacesOk l n) : ∀ q ∈ l, 0 ≤ q ∧ q < n := fun q hq => by
  obtain ⟨i, hi, rfl⟩ := List.getElem_of_mem hq
  exact ⟨(h.1 i hi).1, (h.1 i hi).2.1⟩
theorem known_of {t : TabD} {x : IdxD} (h : MayOk t x) : Known t x := by
  obtain ⟨_, _, _, _, _, _, hc⟩ := h
  obtain ⟨_, _, _, _, _, hT, hI⟩ := hc
  obtain ⟨_, _, _, _, _, ht, _⟩ := hT 0 (by simp)
  obtain ⟨_, _, _, _, _, ⟨t', hf, hp⟩, _⟩ := hI 0 (by simp)
  simp only [List.getElem_cons_zero] at ht hf hp
  have he : t' = t := by
    rw [List.find?_cons] at hf
    split at hf
    · exact (Option.some.inj hf).symm
    · simp at hf
  subst he
  obtain ⟨_, hn, hk, _, hnull⟩ := ht
  exact ⟨hn.2, places_mem hk, hk.2, places_mem hp, hp.2.2, fun i hi q hq hql => hnull i hi hi q hq hql⟩

section
variable {t : TabD} {x : IdxD} {row : List Val} (kn : Known t x) (hm : mayAll t.cols row = true) (hok : okVals row)
include kn hm
theorem picks_key : pickV row t.key = t.key.map (gv row) := pickV_map row _ fun q hq => by rw [mayAll_length hm]; exact kn.key q hq
theorem picks_cols : pickV row x.cols = x.cols.map (gv row) := pickV_map row _ fun q hq => by rw [mayAll_length hm]; exact kn.xc q hq
theorem key_is : keyV t row = t.key.map (gv row) := by unfold keyV; rw [if_pos hm]; exact picks_key kn hm
omit kn in
theorem gv_mem {q : Int} (h : 0 ≤ q ∧ q < t.cols.length) : gv row q ∈ row := by
  obtain ⟨q, rfl⟩ := Int.eq_ofNat_of_zero_le h.1
  have hl : q < row.length := by rw [mayAll_length hm]; omega
  rw [gv_at hl]
  exact List.getElem_mem hl
theorem right_key : allRight (keyV t row) = true := allRight_of fun y hy => by
  rw [key_is kn hm] at hy
  obtain ⟨q, hq, rfl⟩ := List.mem_map.1 hy
  exact mayAll_mem hm (gv_mem hm (kn.key q hq))
theorem right_cols : allRight (pickV row x.cols) = true := allRight_of fun y hy => by
  rw [picks_cols kn hm] at hy
  obtain ⟨q, hq, rfl⟩ := List.mem_map.1 hy
  exact mayAll_mem hm (gv_mem hm (kn.xc q hq))
theorem len_key : (keyV t row).length = t.key.length := by rw [key_is kn hm]; simp
theorem len_cols : (pickV row x.cols).length = x.cols.length := by rw [picks_cols kn hm]; simp
theorem enc_key : encSpec (keyV t row) = (encL (keyV t row), 0) := encSpec_of (right_key kn hm) (by rw [len_key kn hm]; have := kn.keyn; omega)
theorem enc_cols : encSpec (pickV row x.cols) = (encL (pickV row x.cols), 0) := encSpec_of (right_cols kn hm) (by rw [len_cols kn hm]; have := kn.xcn; omega)
theorem fit_key : fitAll t t.key (keyV t row) = true := by
  refine fitAll_yes (len_key kn hm) fun k h1 h2 => ?_
  obtain ⟨g0, g1⟩ := kn.key _ (List.getElem_mem h1)
  obtain ⟨q, hq⟩ := Int.eq_ofNat_of_zero_le g0
  have hql : q < t.cols.length := by omega
  have hqr : q < row.length := by rw [mayAll_length hm]; omega
  have hv : (keyV t row)[k] = row[q] := by
    have : (keyV t row)[k]? = some row[q] := by rw [key_is kn hm]; simp [h1, hq, gv_at hqr]
    rw [List.getElem?_eq_getElem h2] at this
    exact Option.some.inj this
  have hmc := mayAll_at q hql hqr hm
  have hnl := kn.null k h1 q hq hql
  rw [hq, fitC_at hql, hv]
  simp only [mayC, hnl, Bool.and_false, Bool.or_false, Bool.and_eq_true, beq_iff_eq] at hmc ⊢
  exact ⟨hmc.1, hmc.2.symm⟩
theorem name_is : nameB t (keyV t row) = headB 114 t.id ++ encL (keyV t row) := by
  unfold nameB
  rw [if_pos (fit_key kn hm), enc_key kn hm]
include hok
theorem ok_key : okVals (keyV t row) := fun y hy => by
  rw [key_is kn hm] at hy
  obtain ⟨q, hq, rfl⟩ := List.mem_map.1 hy
  exact hok _ (gv_mem hm (kn.key q hq))
theorem ok_cols : okVals (pickV row x.cols) := fun y hy => by
  rw [picks_cols kn hm] at hy
  obtain ⟨q, hq, rfl⟩ := List.mem_map.1 hy
  exact hok _ (gv_mem hm (kn.xc q hq))
/-- an entry's parts -/
theorem parts_back : partsV t x (entryV t x row).1 (entryV t x row).2 = (pickV row x.cols, keyV t row, true) := by
  have e1 := enc_cols kn hm
  have e2 := enc_key kn hm
  have d1 := decB_enc _ (right_cols kn hm) (ok_cols kn hm hok) (by rw [len_cols kn hm]; have := kn.xcn; omega)
  have d2 := decB_enc _ (right_key kn hm) (ok_key kn hm hok) (by rw [len_key kn hm]; have := kn.keyn; omega)
  have d3 := decB_enc (pickV row x.cols ++ keyV t row) (by simp only [allRight, List.all_append, Bool.and_eq_true]; exact ⟨right_cols kn hm, right_key kn hm⟩)
    (fun y hy => (List.mem_append.1 hy).elim (ok_cols kn hm hok y) (ok_key kn hm hok y)) (by rw [List.length_append, len_cols kn hm, len_key kn hm]; have := kn.keyn; have := kn.xcn; omega)
  have e3 : encL (pickV row x.cols ++ keyV t row) = encL (pickV row x.cols) ++ encL (keyV t row) := by simp [encL]
  rw [e3] at d3
  have hl := len_cols kn hm
  have p1 := fun h r => (show preB (h ++ r) h = true by simp [preB])
  have c1 := fun h r => (show cutB (h ++ r) h = r by unfold cutB; rw [if_pos (p1 h r)]; simp)
  by_cases hu : x.uniq = true ∧ hasNull (pickV row x.cols) = false
  · rw [entryV_u hm hu.1 hu.2, e1, name_is kn hm]
    have t1 : (pickV row x.cols).take x.cols.length = pickV row x.cols := List.take_of_length_le (by omega)
    rw [partsV_u (p1 _ _) (by rw [c1, d1]) (by rw [c1, d1]; simp only; omega) hu.1 (by rw [c1, d1]; simp only; rw [t1]; exact hu.2)]
    rw [c1, c1, d1, d2, p1]
    simp [hl]
  · have hn : x.uniq = false ∨ hasNull (pickV row x.cols) = true := by
      cases h1 : x.uniq with
      | false => exact .inl rfl
      | true => cases h2 : hasNull (pickV row x.cols) with
        | true => exact .inr rfl
        | false => exact absurd ⟨h1, h2⟩ hu
    rw [entryV_n hm hn, e1, e2, List.append_assoc]
    have t1 : (pickV row x.cols ++ keyV t row).take x.cols.length = pickV row x.cols := by rw [← hl]; simp
    have t2 : (pickV row x.cols ++ keyV t row).drop x.cols.length = keyV t row := by rw [← hl]; simp
    rw [partsV_n (p1 _ _) (by rw [c1]; exact congrArg Prod.snd d3) (by rw [c1]; show _ ≤ (decB (encL _ ++ encL _)).1.length; rw [d3]; simp only [List.length_append]; omega)
      (by rw [c1]; show _ ∨ hasNull ((decB (encL _ ++ encL _)).1.take _) = true; rw [d3]; simp only; rw [t1]; exact hn)]
    rw [c1]
    show ((decB (encL _ ++ encL _)).1.take _, (decB (encL _ ++ encL _)).1.drop _, _) = _
    rw [d3]
    simp only
    rw [t1, t2]
    rfl
omit hok in
/-- an entry's columns -/
theorem own_cols : ∀ i (h : i < x.cols.length), OwnCol t (pickV row x.cols) (keyV t row) x.cols[i] i := fun i h => by
  obtain ⟨g0, g1⟩ := kn.xc _ (List.getElem_mem h)
  obtain ⟨q, hq⟩ := Int.eq_ofNat_of_zero_le g0
  have hql : q < t.cols.length := by omega
  have hqr : q < row.length := by rw [mayAll_length hm]; omega
  have hil : i < (pickV row x.cols).length := by rw [len_cols kn hm]; exact h
  have hv : (pickV row x.cols)[i] = row[q] := by
    have : (pickV row x.cols)[i]? = some row[q] := by rw [picks_cols kn hm]; simp [h, hq, gv_at hqr]
    rw [List.getElem?_eq_getElem hil] at this
    exact Option.some.inj this
  refine ⟨q, hq, hql, hil, by rw [hv]; exact mayAll_at q hql hqr hm, ?_⟩
  rcases idxI_cases t.key q 0 with h1 | ⟨j, h1, hj, hk⟩
  · exact .inl h1
  · refine .inr ⟨j, by simpa using h1, by rw [len_key kn hm]; exact hj, ?_⟩
    have : (keyV t row)[j]? = some row[q] := by rw [key_is kn hm]; simp [hj, hk, gv_at hqr]
    rw [List.getElem?_eq_getElem (by rw [len_key kn hm]; exact hj)] at this
    rw [hv]
    exact Option.some.inj this
end

section
variable {t : TabD} {x : IdxD} {row other : List Val} (kn : Known t x) (hm : mayAll t.cols row = true) (hok : okVals row) (hm2 : mayAll t.cols other = true) (hok2 : okVals other)
include kn hm hok hm2 hok2
theorem names_alike : nameB t (keyV t row) = nameB t (keyV t other) ↔ keyV t row = keyV t other := by
  refine ⟨fun h => ?_, fun h => by rw [h]⟩
  rw [name_is kn hm, name_is kn hm2] at h
  have h := List.append_cancel_left h
  exact encL_inj (right_key kn hm) (right_key kn hm2) (ok_key kn hm hok) (ok_key kn hm2 hok2) (by rw [len_key kn hm]; have := kn.keyn; omega) (by rw [len_key kn hm2]; have := kn.keyn; omega) h
theorem entries_alike : (entryV t x row).1 = (entryV t x other).1 ↔ pickV row x.cols = pickV other x.cols ∧ ((x.uniq = true ∧ hasNull (pickV row x.cols) = false) ∨ keyV t row = keyV t other) := by
  have key : ∀ {r : List Val}, mayAll t.cols r = true → okVals r → ∃ a : List Val, (entryV t x r).1 = headB 120 x.id ++ encL a ∧ allRight a = true ∧ okVals a ∧ a.length ≤ 16 ∧ a.take x.cols.length = pickV r x.cols ∧
      ((x.uniq = true ∧ hasNull (pickV r x.cols) = false ∧ a = pickV r x.cols) ∨ (¬ (x.uniq = true ∧ hasNull (pickV r x.cols) = false) ∧ a = pickV r x.cols ++ keyV t r)) := by
    intro r hr ho
    have hl := len_cols kn hr
    have hk := len_key kn hr
    have n1 := kn.keyn
    have n2 := kn.xcn
    by_cases hu : x.uniq = true ∧ hasNull (pickV r x.cols) = false
    · exact ⟨_, by rw [entryV_u hr hu.1 hu.2, enc_cols kn hr], right_cols kn hr, ok_cols kn hr ho, by omega, List.take_of_length_le (by omega), .inl ⟨hu.1, hu.2, rfl⟩⟩
    · have hn : x.uniq = false ∨ hasNull (pickV r x.cols) = true := by
        cases h1 : x.uniq with
        | false => exact .inl rfl
        | true => cases h2 : hasNull (pickV r x.cols) with
          | true => exact .inr rfl
          | false => exact absurd ⟨h1, h2⟩ hu
      refine ⟨pickV r x.cols ++ keyV t r, by rw [entryV_n hr hn, enc_cols kn hr, enc_key kn hr]; simp [encL], ?_, fun y hy => (List.mem_append.1 hy).elim (ok_cols kn hr ho y) (ok_key kn hr ho y), by rw [List.length_append]; omega, by rw [← hl]; simp, .inr ⟨hu, rfl⟩⟩
      simp only [allRight, List.all_append, Bool.and_eq_true]
      exact ⟨right_cols kn hr, right_key kn hr⟩
  obtain ⟨a, ea, ra, oa, la, ta, ca⟩ := key hm hok
  obtain ⟨b, eb, rb, ob, lb, tb, cb⟩ := key hm2 hok2
  rw [ea, eb]
  constructor
  · intro h
    have hab := encL_inj ra rb oa ob la lb (List.append_cancel_left h)
    subst hab
    have hp : pickV row x.cols = pickV other x.cols := ta.symm.trans tb
    refine ⟨hp, ?_⟩
    rcases ca with ⟨h1, h2, _⟩ | ⟨h1, h2⟩
    · exact .inl ⟨h1, h2⟩
    · rcases cb with ⟨h3, h4, _⟩ | ⟨_, h4⟩
      · rw [hp] at h1; exact absurd ⟨h3, h4⟩ h1
      · rw [h2, hp] at h4
        exact .inr (List.append_cancel_left h4)
  · rintro ⟨hp, h⟩
    congr 2
    rcases ca with ⟨h1, h2, rfl⟩ | ⟨h1, rfl⟩
    · rcases cb with ⟨_, _, rfl⟩ | ⟨h3, rfl⟩
      · exact hp
      · rw [hp] at h2; exact absurd ⟨h1, h2⟩ h3
    · rcases cb with ⟨h3, h4, rfl⟩ | ⟨_, rfl⟩
      · rw [← hp] at h4; exact absurd ⟨h3, h4⟩ h1
      · rcases h with h | h
        · exact absurd h h1
        · rw [hp, h]
end
theorem entryV_len (t : TabD) (x : IdxD) (row : List Val) : (entryV t x row).1.length ≤ 1000000 ∧ (entryV t x row).2.length ≤ 1000000 := by
  have h1 := encSpec_len (pickV row x.cols)
  have h2 := encSpec_len (keyV t row)
  have h3 := nameB_len t (keyV t row)
  have h4 := headB_length 120 x.id
  unfold entryV
  split
  · split
    · simp only [List.length_append]; omega
    · simp only [List.length_append, List.length_nil]; omega
  · simp
theorem pairV_is {t : TabD} {x : IdxD} {row : List Val} (hm : mayAll t.cols row = true) (h6 : t.cols.length ≤ 6) : (pairV t row).1 = nameB t (keyV t row) := by
  have h := encSpec_of (l := row) (allRight_of fun y hy => mayAll_mem hm hy) (by have := mayAll_length hm; omega)
  unfold pairV
  rw [hm, h]
  rfl
theorem hasNull_take_succ (l : List Val) (k : Nat) (h : k < l.length) : hasNull (l.take (k + 1)) = (hasNull (l.take k) || l[k].k == 0) := by
  unfold hasNull
  rw [List.take_succ_eq_append_getElem h, List.any_append]
  simp
theorem take_alike (l l' : List Val) (k : Nat) (h : k < l.length) (h' : k < l'.length) : decide (l.take (k + 1) = l'.take (k + 1)) = (decide (l.take k = l'.take k) && veq l[k] l'[k]) := by
  rw [List.take_succ_eq_append_getElem h, List.take_succ_eq_append_getElem h']
  by_cases h1 : l.take k = l'.take k
  · rw [h1]
    by_cases h2 : l[k] = l'[k]
    · rw [h2]; simp [(veq_iff _ _).2 rfl]
    · have : veq l[k] l'[k] = false := by
        cases hv : veq l[k] l'[k] with
        | false => rfl
        | true => exact absurd ((veq_iff _ _).1 hv) h2
      rw [this, decide_eq_false (fun he => h2 (List.singleton_inj.1 (List.append_cancel_left he))), Bool.and_false]
  · have : ¬ (l.take k ++ [l[k]] = l'.take k ++ [l'[k]]) := fun he => h1 (List.append_inj_left' he rfl)
    rw [decide_eq_false this, decide_eq_false h1, Bool.false_and]
theorem pick_at {t : TabD} {x : IdxD} {row : List Val} (kn : Known t x) (hm : mayAll t.cols row = true) {k q : Nat} (h : k < x.cols.length) (hq : x.cols[k] = (q : Int)) (hql : q < row.length) : ∃ h' : k < (pickV row x.cols).length, (pickV row x.cols)[k] = row[q] := by
  have hil : k < (pickV row x.cols).length := by rw [len_cols kn hm]; exact h
  refine ⟨hil, ?_⟩
  have : (pickV row x.cols)[k]? = some row[q] := by rw [picks_cols kn hm]; simp [h, hq, gv_at hql]
  rw [List.getElem?_eq_getElem hil] at this
  exact Option.some.inj this
/-- the loop's two words, one column more -/
theorem full_succ {t : TabD} {x : IdxD} {row : List Val} (kn : Known t x) (hm : mayAll t.cols row = true) {k q : Nat} (h : k < x.cols.length) (hq : x.cols[k] = (q : Int)) (hql : q < row.length) :
    (x.uniq && !hasNull ((pickV row x.cols).take (k + 1))) = ((x.uniq && !hasNull ((pickV row x.cols).take k)) && (row[q].k != 0)) := by
  obtain ⟨h1, h2⟩ := pick_at kn hm h hq hql
  rw [hasNull_take_succ _ _ h1, h2]
  cases x.uniq <;> cases hasNull ((pickV row x.cols).take k) <;> simp [bne]
theorem cols_succ {t : TabD} {x : IdxD} {row other : List Val} (kn : Known t x) (hm : mayAll t.cols row = true) (hm2 : mayAll t.cols other = true) {k q : Nat} (h : k < x.cols.length) (hq : x.cols[k] = (q : Int)) (hql : q < row.length) (hql2 : q < other.length) :
    decide ((pickV row x.cols).take (k + 1) = (pickV other x.cols).take (k + 1)) = (decide ((pickV row x.cols).take k = (pickV other x.cols).take k) && veq row[q] other[q]) := by
  obtain ⟨h1, h2⟩ := pick_at kn hm h hq hql
  obtain ⟨h3, h4⟩ := pick_at kn hm2 h hq hql2
  rw [take_alike _ _ _ h1 h3, h2, h4]
end Go.Proofs.YthjicmdmhmffmaaDoor
