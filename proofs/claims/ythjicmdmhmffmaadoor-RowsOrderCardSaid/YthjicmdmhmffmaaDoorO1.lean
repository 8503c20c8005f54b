/- The plain law of RowsOrder: names stand in the order of keys, entries in that of their values; a name is between two bounds just if its key is. No program in sight. -/
import Derived.Test.YthjicmdmhmffmaaDoorR12
import Derived.Test.YthjicmdmhmffmaaDoorCmpL
namespace Go.Proofs.YthjicmdmhmffmaaDoor
open Go.RowKit

theorem cmpL_app : ∀ (c d r r' : List Val), c.length = d.length → cmpL c d ≠ 0 → cmpL (c ++ r) (d ++ r') = cmpL c d
  | [], [], _, _, _, h => absurd rfl h
  | [], _ :: _, _, _, h, _ => by simp at h
  | _ :: _, [], _, _, h, _ => by simp at h
  | x :: c, y :: d, r, r', hl, h => by
    simp only [List.cons_append, cmpL] at h ⊢
    split
    · rename_i hxy
      rw [if_pos hxy] at h
      exact cmpL_app c d r r' (by simpa using hl) h
    · rfl

/-- bytes between two bounds -/
def btwn (lf lu lk : List UInt8) : Bool := !(Op.bytesLess lk lf) && (lu.isEmpty || Op.bytesLess lk lu)

section
variable {t : TabD} {x : IdxD} {row other : List Val} (kn : Known t x) (hm : mayAll t.cols row = true) (hok : okVals row)
include kn hm hok
theorem names_less (hm2 : mayAll t.cols other = true) (hok2 : okVals other) : Op.bytesLess (nameB t (keyV t row)) (nameB t (keyV t other)) = decide (cmpL (keyV t row) (keyV t other) = -1) := by
  rw [name_is kn hm, name_is kn hm2, bl_pre]
  exact (encL_less _ _ (right_key kn hm) (right_key kn hm2) (ok_key kn hm hok) (ok_key kn hm2 hok2)).1
theorem entry_form : ∃ a : List Val, (entryV t x row).1 = headB 120 x.id ++ encL (pickV row x.cols ++ a) ∧ allRight (pickV row x.cols ++ a) = true ∧ okVals (pickV row x.cols ++ a) := by
  by_cases hu : x.uniq = true ∧ hasNull (pickV row x.cols) = false
  · exact ⟨[], by rw [entryV_u hm hu.1 hu.2, enc_cols kn hm, List.append_nil], by rw [List.append_nil]; exact right_cols kn hm, by rw [List.append_nil]; exact ok_cols kn hm hok⟩
  · have hn : x.uniq = false ∨ hasNull (pickV row x.cols) = true := by
      cases h1 : x.uniq with
      | false => exact .inl rfl
      | true => cases h2 : hasNull (pickV row x.cols) with
        | true => exact .inr rfl
        | false => exact absurd ⟨h1, h2⟩ hu
    refine ⟨keyV t row, by rw [entryV_n hm hn, enc_cols kn hm, enc_key kn hm]; simp [encL], ?_, fun y hy => (List.mem_append.1 hy).elim (ok_cols kn hm hok y) (ok_key kn hm hok y)⟩
    simp only [allRight, List.all_append, Bool.and_eq_true]
    exact ⟨right_cols kn hm, right_key kn hm⟩
theorem entries_less (hm2 : mayAll t.cols other = true) (hok2 : okVals other) :
    (cmpL (pickV row x.cols) (pickV other x.cols) = -1 → Op.bytesLess (entryV t x row).1 (entryV t x other).1 = true) ∧ (cmpL (pickV row x.cols) (pickV other x.cols) = 1 → Op.bytesLess (entryV t x other).1 (entryV t x row).1 = true) := by
  obtain ⟨a, e1, r1, o1⟩ := entry_form kn hm hok
  obtain ⟨b, e2, r2, o2⟩ := entry_form kn hm2 hok2
  have hl : (pickV row x.cols).length = (pickV other x.cols).length := by rw [len_cols kn hm, len_cols kn hm2]
  rw [e1, e2, bl_pre, bl_pre]
  constructor
  · intro h
    rw [(encL_less _ _ r1 r2 o1 o2).1, cmpL_app _ _ _ _ hl (by rw [h]; decide), h]
    rfl
  · intro h
    have h3 := (encL_less _ _ r1 r2 o1 o2).2.2
    rw [cmpL_app _ _ _ _ hl (by rw [h]; decide), h] at h3
    rw [(encL_less _ _ r2 r1 o2 o1).1, h3]
    rfl
/-- the law's test of the two entries -/
theorem entries_test (hm2 : mayAll t.cols other = true) (hok2 : okVals other) (k : Int) (hk : k = cmpL (pickV row x.cols) (pickV other x.cols)) :
    (k < 0 → Op.bytesLess (entryV t x row).1 (entryV t x other).1 = true) ∧ (0 < k → Op.bytesLess (entryV t x other).1 (entryV t x row).1 = true) := by
  obtain ⟨h1, h2⟩ := entries_less (x := x) kn hm hok hm2 hok2
  rcases cmpL_three (pickV row x.cols) (pickV other x.cols) with h | h | h <;> rw [hk, h]
  · exact ⟨fun _ => h1 h, fun h => absurd h (by decide)⟩
  · exact ⟨fun h => absurd h (by decide), fun h => absurd h (by decide)⟩
  · exact ⟨fun h => absurd h (by decide), fun _ => h2 h⟩
/-- a name is in a span just if its key is between the bounds -/
theorem span_test {fr ut : List Val} (rf : allRight fr = true) (ru : allRight ut = true) (okf : okVals fr) (oku : okVals ut) :
    btwn (headB 114 t.id ++ encL fr) (if ut.length = 0 then endB (headB 114 t.id) else headB 114 t.id ++ encL ut) (nameB t (keyV t row)) = (decide (cmpL fr (keyV t row) ≤ 0) && (decide (ut.length = 0) || decide (cmpL (keyV t row) ut < 0))) := by
  have hh : endB (headB 114 t.id) ≠ [] := by
    unfold headB
    intro he
    rcases endB_cases (114 :: encL [⟨1, t.id, ⟨#[]⟩⟩]) with ⟨_, h⟩ | ⟨p, y, m, _, _, h⟩
    · rw [List.length_cons, List.replicate_succ] at h
      exact absurd (List.cons.inj h).1 (by decide)
    · rw [he] at h
      simp at h
  rw [name_is kn hm]
  unfold btwn
  rw [bl_pre]
  have rk := right_key kn hm
  have ok := ok_key kn hm hok
  obtain ⟨l1, l2, l3⟩ := encL_less _ _ rk rf ok okf
  have e1 : (!Op.bytesLess (encL (keyV t row)) (encL fr)) = decide (cmpL fr (keyV t row) ≤ 0) := by
    rw [l1, l3]
    rcases cmpL_three (keyV t row) fr with h | h | h <;> rw [h] <;> rfl
  rw [e1]
  congr 1
  by_cases hu : ut.length = 0
  · rw [if_pos hu, end_above _ _ hh]
    simp [hu]
  · rw [if_neg hu, bl_pre]
    have : (headB 114 t.id ++ encL ut).isEmpty = false := by simp [headB]
    rw [this, (encL_less _ _ rk ru ok oku).1]
    rcases cmpL_three (keyV t row) ut with h | h | h <;> rw [h] <;> simp [hu]
end
theorem enc_zero {l : List Val} (h : (encSpec l).2 = 0) : allRight l = true ∧ l.length ≤ 16 ∧ encSpec l = (encL l, 0) := by
  unfold encSpec at h
  split at h
  · rename_i hr
    split at h
    · cases h
    · exact ⟨hr, by omega, encSpec_of hr (by omega)⟩
  · cases h
theorem enc_err {l : List Val} (h : ¬ (encSpec l).2 = 0) : (encSpec l).1 = [] ∧ ((encSpec l).2 = 9 ∨ (encSpec l).2 = 10) := by
  unfold encSpec at h ⊢
  split
  · split
    · exact ⟨rfl, .inr rfl⟩
    · rename_i h1 h2; rw [if_pos h1, if_neg h2] at h; exact absurd rfl h
  · exact ⟨rfl, .inl rfl⟩
end Go.Proofs.YthjicmdmhmffmaaDoor
