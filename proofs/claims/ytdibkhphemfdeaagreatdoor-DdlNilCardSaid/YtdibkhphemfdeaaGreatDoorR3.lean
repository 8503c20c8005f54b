/- Contracts: the document's pick; rows.Fits, head, Key, Name; the document's Key.
Contracts: rows.head, Key, Name, Pair; the document's Key.
Contracts: rows.null, ContainsFunc of it; slices.Index; bytes.Equal, HasPrefix, CutPrefix; rows.Pair. -/
import Derived.Test.YtdibkhphemfdeaaGreatDoorR1
import Derived.Test.YtdibkhphemfdeaaGreatDoorS0
namespace Go.Proofs.YtdibkhphemfdeaaGreatDoor
open Go.RowKit

theorem fitC_no1 {t : TabD} {k : Int} {x : Val} (h : ¬ 0 ≤ k) : fitC t k x = false := by simp [fitC, h]
theorem fitC_no2 {t : TabD} {k : Int} {x : Val} (h : ¬ k < t.cols.length) : fitC t k x = false := by
  unfold fitC; rw [decide_eq_false h]; simp
theorem fitC_at {t : TabD} {q : Nat} {x : Val} (h : q < t.cols.length) : fitC t (q : Int) x = (rightB x.k x.i x.s && t.cols[q].kind == x.k) := by
  have h' : (q : Int) < t.cols.length := by omega
  simp [fitC, h', h]

end Go.Proofs.YtdibkhphemfdeaaGreatDoor

namespace Go.Proofs.YtdibkhphemfdeaaGreatDoor
open Go.RowKit

theorem encSpec_len (l : List Val) : (encSpec l).1.length ≤ 688 := by
  unfold encSpec
  cases h : allRight l
  · simp
  · rw [if_pos rfl]
    split
    · simp
    · have := encL_length_le l h
      simp only
      omega
/-- Enc over data -/
theorem enc_rv {ok : Nat → Prop} (v : Value) (vs : List Val) (w : World) (hr : RV ok w v vs) :
    Calls Tryz.prog 60 #[v] w fun e w' => (∃ A n c, e = .returned (.tuple #[.slice A n c, .int .i64 (encSpec vs).2]) ∧ OwnB w.heap.size w' A n c (encSpec vs).1) ∧ Below w.heap.size w w' := by
  obtain ⟨A, c, rfl, hc, hm, hrd, hok, _⟩ := hr.open_
  exact enc_any A _ c vs w hrd (by omega) hok
theorem head_enc (id : Int) : encSpec [⟨1, id, ⟨#[]⟩⟩] = (encL [⟨1, id, ⟨#[]⟩⟩], 0) := by
  have : allRight [⟨1, id, ⟨#[]⟩⟩] = true := by
    simp [allRight, rightB, Val.right]
  simp [encSpec, this]
theorem headB_length (f : UInt8) (id : Int) : (headB f id).length = 10 := by
  simp [headB, encL, encV, intB_length]

set_option maxRecDepth 100000 in
set_option maxHeartbeats 1600000 in
theorem head_any (f : UInt8) (id : Int) (w : World) (hid : I64 id) :
    Calls Tryz.prog 48 #[.int .u8 (f.toNat : Int), .int .i64 id] w fun e w' => (∃ A c, e = .returned (.slice A 10 c) ∧ OwnB w.heap.size w' A 10 c (headB f id)) ∧ Below w.heap.size w w' := by
  have HI := Lib.hid hid; clear hid
  go_enter Tryz.func48, Tryz.ntmps48
  go_wp2_with fail
  refine (enc_any (some ⟨w.heap.size, 0, none⟩) 1 1 [⟨1, id, ⟨#[]⟩⟩] _ (Rd.new w _ 3 1 _ rfl) (by omega) (by intro x hx; simp at hx; subst hx; exact HI.out)).mono ?_
  unfold EncPost
  rw [head_enc]
  rintro e w1 ⟨⟨A, n, c, rfl, hown⟩, hb1⟩
  have hn : 9 = n := by have := hown.len; simpa [encL, encV, intB_length] using this
  subst hn
  have hb0 : Below w.heap.size w w1 := ((Below.refl _ _).alloc (Nat.le_refl _) _).trans (hb1.mono (by simp))
  have ho1 := own_first w1 (f.toNat : Int) f rfl w.heap.size hb0.size
  go_wp2_with (at_builtin; refine wp_append_bytes rfl _ _ rfl w.heap.size _ 1 1 [f] _ rfl ho1 A 9 c (encL [⟨1, id, ⟨#[]⟩⟩]) rfl (hown.rd.below ((Below.refl _ _).alloc (Nat.le_refl _) _)) (by omega) (by have := hb0.size; simp; omega) ?_; intro A2 c2 w2 hown2 hb2)
  go_ret
  exact ⟨⟨A2, c2, rfl, hown2⟩, (hb0.alloc hb0.size _).trans hb2⟩

end Go.Proofs.YtdibkhphemfdeaaGreatDoor

namespace Go.Proofs.YtdibkhphemfdeaaGreatDoor
open Go.RowKit

def hasNull (l : List Val) : Bool := l.any fun v => v.k == 0
theorem hasNull_yes (l : List Val) (k : Nat) (h : k < l.length) (h0 : (l[k].k == 0) = true) : hasNull l = true := List.any_eq_true.2 ⟨_, List.getElem_mem h, h0⟩
theorem hasNull_no (l : List Val) (h : ∀ k (hk : k < l.length), (l[k].k == 0) = false) : hasNull l = false := by
  unfold hasNull
  rw [List.any_eq_false]
  intro x hx
  obtain ⟨k, hk, rfl⟩ := List.getElem_of_mem hx
  rw [h k hk]
  simp

/-- the first place of a number -/
def idxI : List Int → Int → Nat → Int
  | [], _, _ => -1
  | x :: l, k, n => if k = x then (n : Int) else idxI l k (n + 1)
theorem idxI_drop (l : List Int) (k : Int) (n : Nat) (h : n < l.length) : idxI (l.drop n) k n = if k = l[n] then (n : Int) else idxI (l.drop (n + 1)) k (n + 1) := by
  rw [List.drop_eq_getElem_cons h, idxI]

theorem beqB (l p : List UInt8) : ((str l).toList == (str p).toList) = decide (l = p) := by
  rw [str_toList, str_toList]
  by_cases h : l = p
  · simp [h]
  · simp [h]
/-- Bytes over data -/
theorem bytes_rb {ok ok2 : Nat → Prop} (u v : Value) (l p : List UInt8) (w : World) (h1 : RB ok w u l) (h2 : RB ok2 w v p) :
    Calls Tryz.prog 18 #[u, v] w fun e w' => e = .returned (.bool (decide (l = p))) ∧ w = w' := by
  obtain ⟨A, c, rfl, _, _, r1, _⟩ := h1.open_
  obtain ⟨A2, c2, rfl, _, _, r2, _⟩ := h2.open_
  have hE : (l == p) = decide (l = p) := by
    by_cases h : l = p
    · simp [h]
    · simp [h]
  exact (bytes_any A A2 _ c _ c2 l p w r1 r2).mono fun e w' ⟨he, hw⟩ => ⟨by rw [he]; exact ret_bool hE, hw⟩
def preB (l p : List UInt8) : Bool := decide (p.length ≤ l.length) && decide (l.take p.length = p)
theorem preB_len {l p : List UInt8} (h : preB l p = true) : p.length ≤ l.length := by simp [preB] at h; exact h.1
def cutB (l p : List UInt8) : List UInt8 := if preB l p then l.drop p.length else l
end Go.Proofs.YtdibkhphemfdeaaGreatDoor
