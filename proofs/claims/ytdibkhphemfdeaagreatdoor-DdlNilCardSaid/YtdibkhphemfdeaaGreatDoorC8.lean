/- Contracts: tuple.text, tuple.take, tuple.Dec.
Contracts: tuple.take, tuple.Dec. -/
import Derived.Test.YtdibkhphemfdeaaGreatDoorC2
import Derived.Test.YtdibkhphemfdeaaGreatDoorDec
namespace Go.Proofs.YtdibkhphemfdeaaGreatDoor
open Go.RowKit

/-- text's answer: the text, how many bytes, a code -/
def textR (l : List UInt8) : ByteArray × Int × Int := match textD [] l with | .inl (s, r) => (str s, ((l.length - r.length : Nat) : Int), 0) | .inr e => (⟨#[]⟩, 0, e)
def TextPost (l : List UInt8) (w : World) (e : Ending) (w' : World) : Prop := e = .returned (.tuple #[.string (textR l).1, .int .i64 (textR l).2.1, .int .i64 (textR l).2.2]) ∧ Below w.heap.size w w'

theorem textR_err {l : List UInt8} {e : Int} (h : textD [] l = .inr e) : textR l = (⟨#[]⟩, 0, e) := by rw [textR, h]
theorem textR_ok {l s r : List UInt8} (h : textD [] l = .inl (s, r)) : textR l = (str s, ((l.length - r.length : Nat) : Int), 0) := by rw [textR, h]
theorem textPost_err {l : List UInt8} {c : Int} {w w' : World} (h : textD [] l = .inr c) (hb : Below w.heap.size w w') : TextPost l w (.returned (.tuple #[.string ⟨#[]⟩, .int .i64 0, .int .i64 c])) w' := by
  unfold TextPost; rw [textR_err h]; exact ⟨rfl, hb⟩

end Go.Proofs.YtdibkhphemfdeaaGreatDoor

namespace Go.Proofs.YtdibkhphemfdeaaGreatDoor
open Go.RowKit

/-- take's answer -/
def TakePost (l : List UInt8) (w : World) (e : Ending) (w' : World) : Prop :=
  (match takeD l with
   | .inl (v, r) => e = .returned (.tuple #[v.v, .int .i64 ((l.length - r.length : Nat) : Int), .int .i64 0])
   | .inr c => ∃ (y : Val) (m : Int), e = .returned (.tuple #[y.v, .int .i64 m, .int .i64 c])) ∧ Below w.heap.size w w'
theorem takePost_ok {l r : List UInt8} {v : Val} {w w' : World} {m : Int} (h : takeD l = .inl (v, r)) (hm : m = ((l.length - r.length : Nat) : Int)) (hb : Below w.heap.size w w') :
    TakePost l w (.returned (.tuple #[.agg #[.int .i64 v.k, .int .i64 v.i, .string v.s], .int .i64 m, .int .i64 0])) w' := by
  unfold TakePost; rw [h]; exact ⟨by rw [hm]; rfl, hb⟩
theorem takePost_err {l : List UInt8} {k i : Int} {s : ByteArray} {w w' : World} {m c : Int} (h : takeD l = .inr c) (hb : Below w.heap.size w w') :
    TakePost l w (.returned (.tuple #[.agg #[.int .i64 k, .int .i64 i, .string s], .int .i64 m, .int .i64 c])) w' := by
  unfold TakePost; rw [h]; exact ⟨⟨⟨k, i, s⟩, m, rfl⟩, hb⟩

theorem beNat_small (t : List UInt8) (k : Nat) (h : k < 8) : beNat (t.take k) < 72057594037927936 := by
  have h5 := beNat_lt (t.take k)
  have h6 : (t.take k).length ≤ 7 := by rw [List.length_take]; omega
  have h7 : 256 ^ (t.take k).length ≤ 256 ^ 7 := Nat.pow_le_pow_right (by decide) h6
  have h8 : (256 : Nat) ^ 7 = 72057594037927936 := by decide
  rw [h8] at h7
  exact Nat.lt_of_lt_of_le h5 h7
theorem beNat_small8 (t : List UInt8) : beNat (t.take 8) < 18446744073709551616 := by
  have h5 := beNat_lt (t.take 8)
  have h6 : (t.take 8).length ≤ 8 := List.length_take_le _ _
  have h7 : 256 ^ (t.take 8).length ≤ 256 ^ 8 := Nat.pow_le_pow_right (by decide) h6
  have h8 : (256 : Nat) ^ 8 = 18446744073709551616 := by decide
  rw [h8] at h7
  exact Nat.lt_of_lt_of_le h5 h7

theorem takeD_text {x : UInt8} {t : List UInt8} (h1 : ¬ x = 1) (h2 : ¬ x = 2) (h3 : x = 3) : takeD (x :: t) = match textD [] t with | .inl (s, r) => .inl (⟨2, 0, str s⟩, r) | .inr e => .inr e := by
  rw [takeD, if_neg h1, if_neg h2, if_pos h3]
  cases textD [] t <;> rfl
/-- what textD leaves is no longer than what it got -/
theorem textD_le (l acc s r : List UInt8) (h : textD acc l = .inl (s, r)) : r.length ≤ l.length := by
  fun_induction textD acc l <;> simp_all <;> omega
theorem textD_no0 (l acc : List UInt8) (c : Int) (h : textD acc l = .inr c) : c = 8 ∨ c = 9 := by
  fun_induction textD acc l <;> simp_all
theorem take_textPost {x : UInt8} {t : List UInt8} {w w' : World} (h1 : ¬ x = 1) (h2 : ¬ x = 2) (h3 : x = 3) (hb : Below w.heap.size w w') :
    TakePost (x :: t) w (.returned (.tuple #[.agg #[.int .i64 2, .int .i64 0, .string (textR t).1], .int .i64 ((textR t).2.1 + 1), .int .i64 (textR t).2.2])) w' := by
  unfold TakePost
  rw [takeD_text h1 h2 h3]
  cases hd : textD [] t with
  | inl p =>
    obtain ⟨s, r⟩ := p
    rw [textR_ok hd]
    have := textD_le _ _ _ _ hd
    refine ⟨?_, hb⟩
    have e : (((x :: t).length - r.length : Nat) : Int) = ((t.length - r.length : Nat) : Int) + 1 := by rw [List.length_cons]; omega
    show Ending.returned _ = Ending.returned (.tuple #[_, .int .i64 (((x :: t).length - r.length : Nat) : Int), _])
    rw [e]
    rfl
  | inr e =>
    rw [textR_err hd]
    exact ⟨⟨⟨2, 0, ⟨#[]⟩⟩, _, rfl⟩, hb⟩
/-- a result slot after a call -/
theorem slot_kept {w w1 : World} {T : TypeId} (hb : Below (w.alloc (.cells #[.int .i64 0, .int .i64 0, .string ⟨#[]⟩] T)).heap.size (w.alloc (.cells #[.int .i64 0, .int .i64 0, .string ⟨#[]⟩] T)) w1) :
    (w1.cell? ⟨w.heap.size, 0, none⟩ = some (.int .i64 0) ∧ w1.cell? ⟨w.heap.size, 1, none⟩ = some (.int .i64 0) ∧ w1.cell? ⟨w.heap.size, 2, none⟩ = some (.string ⟨#[]⟩)) ∧
    (w1.frozen? ⟨w.heap.size, 0, none⟩ = false ∧ w1.frozen? ⟨w.heap.size, 1, none⟩ = false ∧ w1.frozen? ⟨w.heap.size, 2, none⟩ = false) ∧ Below w.heap.size w w1 ∧ w.heap.size < w1.heap.size := by
  have hl : w.heap.size < (w.alloc (.cells #[.int .i64 0, .int .i64 0, .string ⟨#[]⟩] T)).heap.size := by simp [World.size_alloc]
  refine ⟨⟨?_, ?_, ?_⟩, ⟨?_, ?_, ?_⟩, ((Below.refl _ _).alloc (Nat.le_refl _) _).trans (hb.mono (by omega)), Nat.lt_of_lt_of_le hl hb.size⟩
  · exact (hb.cell (p := ⟨w.heap.size, 0, none⟩) hl).trans (by simp)
  · exact (hb.cell (p := ⟨w.heap.size, 1, none⟩) hl).trans (by simp)
  · exact (hb.cell (p := ⟨w.heap.size, 2, none⟩) hl).trans (by simp)
  · exact (hb.frozen (p := ⟨w.heap.size, 0, none⟩) hl).trans (by simp)
  · exact (hb.frozen (p := ⟨w.heap.size, 1, none⟩) hl).trans (by simp)
  · exact (hb.frozen (p := ⟨w.heap.size, 2, none⟩) hl).trans (by simp)
theorem slot_set {w1 : World} {g : Nat} {y0 y1 y2 : Value} (x0 x1 x2 : Value) (c0 : w1.cell? ⟨g, 0, none⟩ = some y0) (c1 : w1.cell? ⟨g, 1, none⟩ = some y1) (c2 : w1.cell? ⟨g, 2, none⟩ = some y2) :
    (w1.setCell ⟨g, 0, none⟩ x0).cell? ⟨g, 0, none⟩ = some x0 ∧ ((w1.setCell ⟨g, 0, none⟩ x0).setCell ⟨g, 1, none⟩ x1).cell? ⟨g, 1, none⟩ = some x1 ∧ (((w1.setCell ⟨g, 0, none⟩ x0).setCell ⟨g, 1, none⟩ x1).setCell ⟨g, 2, none⟩ x2).cell? ⟨g, 2, none⟩ = some x2 := by
  refine ⟨World.cell?_setCell_same _ _ _ c0, World.cell?_setCell_same _ _ _ (u := y1) ?_, World.cell?_setCell_same _ _ _ (u := y2) ?_⟩
  · rw [World.cell?_setCell_other _ _ _ _ (by simp)]; exact c1
  · rw [World.cell?_setCell_other _ _ _ _ (by simp), World.cell?_setCell_other _ _ _ _ (by simp)]; exact c2
theorem textR_q (t : List UInt8) : 0 ≤ (textR t).2.1 ∧ (textR t).2.1 ≤ t.length := by
  unfold textR
  split
  · exact ⟨by simp, by simp⟩
  · simp

end Go.Proofs.YtdibkhphemfdeaaGreatDoor
