/- Contract: tuple.Dec. -/
import Derived.Test.YthjicmdmhmffmaaDoorC8
namespace Go.Proofs.YthjicmdmhmffmaaDoor
open Go.RowKit

theorem textD_suffix (l acc s r : List UInt8) (h : textD acc l = .inl (s, r)) : ∃ p, l = p ++ r := by
  fun_induction textD acc l <;> simp_all
  · exact ⟨[0, 1], rfl⟩
  · rename_i ih
    obtain ⟨p, hp⟩ := ih
    exact ⟨0 :: 255 :: p, by simp [hp]⟩
  · rename_i ih
    obtain ⟨p, hp⟩ := ih
    exact ⟨_ :: p, by rw [hp]; rfl⟩
theorem takeD_suffix {l r : List UInt8} {v : Val} (h : takeD l = .inl (v, r)) : ∃ p, p ≠ [] ∧ l = p ++ r := by
  cases l with
  | nil => simp [takeD] at h
  | cons b t =>
    rw [takeD] at h
    split at h
    · simp only [Sum.inl.injEq, Prod.mk.injEq] at h
      exact ⟨[b], by simp, by rw [h.2]; rfl⟩
    · split at h
      · split at h
        · cases h
        · simp only [Sum.inl.injEq, Prod.mk.injEq] at h
          exact ⟨b :: t.take 8, by simp, by rw [← h.2]; simp⟩
      · split at h
        · split at h
          · rename_i s r' hs
            simp only [Sum.inl.injEq, Prod.mk.injEq] at h
            obtain ⟨p, hp⟩ := textD_suffix _ _ _ _ hs
            exact ⟨b :: p, by simp, by rw [← h.2, hp]; rfl⟩
          · cases h
        · cases h
theorem takeD_drop {l r : List UInt8} {v : Val} (h : takeD l = .inl (v, r)) : r.length < l.length ∧ r = l.drop (l.length - r.length) := by
  obtain ⟨p, hp, rfl⟩ := takeD_suffix h
  have : 0 < p.length := List.length_pos_iff.2 hp
  refine ⟨by simp; omega, ?_⟩
  rw [show (p ++ r).length - r.length = p.length by simp, List.drop_left]
theorem takeD_err {l : List UInt8} {c : Int} (h : takeD l = .inr c) : c = 8 ∨ c = 9 := by
  cases l with
  | nil => simp [takeD] at h; omega
  | cons b t =>
    rw [takeD] at h
    split at h
    · cases h
    · split at h
      · split at h
        · simp at h; omega
        · cases h
      · split at h
        · split at h
          · cases h
          · rename_i e hs
            simp only [Sum.inr.injEq] at h
            subst h
            exact textD_no0 _ _ _ hs
        · simp at h; omega

theorem takePost_of_err {l : List UInt8} {c : Int} {w w' : World} {e : Ending} (h : takeD l = .inr c) (hp : TakePost l w e w') :
    ∃ (k i : Int) (s : ByteArray) (m : Int), e = .returned (.tuple #[.agg #[.int .i64 k, .int .i64 i, .string s], .int .i64 m, .int .i64 c]) ∧ Below w.heap.size w w' := by
  unfold TakePost at hp
  rw [h] at hp
  obtain ⟨⟨⟨k, i, s⟩, m, rfl⟩, hb⟩ := hp
  exact ⟨k, i, s, m, rfl, hb⟩
theorem takePost_of_ok {l r : List UInt8} {v : Val} {w w' : World} {e : Ending} (h : takeD l = .inl (v, r)) (hp : TakePost l w e w') :
    e = .returned (.tuple #[.agg #[.int .i64 v.k, .int .i64 v.i, .string v.s], .int .i64 ((l.length - r.length : Nat) : Int), .int .i64 0]) ∧ Below w.heap.size w w' := by
  unfold TakePost at hp
  rw [h] at hp
  exact hp

theorem ownV_below {base : Nat} {w w' : World} {A : Option Addr} {n c : Nat} {l : List Val} (h : OwnV base w A n c l) (hb : Below w.heap.size w w') : OwnV base w' A n c l := by
  refine ⟨h.1, ?_⟩
  rcases h.2 with h2 | ⟨g, cap, cur, hv, hg, hh, r⟩
  · exact .inl h2
  · exact .inr ⟨g, cap, cur, hv, hg, (hb.block g (Array.getElem?_eq_some_iff.1 hh).1).trans hh, r⟩
theorem addr_add (b off k : Nat) : (⟨b, off, none⟩ : Addr).add k = ⟨b, off + k, none⟩ := by
  unfold Addr.add
  split
  · rename_i h; simp [h]
  · rfl
/-- append(s, v) of one value -/
theorem wp_append_val {ops : Array Oper} {rest : List Oper} {o : Oper} {a : Act} {Q : Exit → Act → World → Prop} (hgd : o.guard = none) (s x : Operand)
    (ho : o.op = .call { callee := .builtin .append, args := #[s, x], argTypes := #[28, 28] })
    (base : Nat) (A0 : Option Addr) (n c0 : Nat) (l : List Val) (w : World) (v : Val) (hs : a.eval s = .slice A0 n c0) (hown : OwnV base w A0 n c0 l)
    (hx : a.eval x = .slice (some ⟨w.heap.size, 0, none⟩) 1 1) (hlen : (n + 1) * 32 ≤ 140737488355328) (hbase : base ≤ w.heap.size)
    (h : ∀ A' c' w', OwnV base w' A' (n + 1) c' (l ++ [v]) → Below base w w' → wpList Tryd.prog ops Q rest (a.put o.dst (.slice A' (n + 1) c')) w') : wpList Tryd.prog ops Q (o :: rest) a (w.alloc (.cells #[.int .i64 v.k, .int .i64 v.i, .string v.s] 38)) := by
  refine wp_append_vals hgd s x ho base A0 n c0 l _ hs (hown.alloc _) _ 1 1 [v] hx (Rd.new w _ 3 1 _ rfl) hlen (by simp; omega) fun A' c' w' h2 h3 => h A' c' w' h2 (((Below.refl _ _).alloc hbase _).trans h3)

/-- Dec's answer -/
def DecPost (l : List UInt8) (w : World) (e : Ending) (w' : World) : Prop :=
  ∃ (A : Option Addr) (c : Nat), e = .returned (.tuple #[.slice A (decB l).1.length c, .int .i64 (if (decB l).2 = 0 then (l.length : Int) else 0), .int .i64 (decB l).2]) ∧ OwnV w.heap.size w' A (decB l).1.length c (decB l).1 ∧ Below w.heap.size w w'
theorem decPost_err {l : List UInt8} {c : Int} {w w' : World} (h : decB l = ([], c)) (h0 : c ≠ 0) (hb : Below w.heap.size w w') : DecPost l w (.returned (.tuple #[.slice none 0 0, .int .i64 0, .int .i64 c])) w' := by
  unfold DecPost
  rw [h]
  exact ⟨none, 0, by rw [if_neg h0]; rfl, OwnV.nil_ _ _, hb⟩
theorem decPost_ok {l : List UInt8} {a : List Val} {A : Option Addr} {m c : Nat} {N : Int} {w w' : World} (h : decB l = (a, 0)) (hm : a.length = m) (hN : N = (l.length : Int)) (ho : OwnV w.heap.size w' A m c a) (hb : Below w.heap.size w w') : DecPost l w (.returned (.tuple #[.slice A m c, .int .i64 N, .int .i64 0])) w' := by
  unfold DecPost
  rw [h]
  subst hm hN
  exact ⟨A, c, by rw [if_pos rfl], ho, hb⟩

end Go.Proofs.YthjicmdmhmffmaaDoor
