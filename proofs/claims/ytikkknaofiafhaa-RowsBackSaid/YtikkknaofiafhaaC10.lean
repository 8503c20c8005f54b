/- Contract: tuple.Dec. -/
import Derived.Test.YtikkknaofiafhaaC9
namespace Go.Proofs.Ytikkknaofiafhaa
open Go.RowKit

theorem textD_suffix (l acc s r : List UInt8) (h : textD acc l = .inl (s, r)) : ∃ p, l = p ++ r := by
  fun_induction textD acc l <;> simp_all
  · exact ⟨[0, 1], rfl⟩
  · rename_i ih
    obtain ⟨p, hp⟩ := ih
    exact ⟨0 :: 255 :: p, by simp [hp]⟩
  · rename_i ih
    obtain ⟨p, hp⟩ := ih
    exact ⟨_ :: p, by rw [hp]; rfl⟩
theorem takeD_suffix {l r : List UInt8} {v : Val} (h : takeD l = .inl (v, r)) : ∃ p, p ≠ [] ∧ l = p ++ r := by
  cases l with
  | nil => simp [takeD] at h
  | cons b t =>
    rw [takeD] at h
    split at h
    · simp only [Sum.inl.injEq, Prod.mk.injEq] at h
      exact ⟨[b], by simp, by rw [h.2]; rfl⟩
    · split at h
      · split at h
        · cases h
        · simp only [Sum.inl.injEq, Prod.mk.injEq] at h
          exact ⟨b :: t.take 8, by simp, by rw [← h.2]; simp⟩
      · split at h
        · split at h
          · rename_i s r' hs
            simp only [Sum.inl.injEq, Prod.mk.injEq] at h
            obtain ⟨p, hp⟩ := textD_suffix _ _ _ _ hs
            exact ⟨b :: p, by simp, by rw [← h.2, hp]; rfl⟩
          · cases h
        · cases h
theorem takeD_drop {l r : List UInt8} {v : Val} (h : takeD l = .inl (v, r)) : r.length < l.length ∧ r = l.drop (l.length - r.length) := by
  obtain ⟨p, hp, rfl⟩ := takeD_suffix h
  have : 0 < p.length := List.length_pos_iff.2 hp
  refine ⟨by simp; omega, ?_⟩
  rw [show (p ++ r).length - r.length = p.length by simp, List.drop_left]
theorem takeD_err {l : List UInt8} {c : Int} (h : takeD l = .inr c) : c = 8 ∨ c = 9 := by
  cases l with
  | nil => simp [takeD] at h; omega
  | cons b t =>
    rw [takeD] at h
    split at h
    · cases h
    · split at h
      · split at h
        · simp at h; omega
        · cases h
      · split at h
        · split at h
          · cases h
          · rename_i e hs
            simp only [Sum.inr.injEq] at h
            subst h
            exact textD_no0 _ _ _ hs
        · simp at h; omega

theorem takePost_of_err {l : List UInt8} {c : Int} {w w' : World} {e : Ending} (h : takeD l = .inr c) (hp : TakePost l w e w') :
    ∃ (k i : Int) (s : ByteArray) (m : Int), e = .returned (.tuple #[.agg #[.int .i64 k, .int .i64 i, .string s], .int .i64 m, .int .i64 c]) ∧ Below w.heap.size w w' := by
  unfold TakePost at hp
  rw [h] at hp
  obtain ⟨⟨⟨k, i, s⟩, m, rfl⟩, hb⟩ := hp
  exact ⟨k, i, s, m, rfl, hb⟩
theorem takePost_of_ok {l r : List UInt8} {v : Val} {w w' : World} {e : Ending} (h : takeD l = .inl (v, r)) (hp : TakePost l w e w') :
    e = .returned (.tuple #[.agg #[.int .i64 v.k, .int .i64 v.i, .string v.s], .int .i64 ((l.length - r.length : Nat) : Int), .int .i64 0]) ∧ Below w.heap.size w w' := by
  unfold TakePost at hp
  rw [h] at hp
  exact hp

theorem ownV_below {base : Nat} {w w' : World} {A : Option Addr} {n c : Nat} {l : List Val} (h : OwnV base w A n c l) (hb : Below w.heap.size w w') : OwnV base w' A n c l := by
  refine ⟨h.1, ?_⟩
  rcases h.2 with h2 | ⟨g, cap, cur, hv, hg, hh, r⟩
  · exact .inl h2
  · exact .inr ⟨g, cap, cur, hv, hg, (hb.block g (Array.getElem?_eq_some_iff.1 hh).1).trans hh, r⟩
theorem addr_add (b off k : Nat) : (⟨b, off, none⟩ : Addr).add k = ⟨b, off + k, none⟩ := by
  unfold Addr.add
  split
  · rename_i h; simp [h]
  · rfl
/-- append(s, v) of one value -/
theorem wp_append_val {ops : Array Oper} {rest : List Oper} {o : Oper} {a : Act} {Q : Exit → Act → World → Prop} (hgd : o.guard = none) (s x : Operand)
    (ho : o.op = .call { callee := .builtin .append, args := #[s, x], argTypes := #[22, 22] })
    (base : Nat) (A0 : Option Addr) (n c0 : Nat) (l : List Val) (w : World) (v : Val) (hs : a.eval s = .slice A0 n c0) (hown : OwnV base w A0 n c0 l)
    (hx : a.eval x = .slice (some ⟨w.heap.size, 0, none⟩) 1 1) (hlen : (n + 1) * 32 ≤ 140737488355328) (hbase : base ≤ w.heap.size)
    (h : ∀ A' c' w', OwnV base w' A' (n + 1) c' (l ++ [v]) → Below base w w' → wpList Try.prog ops Q rest (a.put o.dst (.slice A' (n + 1) c')) w') : wpList Try.prog ops Q (o :: rest) a (w.alloc (.cells #[.int .i64 v.k, .int .i64 v.i, .string v.s] 24)) := by
  refine wp_append_vals hgd s x ho base A0 n c0 l _ hs (hown.alloc _) _ 1 1 [v] hx (Rd.new w _ 3 1 _ rfl) hlen (by simp; omega) fun A' c' w' h2 h3 => h A' c' w' h2 (((Below.refl _ _).alloc hbase _).trans h3)

/-- Dec's answer -/
def DecPost (l : List UInt8) (w : World) (e : Ending) (w' : World) : Prop :=
  ∃ (A : Option Addr) (c : Nat), e = .returned (.tuple #[.slice A (decB l).1.length c, .int .i64 (if (decB l).2 = 0 then (l.length : Int) else 0), .int .i64 (decB l).2]) ∧ OwnV w.heap.size w' A (decB l).1.length c (decB l).1 ∧ Below w.heap.size w w'
theorem decPost_err {l : List UInt8} {c : Int} {w w' : World} (h : decB l = ([], c)) (h0 : c ≠ 0) (hb : Below w.heap.size w w') : DecPost l w (.returned (.tuple #[.slice none 0 0, .int .i64 0, .int .i64 c])) w' := by
  unfold DecPost
  rw [h]
  exact ⟨none, 0, by rw [if_neg h0]; rfl, OwnV.nil_ _ _, hb⟩
theorem decPost_ok {l : List UInt8} {a : List Val} {A : Option Addr} {m c : Nat} {N : Int} {w w' : World} (h : decB l = (a, 0)) (hm : a.length = m) (hN : N = (l.length : Int)) (ho : OwnV w.heap.size w' A m c a) (hb : Below w.heap.size w w') : DecPost l w (.returned (.tuple #[.slice A m c, .int .i64 N, .int .i64 0])) w' := by
  unfold DecPost
  rw [h]
  subst hm hN
  exact ⟨A, c, by rw [if_pos rfl], ho, hb⟩

set_option maxRecDepth 100000 in
set_option maxHeartbeats 200000 in
theorem dec_any (A : Option Addr) (n c : Nat) (l : List UInt8) (w : World) (hr : Rd w 1 A n (bs l)) (hc : n ≤ c) (hm : n ≤ 4398046511104) :
    Calls Try.prog 43 #[.slice A n c] w (DecPost l w) := by
  have hn : l.length = n := by have := hr.1; simpa using this
  have HN := Lib.hid hn; clear hn
  go_enter Try.func43, Try.ntmps43
  go_wp2
  go_loopw [5, 6] (fun v j wr => ∃ (k m f : Nat) (A' : Option Addr) (c' : Nat) (acc : List Val), k ≤ n ∧ m ≤ k ∧ n - k ≤ f ∧ v = .slice A' m c' ∧ j = .int .i64 (k : Int) ∧ Below w.heap.size w wr ∧ OwnV w.heap.size wr A' m c' acc ∧ decB l = decD f acc (l.drop k)) (fun _ j _ => n - (intOf j).toNat)
  case atStart => exact ⟨0, 0, n, none, 0, [], by omega, by omega, by omega, rfl, rfl, Below.refl _ _, OwnV.nil_ _ _, by rw [decB, HN.out]; rfl⟩
  case round =>
    obtain ⟨k, m, f, A', c', acc, hk, hmk, hf, rfl, rfl, hb, hown, hT⟩ := hrel
    have HM := Lib.hid hown.len
    have HT := Lib.hid hT; clear hT
    by_cases hlt : k < n
    · have hlv : k < l.length := by rw [HN.out]; exact hlt
      obtain ⟨b, off, hA, hlb, _⟩ := hr.byteB hlv
      have hrd := ((hr.below hb).drop (k := k) hk hc)
      rw [bs_drop, Nat.mul_one, if_neg (by omega), hA] at hrd
      rw [Option.map_some, addr_add] at hrd
      have HL : Hid ((l.drop k).length = n - k) := by rw [List.length_drop, HN.out]; trivial
      have hne : l.drop k ≠ [] := fun h => by have := HL.out; rw [h] at this; simp at this; omega
      have htk := take_any _ (n - k) (c - k) _ wr hne hrd (by omega) (by omega)
      have HTK := Lib.hid htk
      subst hA
      clear htk hrd
      obtain ⟨f, rfl⟩ : ∃ f', f = f' + 1 := ⟨f - 1, by omega⟩
      have HD : Hid (decD (f + 1) acc (l.drop k) = match takeD (l.drop k) with | .inl (v, r) => decD f (acc ++ [v]) r | .inr e => ([], e)) := by
        cases hq : l.drop k with
        | nil => exact absurd hq hne
        | cons x t => rfl
      cases ht : takeD (l.drop k) with
      | inr e =>
        have h0 : (e != 0) = true := by rcases takeD_err ht with rfl | rfl <;> rfl
        have HE := Lib.hid ht; clear ht hne
        go_wp2_with (go_at_call 105; refine Calls.mono HTK.out ?_; rintro e1 w1 hp; obtain ⟨yk, yi, ys, ym, rfl, hb1⟩ := takePost_of_err HE.out hp)
        go_ret3
        refine decPost_err (by rw [HT.out, HD.out, HE.out]) (by simpa using h0) ((hb.trans (hb1.mono hb.size)).alloc (Nat.le_trans hb.size hb1.size) _)
      | inl p =>
        obtain ⟨v, r⟩ := p
        obtain ⟨hl1, hl2⟩ := takeD_drop ht
        have HE := Lib.hid ht; clear ht hne
        have HR := Lib.hid hl2
        have HL1 := Lib.hid hl1; clear hl1 hl2
        obtain ⟨d, hd⟩ : ∃ d, d = (l.drop k).length - r.length := ⟨_, rfl⟩
        have HDD := Lib.hid hd; clear hd
        have hd1 : 1 ≤ d ∧ d ≤ n - k := by have h1 := HDD.out; have h2 := HL.out; have h3 := HL1.out; omega
        go_wp2_with (first
          | (go_at_call 105; refine Calls.mono HTK.out ?_; rintro e1 w1 hp; obtain ⟨rfl, hb1⟩ := takePost_of_ok HE.out hp; rw [← HDD.out]; have hown1 := ownV_below hown hb1)
          | (at_builtin; refine wp_append_val rfl (.tmp 25) (.tmp 27) rfl w.heap.size A' m c' _ _ v rfl (hown1.alloc _) (by rw [World.size_alloc]; rfl) (by omega) (by simp only [World.size_alloc]; exact Nat.le_trans hb.size (Nat.le_trans hb1.size (by omega))) ?_; intro A2 c2 w2 hown2 hb2; have hb2' := ((hb.trans (hb1.mono hb.size)).alloc (Nat.le_trans hb.size hb1.size) _).trans hb2))
        go_roundw
        case rel =>
          refine ⟨k + d, m + 1, f, A2, c2, acc ++ [v], by omega, by omega, by omega, rfl, by go_num, hb2', hown2, ?_⟩
          rw [HT.out, HD.out, HE.out]
          show decD f (acc ++ [v]) r = _
          have h1 := HR.out
          rw [← HDD.out, List.drop_drop] at h1
          rw [← h1]
        case measure => simp [intOf]; omega
    · have HE : Hid (decB l = if 16 < acc.length then ([], 10) else (acc, 0)) := by
        have : l.drop k = [] := List.drop_of_length_le (by rw [HN.out]; omega)
        rw [HT.out, this]
        cases f <;> trivial
      by_cases h16 : 16 < m
      · have HE2 := Lib.hid (HE.out.trans (if_pos (by rw [HM.out]; exact h16)))
        go_wp2
        go_ret3
        exact decPost_err HE2.out (by decide) hb
      · have HE2 := Lib.hid (HE.out.trans (if_neg (by rw [HM.out]; exact h16)))
        go_wp2
        go_ret3
        exact decPost_ok HE2.out HM.out (by rw [HN.out]) hown hb
end Go.Proofs.Ytikkknaofiafhaa
