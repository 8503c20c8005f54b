/- Contracts: the bytes of values. -/
import Derived.Test.YtikkknaofiafhaaNum
namespace Go.Proofs.Ytikkknaofiafhaa
open Go.RowKit

theorem Try.infoU8 : (Try.prog.info? 5).map (fun i => (i.zero, i.size, i.bytes)) = some (some (.int .u8 0), 1, 1) := by kernel_rfl
theorem Try.infoVal : (Try.prog.info? 24).map (fun i => (i.zero, i.size, i.bytes)) = some (some (.agg #[.int .i64 0, .int .i64 0, .string ⟨#[]⟩]), 3, 32) := by kernel_rfl

/-- bytes that the call owns -/
def OwnB (base : Nat) (w : World) (A : Option Addr) (n c : Nat) (l : List UInt8) : Prop := w.ownsRow base 5 1 (.slice A n c) n (bs l)
theorem OwnB.nil_ (base : Nat) (w : World) : OwnB base w none 0 0 [] := World.ownsRow_nil _ _ _ _
theorem OwnB.alloc {base : Nat} {w : World} {A : Option Addr} {n c : Nat} {l : List UInt8} (h : OwnB base w A n c l) (o : Obj) : OwnB base (w.alloc o) A n c l := World.ownsRow.alloc h o
theorem OwnB.mono {base B : Nat} {w : World} {A : Option Addr} {n c : Nat} {l : List UInt8} (h : OwnB B w A n c l) (hb : base ≤ B) : OwnB base w A n c l := by
  refine ⟨h.1, ?_⟩
  rcases h.2 with h2 | ⟨g, cap, cur, hv, hg, r⟩
  · exact .inl h2
  · exact .inr ⟨g, cap, cur, hv, Nat.le_trans hb hg, r⟩
theorem OwnB.belowB {base : Nat} {w w' : World} {A : Option Addr} {n c : Nat} {l : List UInt8} (h : OwnB base w A n c l) (hb : Below w.heap.size w w') : OwnB base w' A n c l := by
  refine ⟨h.1, ?_⟩
  rcases h.2 with h2 | ⟨g, cap, cur, hv, hg, hh, r⟩
  · exact .inl h2
  · exact .inr ⟨g, cap, cur, hv, hg, (hb.block g (Array.getElem?_eq_some_iff.1 hh).1).trans hh, r⟩
theorem OwnB.len {base : Nat} {w : World} {A : Option Addr} {n c : Nat} {l : List UInt8} (h : OwnB base w A n c l) : l.length = n := by
  have := h.1; simpa using this
theorem OwnB.rd {base : Nat} {w : World} {A : Option Addr} {n c : Nat} {l : List UInt8} (h : OwnB base w A n c l) : Rd w 1 A n (bs l) := Rd.of_own h

/-- append(s, x...) of bytes -/
theorem wp_append_bytes {ops : Array Oper} {rest : List Oper} {o : Oper} {a : Act} {Q : Exit → Act → World → Prop} (hgd : o.guard = none) (s x : Operand)
    (ho : o.op = .call { callee := .builtin .append, args := #[s, x], argTypes := #[27, 27] })
    (base : Nat) (A0 : Option Addr) (n c0 : Nat) (l : List UInt8) (w : World) (hs : a.eval s = .slice A0 n c0) (hown : OwnB base w A0 n c0 l)
    (A : Option Addr) (m c : Nat) (l2 : List UInt8) (hx : a.eval x = .slice A m c) (hr : Rd w 1 A m (bs l2)) (hlen : n + m ≤ 140737488355328) (hbase : base ≤ w.heap.size)
    (h : ∀ A' c' w', OwnB base w' A' (n + m) c' (l ++ l2) → Below base w w' → wpList Try.prog ops Q rest (a.put o.dst (.slice A' (n + m) c')) w') : wpList Try.prog ops Q (o :: rest) a w := by
  obtain ⟨i0, hi0, hz0, hz1, hz2⟩ := info_parts Try.infoU8
  refine wpList_append_rd w hgd s x _ ho base 5 i0 _ 1 1 Try.underlying27 hi0 hz0 hz1 hz2 rfl (by omega) A0 n c0 (bs l) hs hown A m c (bs l2) hx hr (bs_one l2) (by unfold maxLen; omega) (by omega) hbase fun A' c' w' h2 h3 => h A' c' w' ?_ h3
  unfold OwnB
  rw [bs_append]
  exact h2

/-- append(s, b) of one byte -/
theorem wp_append_byte {ops : Array Oper} {rest : List Oper} {o : Oper} {a : Act} {Q : Exit → Act → World → Prop} (hgd : o.guard = none) (s x : Operand)
    (ho : o.op = .call { callee := .builtin .append, args := #[s, x], argTypes := #[27, 27] })
    (base : Nat) (A0 : Option Addr) (n c0 : Nat) (l : List UInt8) (w : World) (X : Int) (b : UInt8) (hX : X = (b.toNat : Int)) (hs : a.eval s = .slice A0 n c0) (hown : OwnB base w A0 n c0 l)
    (hx : a.eval x = .slice (some ⟨w.heap.size, 0, none⟩) 1 1) (hlen : n + 1 ≤ 140737488355328) (hbase : base ≤ w.heap.size)
    (h : ∀ A' c' w', OwnB base w' A' (n + 1) c' (l ++ [b]) → Below base w w' → wpList Try.prog ops Q rest (a.put o.dst (.slice A' (n + 1) c')) w') : wpList Try.prog ops Q (o :: rest) a (w.alloc (.cells #[.int .u8 X] 5)) := by
  subst hX
  refine wp_append_bytes hgd s x ho base A0 n c0 l _ hs (hown.alloc _) _ 1 1 [b] hx (Rd.new w _ 1 1 _ rfl) hlen (by simp; omega) fun A' c' w' h2 h3 => h A' c' w' h2 (((Below.refl _ _).alloc hbase _).trans h3)

/-- values that the call owns -/
def OwnV (base : Nat) (w : World) (A : Option Addr) (n c : Nat) (l : List Val) : Prop := w.ownsRow base 24 3 (.slice A n c) n (vcs l)
theorem OwnV.nil_ (base : Nat) (w : World) : OwnV base w none 0 0 [] := World.ownsRow_nil _ _ _ _
theorem OwnV.alloc {base : Nat} {w : World} {A : Option Addr} {n c : Nat} {l : List Val} (h : OwnV base w A n c l) (o : Obj) : OwnV base (w.alloc o) A n c l := World.ownsRow.alloc h o
theorem OwnV.len {base : Nat} {w : World} {A : Option Addr} {n c : Nat} {l : List Val} (h : OwnV base w A n c l) : l.length = n := by
  have := h.1; rw [vcs_length] at this; omega
theorem OwnV.rd {base : Nat} {w : World} {A : Option Addr} {n c : Nat} {l : List Val} (h : OwnV base w A n c l) : Rd w 3 A n (vcs l) := Rd.of_own h
theorem OwnV.cap {base : Nat} {w : World} {A : Option Addr} {n c : Nat} {l : List Val} (h : OwnV base w A n c l) : n ≤ c := by
  obtain ⟨A', c', hv, hc, _⟩ := own_slice w h
  simp only [Value.slice.injEq] at hv
  obtain ⟨_, _, rfl⟩ := hv
  exact hc
theorem OwnB.cap {base : Nat} {w : World} {A : Option Addr} {n c : Nat} {l : List UInt8} (h : OwnB base w A n c l) : n ≤ c := by
  obtain ⟨A', c', hv, hc, _⟩ := own_slice w h
  simp only [Value.slice.injEq] at hv
  obtain ⟨_, _, rfl⟩ := hv
  exact hc
/-- append(s, x...) of values -/
theorem wp_append_vals {ops : Array Oper} {rest : List Oper} {o : Oper} {a : Act} {Q : Exit → Act → World → Prop} (hgd : o.guard = none) (s x : Operand)
    (ho : o.op = .call { callee := .builtin .append, args := #[s, x], argTypes := #[22, 22] })
    (base : Nat) (A0 : Option Addr) (n c0 : Nat) (l : List Val) (w : World) (hs : a.eval s = .slice A0 n c0) (hown : OwnV base w A0 n c0 l)
    (A : Option Addr) (m c : Nat) (l2 : List Val) (hx : a.eval x = .slice A m c) (hr : Rd w 3 A m (vcs l2)) (hlen : (n + m) * 32 ≤ 140737488355328) (hbase : base ≤ w.heap.size)
    (h : ∀ A' c' w', OwnV base w' A' (n + m) c' (l ++ l2) → Below base w w' → wpList Try.prog ops Q rest (a.put o.dst (.slice A' (n + m) c')) w') : wpList Try.prog ops Q (o :: rest) a w := by
  obtain ⟨i0, hi0, hz0, hz1, hz2⟩ := info_parts Try.infoVal
  refine wpList_append_rd w hgd s x _ ho base 24 i0 _ 3 32 Try.underlying22 hi0 hz0 hz1 hz2 rfl (by omega) A0 n c0 (vcs l) hs hown A m c (vcs l2) hx hr (vcs_one l2) (by unfold maxLen; omega) (by omega) hbase fun A' c' w' h2 h3 => h A' c' w' ?_ h3
  unfold OwnV
  rw [vcs_append]
  exact h2

set_option maxRecDepth 100000 in
set_option maxHeartbeats 400000 in
theorem bytesOf_int (i : Int) (s : ByteArray) (w : World) (hi1 : -9223372036854775808 ≤ i) (hi2 : i < 9223372036854775808) :
    Calls Try.prog 62 #[.agg #[.int .i64 1, .int .i64 i, .string s]] w fun e w' => (∃ A c, e = .returned (.slice A 9 c) ∧ OwnB w.heap.size w' A 9 c (2 :: intB i)) ∧ Below w.heap.size w w' := by
  have HI1 := Lib.hid hi1; clear hi1
  have HI2 := Lib.hid hi2; clear hi2
  go_enter Try.func62, Try.ntmps62
  go_wp2_with (go_at_call 123; refine (mark_any _ _).mono ?_; rintro e w1 ⟨rfl, rfl⟩)
  go_loopw [3, 4] (fun v j wr => ∃ (k : Nat) (A : Option Addr) (c : Nat), k ≤ 8 ∧ v = .slice A (k + 1) c ∧ j = .int .i64 (56 - 8 * (k : Int)) ∧ Below w.heap.size w wr ∧ w.heap.size + 1 ≤ wr.heap.size ∧ OwnB (w.heap.size + 1) wr A (k + 1) c ((2 :: intB i).take (k + 1)) ∧ wr.cell? ⟨w.heap.size, 1, none⟩ = some (.int .i64 i)) (fun _ j _ => (64 + intOf j).toNat)
  case atStart => exact ⟨0, some ⟨w.heap.size + 1, 0, none⟩, 1, by omega, rfl, rfl, ((Below.refl _ _).alloc (Nat.le_refl _) _).alloc (by simp) _, by simp, by
    have := World.ownsRow_lit (base := w.heap.size + 1) (e := 5) (size := 1) (w.alloc (.cells #[.int .i64 1, .int .i64 i, .string s] 24)) #[.int .u8 (markI 1)] 1 (by simp) (by decide) rfl
    simpa [OwnB, bs, markI] using this, by simp [World.cell?_alloc_past]⟩
  case round =>
    obtain ⟨k, A, c, hk, rfl, rfl, hb, hsz, hown, hc⟩ := hrel
    by_cases hlt : k < 8
    · have hX := intB_byte i k hlt HI1.out HI2.out
      have HX := Lib.hid hX; clear hX
      go_wp2_with (at_builtin; refine wp_append_byte rfl _ _ rfl (w.heap.size + 1) A (k + 1) c _ wr _ ((intB i)[k]'hlt) HX.out rfl hown rfl (by omega) hsz ?_; intro A' c' w1 hown1 hb1; have hc1 := (hb1.cell (p := ⟨w.heap.size, 1, none⟩) (by simp)).trans hc)
      go_roundw
      case rel => exact ⟨k + 1, A', c', by omega, rfl, by go_num, hb.trans (hb1.mono (by simp)), Nat.le_trans hsz hb1.size, by
        rw [List.take_succ_eq_append_getElem (i := k + 1) (by simp [intB_length]; omega)]
        exact hown1, hc1⟩
      case measure => simp [intOf]; omega
    · obtain rfl : k = 8 := by omega
      go_wp2
      go_ret
      exact ⟨⟨A, c, rfl, hown.mono (by omega)⟩, hb⟩

theorem own_first (w : World) (x : Int) (b : UInt8) (h : x = (b.toNat : Int)) (base : Nat) (hb : base ≤ w.heap.size) : OwnB base (w.alloc (.cells #[.int .u8 x] 5)) (some ⟨w.heap.size, 0, none⟩) 1 1 [b] := by
  have := World.ownsRow_lit (base := base) (e := 5) (size := 1) w #[.int .u8 x] 1 hb (by decide) rfl
  subst h
  simpa [OwnB, bs] using this

set_option maxHeartbeats 400000 in
theorem bytesOf_null (i : Int) (s : ByteArray) (w : World) :
    Calls Try.prog 62 #[.agg #[.int .i64 0, .int .i64 i, .string s]] w fun e w' => (∃ A c, e = .returned (.slice A 1 c) ∧ OwnB w.heap.size w' A 1 c [1]) ∧ Below w.heap.size w w' := by
  go_enter Try.func62, Try.ntmps62
  go_wp2_with (go_at_call 123; refine (mark_any _ _).mono ?_; rintro e w1 ⟨rfl, rfl⟩)
  go_ret
  have h1 := own_first (w.alloc (.cells #[.int .i64 0, .int .i64 i, .string s] 24)) (markI 0) 1 rfl w.heap.size (by simp)
  rw [World.size_alloc] at h1
  exact ⟨⟨_, _, rfl, h1⟩, ((Below.refl _ _).alloc (Nat.le_refl _) _).alloc (by simp) _⟩

set_option maxRecDepth 100000 in
set_option maxHeartbeats 800000 in
theorem bytesOf_text (i : Int) (s : ByteArray) (w : World) (hs : s.size ≤ 20) :
    Calls Try.prog 62 #[.agg #[.int .i64 2, .int .i64 i, .string s]] w fun e w' => (∃ A n c, e = .returned (.slice A n c) ∧ OwnB w.heap.size w' A n c (3 :: (textB s.data.toList ++ [0, 1]))) ∧ Below w.heap.size w w' := by
  have hl : s.data.toList.length = s.size := rfl
  have HL := Lib.hid hl; clear hl
  go_enter Try.func62, Try.ntmps62
  go_wp2_with (go_at_call 123; refine (mark_any _ _).mono ?_; rintro e w1 ⟨rfl, rfl⟩)
  go_loopw [3, 5, 33] (fun v _ j wr => ∃ (k n : Nat) (A : Option Addr) (c : Nat), k ≤ s.size ∧ v = .slice A n c ∧ j = .int .i64 (k : Int) ∧ Below w.heap.size w wr ∧ w.heap.size + 1 ≤ wr.heap.size ∧ OwnB (w.heap.size + 1) wr A n c (3 :: textB (s.data.toList.take k)) ∧ wr.cell? ⟨w.heap.size, 2, none⟩ = some (.string s)) (fun _ _ j _ => s.size - (intOf j).toNat)
  case atStart => exact ⟨0, 1, some ⟨w.heap.size + 1, 0, none⟩, 1, by omega, rfl, rfl, ((Below.refl _ _).alloc (Nat.le_refl _) _).alloc (by simp) _, by simp, by
    have := own_first (w.alloc (.cells #[.int .i64 2, .int .i64 i, .string s] 24)) (markI 2) 3 rfl (w.heap.size + 1) (by simp)
    simpa [textB] using this, by simp [World.cell?_alloc_past]⟩
  case round =>
    obtain ⟨k, n, A, c, hk, rfl, rfl, hb, hsz, hown, hc⟩ := hrel
    have hn : n ≤ 1 + 2 * k := by
      have h1 := hown.len
      have h2 := (textB_length (s.data.toList.take k)).2
      have h3 : (s.data.toList.take k).length ≤ k := List.length_take_le _ _
      simp only [List.length_cons] at h1
      omega
    by_cases hlt : k < s.size
    · have hlt' : k < s.data.toList.length := by rw [HL.out]; exact hlt
      by_cases h0 : s[k] = 0
      · have ht : ((s[k].toNat : Int) == 0) = true := by rw [h0]; rfl
        have HE : Hid (textB (s.data.toList.take (k + 1)) = textB (s.data.toList.take k) ++ [s[k]] ++ [255]) := by
          rw [textB_take_succ _ _ hlt', List.append_assoc]
          have : s.data.toList[k] = s[k] := rfl
          rw [this, h0]; rfl
        clear h0
        go_wp2_with (first | (at_builtin; refine wp_append_byte rfl (.tmp 36) _ rfl (w.heap.size + 1) A n c _ wr _ (s[k]) rfl rfl hown rfl (by omega) hsz ?_; intro A' c' w1 hown1 hb1; have hc1 := (hb1.cell (p := ⟨w.heap.size, 2, none⟩) (by simp)).trans hc) | (at_builtin; refine wp_append_byte rfl (.tmp 48) _ rfl (w.heap.size + 1) A' (n + 1) c' _ w1 _ 255 rfl rfl hown1 rfl (by omega) (Nat.le_trans hsz hb1.size) ?_; intro A2 c2 w2 hown2 hb2; have hc2 := (hb2.cell (p := ⟨w.heap.size, 2, none⟩) (by simp)).trans hc1))
        go_roundw
        case rel => exact ⟨k + 1, n + 1 + 1, A2, c2, by omega, rfl, by go_num, (hb.trans (hb1.mono (by simp))).trans (hb2.mono (by simp)), Nat.le_trans hsz (Nat.le_trans hb1.size hb2.size), by rw [HE.out]; exact hown2, hc2⟩
        case measure => simp [intOf]; omega
      · have ht : ((s[k].toNat : Int) == 0) = false := by
          rw [beq_eq_false_iff_ne]
          intro h
          exact h0 (UInt8.toNat_inj.1 (by simpa using h))
        have HE : Hid (textB (s.data.toList.take (k + 1)) = textB (s.data.toList.take k) ++ [s[k]]) := by
          rw [textB_take_succ _ _ hlt']
          have : s.data.toList[k] = s[k] := rfl
          rw [this, escB, if_neg h0]; rfl
        clear h0
        go_wp2_with (at_builtin; refine wp_append_byte rfl (.tmp 36) _ rfl (w.heap.size + 1) A n c _ wr _ (s[k]) rfl rfl hown rfl (by omega) hsz ?_; intro A' c' w1 hown1 hb1; have hc1 := (hb1.cell (p := ⟨w.heap.size, 2, none⟩) (by simp)).trans hc)
        go_roundw
        case rel => exact ⟨k + 1, n + 1, A', c', by omega, rfl, by go_num, hb.trans (hb1.mono (by simp)), Nat.le_trans hsz hb1.size, by rw [HE.out]; exact hown1, hc1⟩
        case measure => simp [intOf]; omega
    · obtain rfl : k = s.size := by omega
      go_wp2_with (at_builtin; refine wp_append_bytes rfl (.tmp 52) _ rfl (w.heap.size + 1) A n c _ _ rfl (hown.alloc _) _ 2 2 [0, 1] rfl (Rd.new wr _ 1 2 _ rfl) (by omega) (by simp; omega) ?_; intro A' c' w1 hown1 hb1)
      go_ret
      refine ⟨⟨A', n + 2, c', rfl, ?_⟩, (hb.alloc hb.size _).trans (hb1.mono (by simp))⟩
      rw [List.take_of_length_le (by rw [HL.out]; omega)] at hown1
      exact hown1.mono (by omega)
/-- tuple.bytes of a right value. -/
theorem bytesOf_any (k i : Int) (s : ByteArray) (w : World) (hr : rightB k i s = true) (hok : -9223372036854775808 ≤ i ∧ i < 9223372036854775808) :
    Calls Try.prog 62 #[.agg #[.int .i64 k, .int .i64 i, .string s]] w fun e w' => (∃ A n c, e = .returned (.slice A n c) ∧ OwnB w.heap.size w' A n c (encV ⟨k, i, s⟩)) ∧ Below w.heap.size w w' := by
  rcases right_cases hr with ⟨rfl, rfl, _⟩ | ⟨rfl, _⟩ | ⟨rfl, _, hs⟩
  · exact (bytesOf_null 0 s w).mono fun e w' ⟨⟨A, c, he, h⟩, hb⟩ => ⟨⟨A, 1, c, he, h⟩, hb⟩
  · exact (bytesOf_int i s w hok.1 hok.2).mono fun e w' ⟨⟨A, c, he, h⟩, hb⟩ => ⟨⟨A, 9, c, he, h⟩, hb⟩
  · exact (bytesOf_text i s w hs).mono fun e w' ⟨⟨A, n, c, he, h⟩, hb⟩ => ⟨⟨A, n, c, he, h⟩, hb⟩

/-- What Enc answers: bytes and a code. -/
def encSpec (l : List Val) : List UInt8 × Int := if allRight l then (if 16 < l.length then ([], 10) else (encL l, 0)) else ([], 9)
def EncPost (l : List Val) (w : World) (e : Ending) (w' : World) : Prop := (∃ A n c, e = .returned (.tuple #[.slice A n c, .int .i64 (encSpec l).2]) ∧ OwnB w.heap.size w' A n c (encSpec l).1) ∧ Below w.heap.size w w'

theorem encL_length_le (l : List Val) (h : allRight l = true) : (encL l).length ≤ 43 * l.length := by
  induction l with
  | nil => simp [encL]
  | cons a l ih =>
    have h1 : rightB a.k a.i a.s = true ∧ allRight l = true := by simpa [allRight, Val.right] using h
    have h2 := ih h1.2
    have h3 := (encV_length a (by
      intro hk
      rcases right_cases h1.1 with ⟨h, _⟩ | ⟨h, _⟩ | ⟨_, _, hs⟩
      · omega
      · omega
      · exact hs)).2
    simp [encL] at h2 ⊢
    omega
theorem allRight_get (l : List Val) (h : allRight l = true) (k : Nat) (hk : k < l.length) : rightB (l[k]).k (l[k]).i (l[k]).s = true := by
  have := List.all_eq_true.1 h l[k] (List.getElem_mem hk)
  exact this
theorem allRight_take (l : List Val) (h : allRight l = true) (k : Nat) : allRight (l.take k) = true :=
  List.all_eq_true.2 fun x hx => List.all_eq_true.1 h x (List.mem_of_mem_take hx)

set_option maxHeartbeats 800000 in
theorem enc_any (A : Option Addr) (n c : Nat) (vs : List Val) (w : World) (hr : Rd w 3 A n (vcs vs)) (hm : n ≤ 9223372036854775807) (hok : okVals vs) :
    Calls Try.prog 16 #[.slice A n c] w (EncPost vs w) := by
  have hn : vs.length = n := by have := hr.1; rw [vcs_length] at this; omega
  have HN := Lib.hid hn; clear hn
  cases hR : allRight vs
  · have hS : encSpec vs = ([], 9) := by simp [encSpec, hR]
    have HS := Lib.hid hS; clear hS
    have HR := Lib.hid hR; clear hR
    go_enter Try.func16, Try.ntmps16
    go_wp2_with fail
    refine (containsWrong_any A n c vs _ hr hm).mono ?_
    rintro e w1 ⟨rfl, hb1⟩
    rw [HR.out]
    go_wp2
    go_ret2
    unfold EncPost
    rw [HS.out]
    exact ⟨⟨none, 0, 0, rfl, OwnB.nil_ _ _⟩, hb1⟩
  · by_cases h16 : 16 < n
    · have hS : encSpec vs = ([], 10) := by simp [encSpec, hR, HN.out, h16]
      have HS := Lib.hid hS; clear hS
      have HR := Lib.hid hR; clear hR
      go_enter Try.func16, Try.ntmps16
      go_wp2_with fail
      refine (containsWrong_any A n c vs _ hr hm).mono ?_
      rintro e w1 ⟨rfl, hb1⟩
      rw [HR.out]
      go_wp2
      go_ret2
      unfold EncPost
      rw [HS.out]
      exact ⟨⟨none, 0, 0, rfl, OwnB.nil_ _ _⟩, hb1⟩
    · have hS : encSpec vs = (encL vs, 0) := by simp [encSpec, hR, HN.out, h16]
      have HS := Lib.hid hS; clear hS
      have HR := Lib.hid hR; clear hR
      go_enter Try.func16, Try.ntmps16
      go_wp2_with fail
      refine (containsWrong_any A n c vs _ hr hm).mono ?_
      rintro e w1 ⟨rfl, hb1⟩
      rw [HR.out]
      go_wp2
      go_loopw [4, 14] (fun v j wr => ∃ (k m : Nat) (A' : Option Addr) (c' : Nat), k ≤ n ∧ v = .slice A' m c' ∧ j = .int .i64 (k : Int) ∧ Below w.heap.size w wr ∧ OwnB w.heap.size wr A' m c' (encL (vs.take k))) (fun _ j _ => n - (intOf j).toNat)
      case atStart => exact ⟨0, 0, none, 0, by omega, rfl, rfl, hb1, OwnB.nil_ _ _⟩
      case round =>
        obtain ⟨k, m, A', c', hk, rfl, rfl, hb, hown⟩ := hrel
        by_cases hlt : k < n
        · have hlv : k < vs.length := by rw [HN.out]; exact hlt
          obtain ⟨b, off, rfl, h0, h1, h2⟩ := (hr.below hb).val hlv
          have hrk := allRight_get vs HR.out k hlv
          have HRK := Lib.hid hrk; clear hrk
          have hmb : m ≤ 43 * k := by
            have h3 := hown.len
            have h4 := encL_length_le (vs.take k) (allRight_take vs HR.out k)
            have h5 : (vs.take k).length ≤ k := List.length_take_le _ _
            omega
          go_wp2_with fail
          refine (bytesOf_any _ _ _ _ HRK.out (hok _ (List.getElem_mem hlv))).mono ?_
          rintro e w2 ⟨⟨A2, n2, c2, rfl, hown2⟩, hb2⟩
          have hn2 : n2 ≤ 43 := by
            have h3 := hown2.len
            have h4 := (encV_length ⟨(vs[k]).k, (vs[k]).i, (vs[k]).s⟩ (by
              intro hk2
              rcases right_cases HRK.out with ⟨h, _⟩ | ⟨h, _⟩ | ⟨_, _, hs⟩
              · simp at hk2; omega
              · simp at hk2; omega
              · exact hs)).2
            omega
          go_wp2_with (at_builtin; refine wp_append_bytes rfl (.tmp 18) (.tmp 20) rfl w.heap.size A' m c' _ w2 rfl ((hown.alloc _).belowB hb2) A2 n2 c2 _ rfl hown2.rd (by omega) (by have := hb.size; have := hb2.size; simp at *; omega) ?_; intro A3 c3 w3 hown3 hb3)
          go_roundw
          case rel => exact ⟨k + 1, m + n2, A3, c3, by omega, rfl, by go_num, (hb.alloc hb.size _).trans ((hb2.mono (by simp; have := hb.size; omega)).trans hb3), by rw [encL_take_succ vs k hlv]; exact hown3⟩
          case measure => simp [intOf]; omega
        · have hkn : vs.take k = vs := List.take_of_length_le (by rw [HN.out]; omega)
          go_wp2
          go_ret2
          unfold EncPost
          rw [HS.out]
          rw [hkn] at hown
          exact ⟨⟨A', m, c', rfl, hown⟩, hb⟩
end Go.Proofs.Ytikkknaofiafhaa
