/- WalPlays: what a log has to have (truth), as data; begin.
WalPlays: (*truth).told.
WalPlays: (*truth).room.
WalPlays: what stands ahead of (*truth).open. No walk. -/
import Derived.Test.YtlnnfdjhejdgdaaV17
import Derived.Test.YtlnnfdjhejdgdaaV12
import Derived.Test.YtlnnfdjhejdgdaaC12
import Derived.Deep.DeepCutAuto
import Derived.Test.YtlnnfdjhejdgdaaV6
namespace Go.Proofs.Ytlnnfdjhejdgdaa
open Go.RowKit

def trCs (gd gl n : Nat) (va : Value) (first sure cut safe : Nat) (down fell : Bool) : Array Value := #[.pointer (some ⟨gd, 0, none⟩), .pointer (some ⟨gl, 0, none⟩), .int .i64 (n : Int), va, .int .u64 (first : Int), .int .u64 (sure : Int), .int .u64 (cut : Int), .int .i64 (safe : Int), .bool down, .bool fell]
/-- a truth in memory: its own block, the list of all; the log and its disk apart -/
structure TrM (B gt gd gl n : Nat) (f : Nat → Prop) (w : World) (al : List (List UInt8)) (first cut safe : Nat) (dn fell : Bool) : Prop where
  mem : ∃ (va : Value) (g : Nat → Prop), Blk w gt 53 (trCs gd gl n va first first cut safe dn fell) ∧ OwnL rBs g B 33 w va al ∧ (∀ x, g x → ¬ f x ∧ x ≠ gt) ∧ (∀ x, va.ownBlock = some x → ¬ f x ∧ x ≠ gt)
  base : B ≤ gt
  fb : ∀ x, f x → B ≤ x ∧ x < w.heap.size
  fgt : ¬ f gt
theorem TrM.kp {B gt gd gl n : Nat} {f : Nat → Prop} {w w' : World} {al : List (List UInt8)} {first cut safe : Nat} {dn fell : Bool} (h : TrM B gt gd gl n f w al first cut safe dn fell) (hk : Kp (fun x => ¬ f x) w w') : TrM B gt gd gl n f w' al first cut safe dn fell := by
  obtain ⟨va, g, h1, h2, h3, h4⟩ := h.mem
  exact ⟨⟨va, g, h1.kp hk h.fgt, h2.kp hk (fun x hx => (h3 x hx).1) (fun x hx => (h4 x hx).1), h3, h4⟩, h.base, fun x hx => by have := h.fb x hx; have := hk.size; omega, h.fgt⟩
theorem begin_any (n : Nat) (h1 : 3 ≤ n) (h2 : n ≤ 65536) (w : World) :
    Calls Try.prog 22 #[.int .i64 (n : Int)] w fun e w' => (∃ gt gd gl f, e = .returned (.pointer (some ⟨gt, 0, none⟩)) ∧ TrM w.heap.size gt gd gl n f w' [] 0 0 0 false false ∧ LogX f w' gl gd n 1 0 0 [] [] false) ∧ Below w.heap.size w w' := by
  go_enter Try.func22, Try.ntmps22
  go_wp2_with fail
  refine (dNew_any n (by omega) h2 w).mono ?_
  rintro e w1 ⟨⟨gd, rfl, hgd, hD1⟩, hb1⟩
  have HOP := Lib.hid (open_newX (n := n) h1 h2 (hD1.mono (ft' := fun x => w.heap.size ≤ x ∧ x < w1.heap.size) fun x hx hlt => ⟨hx, hlt⟩) (fun x hx => hx.2))
  clear hD1
  go_wp2_with fail
  refine HOP.out.mono ?_
  rintro e w2 ⟨⟨gl, rfl, hL2⟩, hK2⟩
  have hb2 : Below w.heap.size w w2 := hb1.trans (hK2.below hb1.size fun x hx h => by omega)
  clear HOP hK2
  have hz1 := hb1.size
  have hL2' : LogX (fun x => w.heap.size ≤ x ∧ x < w2.heap.size) w2 gl gd n 1 0 0 [] [] false := hL2.mono fun x hx hlt => ⟨by omega, hlt⟩
  clear hL2
  go_wp2
  go_ret
  have hz2 := hb2.size
  refine ⟨⟨w2.heap.size, gd, gl, _, rfl, ⟨⟨.slice none 0 0, fun _ => False, Blk.new _ _ _, OwnL.nil_ _ _ _ _ _, fun x h => h.elim, (fun x hx => by cases hx)⟩, hz2, fun x hx => ⟨hx.1, by have := hx.2; simp; omega⟩, fun h => by omega⟩, hL2'.below ((Below.refl _ _).alloc (Nat.le_refl _) _)⟩, hb2.trans ((Below.refl _ _).alloc hz2 _)⟩
end Go.Proofs.Ytlnnfdjhejdgdaa

namespace Go.Proofs.Ytlnnfdjhejdgdaa
open Go.RowKit

theorem TrM.read {B gt gd gl n : Nat} {f : Nat → Prop} {w : World} {al : List (List UInt8)} {first cut safe : Nat} {dn fell : Bool} (h : TrM B gt gd gl n f w al first cut safe dn fell) (hl : al.length ≤ 1000) :
    ∃ A c, Blk w gt 53 (trCs gd gl n (.slice A al.length c) first first cut safe dn fell) ∧ al.length ≤ c ∧ RSl rBs (fun _ => True) w (.slice A al.length c) al := by
  obtain ⟨va, g, h1, h2, h3, h4⟩ := h.mem
  obtain ⟨A, c, rfl, hc⟩ := h2.form
  exact ⟨A, c, h1, hc, h2.rsl (by decide) (by show al.length * 24 ≤ _; omega) (fun _ _ => trivial) fun _ _ => trivial⟩
set_option maxRecDepth 100000 in
set_option maxHeartbeats 3200000 in
theorem told_any {B gt gd gl n T first cut safe : Nat} {f : Nat → Prop} {w : World} {al sf us : List (List UInt8)} (h : TrM B gt gd gl n f w al first cut safe false false) (hL : LogX f w gl gd n T first cut sf us false) (hl : al.length ≤ 1000) (hfi : first ≤ al.length) (hal : al.drop first = sf ++ us) :
    Calls Try.prog 25 #[.pointer (some ⟨gt, 0, none⟩)] w fun e w' => e = .returned (.bool true) ∧ Below w.heap.size w w' := by
  obtain ⟨A7, d7, hb, hd7, hra⟩ := h.read hl
  have hln : first + (sf ++ us).length = al.length := by rw [← hal, List.length_drop]; omega
  obtain ⟨N, hN⟩ : ∃ N, N = al.length := ⟨_, rfl⟩
  rw [← hN] at hb hd7 hra hl hfi hln
  have HF1 := Lib.hid (fun (w' : World) (hb : Below w.heap.size w w') => first_liveX (hL.below hb))
  have HF2 := Lib.hid (fun (w' : World) (hb : Below w.heap.size w w') => next_liveX (hL.below hb))
  have HF3 := Lib.hid (fun (w' : World) (hb : Below w.heap.size w w') => records_liveX (hL.below hb))
  rw [hln] at HF2
  obtain ⟨AV, hAV⟩ : ∃ AV, AV = (if d7 = first then A7 else Option.map (fun x => x.add first) A7) := ⟨_, rfl⟩
  have hrd : RSl rBs (fun _ => True) w (.slice AV (N - first) (d7 - first)) (sf ++ us) := by
    have := hra.drop (k := first) hfi
    rw [show first * rBs.sz = first from Nat.mul_one _, hal] at this
    rw [hAV]
    exact this
  have HAV := Lib.hid hAV
  have HRD := Lib.hid hrd
  have l1 : ∀ s : Later w, s.val.cell? ⟨gt, 1, none⟩ = some (.pointer (some ⟨gl, 0, none⟩)) := Later.cell (hb.cell 1)
  have l3 : ∀ s : Later w, s.val.cell? ⟨gt, 3, none⟩ = some (.slice A7 N d7) := Later.cell (hb.cell 3)
  have l4 : ∀ s : Later w, s.val.cell? ⟨gt, 4, none⟩ = some (.int .u64 (first : Int)) := Later.cell (hb.cell 4)
  clear h hL hal hb hra hln hN hAV hrd
  go_enter Try.func25, Try.ntmps25
  go_upto_region 1 with fail
  refine wp_seqL [4, 15, 29, 39] (by as_aux_lemma => kernel_rfl) (by as_aux_lemma => kernel_rfl) fun w2 hb2 => ?_
  refine seqL_pre 4 (by kernel_rfl) ?_
  simp only [List.take_succ_cons, List.take_zero, List.drop_succ_cons, List.drop_zero]
  repeat (go_big_quiet_step (fail))
  refine wpQuiet_nil ?_
  refine seqL_wild hb2 rfl rfl fun K hK => ?_
  unfold Gives
  go_simp
  refine (HF1.out _ hb2).mono ?_
  rintro e w3 ⟨rfl, rfl⟩
  refine ⟨_, rfl, hK _ _ ((Below.refl _ _)) fun hb3 => ?_⟩
  clear hK
  clear K
  simp only [Act.put, List.setIfInBounds_toArray, List.set_cons_succ, List.set_cons_zero]
  refine seqL_pre 10 (by kernel_rfl) ?_
  simp only [List.take_succ_cons, List.take_zero, List.drop_succ_cons, List.drop_zero]
  repeat (go_big_quiet_step (fail))
  refine wpQuiet_nil ?_
  refine seqL_wild hb3 rfl rfl fun K hK => ?_
  unfold Gives
  go_simp
  refine (HF2.out _ hb3).mono ?_
  rintro e w4 ⟨rfl, hbb4⟩
  refine ⟨_, rfl, hK _ _ (hbb4) fun hb4 => ?_⟩
  clear hK
  clear K
  simp only [Act.put, List.setIfInBounds_toArray, List.set_cons_succ, List.set_cons_zero]
  refine seqL_pre 13 (by kernel_rfl) ?_
  simp only [List.take_succ_cons, List.take_zero, List.drop_succ_cons, List.drop_zero]
  repeat (go_big_quiet_step (fail))
  refine wpQuiet_nil ?_
  refine seqL_wild hb4 rfl rfl fun K hK => ?_
  unfold Gives
  go_simp
  refine (HF3.out _ hb4).mono ?_
  rintro e w5 ⟨⟨vr, rfl, hR5⟩, hbb5⟩
  refine ⟨_, rfl, hK _ _ (hbb5) fun hb5 => ?_⟩
  clear hK
  clear K
  simp only [Act.put, List.setIfInBounds_toArray, List.set_cons_succ, List.set_cons_zero]
  refine seqL_pre 9 (by kernel_rfl) ?_
  simp only [List.take_succ_cons, List.take_zero, List.drop_succ_cons, List.drop_zero]
  repeat (go_big_quiet_step (fail))
  refine wpQuiet_nil ?_
  rw [← HAV.out]
  refine seqL_wild hb5 rfl rfl fun K hK => ?_
  unfold Gives
  go_simp
  refine (sameBs_any _ _ _ _ _ hR5 (HRD.out.below hb5)).mono ?_
  rw [decide_eq_true (rfl : sf ++ us = sf ++ us)]
  rintro e w6 ⟨rfl, hbb6⟩
  refine ⟨_, rfl, hK _ _ (hbb6) fun hb6 => ?_⟩
  clear hK
  clear K
  simp only [Act.put, List.setIfInBounds_toArray, List.set_cons_succ, List.set_cons_zero]
  refine seqL_pre 2 (by kernel_rfl) ?_
  simp only [List.take_succ_cons, List.take_zero, List.drop_succ_cons, List.drop_zero]
  repeat (go_big_quiet_step (fail))
  refine wpQuiet_nil ?_
  refine seqL_nil ?_
  go_wp2
  go_ret
  exact ⟨rfl, hb6⟩
end Go.Proofs.Ytlnnfdjhejdgdaa

namespace Go.Proofs.Ytlnnfdjhejdgdaa
open Go.RowKit

def roomK (k : Nat) : Nat := (k + 39) / 40 + 2
def roomS (rs : List (List UInt8)) : Nat := (rs.map fun r => roomK r.length).sum
theorem roomS_take (rs : List (List UInt8)) {i : Nat} (h : i < rs.length) : roomS (rs.take (i + 1)) = roomS (rs.take i) + roomK rs[i].length := by
  unfold roomS
  rw [List.take_succ_eq_append_getElem h, List.map_append, List.sum_append]
  simp
theorem room_ge : ∀ rs : List (List UInt8), secSum rs ≤ roomS rs
  | [] => Nat.le_refl _
  | r :: rs => by
    have := room_ge rs
    have h1 : secN r.length ≤ roomK r.length := by unfold secN roomK; omega
    have h2 : roomS (r :: rs) = roomK r.length + roomS rs := by simp [roomS]
    rw [secSum_cons, h2]
    omega
theorem roomS_le (c : Nat) : ∀ rs : List (List UInt8), (∀ r ∈ rs, r.length ≤ c) → roomS rs ≤ roomK c * rs.length
  | [], _ => Nat.le_refl _
  | r :: rs, h => by
    have h1 := roomS_le c rs fun x hx => h x (List.mem_cons_of_mem _ hx)
    have h2 : roomK r.length ≤ roomK c := by have := h r (by simp); unfold roomK; omega
    have h3 : roomS (r :: rs) = roomK r.length + roomS rs := by simp [roomS]
    rw [h3, List.length_cons, Nat.mul_succ]
    omega
set_option maxRecDepth 100000 in
set_option maxHeartbeats 3200000 in
theorem room_any {B gt gd gl n first cut safe : Nat} {f : Nat → Prop} {w : World} {al : List (List UInt8)} {dn fell : Bool} (h : TrM B gt gd gl n f w al first cut safe dn fell) (hl : al.length ≤ 1000) (hfi : first ≤ al.length) (hn : n ≤ 65536) (h3 : ∀ r ∈ al, r.length ≤ 300) (A : Option Addr) (m c : Nat) (hm : m ≤ 300) (hfull : n - 2 < secSum (al.drop first) + secN m) :
    Calls Try.prog 48 #[.pointer (some ⟨gt, 0, none⟩), .slice A m c] w fun e w' => e = .returned (.bool false) ∧ Below w.heap.size w w' := by
  obtain ⟨A7, d7, hb, hd7, hra⟩ := h.read hl
  obtain ⟨N, hN⟩ : ∃ N, N = al.length := ⟨_, rfl⟩
  rw [← hN] at hb hd7 hra hl hfi
  have c2 : w.cell? ⟨gt, 2, none⟩ = some (.int .i64 (n : Int)) := hb.cell 2
  have c3 : w.cell? ⟨gt, 3, none⟩ = some (.slice A7 N d7) := hb.cell 3
  have c4 : w.cell? ⟨gt, 4, none⟩ = some (.int .u64 (first : Int)) := hb.cell 4
  have hlt := hb.lt
  have HN := Lib.hid hN
  have H3 := Lib.hid h3
  have HFU := Lib.hid hfull
  clear h hN hb h3 hfull
  go_enter Try.func48, Try.ntmps48
  go_upto_region 3 with fail
  go_loopw [5, 6] (fun vs vi wr => ∃ i s : Nat, first ≤ i ∧ i ≤ N ∧ vi = .int .i64 (i : Int) ∧ vs = .int .i64 (s : Int) ∧ Hid (s = roomK m + roomS ((al.drop first).take (i - first))) ∧ Below w.heap.size w wr) (fun _ vi _ => 2000 - (intOf vi).toNat)
  case atStart =>
    refine ⟨first, roomK m, Nat.le_refl _, hfi, ?_, ?_, Lib.hid (by simp [roomS]), Below.refl _ _⟩
    · rfl
    · have : ((m : Int) + 39) / 40 + 2 = ((roomK m : Nat) : Int) := by unfold roomK; omega
      rw [this]
  case round =>
    obtain ⟨i, s, hi1, hi2, rfl, rfl, HS, hbw⟩ := hrel
    have e3 : wr.cell? ⟨gt, 3, none⟩ = some (.slice A7 N d7) := (hbw.cell (p := ⟨gt, 3, none⟩) hlt).trans c3
    have e2 : wr.cell? ⟨gt, 2, none⟩ = some (.int .i64 (n : Int)) := (hbw.cell (p := ⟨gt, 2, none⟩) hlt).trans c2
    have hsb : s ≤ 20000 := by
      have h1 := roomS_le 300 ((al.drop first).take (i - first)) fun r hr => H3.out r (List.mem_of_mem_drop (List.mem_of_mem_take hr))
      have h2 : ((al.drop first).take (i - first)).length ≤ 1000 := by rw [List.length_take, List.length_drop, ← HN.out]; omega
      have h3 : roomK 300 = 10 := rfl
      have h4 : roomK m ≤ 10 := by unfold roomK; omega
      have := HS.out
      rw [h3] at h1
      omega
    by_cases hlt2 : i < N
    · have hi3 : i < al.length := by rw [← HN.out]; exact hlt2
      obtain ⟨b5, off5, c5, cs5, hv5, _, ⟨v5, rfl, hr5⟩, hcell5⟩ := (hra.below hbw).at_ hi3
      rw [← HN.out] at hv5
      simp only [Value.slice.injEq, true_and] at hv5
      obtain ⟨rfl, rfl⟩ := hv5
      obtain ⟨A5, d5, rfl, hd5, hw5⟩ := hr5.form
      obtain ⟨k, hk⟩ : ∃ k, k = al[i].length := ⟨_, rfl⟩
      rw [← hk] at hcell5
      have q5 : wr.cell? ⟨b5, off5 + i * 1, none⟩ = some (.slice A5 k d5) := hcell5 0 _ rfl
      have q6 : wr.cell? ⟨b5, off5 + i, none⟩ = some (.slice A5 k d5) := by simpa using q5
      have hk3 : k ≤ 300 := by rw [hk]; exact H3.out _ (List.getElem_mem _)
      have hstep : s + roomK k = roomK m + roomS ((al.drop first).take (i + 1 - first)) := by
        rw [show i + 1 - first = (i - first) + 1 by omega, roomS_take _ (by rw [List.length_drop]; omega), List.getElem_drop, HS.out]
        have : first + (i - first) = i := by omega
        simp only [this, hk]
        omega
      have HST := Lib.hid hstep
      have z1 : decide ((i : Int) < (N : Int)) = true := decide_eq_true (by omega)
      clear hcell5 hr5 hd5 hw5 hk hstep
      go_wp2
      go_roundw
      case rel => 
        refine ⟨i + 1, s + roomK k, by omega, by omega, by go_num, ?_, HST, hbw⟩
        have : (s : Int) + ((k : Int) + 39) / 40 + 2 = ((s + roomK k : Nat) : Int) := by unfold roomK; omega
        rw [this]
      case measure => simp [intOf]; omega
    · obtain rfl : i = N := by omega
      have hbig : n - 2 < s := by
        have h1 := HFU.out
        have h2 := room_ge (al.drop first)
        have h3 : secN m ≤ roomK m := by unfold secN roomK; omega
        have h4 := HS.out
        rw [List.take_of_length_le (by rw [List.length_drop, ← HN.out]; omega)] at h4
        omega
      have z2 : decide ((s : Int) ≤ (n : Int) / 2 - 8) = false := decide_eq_false (by omega)
      clear hsb
      go_wp2
      go_ret
      exact ⟨by first | rfl | (rw [z2]), hbw⟩
end Go.Proofs.Ytlnnfdjhejdgdaa

namespace Go.Proofs.Ytlnnfdjhejdgdaa
open Go.RowKit

/-- a log and its disk, or a disk that fell, ahead of being opened anew; dd: the disk is down -/
def Pre (f : Nat → Prop) (w : World) (gl gd n T first cut : Nat) (sf us : List (List UInt8)) (dd : Bool) : Prop :=
  (dd = false ∧ us = [] ∧ ∃ sf0 us0, sf0 ++ us0 = sf ∧ LogX f w gl gd n T first cut sf0 us0 false) ∨ (dd = true ∧ LogX f w gl gd n T first cut sf us true) ∨ (dd = true ∧ DiskC f w gd n T first cut sf us)
theorem DiskR.kp_ {ft ok : Nat → Prop} {w w' : World} {g : Nat} {d : DskD} (h : DiskR ft w g d) (hk : Kp ok w w') (hok : ∀ b, ft b → ok b) : DiskR ft w' g d := h.kp hk hok
section
variable {f : Nat → Prop} {w w' : World} {gl gd n T first cut : Nat} {sf us : List (List UInt8)} {dd : Bool}
theorem Pre.kp {ok : Nat → Prop} (h : Pre f w gl gd n T first cut sf us dd) (hk : Kp ok w w') (hok : ∀ x, f x → ok x) : Pre f w' gl gd n T first cut sf us dd := by
  rcases h with ⟨h1, h2, sf0, us0, h3, h4⟩ | ⟨h1, h2⟩ | ⟨h1, d, keep, h2, h3⟩
  · exact .inl ⟨h1, h2, sf0, us0, h3, h4.kp hk hok⟩
  · exact .inr (.inl ⟨h1, h2.kp hk hok⟩)
  · exact .inr (.inr ⟨h1, d, keep, h2.kp_ hk hok, h3⟩)
theorem Pre.below (h : Pre f w gl gd n T first cut sf us dd) (hb : Below w.heap.size w w') : Pre f w' gl gd n T first cut sf us dd := h.kp (.of_below hb (ok := fun _ => True)) fun _ _ => trivial
theorem Pre.down (h : Pre f w gl gd n T first cut sf us dd) : Calls Try.prog 23 #[.pointer (some ⟨gd, 0, none⟩)] w fun e w' => e = .returned (.bool dd) ∧ w' = w := by
  rcases h with ⟨rfl, h2, sf0, us0, h3, h4⟩ | ⟨rfl, h2⟩ | ⟨rfl, h2⟩
  · exact down_opX h4
  · exact down_opX h2
  · exact downC h2
theorem Pre.start (h : Pre f w gl gd n T first cut sf us dd) (h64 : first + sf.length + 70000 < 18446744073709551616) : Calls Try.prog 21 #[.pointer (some ⟨gd, 0, none⟩)] w fun e w' => e = .returned (.int .i64 0) ∧ DiskF f w' gd n T first cut sf us ∧ Kp (fun b => ¬ f b) w w' := by
  rcases h with ⟨rfl, rfl, sf0, us0, rfl, h4⟩ | ⟨rfl, h2⟩ | ⟨rfl, h2⟩
  · exact start_liveX h4
  · exact start_deadX h2
  · exact start_C h2 h64
end
/-- what is found is a part of all -/
theorem Finds.part {first cut a : Nat} {al sf us R : List (List UInt8)} (h : Finds first cut sf us a R) (hfi : first ≤ al.length) (hal : al.drop first = sf ++ us) (hc : cut ≤ al.length) :
    (al.take (a + R.length)).drop a = R ∧ a + R.length ≤ al.length ∧ first + sf.length ≤ a + R.length ∧ (a = first ∨ (a = cut ∧ first < cut)) ∧ (us = [] → cut = first → a = first ∧ a + R.length = al.length) := by
  have hln : first + (sf ++ us).length = al.length := by rw [← hal, List.length_drop]; omega
  rw [List.length_append] at hln
  rcases h with ⟨rfl, m, hm, rfl⟩ | ⟨rfl, h1, h2, rfl, rfl⟩
  · have hl : (sf ++ us.take m).length = sf.length + m := by rw [List.length_append, List.length_take]; omega
    refine ⟨?_, by omega, by omega, .inl rfl, fun hu _ => ⟨rfl, ?_⟩⟩
    · rw [List.drop_take, Nat.add_sub_cancel_left, hal, hl, List.take_length_add_append]
    · subst hu
      rw [List.length_nil] at hm hln
      omega
  · have hl : (sf.drop (a - first)).length = sf.length - (a - first) := List.length_drop
    rw [List.length_nil] at hln
    refine ⟨?_, by omega, by omega, .inr ⟨rfl, h1⟩, fun _ hc => by omega⟩
    rw [List.drop_take, Nat.add_sub_cancel_left, List.take_of_length_le (by rw [List.length_drop]; omega)]
    have := congrArg (List.drop (a - first)) hal
    rw [List.drop_drop, List.append_nil, show first + (a - first) = a by omega] at this
    exact this
end Go.Proofs.Ytlnnfdjhejdgdaa
