/- A round of a range over a function, its regions walked by the plain words: laws that carry a plain walk of a region into a round's frame. No program in sight.
Contracts: slices.Grow of nil bytes, slices.Concat of two byte slices. -/
import Derived.Test.YtnlhjhpikjmoaaaGreatDoorSeqG
import Derived.Test.YtnlhjhpikjmoaaaGreatDoorSpl
import Derived.RangeFuncNested
import Derived.RangeFuncBound
import Derived.RangeFuncCalls
import Derived.RangeFuncLeaves
import Derived.OrdersIn
import Derived.TacticsIn
import Derived.Test.YtnlhjhpikjmoaaaGreatDoorS0
import Derived.Lib.AppendZeros
namespace Go.Proofs.YtnlhjhpikjmoaaaGreatDoor
open Go.RowKit
open Region

section
variable {P : Program} {ops : Array Oper} {Q : Exit → Act → World → Prop} {l0 n : Nat}
def noDefer (o : Oper) : Bool := match o.op with | .defer _ => false | _ => true
abbrev rnd (l0 : Nat) : Fence := Fence.wide.inRound l0
theorem rowsIn_of {row : String} {args : Array Value} {w : World} {R : Value → World → Prop} (h : Rows P row args w R) : RowsIn (rnd l0) n P row args w R :=
  fun c cs _ => let ⟨v, w', r, s⟩ := h c cs; ⟨v, w', r, stepsIn_wide.2 s⟩
theorem uponIn_of {o : Oper} {a : Act} {K : Act → World → Prop} {r : Result Next} (h : o.upon P a K Q r) : o.uponIn (rnd l0) n P a K Q r := by
  cases r with
  | ok x w' =>
    cases x
    case value v => exact h
    case skip => exact h
    case defer d => exact h
    case enter f args => exact ⟨fun hh => absurd hh (by simp [Fence.wide]), CallsIn.inRound l0 (callsIn_wide.2 h)⟩
    case row row args => exact ⟨fun hh => absurd hh (by simp [Fence.wide]), rowsIn_of h⟩
    all_goals exact h.elim
  | halt x w' => cases x <;> first | exact h | exact h.elim
theorem opIn_of {o : Oper} {a : Act} {w : World} {K : Act → World → Prop} (hd : noDefer o = true) (h : o.wp P a w K Q) : o.wpIn (rnd l0) n P a w K Q := by
  have hnd : ∀ c, o.op ≠ .defer c := fun c e => by unfold noDefer at hd; rw [e] at hd; cases hd
  refine ⟨fun _ _ => trivial, ?_⟩
  show o.uponIn (rnd l0) n P a K Q ((Oper.semAt (some l0) a.eval o).run P w)
  rw [Oper.semAt_some l0 _ _ hnd]
  exact uponIn_of h
theorem wpOpIn_of {i : Nat} {a : Act} {w : World} {K : Act → World → Prop} (hd : ops.all noDefer = true) (hno : ¬ LetsOut Q) (h : wpOp P ops Q i K a w) : wpOpIn (rnd l0) n P ops Q i K a w := by
  unfold wpOp at h
  unfold wpOpIn
  cases ho : ops[i]? with
  | none => simp only [ho] at h ⊢; exact h
  | some o =>
    simp only [ho] at h ⊢
    have hod : noDefer o = true := by
      rw [Array.all_eq_true_iff_forall_mem] at hd
      exact hd o (Array.mem_of_getElem? ho)
    split
    · rename_i hw
      rw [if_pos hw] at h
      exact opIn_of hod (h.resolve_right fun h => hno h.2)
    · rename_i hw
      rw [if_neg hw] at h
      exact ⟨fun _ _ => trivial, h⟩
theorem wpAnyIn_of (hd : ops.all noDefer = true) (hno : ¬ LetsOut Q) (md : Region.Mode) : ∀ (fuel : Nat) (listed : Array Bool) (a : Act) (w : World), wpAny P md ops Q fuel listed a w → wpAnyIn (rnd l0) n P md ops Q fuel listed a w
  | 0, _, _, _, h => h
  | fuel + 1, listed, a, w, h => ⟨h.1, fun i hi => wpOpIn_mono (fun a w h => wpAnyIn_of hd hno md fuel _ a w h) (wpOpIn_of hd hno (h.2 i hi))⟩
theorem wpListIn_of (hno : ¬ LetsOut Q) : ∀ (l : List Oper) (a : Act) (w : World), l.all noDefer = true → wpList P ops Q l a w → wpListIn (rnd l0) n P ops Q l a w
  | [], _, _, _, h => h
  | o :: l, a, w, hd, h => by
    rw [List.all_cons, Bool.and_eq_true] at hd
    unfold wpList at h
    unfold wpListIn
    split
    · rename_i hw
      rw [if_pos hw] at h
      exact Oper.wpIn_mono (fun a w h => wpListIn_of hno l a w hd.2 h) (opIn_of hd.1 (h.resolve_right fun h => hno h.2))
    · rename_i hw
      rw [if_neg hw] at h
      exact ⟨fun _ _ => trivial, wpListIn_of hno l _ w hd.2 h⟩
/-- a plain region, and what follows, within a round -/
theorem inR_seq {id : Nat} {l : List Oper} {rest : Code} {a : Act} {w : World} (hd : l.all noDefer = true) (hno : ¬ LetsOut Q)
    (h : ∀ K : Act → World → Prop, (∀ a w, rest.wpIn (rnd l0) n P Q a w → K a w) → wpList P l.toArray (Exit.then K Q) l a w) : ((Code.region id l.toArray false).seq rest).wpIn (rnd l0) n P Q a w :=
  wpIn_seq_k fun K hK => wpIn_region_lit (wpListIn_of (Q := Exit.then K Q) (fun ⟨a, w, h⟩ => hno ⟨a, w, h⟩) l a w hd (h K hK))
theorem inR_last {id : Nat} {l : List Oper} {a : Act} {w : World} (hd : l.all noDefer = true) (hno : ¬ LetsOut Q)
    (h : wpList P l.toArray Q l a w) : (Code.region id l.toArray false).wpIn (rnd l0) n P Q a w := wpIn_region_lit (wpListIn_of hno l a w hd h)
end
section
variable {P : Program}
theorem seq_core {Q : Exit → Act → World → Prop} {a : Act} {w : World} {l : List Oper} (C0 C1 : World → Prop) (f : Nat) (wild : List Nat) (hB : seqB l.toArray f wild = true) (h01 : ∀ w, C0 w → C1 w) (hc : C0 w.drew)
    (h : wpSeq P l.toArray C0 C1 f wild (fun a' w' => Q .normal a' w') 0 l a w.drew) : wpAny P .any l.toArray Q l.toArray.size (Array.replicate l.toArray.size false) a { w with drawn := w.drawn + 1 } := by
  simp only [seqB, Bool.and_eq_true, List.all_eq_true, decide_eq_true_eq, Bool.or_eq_true, beq_iff_eq] at hB
  obtain ⟨hB1, hB2, hB3, hB4⟩ := hB
  have hm := many_ok hB1
  have hch := chain_all (l := wild) hB2
  have hfr : ∀ n, fr l.toArray a ((Array.replicate l.toArray.size false).getD · false) (fun _ => undef) n = a := by
    intro n
    induction n with
    | zero => rfl
    | succ n ih => unfold fr; rw [ih, getD_replicate_false, if_neg (by simp)]
  obtain ⟨s, e2, r1, r2, r3, r4, r5, r6⟩ := seq_roll (a0 := a) (L := fun _ => false) (e := fun _ => undef) l 0 (fun _ => undef) w.drew (by simp) (Nat.zero_le _) (fun i hi => absurd hi (by omega)) (fun i _ _ h => by cases h) h
  have hfw : f ∈ wild ∨ f = l.toArray.size := by
    rcases hB3 with h | h
    · exact .inl (by simpa using h)
    · exact .inr h
  have hno : ∀ {p : Prop} (i : Nat), (Array.replicate l.toArray.size false).getD i false = true → p := fun i h => by rw [getD_replicate_false] at h; cases h
  have := seq_any (a0 := a) (Q' := Q) (C0 := C0) (C1 := C1) (Q := fun a' w' => Q .normal a' w') hm hch hB4 hfw h01 (fun _ _ h => h) l.length (Array.replicate l.toArray.size false) w.drew (fun _ => undef)
    ⟨by simp, fun j oj _ hl => hno j hl, fun t h1 h2 => (by omega)⟩ (by
      have : (fun i => !(Array.replicate l.toArray.size false).getD i false) = fun _ => true := funext fun i => by rw [getD_replicate_false]; rfl
      rw [this]; simp)
    ⟨s, e2, r2, fun h => ⟨r3 h, getD_replicate_false _ _⟩, fun k hk h => absurd hk (r5 k (Nat.zero_le _) h).1, r6, fun i hi h => hno i h, fun i hi _ => (r5 i (Nat.zero_le _) hi).2.1, fun i _ _ h => hno i h, fun _ => hc, h01 _ hc⟩
  rw [hfr] at this
  simpa using this
theorem inR_seqB {id l0 n : Nat} {Q : Exit → Act → World → Prop} {a : Act} {w : World} {l : List Oper} {rest : Code} (bad : Nat → Prop) (f : Nat) (wild : List Nat) (hmx : P.follows .mixedOrders = true) (hB : seqB l.toArray f wild = true) (hd : l.toArray.all noDefer = true) (hno : ¬ LetsOut Q)
    (h : ∀ K : Act → World → Prop, (∀ a w, rest.wpIn (rnd l0) n P Q a w → K a w) → ∀ w0, Below w.heap.size w w0 → wpSeqB P w bad l.toArray f wild K 0 l a w0) : ((Code.region id l.toArray true).seq rest).wpIn (rnd l0) n P Q a w :=
  wpIn_seq_k fun K hK => wpIn_region_any hmx (wpAnyIn_of (Q := Exit.then K Q) hd (fun ⟨a, w, h⟩ => hno ⟨a, w, h⟩) _ _ _ _ _ (seq_core (Q := Exit.then K Q) (laterC w) (fun w' => ∃ s : LaterB w bad, w' = s.val) f wild hB (fun _ h => later_laterB h) (.of (Below.refl _ _).drew) (h K hK _ (Below.refl _ _).drew)))
theorem inR_lastB {id l0 n : Nat} {Q : Exit → Act → World → Prop} {a : Act} {w : World} {l : List Oper} (bad : Nat → Prop) (f : Nat) (wild : List Nat) (hmx : P.follows .mixedOrders = true) (hB : seqB l.toArray f wild = true) (hd : l.toArray.all noDefer = true) (hno : ¬ LetsOut Q)
    (h : ∀ w0, Below w.heap.size w w0 → wpSeqB P w bad l.toArray f wild (fun a' w' => Q .normal a' w') 0 l a w0) : (Code.region id l.toArray true).wpIn (rnd l0) n P Q a w :=
  wpIn_region_any hmx (wpAnyIn_of hd hno _ _ _ _ _ (seq_core (Q := Q) (laterC w) (fun w' => ∃ s : LaterB w bad, w' = s.val) f wild hB (fun _ h => later_laterB h) (.of (Below.refl _ _).drew) (h _ (Below.refl _ _).drew)))
end
end Go.Proofs.YtnlhjhpikjmoaaaGreatDoor

namespace Go.Proofs.YtnlhjhpikjmoaaaGreatDoor
open Go.RowKit

theorem grow_zero (w : World) : Calls Tryz.prog 107 #[.slice none 0 0, .int .i64 0] w fun e w' => e = .returned (.slice none 0 0) ∧ w' = w := by
  go_enter Tryz.func107, Tryz.ntmps107
  go_wp2
  go_ret
  exact ⟨rfl, rfl⟩
set_option maxRecDepth 100000 in
theorem grow_some (n : Nat) (w : World) (h0 : 0 < n) (hn : n ≤ 1000000000) : Calls Tryz.prog 107 #[.slice none 0 0, .int .i64 n] w fun e w' =>
    (∃ c, e = .returned (.slice (some ⟨w.heap.size, 0, none⟩) 0 c) ∧ OwnB w.heap.size w' (some ⟨w.heap.size, 0, none⟩) 0 c []) ∧ Below w.heap.size w w' := by
  obtain ⟨i0, hi0, hz0, hz1, hz2⟩ := info_parts Tryz.infoU8
  have hr := fun ty w => Lib.run_append_nil_zeros (P := Tryz.prog) w 25 3 ty 5 i0 _ .i64 .i64 Tryz.underlying25 Tryz.underlying3 hi0 hz0 n h0 (by omega) (by omega) (by rw [hz2]; omega)
  have h1 : ¬ ((n : Int) < 0) := by omega
  have h4 : (n : Int) > 0 := by omega
  have h3 : wrap64 ((n : Int) - 0) = n := by unfold wrap64; omega
  go_enter Tryz.func107, Tryz.ntmps107
  go_wp2_with (at_builtin; refine Lib.wpList_append_run _ rfl _ _ _ _ rfl _ _ rfl rfl _ _ (hr _ _) ?_)
  have hge := grownCap_ge w n 0 5
  have hle := grownCap_le_maxLen w n 0 5 (by unfold maxLen; omega)
  go_ret
  refine ⟨⟨_, rfl, ?_⟩, ((Below.refl _ _).alloc (Nat.le_refl _) _).drew⟩
  exact World.ownsRow_made w _ _ (Nat.le_refl _) hle (by rw [Array.size_append, size_zeroCells, size_zeroCells]; simp; omega)

theorem grow_any (n : Nat) (w : World) (hn : n ≤ 1000000000) : Calls Tryz.prog 107 #[.slice none 0 0, .int .i64 n] w fun e w' =>
    (∃ A c, e = .returned (.slice A 0 c) ∧ OwnB w.heap.size w' A 0 c []) ∧ Below w.heap.size w w' := by
  rcases Nat.eq_zero_or_pos n with h0 | h0
  · subst h0
    exact (grow_zero w).mono fun e w' ⟨he, hw⟩ => by subst hw; exact ⟨⟨none, 0, he, OwnB.nil_ _ _⟩, Below.refl _ _⟩
  · exact (grow_some n w h0 hn).mono fun e w' ⟨⟨c, he, ho⟩, hb⟩ => ⟨⟨_, c, he, ho⟩, hb⟩

set_option maxRecDepth 100000 in
set_option maxHeartbeats 3200000 in
/-- slices.Concat of two. -/
theorem concat_any {ok ok2 : Nat → Prop} (g : Nat) (u v : Value) (l p : List UInt8) (w : World) (h0 : w.cell? ⟨g, 0, none⟩ = some u) (h1 : w.cell? ⟨g, 1, none⟩ = some v) (hu : RB ok w u l) (hv : RB ok2 w v p) (hl : l.length ≤ 100000000) (hp : p.length ≤ 100000000) :
    Calls Tryz.prog 98 #[.slice (some ⟨g, 0, none⟩) 2 2] w fun e w' => (∃ A c, e = .returned (.slice A (l ++ p).length c) ∧ OwnB w.heap.size w' A (l ++ p).length c (l ++ p)) ∧ Below w.heap.size w w' := by
  obtain ⟨A, c, rfl, _, _, ru, _⟩ := hu.open_
  obtain ⟨B, d, rfl, _, _, rv, _⟩ := hv.open_
  have e1 : wrap64 (0 + (l.length : Int)) = (l.length : Int) := by unfold wrap64; omega
  have e2 : wrap64 ((l.length : Int) + (p.length : Int)) = ((l.length + p.length : Nat) : Int) := by unfold wrap64; omega
  have g1 : ¬ ((l.length : Int) < 0) := by omega
  have g2 : ¬ (((l.length + p.length : Nat) : Int) < 0) := by omega
  rw [List.length_append]
  generalize hL : l.length = L at *
  generalize hM : p.length = M at *
  go_enter Tryz.func98, Tryz.ntmps98
  go_wp2
  refine wp_loop_rounds 3 ?_
  rw [rounds_succ]
  go_wp2
  rw [rounds_succ]
  go_wp2
  rw [rounds_succ]
  go_wp2_with fail
  refine (grow_any (L + M) _ (by omega)).mono ?_
  rintro e w1 ⟨⟨A1, c1, rfl, ho1⟩, hb1⟩
  have hlt := World.block_lt_of_cell? w _ h0
  have k0 : w1.cell? ⟨g, 0, none⟩ = some (.slice A L c) := (hb1.cell (p := ⟨g, 0, none⟩) hlt).trans h0
  have k1 : w1.cell? ⟨g, 1, none⟩ = some (.slice B M d) := (hb1.cell (p := ⟨g, 1, none⟩) hlt).trans h1
  clear h0 h1
  go_wp2
  refine wp_loop_rounds 3 ?_
  rw [rounds_succ]
  go_wp2_with (at_builtin; refine wp_append_bytes rfl _ _ rfl w.heap.size A1 0 c1 [] _ rfl ho1 A L c l rfl (ru.below hb1) (by omega) hb1.size ?_)
  intro A2 c2 w2 ho2 hb2
  have k1' : w2.cell? ⟨g, 1, none⟩ = some (.slice B M d) := (hb2.cell (p := ⟨g, 1, none⟩) hlt).trans k1
  clear k0 k1
  go_wp2
  rw [rounds_succ]
  go_wp2_with (at_builtin; refine wp_append_bytes rfl _ _ rfl w.heap.size A2 L c2 l _ rfl ho2 B M d p rfl (rv.below (hb1.trans hb2)) (by omega) (hb1.trans hb2).size ?_)
  intro A3 c3 w3 ho3 hb3
  go_wp2
  rw [rounds_succ]
  go_wp2
  go_ret
  exact ⟨⟨A3, c3, rfl, ho3⟩, (hb1.trans hb2).trans hb3⟩
end Go.Proofs.YtnlhjhpikjmoaaaGreatDoor
