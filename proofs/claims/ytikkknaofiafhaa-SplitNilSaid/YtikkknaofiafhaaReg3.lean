/- Drawn regions walked once, with boxes that are laid in any order: the boxes lie apart. No program in sight. -/
import Derived.Test.YtikkknaofiafhaaRegE
import Derived.Test.YtikkknaofiafhaaBlk
namespace Go.Proofs.Ytikkknaofiafhaa
open Go.RowKit

/-- a new block, and who points at it -/
def Sp.box (base : Nat) (T : TypeId) (zs : Array Value) : Sp :=
  ⟨fun x => ∃ g, x = .pointer (some ⟨g, 0, none⟩), .pointer (some ⟨0, 0, none⟩), ⟨0, rfl⟩, fun x w => ∃ g, x = .pointer (some ⟨g, 0, none⟩) ∧ base ≤ g ∧ Blk w g T zs, fun _ _ ⟨g, h, _⟩ => ⟨g, h⟩, fun _ _ _ hb ⟨g, h, h1, h2⟩ => ⟨g, h, h1, h2.below hb h2.lt⟩⟩

section
variable {P : Program} {ops : Array Oper} {md : Region.Mode} {w : World} {L : List (Nat × Sp)} {wild bx : List Nat} {v : Nat → Value} {Q : Act → World → Prop}
abbrev boxInv (w : World) (bx : List Nat) : (Nat → Bool) → (Nat → Value) → World → Prop := fun M e w' => Below w.heap.size w w' ∧ ∀ i ∈ bx, ∀ j ∈ bx, i ≠ j → M i = true → M j = true → e i ≠ e j
abbrev manyX (P : Program) (ops : Array Oper) (w : World) (L : List (Nat × Sp)) (wild bx : List Nat) (v : Nat → Value) (Q : Act → World → Prop) (E : List Nat) (k : Nat) (l : List Oper) (a : Act) : Prop :=
  RE.many P ops .any (boxInv w bx) (spV L) wild v Q E k l a

/-- operations that are quiet -/
theorem manyx_pre (n : Nat) {E : List Nat} {k : Nat} {l : List Oper} {a : Act} (hno : (List.range n).all (fun i => !wild.contains (k + i)) = true)
    (h : wpQuiet P ops (fun w' => ∃ s : Later w, w' = s.val) (fun a' => manyX P ops w L wild bx v Q E (k + n) (l.drop n) a') (l.take n) a) : manyX P ops w L wild bx v Q E k l a := by
  induction n generalizing k l a with
  | zero => simpa [wpQuiet] using h
  | succ n ih =>
    cases l with
    | nil => simpa [wpQuiet, RE.many] using h
    | cons o l =>
      simp only [List.all_eq_true, List.mem_range] at hno
      have h0 : k ∉ wild := by have := hno 0 (by omega); simpa using this
      have hno' : (List.range n).all (fun i => !wild.contains (k + 1 + i)) = true := by
        simp only [List.all_eq_true, List.mem_range]
        intro i hi
        have := hno (i + 1) (by omega)
        rw [show k + 1 + i = k + (i + 1) by omega]
        exact this
      have next : ∀ a', wpQuiet P ops (fun w' => ∃ s : Later w, w' = s.val) (fun a' => manyX P ops w L wild bx v Q E (k + (n + 1)) ((o :: l).drop (n + 1)) a') (l.take n) a' → manyX P ops w L wild bx v Q E (k + 1) l a' := fun a' h' =>
        ih hno' (by
          have e : k + 1 + n = k + (n + 1) := by omega
          rw [e]; simpa using h')
      rw [List.take_succ_cons] at h
      unfold wpQuiet at h
      show RE.many P ops .any _ _ wild v Q E k (o :: l) a
      unfold RE.many
      split at h
      · rename_i hw
        rw [if_pos hw, if_neg h0]
        obtain ⟨u, h1, h2⟩ := h
        refine ⟨u, fun w' hw' => ?_, next _ h2⟩
        obtain ⟨M, e0, hM⟩ := hw'
        have h3 := h1 w' ⟨⟨w', hM.1⟩, rfl⟩
        unfold Oper.quietAt at h3 ⊢
        generalize (execOp a.eval o).run P w' = r at *
        cases r with
        | ok n' w2 =>
          cases n' <;> simp only [Oper.quietUpon] at h3 ⊢ <;> try exact h3
          case enter f args => exact ⟨h3.1, h3.2.mono fun e w'' ⟨he, s, hs⟩ => ⟨he, fun _ => false, fun _ => undef, by rw [hs]; exact s.below, fun i _ j _ _ h => by cases h⟩⟩
        | halt x w2 => simp only [Oper.quietUpon] at h3
      · rename_i hw
        rw [if_neg hw]
        exact next _ h

/-- an operation that makes memory, by its specification -/
theorem manyx_wild {E : List Nat} {k : Nat} {o : Oper} {rest : List Oper} {a : Act} (hk : (wild.contains k && !bx.contains k) = true) (hw : Region.wanted o (yielded ops a.tmps) = true)
    (h1 : ∀ s : Later w, (∀ d ∈ E, waitsB .any ops ops.size k d = true → (spOf L d).F (v d) s.val) → Gives P o a s.val fun x w' => (spOf L k).F x w' ∧ Below s.val.heap.size s.val w')
    (h2 : ∀ a', a.put o.dst (v k) = a' → manyX P ops w L wild bx v Q (k :: E) (k + 1) rest a') : manyX P ops w L wild bx v Q E k (o :: rest) a := by
  have hk1 : k ∈ wild := by simp only [Bool.and_eq_true] at hk; simpa using hk.1
  have hk2 : k ∉ bx := by simp only [Bool.and_eq_true] at hk; simpa using hk.2
  show RE.many P ops .any _ _ wild v Q E k (o :: rest) a
  unfold RE.many
  rw [if_pos hw, if_pos hk1]
  refine ⟨fun M w' hMk _ hE hI hV => ?_, h2 _ rfl⟩
  refine (h1 ⟨w', hI.1⟩ fun d hd hwt => hV d (hE d hd hwt)).mono fun x w2 ⟨g1, g2⟩ => ⟨g1, ⟨hI.1.trans (g2.mono hI.1.size), fun i hi j hj hij h3 h4 => ?_⟩, fun j x' _ h => (spOf L j).st x' _ _ g2 h⟩
  have hik : i ≠ k := fun h => hk2 (h ▸ hi)
  have hjk : j ≠ k := fun h => hk2 (h ▸ hj)
  simp only [on, Bool.or_eq_true, beq_iff_eq] at h3 h4
  simp only [upd, if_neg hik, if_neg hjk]
  exact hI.2 i hi j hj hij (h3.resolve_left hik) (h4.resolve_left hjk)
/-- a box -/
theorem manyx_box {E : List Nat} {k : Nat} {o : Oper} {rest : List Oper} {a : Act} (base : Nat) (T : TypeId) (zs : Array Value) (hk : (wild.contains k && bx.contains k) = true) (hw : Region.wanted o (yielded ops a.tmps) = true)
    (hL : spOf L k = Sp.box base T zs) (hbx : ∀ j ∈ bx, ∃ base' T' zs', spOf L j = Sp.box base' T' zs') (hbase : base ≤ w.heap.size)
    (h1 : ∀ s : Later w, Gives P o a s.val fun x w' => x = .pointer (some ⟨s.val.heap.size, 0, none⟩) ∧ w' = s.val.alloc (.cells zs T))
    (h2 : ∀ a', a.put o.dst (v k) = a' → manyX P ops w L wild bx v Q (k :: E) (k + 1) rest a') : manyX P ops w L wild bx v Q E k (o :: rest) a := by
  have hk1 : k ∈ wild := by simp only [Bool.and_eq_true] at hk; simpa using hk.1
  show RE.many P ops .any _ _ wild v Q E k (o :: rest) a
  unfold RE.many
  rw [if_pos hw, if_pos hk1]
  refine ⟨fun M w' hMk _ hE hI hV => ?_, h2 _ rfl⟩
  refine (h1 ⟨w', hI.1⟩).mono fun x w2 ⟨g1, g2⟩ => ?_
  subst g1 g2
  have hal : Below w'.heap.size w' (w'.alloc (.cells zs T)) := (Below.refl _ _).alloc (Nat.le_refl _) _
  have far : ∀ j ∈ bx, M j = true → v j ≠ .pointer (some ⟨w'.heap.size, 0, none⟩) := by
    intro j hj hM he
    obtain ⟨b', T', zs', hs⟩ := hbx j hj
    have hF := hV j hM
    unfold spV at hF
    rw [hs] at hF
    obtain ⟨g, hg, _, hblk⟩ := hF
    rw [he] at hg
    simp only [Value.pointer.injEq, Option.some.injEq, Addr.mk.injEq, and_true] at hg
    have := hblk.lt
    omega
  refine ⟨?_, ⟨hI.1.trans (hal.mono hI.1.size), fun i hi j hj hij h3 h4 => ?_⟩, fun j x' _ h => (spOf L j).st x' _ _ hal h⟩
  · unfold spV
    rw [hL]
    exact ⟨w'.heap.size, rfl, Nat.le_trans hbase hI.1.size, Blk.new w' T zs⟩
  · simp only [on, Bool.or_eq_true, beq_iff_eq] at h3 h4
    simp only [upd]
    by_cases hik : i = k
    · have hjk : j ≠ k := fun h => hij (hik.trans h.symm)
      rw [if_pos hik, if_neg hjk]
      exact (far j hj (h4.resolve_left hjk)).symm
    · by_cases hjk : j = k
      · rw [if_neg hik, if_pos hjk]
        exact far i hi (h3.resolve_left hik)
      · rw [if_neg hik, if_neg hjk]
        exact hI.2 i hi j hj hij (h3.resolve_left hik) (h4.resolve_left hjk)
theorem manyx_skip {E : List Nat} {k : Nat} {o : Oper} {rest : List Oper} {a : Act} (hw : Region.wanted o (yielded ops a.tmps) = false)
    (h2 : ∀ a', a.put o.dst undef = a' → manyX P ops w L wild bx v Q E (k + 1) rest a') : manyX P ops w L wild bx v Q E k (o :: rest) a := by
  show RE.many P ops .any _ _ wild v Q E k (o :: rest) a
  unfold RE.many
  rw [if_neg (by rw [hw]; decide)]
  exact h2 _ rfl
theorem manyx_end {E : List Nat} {k : Nat} {a : Act} (h : ∀ s : Later w, (∀ d ∈ E, (spOf L d).F (v d) s.val) → (∀ i ∈ bx, ∀ j ∈ bx, i ∈ E → j ∈ E → i ≠ j → v i ≠ v j) → Q a s.val) : manyX P ops w L wild bx v Q E k [] a :=
  fun _ w' hM hI hV => h ⟨w', hI.1⟩ hV fun i hi j hj hiE hjE hij => hI.2 i hi j hj hij (hM i hiE) (hM j hjE)
theorem boxInv_cong (w : World) (bx : List Nat) : ∀ M e e' w', (∀ d, M d = true → e d = e' d) → boxInv w bx M e w' → boxInv w bx M e' w' := fun M e e' w' h hI =>
  ⟨hI.1, fun i hi j hj hij h3 h4 => by rw [← h i h3, ← h j h4]; exact hI.2 i hi j hj hij h3 h4⟩

theorem wp_boxes {id : Nat} {Q : Exit → Act → World → Prop} {a : Act} {l : List Oper} (L : List (Nat × Sp)) (wild bx : List Nat) (hmx : P.follows .mixedOrders = true) (hB : manyB .any l.toArray l.length wild = true)
    (h : ∀ v : Nat → Value, (∀ k, k ∈ wild → (spOf L k).sh (v k)) → manyX P l.toArray w L wild bx v (fun a' w' => Q .normal a' w') [] 0 l a) : (Code.region id l.toArray true).wp P Q a w :=
  RE.wp_region_many (boxInv w bx) (spV L) wild hmx hB (fun _ => ⟨(Below.refl _ _).drew, fun i _ j _ _ h => by cases h⟩) (boxInv_cong w bx) (fun k x => (spOf L k).sh x) (fun k x w h => (spOf L k).shF x w h) (fun k => (spOf L k).wit) (fun k _ => (spOf L k).shw) h
/-- the last operations in one forced order -/
theorem wp_boxes_tail {id : Nat} {Q : Exit → Act → World → Prop} {a : Act} {l : List Oper} (n : Nat) (L : List (Nat × Sp)) (wild bx : List Nat) (hmx : P.follows .mixedOrders = true) (hB : manyB .any l.toArray n wild = true)
    (hB2 : (decide (n < l.length) && Region.sinkB .any l.toArray n && Region.chainB .any l.toArray n && Region.seqB .any l.toArray (l.length - n) n ((List.range l.length).map fun i => decide (i < n)).toArray) = true)
    (h : ∀ v : Nat → Value, (∀ k, k ∈ wild → (spOf L k).sh (v k)) → manyX P l.toArray w L wild bx v (fun a' w' => wpList P l.toArray Q (l.drop n) a' w') [] 0 (l.take n) a) : (Code.region id l.toArray true).wp P Q a w :=
  RE.wp_region_many_tail n (boxInv w bx) (spV L) wild hmx hB hB2 (fun _ => ⟨(Below.refl _ _).drew, fun i _ j _ _ h => by cases h⟩) (boxInv_cong w bx) (fun k x => (spOf L k).sh x) (fun k x w h => (spOf L k).shF x w h) (fun k => (spOf L k).wit) (fun k _ => (spOf L k).shw) h
end
end Go.Proofs.Ytikkknaofiafhaa
