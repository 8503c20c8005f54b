/- A region that draws its order, in which three operations, one behind the other, change blocks of one's own, each from one known stage to the next; all others leave memory, or make some: walked once. No program in sight. -/
import Derived.Test.YtikkknaofiafhaaReg9
namespace Go.Proofs.Ytikkknaofiafhaa
open Go.RowKit

structure Ch3 where
  s1 : Nat
  s2 : Nat
  s3 : Nat
  P0 : World → Prop
  P1 : World → Prop
  P2 : World → Prop
  P3 : World → Prop
structure Ch3.Ok (c : Ch3) : Prop where
  p0 : ∀ w w', c.P0 w → Below w.heap.size w w' → c.P0 w'
  p1 : ∀ w w', c.P1 w → Below w.heap.size w w' → c.P1 w'
  p2 : ∀ w w', c.P2 w → Below w.heap.size w w' → c.P2 w'
  p3 : ∀ w w', c.P3 w → Below w.heap.size w w' → c.P3 w'
  d12 : c.s1 ≠ c.s2
  d13 : c.s1 ≠ c.s3
  d23 : c.s2 ≠ c.s3
structure Ch3Inv (bad : Nat → Prop) (c : Ch3) (w : World) (M : Nat → Bool) (w' : World) : Prop where
  kp : Kp (fun b => ¬ bad b) w w'
  q0 : M c.s1 = false → c.P0 w'
  q1 : M c.s1 = true → M c.s2 = false → c.P1 w'
  q2 : M c.s2 = true → M c.s3 = false → c.P2 w'
  q3 : M c.s3 = true → c.P3 w'
section
variable {P : Program} {ops : Array Oper} {w : World} {bad : Nat → Prop} {c : Ch3} {L : List (Nat × SpB bad)} {wild : List Nat} {v : Nat → Value} {Q : Act → World → Prop}
abbrev manyC (P : Program) (ops : Array Oper) (w : World) (bad : Nat → Prop) (c : Ch3) (L : List (Nat × SpB bad)) (wild : List Nat) (v : Nat → Value) (Q : Act → World → Prop) (E : List Nat) (k : Nat) (l : List Oper) (a : Act) : Prop :=
  RE.many P ops .any (fun M _ w' => Ch3Inv bad c w M w') (spbV L) wild v Q E k l a
theorem manyc_pre (n : Nat) {E : List Nat} {k : Nat} {l : List Oper} {a : Act} (hno : (List.range n).all (fun i => !wild.contains (k + i)) = true)
    (hq : wpQuiet P ops (fun w' => ∃ s : LaterB w bad, w' = s.val) (fun a' => manyC P ops w bad c L wild v Q E (k + n) (l.drop n) a') (l.take n) a) (hpl : (l.take n).all (fun o => plainOp o.op) = true) : manyC P ops w bad c L wild v Q E k l a := by
  induction n generalizing k l a with
  | zero => simpa [wpQuiet] using hq
  | succ n ih =>
    cases l with
    | nil => simpa [wpQuiet, RE.many] using hq
    | cons o l =>
      simp only [List.all_eq_true, List.mem_range] at hno
      have h0 : k ∉ wild := by have := hno 0 (by omega); simpa using this
      have hno' : (List.range n).all (fun i => !wild.contains (k + 1 + i)) = true := by
        simp only [List.all_eq_true, List.mem_range]
        intro i hi
        have := hno (i + 1) (by omega)
        rw [show k + 1 + i = k + (i + 1) by omega]
        exact this
      rw [List.take_succ_cons, List.all_cons, Bool.and_eq_true] at hpl
      have next : ∀ a', wpQuiet P ops (fun w' => ∃ s : LaterB w bad, w' = s.val) (fun a' => manyC P ops w bad c L wild v Q E (k + (n + 1)) ((o :: l).drop (n + 1)) a') (l.take n) a' → manyC P ops w bad c L wild v Q E (k + 1) l a' := fun a' h' =>
        ih hno' (by
          have e : k + 1 + n = k + (n + 1) := by omega
          rw [e]; simpa using h') hpl.2
      rw [List.take_succ_cons] at hq
      unfold wpQuiet at hq
      show RE.many P ops .any _ _ wild v Q E k (o :: l) a
      unfold RE.many
      split at hq
      · rename_i hw
        rw [if_pos hw, if_neg h0]
        obtain ⟨u, h1, h2⟩ := hq
        refine ⟨u, fun w' hw' => ?_, next _ h2⟩
        obtain ⟨M, e0, hM⟩ := hw'
        have h3 := h1 w' ⟨⟨w', hM.kp⟩, rfl⟩
        have hno2 := plain_no (P := P) hpl.1 a.eval w'
        unfold Oper.quietAt at h3 ⊢
        generalize (execOp a.eval o).run P w' = r at *
        cases r with
        | ok n' w2 =>
          cases n' <;> simp only [Oper.quietUpon] at h3 ⊢ <;> try exact h3
          case enter f args => exact absurd rfl (hno2 w2 f args)
        | halt x w2 => simp only [Oper.quietUpon] at h3
      · rename_i hw
        rw [if_neg hw]
        exact next _ hq
theorem on_ne {M : Nat → Bool} {k j : Nat} (h : j ≠ k) : on M k j = M j := by simp [on, h]
/-- an operation that leaves memory, or makes some -/
theorem manyc_wild (hc : c.Ok) {E : List Nat} {k : Nat} {o : Oper} {rest : List Oper} {a : Act} (hk : (wild.contains k && (decide (k ≠ c.s1) && (decide (k ≠ c.s2) && decide (k ≠ c.s3)))) = true) (hw : Region.wanted o (yielded ops a.tmps) = true)
    (h1 : ∀ s : LaterB w bad, (∀ d ∈ E, waitsB .any ops ops.size k d = true → (spbOf L d).F (v d) s.val) → Gives P o a s.val fun x w' => (spbOf L k).F x w' ∧ Below s.val.heap.size s.val w')
    (h2 : ∀ a', a.put o.dst (v k) = a' → manyC P ops w bad c L wild v Q (k :: E) (k + 1) rest a') : manyC P ops w bad c L wild v Q E k (o :: rest) a := by
  simp only [Bool.and_eq_true, decide_eq_true_eq] at hk
  obtain ⟨hk0, e1, e2, e3⟩ := hk
  show RE.many P ops .any _ _ wild v Q E k (o :: rest) a
  unfold RE.many
  rw [if_pos hw, if_pos (by simpa using hk0)]
  refine ⟨fun M w' hMk hlate hE hI hV => ?_, h2 _ rfl⟩
  refine (h1 ⟨w', hI.kp⟩ fun d hd hwt => hV d (hE d hd hwt)).mono fun x w2 ⟨g1, g2⟩ => ?_
  have hkp : Kp (fun b => ¬ bad b) w' w2 := (Kp.of_below g2).mono fun _ _ => trivial
  refine ⟨g1, ⟨hI.kp.trans hkp, ?_, ?_, ?_, ?_⟩, fun j x' _ hx => (spbOf L j).st x' _ _ hkp hx⟩
  · rw [on_ne e1.symm]; exact fun h => hc.p0 _ _ (hI.q0 h) g2
  · rw [on_ne e1.symm, on_ne e2.symm]; exact fun h h' => hc.p1 _ _ (hI.q1 h h') g2
  · rw [on_ne e2.symm, on_ne e3.symm]; exact fun h h' => hc.p2 _ _ (hI.q2 h h') g2
  · rw [on_ne e3.symm]; exact fun h => hc.p3 _ _ (hI.q3 h) g2
/-- one for which the first change waits -/
theorem manyc_wild0 (hc : c.Ok) {E : List Nat} {k : Nat} {o : Oper} {rest : List Oper} {a : Act} (hk : (wild.contains k && (decide (k ≠ c.s1) && (decide (k ≠ c.s2) && decide (k ≠ c.s3)))) = true) (hwt : waitsB .any ops ops.size c.s1 k = true) (hw : Region.wanted o (yielded ops a.tmps) = true)
    (h1 : ∀ s : LaterB w bad, c.P0 s.val → (∀ d ∈ E, waitsB .any ops ops.size k d = true → (spbOf L d).F (v d) s.val) → Gives P o a s.val fun x w' => (spbOf L k).F x w' ∧ Below s.val.heap.size s.val w')
    (h2 : ∀ a', a.put o.dst (v k) = a' → manyC P ops w bad c L wild v Q (k :: E) (k + 1) rest a') : manyC P ops w bad c L wild v Q E k (o :: rest) a := by
  simp only [Bool.and_eq_true, decide_eq_true_eq] at hk
  obtain ⟨hk0, e1, e2, e3⟩ := hk
  show RE.many P ops .any _ _ wild v Q E k (o :: rest) a
  unfold RE.many
  rw [if_pos hw, if_pos (by simpa using hk0)]
  refine ⟨fun M w' hMk hlate hE hI hV => ?_, h2 _ rfl⟩
  refine (h1 ⟨w', hI.kp⟩ (hI.q0 (hlate _ hwt)) fun d hd hwt => hV d (hE d hd hwt)).mono fun x w2 ⟨g1, g2⟩ => ?_
  have hkp : Kp (fun b => ¬ bad b) w' w2 := (Kp.of_below g2).mono fun _ _ => trivial
  refine ⟨g1, ⟨hI.kp.trans hkp, ?_, ?_, ?_, ?_⟩, fun j x' _ hx => (spbOf L j).st x' _ _ hkp hx⟩
  · rw [on_ne e1.symm]; exact fun h => hc.p0 _ _ (hI.q0 h) g2
  · rw [on_ne e1.symm, on_ne e2.symm]; exact fun h h' => hc.p1 _ _ (hI.q1 h h') g2
  · rw [on_ne e2.symm, on_ne e3.symm]; exact fun h h' => hc.p2 _ _ (hI.q2 h h') g2
  · rw [on_ne e3.symm]; exact fun h => hc.p3 _ _ (hI.q3 h) g2
theorem manyc_s1 (hc : c.Ok) {E : List Nat} {o : Oper} {rest : List Oper} {a : Act} (hk : wild.contains c.s1 = true) (hwt : (waitsB .any ops ops.size c.s2 c.s1 && waitsB .any ops ops.size c.s3 c.s1) = true) (hw : Region.wanted o (yielded ops a.tmps) = true)
    (h1 : ∀ s : LaterB w bad, c.P0 s.val → (∀ d ∈ E, waitsB .any ops ops.size c.s1 d = true → (spbOf L d).F (v d) s.val) → Gives P o a s.val fun x w' => (spbOf L c.s1).F x w' ∧ c.P1 w' ∧ Kp (fun b => ¬ bad b) s.val w')
    (h2 : ∀ a', a.put o.dst (v c.s1) = a' → manyC P ops w bad c L wild v Q (c.s1 :: E) (c.s1 + 1) rest a') : manyC P ops w bad c L wild v Q E c.s1 (o :: rest) a := by
  simp only [Bool.and_eq_true] at hwt
  show RE.many P ops .any _ _ wild v Q E c.s1 (o :: rest) a
  unfold RE.many
  rw [if_pos hw, if_pos (by simpa using hk)]
  refine ⟨fun M w' hMk hlate hE hI hV => ?_, h2 _ rfl⟩
  have m2 := hlate _ hwt.1
  have m3 := hlate _ hwt.2
  refine (h1 ⟨w', hI.kp⟩ (hI.q0 hMk) fun d hd hwt => hV d (hE d hd hwt)).mono fun x w2 ⟨g1, g2, g3⟩ => ?_
  refine ⟨g1, ⟨hI.kp.trans g3, ?_, ?_, ?_, ?_⟩, fun j x' _ hx => (spbOf L j).st x' _ _ g3 hx⟩
  · intro h; simp [on] at h
  · exact fun _ _ => g2
  · rw [on_ne hc.d12.symm, m2]; intro h; cases h
  · rw [on_ne hc.d13.symm, m3]; intro h; cases h
theorem manyc_s2 (hc : c.Ok) {E : List Nat} {o : Oper} {rest : List Oper} {a : Act} (hk : (wild.contains c.s2 && E.contains c.s1) = true) (hwt : (waitsB .any ops ops.size c.s2 c.s1 && waitsB .any ops ops.size c.s3 c.s2) = true) (hw : Region.wanted o (yielded ops a.tmps) = true)
    (h1 : ∀ s : LaterB w bad, c.P1 s.val → (∀ d ∈ E, waitsB .any ops ops.size c.s2 d = true → (spbOf L d).F (v d) s.val) → Gives P o a s.val fun x w' => (spbOf L c.s2).F x w' ∧ c.P2 w' ∧ Kp (fun b => ¬ bad b) s.val w')
    (h2 : ∀ a', a.put o.dst (v c.s2) = a' → manyC P ops w bad c L wild v Q (c.s2 :: E) (c.s2 + 1) rest a') : manyC P ops w bad c L wild v Q E c.s2 (o :: rest) a := by
  simp only [Bool.and_eq_true] at hwt hk
  show RE.many P ops .any _ _ wild v Q E c.s2 (o :: rest) a
  unfold RE.many
  rw [if_pos hw, if_pos (by simpa using hk.1)]
  refine ⟨fun M w' hMk hlate hE hI hV => ?_, h2 _ rfl⟩
  have m1 : M c.s1 = true := hE _ (by simpa using hk.2) hwt.1
  have m3 := hlate _ hwt.2
  refine (h1 ⟨w', hI.kp⟩ (hI.q1 m1 hMk) fun d hd hwt => hV d (hE d hd hwt)).mono fun x w2 ⟨g1, g2, g3⟩ => ?_
  refine ⟨g1, ⟨hI.kp.trans g3, ?_, ?_, ?_, ?_⟩, fun j x' _ hx => (spbOf L j).st x' _ _ g3 hx⟩
  · rw [on_ne hc.d12, m1]; intro h; cases h
  · intro _ h; simp [on] at h
  · exact fun _ _ => g2
  · rw [on_ne hc.d23.symm, m3]; intro h; cases h
theorem manyc_s3 (hc : c.Ok) {E : List Nat} {o : Oper} {rest : List Oper} {a : Act} (hk : (wild.contains c.s3 && (E.contains c.s1 && E.contains c.s2)) = true) (hwt : (waitsB .any ops ops.size c.s3 c.s1 && waitsB .any ops ops.size c.s3 c.s2) = true) (hw : Region.wanted o (yielded ops a.tmps) = true)
    (h1 : ∀ s : LaterB w bad, c.P2 s.val → (∀ d ∈ E, waitsB .any ops ops.size c.s3 d = true → (spbOf L d).F (v d) s.val) → Gives P o a s.val fun x w' => (spbOf L c.s3).F x w' ∧ c.P3 w' ∧ Kp (fun b => ¬ bad b) s.val w')
    (h2 : ∀ a', a.put o.dst (v c.s3) = a' → manyC P ops w bad c L wild v Q (c.s3 :: E) (c.s3 + 1) rest a') : manyC P ops w bad c L wild v Q E c.s3 (o :: rest) a := by
  simp only [Bool.and_eq_true] at hwt hk
  show RE.many P ops .any _ _ wild v Q E c.s3 (o :: rest) a
  unfold RE.many
  rw [if_pos hw, if_pos (by simpa using hk.1)]
  refine ⟨fun M w' hMk hlate hE hI hV => ?_, h2 _ rfl⟩
  have m1 : M c.s1 = true := hE _ (by simpa using hk.2.1) hwt.1
  have m2 : M c.s2 = true := hE _ (by simpa using hk.2.2) hwt.2
  refine (h1 ⟨w', hI.kp⟩ (hI.q2 m2 hMk) fun d hd hwt => hV d (hE d hd hwt)).mono fun x w2 ⟨g1, g2, g3⟩ => ?_
  refine ⟨g1, ⟨hI.kp.trans g3, ?_, ?_, ?_, ?_⟩, fun j x' _ hx => (spbOf L j).st x' _ _ g3 hx⟩
  · rw [on_ne hc.d13, m1]; intro h; cases h
  · rw [on_ne hc.d23, m2]; intro _ h; cases h
  · intro _ h; simp [on] at h
  · exact fun _ => g2
theorem manyc_end {E : List Nat} {k : Nat} {a : Act} (hE : E.contains c.s3 = true) (h : ∀ w', Kp (fun b => ¬ bad b) w w' → c.P3 w' → Q a w') : manyC P ops w bad c L wild v Q E k [] a := by
  intro M w' hM hI _
  exact h w' hI.kp (hI.q3 (hM _ (by simpa using hE)))
theorem wp_chain3 {id : Nat} {Q : Exit → Act → World → Prop} {a : Act} {l : List Oper} (bad : Nat → Prop) (c : Ch3) (hc : c.Ok) (L : List (Nat × SpB bad)) (wild : List Nat) (hmx : P.follows .mixedOrders = true) (hB : manyB .any l.toArray l.length wild = true) (h0 : c.P0 w)
    (h : ∀ v : Nat → Value, (∀ k, k ∈ wild → (spbOf L k).sh (v k)) → manyC P l.toArray w bad c L wild v (fun a' w' => Q .normal a' w') [] 0 l a) : (Code.region id l.toArray true).wp P Q a w :=
  RE.wp_region_many (fun M _ w' => Ch3Inv bad c w M w') (spbV L) wild hmx hB (fun _ => ⟨(Kp.refl _ _).drew, fun _ => hc.p0 _ _ h0 (Below.refl _ _).drew, (fun h => by cases h), (fun h => by cases h), fun h => by cases h⟩) (fun M e e' w' h hI => hI) (fun k x => (spbOf L k).sh x) (fun k x w h => (spbOf L k).shF x w h) (fun k => (spbOf L k).wit) (fun k _ => (spbOf L k).shw) h
end
end Go.Proofs.Ytikkknaofiafhaa
