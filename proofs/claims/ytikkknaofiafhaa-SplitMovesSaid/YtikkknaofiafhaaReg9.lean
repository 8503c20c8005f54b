/- A region that draws its order, in which a list is made of three parts: the beginning of a list, one element, the end of a list: append(append(append(nil, l1...), x), l2...): walked once. No program in sight. -/
import Derived.Test.YtikkknaofiafhaaReg8
namespace Go.Proofs.Ytikkknaofiafhaa
open Go.RowKit

/-- the four operations' places, and what they put together -/
structure Ins (α : Type) where
  a : Nat
  b : Nat
  c : Nat
  d : Nat
  l1 : List α
  x : α
  l2 : List α
section
variable {α : Type}
structure InsInv (E : Rel α) (okd : Nat → Prop) (T : TypeId) (p : Ins α) (w : World) (M : Nat → Bool) (e : Nat → Value) (w' : World) : Prop where
  bel : Below w.heap.size w w'
  fa : M p.c = false → M p.a = true → OwnL E okd w.heap.size T w' (e p.a) p.l1
  fb : M p.c = false → M p.b = true → ∃ g cs, e p.b = .slice (some ⟨g, 0, none⟩) 1 1 ∧ Blk w' g T cs ∧ E.rel okd w' cs.toList p.x
  ab : M p.c = false → M p.a = true → M p.b = true → (e p.a).ownBlock ≠ (e p.b).ownBlock
  fc : M p.c = true → M p.d = false → OwnL E okd w.heap.size T w' (e p.c) (p.l1 ++ [p.x])
  fd : M p.d = true → OwnL E okd w.heap.size T w' (e p.d) (p.l1 ++ [p.x] ++ p.l2)
def insSh (p : Ins α) (k : Nat) (x : Value) : Prop := (k = p.a → ∃ A c, x = .slice A p.l1.length c) ∧ (k = p.b → ∃ g, x = .slice (some ⟨g, 0, none⟩) 1 1) ∧ (k = p.c → ∃ A c, x = .slice A (p.l1.length + 1) c) ∧ (k = p.d → ∃ A c, x = .slice A (p.l1.length + 1 + p.l2.length) c)
def insWit (p : Ins α) (k : Nat) : Value := if k = p.a then .slice none p.l1.length 0 else if k = p.b then .slice (some ⟨0, 0, none⟩) 1 1 else if k = p.c then .slice none (p.l1.length + 1) 0 else .slice none (p.l1.length + 1 + p.l2.length) 0
def Ins.apart (p : Ins α) : Bool := p.a != p.b && (p.a != p.c && (p.a != p.d && (p.b != p.c && (p.b != p.d && p.c != p.d))))
theorem Ins.apart_ {p : Ins α} (h : p.apart = true) : p.a ≠ p.b ∧ p.a ≠ p.c ∧ p.a ≠ p.d ∧ p.b ≠ p.c ∧ p.b ≠ p.d ∧ p.c ≠ p.d := by
  simpa [Ins.apart, Bool.and_eq_true, bne_iff_ne, ne_eq] using h
theorem insWit_sh {p : Ins α} (h : p.apart = true) (k : Nat) : insSh p k (insWit p k) := by
  obtain ⟨h1, h2, h3, h4, h5, h6⟩ := Ins.apart_ h
  unfold insSh insWit
  refine ⟨fun hk => ⟨none, 0, by rw [if_pos hk]⟩, fun hk => ⟨0, by rw [if_neg (by omega), if_pos hk]⟩, fun hk => ⟨none, 0, by rw [if_neg (by omega), if_neg (by omega), if_pos hk]⟩, fun hk => ⟨none, 0, by rw [if_neg (by omega), if_neg (by omega), if_neg (by omega)]⟩⟩
end

section
variable {α : Type} {P : Program} {ops : Array Oper} {w : World} {E : Rel α} {okd : Nat → Prop} {T : TypeId} {p : Ins α} {wild : List Nat} {v : Nat → Value} {Q : Act → World → Prop}
abbrev manyI (P : Program) (ops : Array Oper) (w : World) (E : Rel α) (okd : Nat → Prop) (T : TypeId) (p : Ins α) (wild : List Nat) (v : Nat → Value) (Q : Act → World → Prop) (L : List Nat) (k : Nat) (l : List Oper) (a : Act) : Prop :=
  RE.many P ops .any (InsInv E okd T p w) (fun k x _ => insSh p k x) wild v Q L k l a

theorem manyi_pre (n : Nat) {L : List Nat} {k : Nat} {l : List Oper} {a : Act} (hno : (List.range n).all (fun i => !wild.contains (k + i)) = true)
    (hq : wpQuiet P ops (fun w' => ∃ s : Later w, w' = s.val) (fun a' => manyI P ops w E okd T p wild v Q L (k + n) (l.drop n) a') (l.take n) a) (hpl : (l.take n).all (fun o => plainOp o.op) = true) : manyI P ops w E okd T p wild v Q L k l a := by
  induction n generalizing k l a with
  | zero => simpa [wpQuiet] using hq
  | succ n ih =>
    cases l with
    | nil => simpa [wpQuiet, RE.many] using hq
    | cons o l =>
      simp only [List.all_eq_true, List.mem_range] at hno
      have h0 : k ∉ wild := by have := hno 0 (by omega); simpa using this
      have hno' : (List.range n).all (fun i => !wild.contains (k + 1 + i)) = true := by
        simp only [List.all_eq_true, List.mem_range]
        intro i hi
        have := hno (i + 1) (by omega)
        rw [show k + 1 + i = k + (i + 1) by omega]
        exact this
      rw [List.take_succ_cons, List.all_cons, Bool.and_eq_true] at hpl
      have next : ∀ a', wpQuiet P ops (fun w' => ∃ s : Later w, w' = s.val) (fun a' => manyI P ops w E okd T p wild v Q L (k + (n + 1)) ((o :: l).drop (n + 1)) a') (l.take n) a' → manyI P ops w E okd T p wild v Q L (k + 1) l a' := fun a' h' =>
        ih hno' (by
          have e : k + 1 + n = k + (n + 1) := by omega
          rw [e]; simpa using h') hpl.2
      rw [List.take_succ_cons] at hq
      unfold wpQuiet at hq
      show RE.many P ops .any _ _ wild v Q L k (o :: l) a
      unfold RE.many
      split at hq
      · rename_i hw
        rw [if_pos hw, if_neg h0]
        obtain ⟨u, h1, h2⟩ := hq
        refine ⟨u, fun w' hw' => ?_, next _ h2⟩
        obtain ⟨M, e0, hM⟩ := hw'
        have h3 := h1 w' ⟨⟨w', hM.bel⟩, rfl⟩
        have hno2 := plain_no (P := P) hpl.1 a.eval w'
        unfold Oper.quietAt at h3 ⊢
        generalize (execOp a.eval o).run P w' = r at *
        cases r with
        | ok n' w2 =>
          cases n' <;> simp only [Oper.quietUpon] at h3 ⊢ <;> try exact h3
          case enter f args => exact absurd rfl (hno2 w2 f args)
        | halt x w2 => simp only [Oper.quietUpon] at h3
      · rename_i hw
        rw [if_neg hw]
        exact next _ hq

/-- the beginning, copied -/
theorem manyi_a {tS : TypeId} (hT : RowTy P tS T E.sz E.wt) (hsz : 0 < E.sz) {L : List Nat} {o : Oper} {rest : List Oper} {a : Act} (x : Operand) (hd : p.apart = true) (hk : wild.contains p.a = true) (hwt : waitsB .any ops ops.size p.c p.a = true) (hwd : waitsB .any ops ops.size p.d p.a = true) (hw : Region.wanted o (yielded ops a.tmps) = true)
    (ho : o.op = .call { callee := .builtin .append, args := #[.const (.slice none 0 0), x], argTypes := #[tS, tS] })
    (vx : Value) (hx : a.eval x = vx) (hr : RSl E (fun b => okd b ∧ b < w.heap.size) w vx p.l1) (hokd : ∀ b, okd b → b < w.heap.size)
    (hlen : p.l1.length * E.wt ≤ 140737488355328) (hlen2 : p.l1.length ≤ 140737488355328)
    (h2 : ∀ a', a.put o.dst (v p.a) = a' → manyI P ops w E okd T p wild v Q (p.a :: L) (p.a + 1) rest a') : manyI P ops w E okd T p wild v Q L p.a (o :: rest) a := by
  obtain ⟨d1, d2, d3, d4, d5, d6⟩ := Ins.apart_ hd
  show RE.many P ops .any _ _ wild v Q L p.a (o :: rest) a
  unfold RE.many
  rw [if_pos hw, if_pos (by simpa using hk)]
  refine ⟨fun M w' hMk hlate hE hI _ => ?_, h2 _ rfl⟩
  have hc := hlate p.c hwt
  have hdd := hlate p.d hwd
  have hr' := hr.below hI.bel
  obtain ⟨A, n, c, css, rfl, _, hn, _, hrd, hch, _⟩ := hr'
  subst hn
  refine gives_app0' hT hsz (.const (.slice none 0 0)) x ho (.slice none 0 0) [] w' rfl (OwnL.nil_ E okd w.heap.size T w') A c p.l1 css hx hrd (hch.mono fun b hb _ => ⟨hb.1, fun e => by cases e⟩) (by simpa using hlen) (by simpa using hlen2) hI.bel.size ?_
  intro v' w2 ho2 hk2 hv2
  rw [List.nil_append] at ho2
  have hbel : Below w'.heap.size w' w2 := hk2.below (Nat.le_refl _) fun b _ h => by cases h
  obtain ⟨A', c', hv, _⟩ := ho2.form
  refine ⟨⟨fun _ => ⟨A', c', hv⟩, fun h => absurd h d1, fun h => absurd h d2, fun h => absurd h d3⟩, ⟨hI.bel.trans (hbel.mono hI.bel.size), ?_, ?_, ?_, ?_, ?_⟩, fun _ _ _ h => h⟩
  · intro _ _
    rw [show upd v p.a v' p.a = v' by simp [upd]]
    exact ho2
  · intro h1 h2
    rw [show on M p.a p.b = M p.b by simp [on, d1.symm]] at h2
    obtain ⟨g, cs, he, hb, hrel⟩ := hI.fb hc h2
    exact ⟨g, cs, by simp [upd, d1.symm, he], hb.below hbel hb.lt, E.kp (Kp.of_below (ok := okd) hbel) hrel⟩
  · intro h1 _ h2
    rw [show on M p.a p.b = M p.b by simp [on, d1.symm]] at h2
    obtain ⟨g, cs, he, hb, _⟩ := hI.fb hc h2
    rw [show upd v p.a v' p.a = v' by simp [upd], show upd v p.a v' p.b = v p.b by simp [upd, d1.symm], he]
    rcases hv2 with hv2 | hv2 <;> rw [hv2]
    · intro h; cases h
    · intro h
      have h3 : w'.heap.size = g := Option.some.inj h
      have := hb.lt
      omega
  · intro h1 _
    rw [show on M p.a p.c = M p.c by simp [on, d2.symm], hc] at h1
    cases h1
  · intro h1
    rw [show on M p.a p.d = M p.d by simp [on, d3.symm], hdd] at h1
    cases h1
/-- the element, laid out -/
theorem manyi_b {L : List Nat} {o : Oper} {rest : List Oper} {a : Act} (cs : Array Value) (hd : p.apart = true) (hk : wild.contains p.b = true) (hwt : waitsB .any ops ops.size p.c p.b = true) (hwd : waitsB .any ops ops.size p.d p.b = true) (hw : Region.wanted o (yielded ops a.tmps) = true)
    (hrel : ∀ s : Later w, E.rel okd s.val cs.toList p.x)
    (h1 : ∀ s : Later w, Gives P o a s.val fun x w' => x = .slice (some ⟨s.val.heap.size, 0, none⟩) 1 1 ∧ w' = s.val.alloc (.cells cs T))
    (h2 : ∀ a', a.put o.dst (v p.b) = a' → manyI P ops w E okd T p wild v Q (p.b :: L) (p.b + 1) rest a') : manyI P ops w E okd T p wild v Q L p.b (o :: rest) a := by
  obtain ⟨d1, d2, d3, d4, d5, d6⟩ := Ins.apart_ hd
  show RE.many P ops .any _ _ wild v Q L p.b (o :: rest) a
  unfold RE.many
  rw [if_pos hw, if_pos (by simpa using hk)]
  refine ⟨fun M w' hMk hlate hE hI _ => ?_, h2 _ rfl⟩
  have hc := hlate p.c hwt
  have hdd := hlate p.d hwd
  refine (h1 ⟨w', hI.bel⟩).mono fun x w2 ⟨g1, g2⟩ => ?_
  subst g1 g2
  have hbel : Below w'.heap.size w' (w'.alloc (.cells cs T)) := (Below.refl _ _).alloc (Nat.le_refl _) _
  refine ⟨⟨fun h => absurd h.symm d1, fun _ => ⟨_, rfl⟩, fun h => absurd h d4, fun h => absurd h d5⟩, ⟨hI.bel.trans (hbel.mono hI.bel.size), ?_, ?_, ?_, ?_, ?_⟩, fun _ _ _ h => h⟩
  · intro _ h2
    rw [show on M p.b p.a = M p.a by simp [on, d1]] at h2
    rw [show upd v p.b (Value.slice (some ⟨w'.heap.size, 0, none⟩) 1 1) p.a = v p.a by simp [upd, d1]]
    exact (hI.fa hc h2).below hbel
  · intro _ _
    exact ⟨w'.heap.size, cs, by simp [upd], Blk.new w' _ _, E.kp (Kp.of_below (ok := okd) hbel) (hrel ⟨w', hI.bel⟩)⟩
  · intro _ h2 _
    rw [show on M p.b p.a = M p.a by simp [on, d1]] at h2
    rw [show upd v p.b (Value.slice (some ⟨w'.heap.size, 0, none⟩) 1 1) p.a = v p.a by simp [upd, d1], show upd v p.b (Value.slice (some ⟨w'.heap.size, 0, none⟩) 1 1) p.b = .slice (some ⟨w'.heap.size, 0, none⟩) 1 1 by simp [upd]]
    intro h
    have := ((hI.fa hc h2).lt w'.heap.size h).2
    omega
  · intro h1 _
    rw [show on M p.b p.c = M p.c by simp [on, d4.symm], hc] at h1
    cases h1
  · intro h1
    rw [show on M p.b p.d = M p.d by simp [on, d5.symm], hdd] at h1
    cases h1
/-- the element, appended -/
theorem manyi_c {tS : TypeId} (hT : RowTy P tS T E.sz E.wt) (hsz : 0 < E.sz) {L : List Nat} {o : Oper} {rest : List Oper} {a : Act} (s x : Operand) (hd : p.apart = true) (hk : (wild.contains p.c && (L.contains p.a && L.contains p.b)) = true) (hwt : (waitsB .any ops ops.size p.c p.a && waitsB .any ops ops.size p.c p.b) = true) (hwd : waitsB .any ops ops.size p.d p.c = true) (hw : Region.wanted o (yielded ops a.tmps) = true)
    (ho : o.op = .call { callee := .builtin .append, args := #[s, x], argTypes := #[tS, tS] }) (hs : a.eval s = v p.a) (hx : a.eval x = v p.b) (hokd : ∀ b, okd b → b < w.heap.size)
    (hlen : (p.l1.length + 1) * E.wt ≤ 140737488355328) (hlen2 : p.l1.length + 1 ≤ 140737488355328)
    (h2 : ∀ a', a.put o.dst (v p.c) = a' → manyI P ops w E okd T p wild v Q (p.c :: L) (p.c + 1) rest a') : manyI P ops w E okd T p wild v Q L p.c (o :: rest) a := by
  obtain ⟨d1, d2, d3, d4, d5, d6⟩ := Ins.apart_ hd
  simp only [Bool.and_eq_true] at hk hwt
  show RE.many P ops .any _ _ wild v Q L p.c (o :: rest) a
  unfold RE.many
  rw [if_pos hw, if_pos (by simpa using hk.1)]
  refine ⟨fun M w' hMk hlate hE hI _ => ?_, h2 _ rfl⟩
  have hdd := hlate p.d hwd
  have ha : M p.a = true := hE p.a (by simpa using hk.2.1) hwt.1
  have hb : M p.b = true := hE p.b (by simpa using hk.2.2) hwt.2
  have hown := hI.fa hMk ha
  obtain ⟨g, cs, he, hblk, hrel⟩ := hI.fb hMk hb
  have hab := hI.ab hMk ha hb
  have hcs : cs.size = E.sz := by have := E.len hrel; simpa using this
  have hne : ∀ b, okd b → some b ≠ (v p.a).ownBlock := fun b hb h => by have := hokd b hb; have := (hown.lt b h.symm).1; omega
  refine gives_app0' hT hsz s x ho (v p.a) p.l1 w' hs hown (some ⟨g, 0, none⟩) 1 [p.x] [cs.toList] (by rw [hx, he]; rfl) ?_ (Chunks.single (E.mono (fun b hb _ => ⟨hb, hne b hb⟩) hrel)) (by simpa using hlen) (by simpa using hlen2) hI.bel.size ?_
  · refine ⟨by simp [hcs], fun _ => ⟨g, 0, rfl, fun j u hu => ?_⟩⟩
    rw [Nat.zero_add, hblk.cell j]
    simpa using hu
  intro v' w2 ho2 hk2 hv2
  obtain ⟨A', c', hv, _⟩ := ho2.form
  have hbel := hown.bel hk2 hI.bel.size
  refine ⟨⟨fun h => absurd h.symm d2, fun h => absurd h.symm d4, fun _ => ⟨A', c', by rw [hv]; simp⟩, fun h => absurd h d6⟩, ⟨hI.bel.trans hbel, ?_, ?_, ?_, ?_, ?_⟩, fun _ _ _ h => h⟩
  · intro h; simp [on] at h
  · intro h; simp [on] at h
  · intro h; simp [on] at h
  · intro _ _
    rw [show upd v p.c v' p.c = v' by simp [upd]]
    exact ho2
  · intro h1
    rw [show on M p.c p.d = M p.d by simp [on, d6.symm], hdd] at h1
    cases h1
/-- the end, appended -/
theorem manyi_d {tS : TypeId} (hT : RowTy P tS T E.sz E.wt) (hsz : 0 < E.sz) {L : List Nat} {o : Oper} {rest : List Oper} {a : Act} (s x : Operand) (hd : p.apart = true) (hk : (wild.contains p.d && L.contains p.c) = true) (hwt : waitsB .any ops ops.size p.d p.c = true) (hw : Region.wanted o (yielded ops a.tmps) = true)
    (ho : o.op = .call { callee := .builtin .append, args := #[s, x], argTypes := #[tS, tS] }) (hs : a.eval s = v p.c) (vx : Value) (hx : a.eval x = vx) (hr : RSl E (fun b => okd b ∧ b < w.heap.size) w vx p.l2) (hokd : ∀ b, okd b → b < w.heap.size)
    (hlen : (p.l1.length + 1 + p.l2.length) * E.wt ≤ 140737488355328) (hlen2 : p.l1.length + 1 + p.l2.length ≤ 140737488355328)
    (h2 : ∀ a', a.put o.dst (v p.d) = a' → manyI P ops w E okd T p wild v Q (p.d :: L) (p.d + 1) rest a') : manyI P ops w E okd T p wild v Q L p.d (o :: rest) a := by
  obtain ⟨d1, d2, d3, d4, d5, d6⟩ := Ins.apart_ hd
  simp only [Bool.and_eq_true] at hk
  show RE.many P ops .any _ _ wild v Q L p.d (o :: rest) a
  unfold RE.many
  rw [if_pos hw, if_pos (by simpa using hk.1)]
  refine ⟨fun M w' hMk hlate hE hI _ => ?_, h2 _ rfl⟩
  have hc : M p.c = true := hE p.c (by simpa using hk.2) hwt
  have hown := hI.fc hc hMk
  have hr' := hr.below hI.bel
  obtain ⟨A, n, c, css, rfl, _, hn, _, hrd, hch, _⟩ := hr'
  subst hn
  have hne : ∀ b, okd b ∧ b < w.heap.size → okd b ∧ some b ≠ (v p.c).ownBlock := fun b hb => ⟨hb.1, fun h => by have := hb.2; have := (hown.lt b h.symm).1; omega⟩
  refine gives_app0' hT hsz s x ho (v p.c) (p.l1 ++ [p.x]) w' hs hown A c p.l2 css hx hrd (hch.mono fun b hb _ => hne b hb) (by simpa using hlen) (by simpa using hlen2) hI.bel.size ?_
  intro v' w2 ho2 hk2 hv2
  obtain ⟨A', c', hv, _⟩ := ho2.form
  have hbel := hown.bel hk2 hI.bel.size
  refine ⟨⟨fun h => absurd h.symm d3, fun h => absurd h.symm d5, fun h => absurd h.symm d6, fun _ => ⟨A', c', by rw [hv]; simp; omega⟩⟩, ⟨hI.bel.trans hbel, ?_, ?_, ?_, ?_, ?_⟩, fun _ _ _ h => h⟩
  · intro h
    rw [show on M p.d p.c = M p.c by simp [on, d6], hc] at h
    cases h
  · intro h
    rw [show on M p.d p.c = M p.c by simp [on, d6], hc] at h
    cases h
  · intro h
    rw [show on M p.d p.c = M p.c by simp [on, d6], hc] at h
    cases h
  · intro _ h; simp [on] at h
  · intro _
    rw [show upd v p.d v' p.d = v' by simp [upd]]
    exact ho2
theorem manyi_end {L : List Nat} {k : Nat} {a : Act} (hL : L.contains p.d = true) (h : ∀ w', Below w.heap.size w w' → OwnL E okd w.heap.size T w' (v p.d) (p.l1 ++ [p.x] ++ p.l2) → Q a w') : manyI P ops w E okd T p wild v Q L k [] a := by
  intro M w' hM hI _
  exact h w' hI.bel (hI.fd (hM p.d (by simpa using hL)))
theorem InsInv.cong {M : Nat → Bool} {e e' : Nat → Value} {w' : World} (hM : ∀ d, M d = true → e d = e' d) (h : InsInv E okd T p w M e w') : InsInv E okd T p w M e' w' :=
  ⟨h.bel, fun h1 h2 => by rw [← hM _ h2]; exact h.fa h1 h2, fun h1 h2 => by rw [← hM _ h2]; exact h.fb h1 h2, fun h1 h2 h3 => by rw [← hM _ h2, ← hM _ h3]; exact h.ab h1 h2 h3, fun h1 h2 => by rw [← hM _ h1]; exact h.fc h1 h2, fun h1 => by rw [← hM _ h1]; exact h.fd h1⟩
theorem insInv0 (e : Nat → Value) : InsInv E okd T p w (fun _ => false) e w.drew :=
  ⟨(Below.refl _ _).drew, (fun _ h => by cases h), (fun _ h => by cases h), (fun _ h => by cases h), (fun h => by cases h), fun h => by cases h⟩
theorem wp_ins {id : Nat} {Q : Exit → Act → World → Prop} {a : Act} {l : List Oper} (E : Rel α) (okd : Nat → Prop) (T : TypeId) (p : Ins α) (wild : List Nat) (hd : p.apart = true) (hmx : P.follows .mixedOrders = true) (hB : manyB .any l.toArray l.length wild = true)
    (h : ∀ v : Nat → Value, (∀ k, k ∈ wild → insSh p k (v k)) → manyI P l.toArray w E okd T p wild v (fun a' w' => Q .normal a' w') [] 0 l a) : (Code.region id l.toArray true).wp P Q a w :=
  RE.wp_region_many (InsInv E okd T p w) (fun k x _ => insSh p k x) wild hmx hB insInv0 (fun _ _ _ _ h hI => hI.cong h) (insSh p) (fun _ _ _ h => h) (insWit p) (fun k _ => insWit_sh hd k) h
theorem wp_ins_tail {id : Nat} {Q : Exit → Act → World → Prop} {a : Act} {l : List Oper} (n : Nat) (E : Rel α) (okd : Nat → Prop) (T : TypeId) (p : Ins α) (wild : List Nat) (hd : p.apart = true) (hmx : P.follows .mixedOrders = true) (hB : manyB .any l.toArray n wild = true)
    (hB2 : (decide (n < l.length) && Region.sinkB .any l.toArray n && Region.chainB .any l.toArray n && Region.seqB .any l.toArray (l.length - n) n ((List.range l.length).map fun i => decide (i < n)).toArray) = true)
    (h : ∀ v : Nat → Value, (∀ k, k ∈ wild → insSh p k (v k)) → manyI P l.toArray w E okd T p wild v (fun a' w' => wpList P l.toArray Q (l.drop n) a' w') [] 0 (l.take n) a) : (Code.region id l.toArray true).wp P Q a w :=
  RE.wp_region_many_tail n (InsInv E okd T p w) (fun k x _ => insSh p k x) wild hmx hB hB2 insInv0 (fun _ _ _ _ h hI => hI.cong h) (insSh p) (fun _ _ _ h => h) (insWit p) (fun k _ => insWit_sh hd k) h
end
end Go.Proofs.Ytikkknaofiafhaa
