/- A region that draws its order, in which two lists of one's own are each made longer by one element, laid out in a block of its own: walked once. No program in sight. -/
import Derived.Test.YtnlhjhpikjmoaaaGreatDoorRegE
namespace Go.Proofs.YtnlhjhpikjmoaaaGreatDoor
open Go.RowKit

/-- one list's push: the operation b lays the element out, the operation a appends it -/
structure Pu (α : Type) where
  b : Nat
  a : Nat
  v : Value
  l : List α
  x : α
  cs : Array Value
def Ap (o1 o2 : Option Nat) : Prop := ∀ g, o1 = some g → o2 ≠ some g
theorem Ap.symm {o1 o2 : Option Nat} (h : Ap o1 o2) : Ap o2 o1 := fun g h1 h2 => h g h2 h1
theorem Ap.none_l (o : Option Nat) : Ap none o := fun _ h => by cases h
theorem Ap.none_r (o : Option Nat) : Ap o none := fun _ _ h => by cases h

/-- an append onto a list of one's own, by value, told whose block it lies in -/
theorem gives_app0' {α : Type} {E : Rel α} {okd : Nat → Prop} {base : Nat} {P : Program} {tS tE : TypeId} (hT : RowTy P tS tE E.sz E.wt) (hsz : 0 < E.sz) {o : Oper} {a : Act} {Φ : Value → World → Prop} (s x : Operand)
    (ho : o.op = .call { callee := .builtin .append, args := #[s, x], argTypes := #[tS, tS] })
    (v : Value) (l : List α) (w : World) (hs : a.eval s = v) (hown : OwnL E okd base tE w v l)
    (A : Option Addr) (c : Nat) (l2 : List α) (css : List (List Value)) (hx : a.eval x = .slice A l2.length c) (hr : Rd w E.sz A l2.length css.flatten) (hch : Chunks E (fun b => okd b ∧ some b ≠ v.ownBlock) w css l2)
    (hlen : (l.length + l2.length) * E.wt ≤ 140737488355328) (hlen2 : l.length + l2.length ≤ 140737488355328) (hbase : base ≤ w.heap.size)
    (h : ∀ v' w', OwnL E okd base tE w' v' (l ++ l2) → Kp (fun b => some b ≠ v.ownBlock) w w' → (v'.ownBlock = v.ownBlock ∨ v'.ownBlock = some w.heap.size) → Φ v' w') : Gives P o a w Φ := by
  obtain ⟨i, z, hi, hz, h1, h2, h3⟩ := hT.info
  obtain ⟨cso, hrow, hcho⟩ := hown
  have key : ∃ v' w', (Builtin.append_ #[tS, tS] o.type #[v, .slice A l2.length c]).run P w = .ok v' w' ∧ w'.ownsRow base tE E.sz v' (l.length + l2.length) (cso.flatten ++ css.flatten) ∧ w.grownBy w' v.ownBlock ∧ (v'.ownBlock = v.ownBlock ∨ v'.ownBlock = some w.heap.size) := by
    rcases A with _ | ad
    · have hm : l2.length = 0 := by
        rcases Nat.eq_zero_or_pos l2.length with h0 | h0
        · exact h0
        · obtain ⟨_, _, h, _⟩ := hr.2 h0
          cases h
      have hn : css.flatten = [] := List.eq_nil_of_length_eq_zero (by rw [hch.flat, hm]; simp)
      rw [hm, hn]
      exact ⟨v, w, run_append_nil_src w base tS o.type tE i E.sz hT.ht hi v _ _ hrow c, by simpa using hrow, World.grownBy.refl _ _, .inl rfl⟩
    · have hcells : ∀ j u, css.flatten[j]? = some u → w.cell? (ad.add j) = some u := by
        intro j u hu
        rcases Nat.eq_zero_or_pos l2.length with h0 | h0
        · have hn : css.flatten = [] := List.eq_nil_of_length_eq_zero (by rw [hch.flat, h0]; simp)
          rw [hn] at hu
          simp at hu
        · obtain ⟨b, off, h, hc⟩ := hr.2 h0
          injection h with h
          subst h
          rw [Addr.add_lit]
          exact hc j u hu
      obtain ⟨v', w', hrun, h4, h5, _, h6⟩ := run_append_own_at (P := P) w base tS o.type tE i z E.sz E.wt hT.ht hi hz h1 h2 h3 hsz v _ _ hrow ad l2.length c css.flatten hch.flat hcells hch.one (by unfold maxLen; omega) hlen hbase
      exact ⟨v', w', hrun, h4, h5, h6⟩
  obtain ⟨v', w', hrun, h4, h5, h6⟩ := key
  unfold Gives execOp
  simp only [ho, resolve, invoke, builtin, Sem.run_bind, Sem.run_pure, Result.andThen_ok, List.map_toArray, List.map_cons, List.map_nil, hs, hx, hrun, giv]
  refine h v' w' ⟨cso ++ css, ?_, ?_⟩ (.of_grown h5 fun _ h => h) h6
  · rw [List.length_append, List.flatten_append]; exact h4
  · have hk : Kp (fun b => okd b ∧ some b ≠ v.ownBlock) w w' := .of_grown h5 fun _ h => h.2
    refine ((hcho.mono (ok' := fun b => (okd b ∧ some b ≠ v.ownBlock) ∧ b < w.heap.size) fun b hb hlt => ⟨hb, hlt⟩).append (hch.mono (ok' := fun b => (okd b ∧ some b ≠ v.ownBlock) ∧ b < w.heap.size) fun b hb hlt => ⟨hb, hlt⟩)).kp (hk.mono fun b hb => hb.1) |>.mono fun b hb _ => ⟨hb.1.1, ?_⟩
    rcases h6 with h6 | h6
    · rw [h6]; exact hb.1.2
    · rw [h6]
      intro e
      have := Option.some.inj e
      omega

section
variable {α : Type}
def Pu.cur (p : Pu α) (M : Nat → Bool) (e : Nat → Value) : Value := if M p.a = true then e p.a else p.v
def Pu.now (p : Pu α) (M : Nat → Bool) : List α := if M p.a = true then p.l ++ [p.x] else p.l
def Pu.bx (p : Pu α) (M : Nat → Bool) (e : Nat → Value) : Option Nat := if M p.b = true ∧ M p.a = false then (e p.b).ownBlock else none
def Pu.bok (T : TypeId) (p : Pu α) (M : Nat → Bool) (e : Nat → Value) (w : World) : Prop := M p.b = true → M p.a = false → ∃ g, e p.b = .slice (some ⟨g, 0, none⟩) 1 1 ∧ Blk w g T p.cs

structure PuInv (E : Rel α) (okd : Nat → Prop) (base : Nat) (T : TypeId) (bad : Nat → Prop) (p q : Pu α) (w : World) (M : Nat → Bool) (e : Nat → Value) (w' : World) : Prop where
  kp : Kp (fun b => ¬ bad b) w w'
  op : OwnL E okd base T w' (p.cur M e) (p.now M)
  oq : OwnL E okd base T w' (q.cur M e) (q.now M)
  bp : p.bok T M e w'
  bq : q.bok T M e w'
  a1 : Ap (p.cur M e).ownBlock (q.cur M e).ownBlock
  a2 : Ap (p.bx M e) (p.cur M e).ownBlock
  a3 : Ap (p.bx M e) (q.cur M e).ownBlock
  a4 : Ap (q.bx M e) (p.cur M e).ownBlock
  a5 : Ap (q.bx M e) (q.cur M e).ownBlock
  a6 : Ap (p.bx M e) (q.bx M e)
variable {E : Rel α} {okd : Nat → Prop} {base : Nat} {T : TypeId} {bad : Nat → Prop} {p q : Pu α} {w w1 w2 : World} {M : Nat → Bool} {e : Nat → Value}
theorem PuInv.swap (h : PuInv E okd base T bad p q w M e w1) : PuInv E okd base T bad q p w M e w1 := ⟨h.kp, h.oq, h.op, h.bq, h.bp, h.a1.symm, h.a5, h.a4, h.a3, h.a2, h.a6.symm⟩

theorem Pu.bx_lt (h : p.bok T M e w1) : ∀ g, p.bx M e = some g → g < w1.heap.size := by
  intro g hg
  unfold Pu.bx at hg
  split at hg
  · rename_i hc
    obtain ⟨g', he, hb⟩ := h hc.1 hc.2
    rw [he] at hg
    cases hg
    exact hb.lt
  · cases hg
theorem OwnL.ap_new {v : Value} {l : List α} (h : OwnL E okd base T w1 v l) : Ap (some w1.heap.size) v.ownBlock := fun g hg hv => by
  cases hg
  exact absurd (h.lt _ hv).2 (by omega)
theorem Pu.bx_new (h : p.bok T M e w1) : Ap (some w1.heap.size) (p.bx M e) := fun g hg hv => by
  cases hg
  exact absurd (Pu.bx_lt h _ hv) (by omega)
theorem Pu.bok_kp {ok : Nat → Prop} (h : p.bok T M e w1) (hk : Kp ok w1 w2) (hok : ∀ g, p.bx M e = some g → ok g) : p.bok T M e w2 := fun h1 h2 => by
  obtain ⟨g, he, hb⟩ := h h1 h2
  refine ⟨g, he, hb.kp hk (hok g ?_)⟩
  unfold Pu.bx
  rw [if_pos ⟨h1, h2⟩, he]
  rfl

/-- the element is laid out -/
theorem PuInv.box (h : PuInv E okd base T bad p q w M e w1) (hd1 : p.b ≠ p.a) (hd2 : p.b ≠ q.a) (hd3 : p.b ≠ q.b) (hM : M p.b = false) :
    PuInv E okd base T bad p q w (on M p.b) (upd e p.b (.slice (some ⟨w1.heap.size, 0, none⟩) 1 1)) (w1.alloc (.cells p.cs T)) := by
  have hal : Below w1.heap.size w1 (w1.alloc (.cells p.cs T)) := (Below.refl _ _).alloc (Nat.le_refl _) _
  have m1 : on M p.b p.a = M p.a := by simp [on, hd1.symm]
  have m2 : on M p.b q.a = M q.a := by simp [on, hd2.symm]
  have m3 : on M p.b q.b = M q.b := by simp [on, hd3.symm]
  have m4 : on M p.b p.b = true := by simp [on]
  have u1 : upd e p.b (.slice (some ⟨w1.heap.size, 0, none⟩) 1 1) p.a = e p.a := by simp [upd, hd1.symm]
  have u2 : upd e p.b (.slice (some ⟨w1.heap.size, 0, none⟩) 1 1) q.a = e q.a := by simp [upd, hd2.symm]
  have u3 : upd e p.b (.slice (some ⟨w1.heap.size, 0, none⟩) 1 1) q.b = e q.b := by simp [upd, hd3.symm]
  have u4 : upd e p.b (.slice (some ⟨w1.heap.size, 0, none⟩) 1 1) p.b = .slice (some ⟨w1.heap.size, 0, none⟩) 1 1 := by simp [upd]
  have c1 : p.cur (on M p.b) (upd e p.b (.slice (some ⟨w1.heap.size, 0, none⟩) 1 1)) = p.cur M e := by unfold Pu.cur; rw [m1, u1]
  have c2 : q.cur (on M p.b) (upd e p.b (.slice (some ⟨w1.heap.size, 0, none⟩) 1 1)) = q.cur M e := by unfold Pu.cur; rw [m2, u2]
  have n1 : p.now (on M p.b) = p.now M := by unfold Pu.now; rw [m1]
  have n2 : q.now (on M p.b) = q.now M := by unfold Pu.now; rw [m2]
  have b2 : q.bx (on M p.b) (upd e p.b (.slice (some ⟨w1.heap.size, 0, none⟩) 1 1)) = q.bx M e := by unfold Pu.bx; rw [m2, m3, u3]
  have b1 : p.bx (on M p.b) (upd e p.b (.slice (some ⟨w1.heap.size, 0, none⟩) 1 1)) = none ∨ p.bx (on M p.b) (upd e p.b (.slice (some ⟨w1.heap.size, 0, none⟩) 1 1)) = some w1.heap.size := by
    unfold Pu.bx
    rw [m4, u4]
    split
    · exact .inr rfl
    · exact .inl rfl
  have ap : ∀ o, Ap (some w1.heap.size) o → Ap (p.bx (on M p.b) (upd e p.b (.slice (some ⟨w1.heap.size, 0, none⟩) 1 1))) o := fun o ho => by
    rcases b1 with b1 | b1 <;> rw [b1]
    · exact Ap.none_l o
    · exact ho
  refine ⟨h.kp.alloc _, by rw [c1, n1]; exact h.op.below hal, by rw [c2, n2]; exact h.oq.below hal, ?_, ?_, by rw [c1, c2]; exact h.a1, ?_, ?_, by rw [b2, c1]; exact h.a4, by rw [b2, c2]; exact h.a5, ?_⟩
  · intro _ _
    exact ⟨w1.heap.size, u4, Blk.new w1 _ _⟩
  · intro h1 h2
    rw [m3] at h1
    rw [m2] at h2
    obtain ⟨g, he, hb⟩ := h.bq h1 h2
    exact ⟨g, by rw [u3]; exact he, hb.alloc _⟩
  · rw [c1]; exact ap _ h.op.ap_new
  · rw [c2]; exact ap _ h.oq.ap_new
  · rw [b2]; exact ap _ (Pu.bx_new h.bq)

/-- it is appended -/
theorem PuInv.app (h : PuInv E okd base T bad p q w M e w1) (hd1 : p.b ≠ p.a) (hd2 : p.a ≠ q.a) (hd3 : p.a ≠ q.b) (hM : M p.a = false) (hb : M p.b = true) (hbad : ∀ b, ¬ bad b → some b ≠ p.v.ownBlock) (hoq : ∀ b, okd b → ¬ some b = p.v.ownBlock) {v' : Value}
    (ho : OwnL E okd base T w2 v' (p.l ++ [p.x])) (hk : Kp (fun b => some b ≠ p.v.ownBlock) w1 w2) (hv : v'.ownBlock = p.v.ownBlock ∨ v'.ownBlock = some w1.heap.size) :
    PuInv E okd base T bad p q w (on M p.a) (upd e p.a v') w2 := by
  have m1 : on M p.a p.a = true := by simp [on]
  have m2 : on M p.a q.a = M q.a := by simp [on, hd2.symm]
  have m3 : on M p.a q.b = M q.b := by simp [on, hd3.symm]
  have u1 : upd e p.a v' p.a = v' := by simp [upd]
  have u2 : upd e p.a v' q.a = e q.a := by simp [upd, hd2.symm]
  have u3 : upd e p.a v' q.b = e q.b := by simp [upd, hd3.symm]
  have c0 : p.cur M e = p.v := by unfold Pu.cur; rw [hM, if_neg (by decide)]
  have c1 : p.cur (on M p.a) (upd e p.a v') = v' := by unfold Pu.cur; rw [m1, u1, if_pos rfl]
  have c2 : q.cur (on M p.a) (upd e p.a v') = q.cur M e := by unfold Pu.cur; rw [m2, u2]
  have n1 : p.now (on M p.a) = p.l ++ [p.x] := by unfold Pu.now; rw [m1, if_pos rfl]
  have n2 : q.now (on M p.a) = q.now M := by unfold Pu.now; rw [m2]
  have b1 : p.bx (on M p.a) (upd e p.a v') = none := by unfold Pu.bx; rw [m1, if_neg (by simp)]
  have b2 : q.bx (on M p.a) (upd e p.a v') = q.bx M e := by unfold Pu.bx; rw [m2, m3, u3]
  have A1 := h.a1
  have A4 := h.a4
  rw [c0] at A1 A4
  have ap : ∀ o, Ap p.v.ownBlock o → Ap (some w1.heap.size) o → Ap v'.ownBlock o := fun o h1 h2 => by
    rcases hv with hv | hv <;> rw [hv]
    · exact h1
    · exact h2
  refine ⟨h.kp.trans (hk.mono hbad), by rw [c1, n1]; exact ho, ?_, ?_, ?_, ?_, by rw [b1]; exact Ap.none_l _, by rw [b1]; exact Ap.none_l _, ?_, by rw [b2, c2]; exact h.a5, by rw [b1]; exact Ap.none_l _⟩
  · rw [c2, n2]
    exact h.oq.kp hk (fun b hb => hoq b hb) fun b hb => fun hp => A1 b hp.symm hb
  · intro _ h2
    rw [m1] at h2
    cases h2
  · have := Pu.bok_kp h.bq hk fun g hg => fun hp => A4 g hg hp.symm
    intro h1 h2
    rw [m3] at h1
    rw [m2] at h2
    obtain ⟨g, he, hb⟩ := this h1 h2
    exact ⟨g, by rw [u3]; exact he, hb⟩
  · rw [c1, c2]; exact ap _ A1 h.oq.ap_new
  · rw [b2, c1]; exact (ap _ A4.symm (Pu.bx_new h.bq)).symm
theorem PuInv.cong {e' : Nat → Value} (hM : ∀ d, M d = true → e d = e' d) (h : PuInv E okd base T bad p q w M e w1) : PuInv E okd base T bad p q w M e' w1 := by
  have c : ∀ r : Pu α, r.cur M e' = r.cur M e := fun r => by
    unfold Pu.cur
    split
    · rename_i hr; rw [hM _ hr]
    · rfl
  have b : ∀ r : Pu α, r.bx M e' = r.bx M e := fun r => by
    unfold Pu.bx
    split
    · rename_i hr; rw [hM _ hr.1]
    · rfl
  have k : ∀ r : Pu α, r.bok T M e w1 → r.bok T M e' w1 := fun r hr h1 h2 => by
    obtain ⟨g, he, hb⟩ := hr h1 h2
    exact ⟨g, by rw [← hM _ h1]; exact he, hb⟩
  exact ⟨h.kp, by rw [c]; exact h.op, by rw [c]; exact h.oq, k _ h.bp, k _ h.bq, by rw [c, c]; exact h.a1, by rw [b, c]; exact h.a2, by rw [b, c]; exact h.a3, by rw [b, c]; exact h.a4, by rw [b, c]; exact h.a5, by rw [b, b]; exact h.a6⟩
end

section
variable {α : Type} {P : Program} {ops : Array Oper} {w : World} {E : Rel α} {okd : Nat → Prop} {base : Nat} {T : TypeId} {bad : Nat → Prop} {p q : Pu α} {wild : List Nat} {v : Nat → Value} {Q : Act → World → Prop}
/-- the values' forms -/
def puSh (p q : Pu α) (k : Nat) (x : Value) : Prop := (k = p.b ∨ k = q.b → ∃ g, x = .slice (some ⟨g, 0, none⟩) 1 1) ∧ (k = p.a → ∃ A c, x = .slice A (p.l.length + 1) c) ∧ (k = q.a → ∃ A c, x = .slice A (q.l.length + 1) c)
def puWit (p q : Pu α) (k : Nat) : Value := if k = p.b ∨ k = q.b then .slice (some ⟨0, 0, none⟩) 1 1 else if k = p.a then .slice none (p.l.length + 1) 0 else .slice none (q.l.length + 1) 0
def Pu.apart (p q : Pu α) : Bool := p.b != p.a && (p.b != q.a && (p.b != q.b && (p.a != q.a && (p.a != q.b && q.b != q.a))))
theorem puWit_sh (h : p.apart q = true) (k : Nat) : puSh p q k (puWit p q k) := by
  simp only [Pu.apart, Bool.and_eq_true, bne_iff_ne, ne_eq] at h
  obtain ⟨h1, h2, h3, h4, h5, h6⟩ := h
  unfold puSh puWit
  refine ⟨fun hk => ⟨0, by rw [if_pos hk]⟩, fun hk => ⟨none, 0, ?_⟩, fun hk => ⟨none, 0, ?_⟩⟩
  · rw [if_neg (by omega), if_pos hk]
  · rw [if_neg (by omega), if_neg (by omega)]
abbrev manyP (P : Program) (ops : Array Oper) (w : World) (E : Rel α) (okd : Nat → Prop) (base : Nat) (T : TypeId) (bad : Nat → Prop) (p q : Pu α) (wild : List Nat) (v : Nat → Value) (Q : Act → World → Prop) (L : List Nat) (k : Nat) (l : List Oper) (a : Act) : Prop :=
  RE.many P ops .any (PuInv E okd base T bad p q w) (fun k x _ => puSh p q k x) wild v Q L k l a

theorem manyp_pre (n : Nat) {L : List Nat} {k : Nat} {l : List Oper} {a : Act} (hno : (List.range n).all (fun i => !wild.contains (k + i)) = true)
    (hq : wpQuiet P ops (fun w' => ∃ s : LaterB w bad, w' = s.val) (fun a' => manyP P ops w E okd base T bad p q wild v Q L (k + n) (l.drop n) a') (l.take n) a) (hpl : (l.take n).all (fun o => plainOp o.op) = true) : manyP P ops w E okd base T bad p q wild v Q L k l a := by
  induction n generalizing k l a with
  | zero => simpa [wpQuiet] using hq
  | succ n ih =>
    cases l with
    | nil => simpa [wpQuiet, RE.many] using hq
    | cons o l =>
      simp only [List.all_eq_true, List.mem_range] at hno
      have h0 : k ∉ wild := by have := hno 0 (by omega); simpa using this
      have hno' : (List.range n).all (fun i => !wild.contains (k + 1 + i)) = true := by
        simp only [List.all_eq_true, List.mem_range]
        intro i hi
        have := hno (i + 1) (by omega)
        rw [show k + 1 + i = k + (i + 1) by omega]
        exact this
      rw [List.take_succ_cons, List.all_cons, Bool.and_eq_true] at hpl
      have next : ∀ a', wpQuiet P ops (fun w' => ∃ s : LaterB w bad, w' = s.val) (fun a' => manyP P ops w E okd base T bad p q wild v Q L (k + (n + 1)) ((o :: l).drop (n + 1)) a') (l.take n) a' → manyP P ops w E okd base T bad p q wild v Q L (k + 1) l a' := fun a' h' =>
        ih hno' (by
          have e : k + 1 + n = k + (n + 1) := by omega
          rw [e]; simpa using h') hpl.2
      rw [List.take_succ_cons] at hq
      unfold wpQuiet at hq
      show RE.many P ops .any _ _ wild v Q L k (o :: l) a
      unfold RE.many
      split at hq
      · rename_i hw
        rw [if_pos hw, if_neg h0]
        obtain ⟨u, h1, h2⟩ := hq
        refine ⟨u, fun w' hw' => ?_, next _ h2⟩
        obtain ⟨M, e0, hM⟩ := hw'
        have h3 := h1 w' ⟨⟨w', hM.kp⟩, rfl⟩
        have hno2 := plain_no (P := P) hpl.1 a.eval w'
        unfold Oper.quietAt at h3 ⊢
        generalize (execOp a.eval o).run P w' = r at *
        cases r with
        | ok n' w2 =>
          cases n' <;> simp only [Oper.quietUpon] at h3 ⊢ <;> try exact h3
          case enter f args => exact absurd rfl (hno2 w2 f args)
        | halt x w2 => simp only [Oper.quietUpon] at h3
      · rename_i hw
        rw [if_neg hw]
        exact next _ hq

theorem many_swap {k : Nat} {L : List Nat} {l : List Oper} {a : Act} (h : manyP P ops w E okd base T bad q p wild v Q L k l a) : manyP P ops w E okd base T bad p q wild v Q L k l a := by
  have hS : (fun (k : Nat) (x : Value) (_ : World) => puSh q p k x) = fun k x _ => puSh p q k x := by
    funext k x w
    unfold puSh
    refine propext ⟨fun ⟨h1, h2, h3⟩ => ⟨fun h => h1 h.symm, h3, h2⟩, fun ⟨h1, h2, h3⟩ => ⟨fun h => h1 h.symm, h3, h2⟩⟩
  have hI : PuInv E okd base T bad q p w = PuInv E okd base T bad p q w := by
    funext M e w'
    exact propext ⟨fun h => h.swap, fun h => h.swap⟩
  unfold manyP at h ⊢
  rw [← hS, ← hI]
  exact h
/-- the element is laid out -/
theorem manyp_box {L : List Nat} {o : Oper} {rest : List Oper} {a : Act} (hd : p.apart q = true) (hk : wild.contains p.b = true) (hw : Region.wanted o (yielded ops a.tmps) = true)
    (h1 : ∀ s : LaterB w bad, Gives P o a s.val fun x w' => x = .slice (some ⟨s.val.heap.size, 0, none⟩) 1 1 ∧ w' = s.val.alloc (.cells p.cs T))
    (h2 : ∀ a', a.put o.dst (v p.b) = a' → manyP P ops w E okd base T bad p q wild v Q (p.b :: L) (p.b + 1) rest a') : manyP P ops w E okd base T bad p q wild v Q L p.b (o :: rest) a := by
  simp only [Pu.apart, Bool.and_eq_true, bne_iff_ne, ne_eq] at hd
  obtain ⟨d1, d2, d3, d4, d5, d6⟩ := hd
  show RE.many P ops .any _ _ wild v Q L p.b (o :: rest) a
  unfold RE.many
  rw [if_pos hw, if_pos (by simpa using hk)]
  refine ⟨fun M w' hMk _ _ hI _ => ?_, h2 _ rfl⟩
  refine (h1 ⟨w', hI.kp⟩).mono fun x w2 ⟨g1, g2⟩ => ?_
  subst g1 g2
  exact ⟨⟨fun _ => ⟨_, rfl⟩, fun h => absurd h d1, fun h => absurd h d2⟩, hI.box d1 d2 d3 hMk, fun _ _ _ h => h⟩
/-- it is appended -/
theorem manyp_app {tS : TypeId} (hT : RowTy P tS T E.sz E.wt) (hsz : 0 < E.sz) {L : List Nat} {o : Oper} {rest : List Oper} {a : Act} (s x : Operand) (hd : p.apart q = true) (hk : (wild.contains p.a && L.contains p.b) = true) (hwt : waitsB .any ops ops.size p.a p.b = true) (hw : Region.wanted o (yielded ops a.tmps) = true)
    (ho : o.op = .call { callee := .builtin .append, args := #[s, x], argTypes := #[tS, tS] }) (hs : a.eval s = p.v) (hx : a.eval x = v p.b)
    (hbad : ∀ b, ¬ bad b → some b ≠ p.v.ownBlock) (hoq : ∀ b, okd b → ¬ some b = p.v.ownBlock) (hrel : ∀ w', E.rel (fun b => okd b ∧ some b ≠ p.v.ownBlock) w' p.cs.toList p.x)
    (hlen : (p.l.length + 1) * E.wt ≤ 140737488355328) (hlen2 : p.l.length + 1 ≤ 140737488355328) (hbase : base ≤ w.heap.size)
    (h2 : ∀ a', a.put o.dst (v p.a) = a' → manyP P ops w E okd base T bad p q wild v Q (p.a :: L) (p.a + 1) rest a') : manyP P ops w E okd base T bad p q wild v Q L p.a (o :: rest) a := by
  simp only [Pu.apart, Bool.and_eq_true, bne_iff_ne, ne_eq] at hd
  obtain ⟨d1, d2, d3, d4, d5, d6⟩ := hd
  simp only [Bool.and_eq_true] at hk
  show RE.many P ops .any _ _ wild v Q L p.a (o :: rest) a
  unfold RE.many
  rw [if_pos hw, if_pos (by simpa using hk.1)]
  refine ⟨fun M w' hMk _ hE hI _ => ?_, h2 _ rfl⟩
  have hb : M p.b = true := hE p.b (by simpa using hk.2) hwt
  obtain ⟨g, hg, hblk⟩ := hI.bp hb hMk
  have hown : OwnL E okd base T w' p.v p.l := by
    have := hI.op
    unfold Pu.cur Pu.now at this
    rw [hMk, if_neg (by decide), if_neg (by decide)] at this
    exact this
  have hcs : p.cs.size = E.sz := by have := E.len (hrel w'); simpa using this
  refine gives_app0' hT hsz s x ho p.v p.l w' hs hown (some ⟨g, 0, none⟩) 1 [p.x] [p.cs.toList] (by rw [hx, hg]; rfl) ?_ (Chunks.single (hrel w')) (by simpa using hlen) (by simpa using hlen2) (Nat.le_trans hbase hI.kp.size) ?_
  · refine ⟨by simp [hcs], fun _ => ⟨g, 0, rfl, fun j u hu => ?_⟩⟩
    rw [Nat.zero_add]
    rw [hblk.cell j]
    simpa using hu
  · intro v' w2 ho2 hk2 hv2
    obtain ⟨A, c, hv, _⟩ := ho2.form
    refine ⟨⟨fun h => absurd h (by omega), fun _ => ⟨A, c, by rw [hv]; simp⟩, fun h => absurd h d4⟩, hI.app d1 d4 d5 hMk hb hbad hoq ho2 hk2 hv2, fun _ _ _ h => h⟩
theorem manyp_end {L : List Nat} {k : Nat} {a : Act} (hL : (L.contains p.a && L.contains q.a) = true) (h : ∀ w', Kp (fun b => ¬ bad b) w w' → OwnL E okd base T w' (v p.a) (p.l ++ [p.x]) → OwnL E okd base T w' (v q.a) (q.l ++ [q.x]) → Ap (v p.a).ownBlock (v q.a).ownBlock → Q a w') : manyP P ops w E okd base T bad p q wild v Q L k [] a := by
  simp only [Bool.and_eq_true] at hL
  intro M w' hM hI _
  have m1 := hM p.a (by simpa using hL.1)
  have m2 := hM q.a (by simpa using hL.2)
  have h1 := hI.op
  have h2 := hI.oq
  have h3 := hI.a1
  unfold Pu.cur Pu.now at h1 h2
  unfold Pu.cur at h3
  rw [m1, if_pos rfl, if_pos rfl] at h1
  rw [m2, if_pos rfl, if_pos rfl] at h2
  rw [m1, m2, if_pos rfl, if_pos rfl] at h3
  exact h w' hI.kp h1 h2 h3
theorem wp_pushes {id : Nat} {Q : Exit → Act → World → Prop} {a : Act} {l : List Oper} (E : Rel α) (okd : Nat → Prop) (base : Nat) (T : TypeId) (bad : Nat → Prop) (p q : Pu α) (wild : List Nat) (hd : p.apart q = true) (hmx : P.follows .mixedOrders = true) (hB : manyB .any l.toArray l.length wild = true)
    (hp : OwnL E okd base T w p.v p.l) (hq : OwnL E okd base T w q.v q.l) (ha : Ap p.v.ownBlock q.v.ownBlock)
    (h : ∀ v : Nat → Value, (∀ k, k ∈ wild → puSh p q k (v k)) → manyP P l.toArray w E okd base T bad p q wild v (fun a' w' => Q .normal a' w') [] 0 l a) : (Code.region id l.toArray true).wp P Q a w :=
  RE.wp_region_many (PuInv E okd base T bad p q w) (fun k x _ => puSh p q k x) wild hmx hB (fun e => by
    have hdr : Kp (fun _ => True) w w.drew := (Kp.refl _ _).drew
    exact ⟨(Kp.refl _ _).drew, hp.kp hdr (fun _ _ => trivial) (fun _ _ => trivial), hq.kp hdr (fun _ _ => trivial) (fun _ _ => trivial), (fun h => by cases h), (fun h => by cases h), ha, Ap.none_l _, Ap.none_l _, Ap.none_l _, Ap.none_l _, Ap.none_l _⟩)
    (fun M e e' w' h hI => hI.cong h) (puSh p q) (fun _ _ _ h => h) (puWit p q) (fun k _ => puWit_sh hd k) h
end
end Go.Proofs.YtnlhjhpikjmoaaaGreatDoor
