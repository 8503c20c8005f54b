/- Data with depth: what cells say of plain data, kept where memory is kept; lists of one's own that grow. No program in sight.
A block that is known whole. No program in sight. -/
import Derived.Test.YtnlhjhpikjmoaaaGreatDoorMem
namespace Go.Proofs.YtnlhjhpikjmoaaaGreatDoor
open Go.RowKit

/-! ### worlds: old blocks that are ok are as they were -/
structure Kp (ok : Nat → Prop) (w w' : World) : Prop where
  os : w'.os = w.os
  tape : w'.tape = w.tape
  output : w'.output = w.output
  size : w.heap.size ≤ w'.heap.size
  block : ∀ k, k < w.heap.size → ok k → w'.heap[k]? = w.heap[k]?

section
variable {ok ok' : Nat → Prop} {w w' w'' : World} {B : Nat}
theorem Kp.refl (ok : Nat → Prop) (w : World) : Kp ok w w := ⟨rfl, rfl, rfl, Nat.le_refl _, fun _ _ _ => rfl⟩
theorem Kp.trans (h : Kp ok w w') (k : Kp ok w' w'') : Kp ok w w'' :=
  ⟨k.os.trans h.os, k.tape.trans h.tape, k.output.trans h.output, Nat.le_trans h.size k.size, fun i hi ho => (k.block i (Nat.lt_of_lt_of_le hi h.size) ho).trans (h.block i hi ho)⟩
theorem Kp.mono (h : Kp ok w w') (hm : ∀ b, ok' b → ok b) : Kp ok' w w' := ⟨h.os, h.tape, h.output, h.size, fun i hi ho => h.block i hi (hm i ho)⟩
theorem Kp.of_below (h : Below w.heap.size w w') : Kp ok w w' := ⟨h.os, h.tape, h.output, h.size, fun i hi _ => h.block i hi⟩
theorem Kp.of_belowB (h : Below B w w') (hB : ∀ b, ok b → b < w.heap.size → b < B) : Kp ok w w' := ⟨h.os, h.tape, h.output, h.size, fun i hi ho => h.block i (hB i ho hi)⟩
theorem Kp.of_grown {row : Option Nat} (h : w.grownBy w' row) (hr : ∀ b, ok b → some b ≠ row) : Kp ok w w' := ⟨h.os, h.tape, h.output, h.size, fun i hi ho => h.block i hi (hr i ho)⟩
theorem Kp.below (h : Kp ok w w') (hB : B ≤ w.heap.size) (ho : ∀ b, b < B → ok b) : Below B w w' := ⟨h.os, h.tape, h.output, h.size, fun i hi => h.block i (by omega) (ho i hi)⟩
theorem Kp.drew (h : Kp ok w w') : Kp ok w w'.drew := ⟨h.os, h.tape, h.output, h.size, h.block⟩
theorem Kp.alloc (h : Kp ok w w') (o : Obj) : Kp ok w (w'.alloc o) := h.trans (.of_below ((Below.refl _ _).alloc (Nat.le_refl _) _))
theorem Kp.setCell (h : Kp ok w w') {p : Addr} (hp : p.block < w.heap.size → ¬ ok p.block) (u : Value) : Kp ok w (w'.setCell p u) :=
  ⟨h.os, h.tape, h.output, by simpa using h.size, fun i hi ho => (Below.heap_setCell _ _ _ _ (fun e => by subst e; exact hp hi ho)).trans (h.block i hi ho)⟩
theorem Kp.cell (h : Kp ok w w') {p : Addr} {u : Value} (hp : ok p.block) (hc : w.cell? p = some u) : w'.cell? p = some u :=
  (World.cell?_of_block (w := w) (h.block p.block (World.block_lt_of_cell? w p hc) hp)).trans hc
end

/-! ### what cells say of a datum -/
structure Rel (α : Type) where
  sz : Nat
  wt : Nat
  rel : (Nat → Prop) → World → List Value → α → Prop
  len : ∀ {ok w cs d}, rel ok w cs d → cs.length = sz
  one : ∀ {ok w cs d}, rel ok w cs d → ∀ u ∈ cs, u.oneCell' = true
  kp : ∀ {ok w w' cs d}, Kp ok w w' → rel ok w cs d → rel ok w' cs d
  mono : ∀ {ok ok' : Nat → Prop} {w cs d}, (∀ b, ok b → b < w.heap.size → ok' b) → rel ok w cs d → rel ok' w cs d

/-- chunk by chunk -/
def Chunks {α : Type} (E : Rel α) (ok : Nat → Prop) (w : World) : List (List Value) → List α → Prop
  | [], [] => True
  | cs :: css, d :: l => E.rel ok w cs d ∧ Chunks E ok w css l
  | _, _ => False

section
variable {α : Type} {E : Rel α} {ok ok' : Nat → Prop} {w w' : World}
theorem Chunks.length : ∀ {css : List (List Value)} {l : List α}, Chunks E ok w css l → css.length = l.length
  | [], [], _ => rfl
  | _ :: _, _ :: _, h => congrArg (· + 1) (Chunks.length h.2)
  | [], _ :: _, h => h.elim
  | _ :: _, [], h => h.elim
theorem Chunks.kp (hk : Kp ok w w') : ∀ {css : List (List Value)} {l : List α}, Chunks E ok w css l → Chunks E ok w' css l
  | [], [], _ => trivial
  | _ :: _, _ :: _, h => ⟨E.kp hk h.1, Chunks.kp hk h.2⟩
  | [], _ :: _, h => h.elim
  | _ :: _, [], h => h.elim
theorem Chunks.mono (hm : ∀ b, ok b → b < w.heap.size → ok' b) : ∀ {css : List (List Value)} {l : List α}, Chunks E ok w css l → Chunks E ok' w css l
  | [], [], _ => trivial
  | _ :: _, _ :: _, h => ⟨E.mono hm h.1, Chunks.mono hm h.2⟩
  | [], _ :: _, h => h.elim
  | _ :: _, [], h => h.elim
theorem Chunks.append : ∀ {css css' : List (List Value)} {l l' : List α}, Chunks E ok w css l → Chunks E ok w css' l' → Chunks E ok w (css ++ css') (l ++ l')
  | [], _, [], _, _, k => k
  | _ :: _, _, _ :: _, _, h, k => ⟨h.1, Chunks.append h.2 k⟩
  | [], _, _ :: _, _, h, _ => h.elim
  | _ :: _, _, [], _, h, _ => h.elim
theorem Chunks.flat : ∀ {css : List (List Value)} {l : List α}, Chunks E ok w css l → css.flatten.length = l.length * E.sz
  | [], [], _ => by simp
  | cs :: css, _ :: l, h => by
    have h1 := Chunks.flat h.2
    have h2 := E.len h.1
    rw [List.flatten_cons, List.length_append, h1, h2, List.length_cons, Nat.add_mul, Nat.one_mul, Nat.add_comm]
  | [], _ :: _, h => h.elim
  | _ :: _, [], h => h.elim
theorem Chunks.one : ∀ {css : List (List Value)} {l : List α}, Chunks E ok w css l → ∀ u ∈ css.flatten, u.oneCell' = true
  | [], [], _ => by simp
  | cs :: css, _ :: l, h => by
    intro u hu
    rw [List.flatten_cons, List.mem_append] at hu
    rcases hu with hu | hu
    · exact E.one h.1 u hu
    · exact Chunks.one h.2 u hu
  | [], _ :: _, h => h.elim
  | _ :: _, [], h => h.elim
theorem Chunks.get : ∀ {css : List (List Value)} {l : List α}, Chunks E ok w css l → ∀ (i : Nat) (hi : i < l.length), ∃ cs, E.rel ok w cs l[i] ∧ ∀ j u, cs[j]? = some u → css.flatten[i * E.sz + j]? = some u
  | [], [], _, i, hi => absurd hi (by simp)
  | cs :: css, d :: l, h, 0, _ => ⟨cs, h.1, fun j u hu => by
      rw [Nat.zero_mul, Nat.zero_add, List.flatten_cons, List.getElem?_append_left (List.getElem?_eq_some_iff.1 hu).1]; exact hu⟩
  | cs :: css, d :: l, h, i + 1, hi => by
    obtain ⟨cs', h1, h2⟩ := Chunks.get h.2 i (by simpa using hi)
    refine ⟨cs', by simpa using h1, fun j u hu => ?_⟩
    rw [List.flatten_cons, List.getElem?_append_right (by rw [E.len h.1, Nat.add_mul, Nat.one_mul]; omega), E.len h.1, ← h2 j u hu]
    congr 1
    rw [Nat.add_mul, Nat.one_mul]; omega
  | [], _ :: _, h, _, _ => h.elim
  | _ :: _, [], h, _, _ => h.elim
theorem Chunks.take : ∀ {css : List (List Value)} {l : List α}, Chunks E ok w css l → ∀ k, Chunks E ok w (css.take k) (l.take k) ∧ css.flatten.take (k * E.sz) = (css.take k).flatten
  | [], [], _, k => by simp [Chunks]
  | cs :: css, _ :: l, h, 0 => by simp [Chunks]
  | cs :: css, _ :: l, h, k + 1 => by
    obtain ⟨h1, h2⟩ := Chunks.take h.2 k
    refine ⟨⟨h.1, h1⟩, ?_⟩
    rw [List.flatten_cons, List.take_succ_cons, List.flatten_cons, ← h2, List.take_append, E.len h.1, List.take_of_length_le (by rw [E.len h.1, Nat.add_mul]; omega)]
    congr 2
    rw [Nat.add_mul, Nat.one_mul]; omega
  | [], _ :: _, h, _ => h.elim
  | _ :: _, [], h, _ => h.elim
theorem Chunks.drop : ∀ {css : List (List Value)} {l : List α}, Chunks E ok w css l → ∀ k, Chunks E ok w (css.drop k) (l.drop k) ∧ css.flatten.drop (k * E.sz) = (css.drop k).flatten
  | [], [], _, k => by simp [Chunks]
  | cs :: css, _ :: l, h, 0 => by simpa using h
  | cs :: css, _ :: l, h, k + 1 => by
    obtain ⟨h1, h2⟩ := Chunks.drop h.2 k
    refine ⟨h1, ?_⟩
    rw [List.flatten_cons, List.drop_succ_cons, ← h2, List.drop_append, E.len h.1, List.drop_of_length_le (by rw [E.len h.1, Nat.add_mul]; omega), List.nil_append]
    congr 1
    rw [Nat.add_mul, Nat.one_mul]; omega
  | [], _ :: _, h, _ => h.elim
  | _ :: _, [], h, _ => h.elim
theorem Chunks.single {cs : List Value} {d : α} (h : E.rel ok w cs d) : Chunks E ok w [cs] [d] := ⟨h, trivial⟩

/-- a slice that reads as a list -/
def RSl (E : Rel α) (ok : Nat → Prop) (w : World) (v : Value) (l : List α) : Prop :=
  ∃ A n c css, v = .slice A n c ∧ n ≤ c ∧ l.length = n ∧ n * E.wt ≤ 140737488351232 ∧ Rd w E.sz A n css.flatten ∧ Chunks E ok w css l ∧ (0 < n → ∀ a, A = some a → ok a.block)

theorem RSl.nil_ (E : Rel α) (ok : Nat → Prop) (w : World) : RSl E ok w (.slice none 0 0) [] := ⟨none, 0, 0, [], rfl, Nat.le_refl _, rfl, by simp, Rd.nil_ _, trivial, fun h => absurd h (by omega)⟩
theorem RSl.one {v : Value} {l : List α} (h : RSl E ok w v l) : v.oneCell' = true := by
  obtain ⟨A, n, c, css, rfl, _⟩ := h; rfl
theorem RSl.kp {v : Value} {l : List α} (hk : Kp ok w w') (h : RSl E ok w v l) : RSl E ok w' v l := by
  obtain ⟨A, n, c, css, rfl, hc, hn, hb, hr, hch, ho⟩ := h
  refine ⟨A, n, c, css, rfl, hc, hn, hb, ⟨hr.1, fun h0 => ?_⟩, hch.kp hk, ho⟩
  obtain ⟨b, off, rfl, hcell⟩ := hr.2 h0
  exact ⟨b, off, rfl, fun j u hu => hk.cell (p := ⟨b, off + j, none⟩) (show ok b from ho h0 ⟨b, off, none⟩ rfl) (hcell j u hu)⟩
theorem RSl.mono {v : Value} {l : List α} (hsz : 0 < E.sz) (hm : ∀ b, ok b → b < w.heap.size → ok' b) (h : RSl E ok w v l) : RSl E ok' w v l := by
  obtain ⟨A, n, c, css, rfl, hc, hn, hb, hr, hch, ho⟩ := h
  refine ⟨A, n, c, css, rfl, hc, hn, hb, hr, hch.mono hm, fun h0 a ha => ?_⟩
  obtain ⟨b, off, rfl, hcell⟩ := hr.2 h0
  obtain rfl : a = ⟨b, off, none⟩ := (Option.some.inj ha).symm
  have hl : 0 < css.flatten.length := by rw [hch.flat, hn]; exact Nat.mul_pos h0 hsz
  have := hcell 0 _ (List.getElem?_eq_getElem hl)
  exact hm b (ho h0 _ rfl) (World.block_lt_of_cell? w _ this)
theorem RSl.below {v : Value} {l : List α} (h : RSl E ok w v l) (hb : Below w.heap.size w w') : RSl E ok w' v l := h.kp (.of_below hb)
theorem RSl.form {v : Value} {l : List α} (h : RSl E ok w v l) : ∃ A c, v = .slice A l.length c ∧ l.length ≤ c ∧ l.length * E.wt ≤ 140737488351232 := by
  obtain ⟨A, n, c, css, rfl, hc, hn, hb, _⟩ := h
  subst hn
  exact ⟨A, c, rfl, hc, hb⟩
/-- element i -/
theorem RSl.at_ {v : Value} {l : List α} (h : RSl E ok w v l) {i : Nat} (hi : i < l.length) :
    ∃ b off c cs, v = .slice (some ⟨b, off, none⟩) l.length c ∧ ok b ∧ E.rel ok w cs l[i] ∧ ∀ j u, cs[j]? = some u → w.cell? ⟨b, off + i * E.sz + j, none⟩ = some u := by
  obtain ⟨A, n, c, css, rfl, hc, hn, hb, hr, hch, ho⟩ := h
  subst hn
  have h0 : 0 < l.length := by omega
  obtain ⟨b, off, rfl, hcell⟩ := hr.2 h0
  obtain ⟨cs, h1, h2⟩ := hch.get i hi
  exact ⟨b, off, c, cs, rfl, ho h0 _ rfl, h1, fun j u hu => by rw [Nat.add_assoc]; exact hcell _ u (h2 j u hu)⟩
/-- v[:k] -/
theorem RSl.take {A : Option Addr} {n c : Nat} {l : List α} (h : RSl E ok w (.slice A n c) l) {k : Nat} (hk : k ≤ n) : RSl E ok w (.slice A k c) (l.take k) := by
  obtain ⟨A', n', c', css, hv, hc, hn, hb, hr, hch, ho⟩ := h
  simp only [Value.slice.injEq] at hv
  obtain ⟨rfl, rfl, rfl⟩ := hv
  obtain ⟨h1, h2⟩ := hch.take k
  have h3 := hr.take hk
  rw [h2] at h3
  exact ⟨A, k, c, _, rfl, by omega, by rw [List.length_take]; omega, Nat.le_trans (Nat.mul_le_mul_right _ hk) hb, h3, h1, fun h0 => ho (by omega)⟩
/-- v[k:] -/
theorem RSl.drop {A : Option Addr} {n c : Nat} {l : List α} (h : RSl E ok w (.slice A n c) l) {k : Nat} (hk : k ≤ n) : RSl E ok w (.slice (if c = k then A else A.map (·.add (k * E.sz))) (n - k) (c - k)) (l.drop k) := by
  obtain ⟨A', n', c', css, hv, hc, hn, hb, hr, hch, ho⟩ := h
  simp only [Value.slice.injEq] at hv
  obtain ⟨rfl, rfl, rfl⟩ := hv
  obtain ⟨h1, h2⟩ := hch.drop k
  have h3 := hr.drop hk hc
  rw [h2] at h3
  refine ⟨_, n - k, c - k, _, rfl, by omega, by rw [List.length_drop]; omega, Nat.le_trans (Nat.mul_le_mul_right _ (Nat.sub_le _ _)) hb, h3, h1, fun h0 a ha => ?_⟩
  rw [if_neg (by omega)] at ha
  cases A with
  | none => simp at ha
  | some a' =>
    simp only [Option.map_some, Option.some.injEq] at ha
    subst ha
    have : (a'.add (k * E.sz)).block = a'.block := by unfold Addr.add; split <;> rfl
    rw [this]
    exact ho (by omega) _ rfl
end

/-- slices as a relation of their own -/
def rSl {α : Type} (E : Rel α) (hsz : 0 < E.sz) : Rel (List α) where
  sz := 1
  wt := 24
  rel ok w cs l := ∃ v, cs = [v] ∧ RSl E ok w v l
  len := by rintro ok w cs d ⟨v, rfl, _⟩; rfl
  one := by
    rintro ok w cs d ⟨v, rfl, h⟩ u hu
    simp at hu
    subst hu
    exact h.one
  kp := by
    rintro ok w w' cs d hk ⟨v, rfl, h⟩
    exact ⟨v, rfl, h.kp hk⟩
  mono := by
    rintro ok ok' w cs d hm ⟨v, rfl, h⟩
    exact ⟨v, rfl, h.mono hsz hm⟩

/-! ### bytes -/
def rU8 : Rel UInt8 where
  sz := 1
  wt := 1
  rel _ _ cs b := cs = [.int .u8 (b.toNat : Int)]
  len := by rintro ok w cs d rfl; rfl
  one := by
    rintro ok w cs d rfl u hu
    simp at hu
    subst hu
    rfl
  kp := fun _ h => h
  mono := fun _ h => h
theorem chunks_bytes {ok : Nat → Prop} {w : World} : ∀ {css : List (List Value)} {l : List UInt8}, Chunks rU8 ok w css l → css.flatten = bs l
  | [], [], _ => rfl
  | _ :: _, _ :: _, h => by rw [List.flatten_cons, chunks_bytes h.2, show _ = _ from h.1]; rfl
  | [], _ :: _, h => h.elim
  | _ :: _, [], h => h.elim
theorem bytes_chunks (ok : Nat → Prop) (w : World) : ∀ l : List UInt8, Chunks rU8 ok w (l.map fun b => [.int .u8 (b.toNat : Int)]) l ∧ (l.map fun b => [Value.int .u8 (b.toNat : Int)]).flatten = bs l
  | [] => ⟨trivial, rfl⟩
  | b :: l => ⟨⟨rfl, (bytes_chunks ok w l).1⟩, by rw [List.map_cons, List.flatten_cons, (bytes_chunks ok w l).2]; rfl⟩
abbrev RB (ok : Nat → Prop) (w : World) (v : Value) (l : List UInt8) : Prop := RSl rU8 ok w v l
section
variable {ok : Nat → Prop} {w : World}
theorem RB.open_ {v : Value} {l : List UInt8} (h : RB ok w v l) : ∃ A c, v = .slice A l.length c ∧ l.length ≤ c ∧ l.length ≤ 140737488351232 ∧ Rd w 1 A l.length (bs l) ∧ (0 < l.length → ∀ a, A = some a → ok a.block) := by
  obtain ⟨A, n, c, css, rfl, hc, hn, hb, hr, hch, ho⟩ := h
  subst hn
  rw [chunks_bytes hch] at hr
  exact ⟨A, c, rfl, hc, by simpa [rU8] using hb, hr, ho⟩
theorem RB.mk_ {A : Option Addr} {n c : Nat} {l : List UInt8} (hr : Rd w 1 A n (bs l)) (hc : n ≤ c) (hb : n ≤ 140737488351232) (ho : 0 < n → ∀ a, A = some a → ok a.block) : RB ok w (.slice A n c) l := by
  obtain ⟨h1, h2⟩ := bytes_chunks ok w l
  have hn : l.length = n := by have := hr.1; simpa using this
  refine ⟨A, n, c, _, rfl, hc, hn, by simpa [rU8] using hb, ?_, h1, ho⟩
  rw [h2]
  exact hr
end

/-! ### lists of one's own -/
def OwnL {α : Type} (E : Rel α) (okd : Nat → Prop) (base : Nat) (T : TypeId) (w : World) (v : Value) (l : List α) : Prop :=
  ∃ css, w.ownsRow base T E.sz v l.length css.flatten ∧ Chunks E (fun b => okd b ∧ some b ≠ v.ownBlock) w css l

section
variable {α : Type} {E : Rel α} {okd ok : Nat → Prop} {base : Nat} {T : TypeId} {w w' : World} {v : Value} {l : List α}
theorem OwnL.nil_ (E : Rel α) (okd : Nat → Prop) (base : Nat) (T : TypeId) (w : World) : OwnL E okd base T w (.slice none 0 0) [] := ⟨[], World.ownsRow_nil _ _ _ _, trivial⟩
theorem OwnL.form (h : OwnL E okd base T w v l) : ∃ A c, v = .slice A l.length c ∧ l.length ≤ c := by
  obtain ⟨css, ho, _⟩ := h
  obtain ⟨A, c, rfl, hc, _⟩ := own_slice w ho
  exact ⟨A, c, rfl, hc⟩
theorem OwnL.lt (h : OwnL E okd base T w v l) : ∀ k, v.ownBlock = some k → base ≤ k ∧ k < w.heap.size := by
  obtain ⟨css, ho, _⟩ := h
  exact World.ownsRow.lt ho
theorem OwnL.kp (h : OwnL E okd base T w v l) (hk : Kp ok w w') (hok : ∀ b, okd b → ok b) (hrow : ∀ b, v.ownBlock = some b → ok b) : OwnL E okd base T w' v l := by
  have hlt := h.lt
  obtain ⟨css, ho, hch⟩ := h
  refine ⟨css, ?_, hch.kp (hk.mono fun b hb => hok b hb.1)⟩
  refine ⟨ho.1, ?_⟩
  rcases ho.2 with h2 | ⟨g, cap, cur, hv, hg, hh, r⟩
  · exact .inl h2
  · have hb : v.ownBlock = some g := by rw [hv]; rfl
    exact .inr ⟨g, cap, cur, hv, hg, (hk.block g (hlt g hb).2 (hrow g hb)).trans hh, r⟩
theorem OwnL.below (h : OwnL E okd base T w v l) (hb : Below w.heap.size w w') : OwnL E okd base T w' v l := h.kp (ok := fun _ => True) (.of_below hb) (fun _ _ => trivial) (fun _ _ => trivial)
theorem OwnL.bel (h : OwnL E okd base T w v l) (hk : Kp (fun b => some b ≠ v.ownBlock) w w') (hbase : base ≤ w.heap.size) : Below base w w' :=
  hk.below hbase fun b hb e => by have := h.lt b e.symm; omega
theorem OwnL.rsl (h : OwnL E okd base T w v l) (hsz : 0 < E.sz) (hb : l.length * E.wt ≤ 140737488351232) (hrow : ∀ b, base ≤ b → ok b) (hd : ∀ b, okd b → ok b) : RSl E ok w v l := by
  have hlt := h.lt
  obtain ⟨css, ho, hch⟩ := h
  obtain ⟨A, c, rfl, hc, _⟩ := own_slice w ho
  refine ⟨A, l.length, c, css, rfl, hc, rfl, hb, Rd.of_own ho, hch.mono fun b hb _ => hd b hb.1, fun _ a ha => ?_⟩
  subst ha
  exact hrow _ (hlt _ rfl).1
end

structure RowTy (P : Program) (tS tE : TypeId) (sz wt : Nat) : Prop where
  ht : P.underlying tS = some (.slice tE)
  info : ∃ i z, P.info? tE = some i ∧ i.zero = some z ∧ i.size = sz ∧ i.bytes = wt ∧ z.cells.size = sz
theorem rowTy_mk {P : Program} {tS tE : TypeId} {sz wt : Nat} (ht : P.underlying tS = some (.slice tE)) (h : ((P.info? tE).any fun i => i.size == sz && (i.bytes == wt && i.zero.any fun z => z.cells.size == sz)) = true) : RowTy P tS tE sz wt := by
  refine ⟨ht, ?_⟩
  cases hi : P.info? tE with
  | none => rw [hi] at h; cases h
  | some i =>
    rw [hi] at h
    simp only [Option.any_some, Bool.and_eq_true, beq_iff_eq] at h
    obtain ⟨h1, h2, h3⟩ := h
    cases hz : i.zero with
    | none => rw [hz] at h3; cases h3
    | some z =>
      rw [hz] at h3
      simp only [Option.any_some, beq_iff_eq] at h3
      exact ⟨i, z, rfl, hz, h1, h2, h3⟩

section
variable {α : Type} {E : Rel α} {okd : Nat → Prop} {base : Nat} {P : Program} {tS tE : TypeId}
/-- append(v, x...) onto a list of one's own -/
theorem wp_app (hT : RowTy P tS tE E.sz E.wt) (hsz : 0 < E.sz) {ops : Array Oper} {rest : List Oper} {o : Oper} {a : Act} {Q : Exit → Act → World → Prop} (hgd : o.guard = none) (s x : Operand)
    (ho : o.op = .call { callee := .builtin .append, args := #[s, x], argTypes := #[tS, tS] })
    (v : Value) (l : List α) (w : World) (hs : a.eval s = v) (hown : OwnL E okd base tE w v l)
    (A : Option Addr) (c : Nat) (l2 : List α) (css : List (List Value)) (hx : a.eval x = .slice A l2.length c) (hr : Rd w E.sz A l2.length css.flatten) (hch : Chunks E (fun b => okd b ∧ some b ≠ v.ownBlock) w css l2)
    (hlen : (l.length + l2.length) * E.wt ≤ 140737488355328) (hlen2 : l.length + l2.length ≤ 140737488355328) (hbase : base ≤ w.heap.size)
    (h : ∀ v' w', OwnL E okd base tE w' v' (l ++ l2) → Kp (fun b => some b ≠ v.ownBlock) w w' → (v'.ownBlock = v.ownBlock ∨ v'.ownBlock = some w.heap.size) → wpList P ops Q rest (a.put o.dst v') w') : wpList P ops Q (o :: rest) a w := by
  obtain ⟨i, z, hi, hz, h1, h2, h3⟩ := hT.info
  obtain ⟨cso, hrow, hcho⟩ := hown
  have key : ∃ v' w', (Builtin.append_ #[tS, tS] o.type #[v, .slice A l2.length c]).run P w = .ok v' w' ∧ w'.ownsRow base tE E.sz v' (l.length + l2.length) (cso.flatten ++ css.flatten) ∧ w.grownBy w' v.ownBlock ∧ (v'.ownBlock = v.ownBlock ∨ v'.ownBlock = some w.heap.size) := by
    rcases A with _ | ad
    · have hm : l2.length = 0 := by
        rcases Nat.eq_zero_or_pos l2.length with h0 | h0
        · exact h0
        · obtain ⟨_, _, h, _⟩ := hr.2 h0
          cases h
      have hn : css.flatten = [] := List.eq_nil_of_length_eq_zero (by rw [hch.flat, hm]; simp)
      rw [hm, hn]
      exact ⟨v, w, run_append_nil_src w base tS o.type tE i E.sz hT.ht hi v _ _ hrow c, by simpa using hrow, World.grownBy.refl _ _, .inl rfl⟩
    · have hcells : ∀ j u, css.flatten[j]? = some u → w.cell? (ad.add j) = some u := by
        intro j u hu
        rcases Nat.eq_zero_or_pos l2.length with h0 | h0
        · have hn : css.flatten = [] := List.eq_nil_of_length_eq_zero (by rw [hch.flat, h0]; simp)
          rw [hn] at hu
          simp at hu
        · obtain ⟨b, off, h, hc⟩ := hr.2 h0
          injection h with h
          subst h
          rw [Addr.add_lit]
          exact hc j u hu
      obtain ⟨v', w', hrun, h4, h5, _, h6⟩ := run_append_own_at (P := P) w base tS o.type tE i z E.sz E.wt hT.ht hi hz h1 h2 h3 hsz v _ _ hrow ad l2.length c css.flatten hch.flat hcells hch.one (by unfold maxLen; omega) hlen hbase
      exact ⟨v', w', hrun, h4, h5, h6⟩
  obtain ⟨v', w', hrun, h4, h5, h6⟩ := key
  refine wpList_plain hgd fun _ hK => ?_
  unfold Oper.wp execOp
  simp only [ho, resolve, invoke, builtin, Sem.run_bind, Sem.run_pure, Result.andThen_ok, List.map_toArray, List.map_cons, List.map_nil, hs, hx, hrun]
  refine hK _ _ (h v' w' ⟨cso ++ css, ?_, ?_⟩ (.of_grown h5 fun _ h => h) h6)
  · rw [List.length_append, List.flatten_append]; exact h4
  · have hk : Kp (fun b => okd b ∧ some b ≠ v.ownBlock) w w' := .of_grown h5 fun _ h => h.2
    refine ((hcho.mono (ok' := fun b => (okd b ∧ some b ≠ v.ownBlock) ∧ b < w.heap.size) fun b hb hlt => ⟨hb, hlt⟩).append (hch.mono (ok' := fun b => (okd b ∧ some b ≠ v.ownBlock) ∧ b < w.heap.size) fun b hb hlt => ⟨hb, hlt⟩)).kp (hk.mono fun b hb => hb.1) |>.mono fun b hb _ => ⟨hb.1.1, ?_⟩
    rcases h6 with h6 | h6
    · rw [h6]; exact hb.1.2
    · rw [h6]
      intro e
      have := Option.some.inj e
      omega
/-- append(v, d) of one element, laid into a block of its own -/
theorem wp_app1 (hT : RowTy P tS tE E.sz E.wt) (hsz : 0 < E.sz) {ops : Array Oper} {rest : List Oper} {o : Oper} {a : Act} {Q : Exit → Act → World → Prop} (hgd : o.guard = none) (s x : Operand)
    (ho : o.op = .call { callee := .builtin .append, args := #[s, x], argTypes := #[tS, tS] })
    (v : Value) (l : List α) (w : World) (cs : Array Value) (d : α) (hs : a.eval s = v) (hown : OwnL E okd base tE w v l)
    (hx : a.eval x = .slice (some ⟨w.heap.size, 0, none⟩) 1 1) (hd : E.rel (fun b => okd b ∧ some b ≠ v.ownBlock) w cs.toList d)
    (hlen : (l.length + 1) * E.wt ≤ 140737488355328) (hlen2 : l.length + 1 ≤ 140737488355328) (hbase : base ≤ w.heap.size)
    (h : ∀ v' w', OwnL E okd base tE w' v' (l ++ [d]) → Kp (fun b => some b ≠ v.ownBlock) w w' → (v'.ownBlock = v.ownBlock ∨ v'.ownBlock = some (w.heap.size + 1)) → wpList P ops Q rest (a.put o.dst v') w') : wpList P ops Q (o :: rest) a (w.alloc (.cells cs tE)) := by
  have hal : Below w.heap.size w (w.alloc (.cells cs tE)) := (Below.refl _ _).alloc (Nat.le_refl _) _
  have hd' := E.kp (.of_below hal) hd
  refine wp_app hT hsz hgd s x ho v l _ hs (hown.below hal) (some ⟨w.heap.size, 0, none⟩) 1 [d] [cs.toList] hx ?_ (Chunks.single hd') hlen hlen2 (by simp; omega) fun v' w' h1 h2 h3 => h v' w' h1 ((Kp.of_below hal).trans h2) (by simpa using h3)
  have := Rd.new w tE E.sz 1 cs (by have := E.len hd; simpa using this)
  simpa using this
/-- append(v, x...), x whatever reads as a list -/
theorem wp_appR (hT : RowTy P tS tE E.sz E.wt) (hsz : 0 < E.sz) {ops : Array Oper} {rest : List Oper} {o : Oper} {a : Act} {Q : Exit → Act → World → Prop} (hgd : o.guard = none) (s x : Operand)
    (ho : o.op = .call { callee := .builtin .append, args := #[s, x], argTypes := #[tS, tS] })
    (v : Value) (l : List α) (w : World) (hs : a.eval s = v) (hown : OwnL E okd base tE w v l)
    (vx : Value) (l2 : List α) (hx : a.eval x = vx) (hr : RSl E (fun b => okd b ∧ some b ≠ v.ownBlock) w vx l2)
    (hlen : (l.length + l2.length) * E.wt ≤ 140737488355328) (hlen2 : l.length + l2.length ≤ 140737488355328) (hbase : base ≤ w.heap.size)
    (h : ∀ v' w', OwnL E okd base tE w' v' (l ++ l2) → Kp (fun b => some b ≠ v.ownBlock) w w' → (v'.ownBlock = v.ownBlock ∨ v'.ownBlock = some w.heap.size) → wpList P ops Q rest (a.put o.dst v') w') : wpList P ops Q (o :: rest) a w := by
  obtain ⟨A, n, c, css, rfl, _, hn, _, hrd, hch, _⟩ := hr
  subst hn
  exact wp_app hT hsz hgd s x ho v l w hs hown A c l2 css hx hrd hch hlen hlen2 hbase h
/-- a slice laid out of one element -/
theorem RSl.one_new {ok : Nat → Prop} {w : World} {cs : Array Value} {d : α} (T : TypeId) (hd : E.rel ok w cs.toList d) (ho : ok w.heap.size) (hb : E.wt ≤ 140737488351232) :
    RSl E ok (w.alloc (.cells cs T)) (.slice (some ⟨w.heap.size, 0, none⟩) 1 1) [d] := by
  have hal : Below w.heap.size w (w.alloc (.cells cs T)) := (Below.refl _ _).alloc (Nat.le_refl _) _
  refine ⟨_, 1, 1, [cs.toList], rfl, Nat.le_refl _, rfl, by omega, ?_, Chunks.single (E.kp (.of_below hal) hd), fun _ a ha => by cases ha; exact ho⟩
  have := Rd.new w T E.sz 1 cs (by have := E.len hd; simpa using this)
  simpa using this
end
end Go.Proofs.YtnlhjhpikjmoaaaGreatDoor

namespace Go.Proofs.YtnlhjhpikjmoaaaGreatDoor
open Go.RowKit

/-- A block known whole. -/
def Blk (w : World) (g : Nat) (t : TypeId) (cs : Array Value) : Prop := w.heap[g]? = some (.cells cs t (0, 0))
section
variable {w w' : World} {g : Nat} {t : TypeId} {cs : Array Value}
theorem Blk.lt (h : Blk w g t cs) : g < w.heap.size := by
  rcases Nat.lt_or_ge g w.heap.size with hlt | hge
  · exact hlt
  · unfold Blk at h; rw [Array.getElem?_eq_none hge] at h; cases h
theorem Blk.cell (h : Blk w g t cs) (i : Nat) : w.cell? ⟨g, i, none⟩ = cs[i]? := cell_of_row w g i cs t (0, 0) h
theorem Blk.frozen (h : Blk w g t cs) (i : Nat) : w.frozen? ⟨g, i, none⟩ = false := by
  unfold Blk at h
  simp [World.frozen?, h]
theorem Blk.new (w : World) (t : TypeId) (cs : Array Value) : Blk (w.alloc (.cells cs t)) w.heap.size t cs := heap_alloc_new w _
theorem Blk.new_ {w : World} {g : Nat} {t : TypeId} {cs : Array Value} (hg : g = w.heap.size) : Blk (w.alloc (.cells cs t)) g t cs := by subst hg; exact Blk.new w t cs
theorem Blk.drew (h : Blk w g t cs) : Blk w.drew g t cs := h
theorem Blk.alloc (h : Blk w g t cs) (o : Obj) : Blk (w.alloc o) g t cs := (Below.heap_alloc w o g h.lt).trans h
theorem Blk.set_ (h : Blk w g t cs) (i : Nat) (u : Value) : Blk (w.setCell ⟨g, i, none⟩ u) g t (cs.setIfInBounds i u) := by
  unfold Blk at h ⊢
  simp [World.setCell, Array.getElem?_modify, h]
theorem Blk.far (h : Blk w g t cs) {p : Addr} (hp : g ≠ p.block) (u : Value) : Blk (w.setCell p u) g t cs := (Below.heap_setCell w p u g hp).trans h
theorem Blk.below {B : Nat} (h : Blk w g t cs) (hb : Below B w w') (hg : g < B) : Blk w' g t cs := (hb.block g hg).trans h
theorem Blk.kp {ok : Nat → Prop} (h : Blk w g t cs) (hk : Kp ok w w') (hg : ok g) : Blk w' g t cs := (hk.block g h.lt hg).trans h
end

/-- the world under a name of its own -/
theorem name_world {P : Program} {c : Code} {Q : Exit → Act → World → Prop} {a : Act} {W : World} (F : World → Prop) (hF : F W) (h : ∀ w1, F w1 → c.wp P Q a w1) : c.wp P Q a W := h _ hF
theorem Blk.later {w : World} {g : Nat} {t : TypeId} {cs : Array Value} (h : Blk w g t cs) {i : Nat} {u : Value} (hu : cs[i]? = some u) : ∀ s : Later w, s.val.cell? ⟨g, i, none⟩ = some u := fun s => (Blk.cell (h.below s.below h.lt) i).trans hu
/-- three cells stored -/
theorem Blk.set3 {w : World} {g : Nat} {t : TypeId} {y0 y1 y2 : Value} (h : Blk w g t #[y0, y1, y2]) (x0 x1 x2 : Value) : Blk (((w.setCell ⟨g, 0, none⟩ x0).setCell ⟨g, 1, none⟩ x1).setCell ⟨g, 2, none⟩ x2) g t #[x0, x1, x2] := by
  have := ((h.set_ 0 x0).set_ 1 x1).set_ 2 x2
  simpa using this
end Go.Proofs.YtnlhjhpikjmoaaaGreatDoor
