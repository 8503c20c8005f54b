/- Law 22's plain part: what is taken stands in order; what is given, and what is left, put together again are all. No walk.
Law 22's state: the root, the job, the shards. No walk.
Law 22's rounds: what each answer makes of the state, and what stands at the end. No walk. -/
import Derived.Test.YtikkknaofiafhaaM19
namespace Go.Proofs.Ytikkknaofiafhaa
open Go.RowKit

theorem bl_trans : ∀ (a b c : List UInt8), Op.bytesLess a b = true → Op.bytesLess b c = true → Op.bytesLess a c = true
  | _, [], _, h, _ => by rw [bl_nil_r] at h; cases h
  | _, _ :: _, [], _, h => by rw [bl_nil_r] at h; cases h
  | [], _ :: _, _ :: _, _, _ => rfl
  | a :: x, b :: y, c :: z, h1, h2 => by
    rw [bl_cons] at h1 h2 ⊢
    simp only [Bool.or_eq_true, decide_eq_true_eq, Bool.and_eq_true, beq_iff_eq] at h1 h2 ⊢
    rcases h1 with h1 | ⟨rfl, h1⟩
    · rcases h2 with h2 | ⟨rfl, _⟩
      · exact .inl (UInt8.lt_trans h1 h2)
      · exact .inl h1
    · rcases h2 with h2 | ⟨rfl, h2⟩
      · exact .inl h2
      · exact .inr ⟨rfl, bl_trans x y z h1 h2⟩
/-- at least as great: what is less than the less is less -/
theorem bl_ge (a b c : List UInt8) (h1 : Op.bytesLess a b = true) (h2 : Op.bytesLess c b = false) : Op.bytesLess a c = true := by
  by_cases h : c = b
  · rw [h]; exact h1
  · have h3 : Op.bytesLess b c = true := by rw [bl_total b c (Ne.symm h), h2]; rfl
    exact bl_trans _ _ _ h1 h3
def Asc (l : List PairD) : Prop := l.Pairwise fun p q => Op.bytesLess p.k q.k = true
theorem restP_sub (l : List PairD) (p : PairD) : ∀ q ∈ restP l p, q ∈ l := by
  cases l with
  | nil => intro q hq; cases hq
  | cons r l =>
    intro q hq
    rw [restP_cons] at hq
    split at hq
    · exact List.mem_cons_of_mem _ hq
    · exact hq
theorem putL_mem : ∀ (l : List PairD) (p : PairD), ∀ q ∈ putL l p, q = p ∨ q ∈ l
  | [], p, q, h => by simp [putL] at h; exact .inl h
  | r :: l, p, q, h => by
    unfold putL at h
    split at h
    · rcases List.mem_cons.1 h with rfl | h
      · exact .inr (by simp)
      · exact (putL_mem l p q h).imp id fun h => List.mem_cons_of_mem _ h
    · rcases List.mem_cons.1 h with rfl | h
      · exact .inl rfl
      · exact .inr (restP_sub _ _ q h)
theorem restP_asc {l : List PairD} {p : PairD} (h : Asc l) : Asc (restP l p) := by
  cases l with
  | nil => exact List.Pairwise.nil
  | cons r l =>
    rw [restP_cons]
    split
    · exact (List.pairwise_cons.1 h).2
    · exact h
theorem putL_asc : ∀ (l : List PairD) (p : PairD), Asc l → Asc (putL l p)
  | [], p, _ => by simp [putL, Asc]
  | r :: l, p, h => by
    obtain ⟨h1, h2⟩ := List.pairwise_cons.1 h
    unfold putL
    split
    · rename_i hr
      refine List.pairwise_cons.2 ⟨fun q hq => ?_, putL_asc l p h2⟩
      rcases putL_mem l p q hq with rfl | hq
      · exact hr
      · exact h1 q hq
    · rename_i hr
      have hr' : Op.bytesLess r.k p.k = false := by simpa using hr
      refine List.pairwise_cons.2 ⟨fun q hq => ?_, restP_asc h⟩
      rw [restP_cons] at hq
      by_cases he : r.k = p.k
      · rw [if_pos he] at hq
        have := h1 q hq
        rw [he] at this; exact this
      · rw [if_neg he] at hq
        have hpr : Op.bytesLess p.k r.k = true := by rw [bl_total p.k r.k (Ne.symm he), hr']; rfl
        rcases List.mem_cons.1 hq with rfl | hq
        · exact hpr
        · exact bl_trans _ _ _ hpr (h1 q hq)
/-- behind all -/
theorem putL_end : ∀ (l : List PairD) (p : PairD), (∀ q ∈ l, Op.bytesLess q.k p.k = true) → putL l p = l ++ [p]
  | [], p, _ => rfl
  | r :: l, p, h => by
    unfold putL
    rw [if_pos (h r (by simp)), putL_end l p fun q hq => h q (List.mem_cons_of_mem _ hq)]
    rfl
theorem putL_fold : ∀ (l acc : List PairD), Asc (acc ++ l) → l.foldl putL acc = acc ++ l
  | [], acc, _ => by simp
  | p :: l, acc, h => by
    have hp : ∀ q ∈ acc, Op.bytesLess q.k p.k = true := fun q hq => (List.pairwise_append.1 h).2.2 q hq p (by simp)
    rw [List.foldl_cons, putL_end acc p hp, putL_fold l (acc ++ [p]) (by simpa using h)]
    simp
/-- what a pair that was taken is -/
def GoodP (f t : List UInt8) (p : PairD) : Prop := may16 p.k p.v = true ∧ withinB f t p.k = true ∧ 1 ≤ p.n ∧ p.n ≤ 4611686018427387904
theorem okP_good {f t : List UInt8} {acc : List PairD} {p : PairD} (h : okP f t acc p = true) : GoodP f t p := by
  simp only [okP, Bool.and_eq_true, decide_eq_true_eq] at h
  exact ⟨h.2.1, h.2.2.1, h.2.2.2.1, h.2.2.2.2⟩
theorem takeF_spec {f t : List UInt8} : ∀ (ps acc : List PairD) (m : Int) (L : List PairD) (m' : Int), Asc acc → (∀ p ∈ acc, GoodP f t p) → takeF f t ps acc m = some (L, m') → Asc L ∧ (∀ p ∈ L, GoodP f t p) ∧ L.length ≤ acc.length + ps.length
  | [], acc, m, L, m', h1, h2, h => by
    simp only [takeF, Option.some.injEq, Prod.mk.injEq] at h
    obtain ⟨rfl, _⟩ := h
    exact ⟨h1, h2, by simp⟩
  | p :: ps, acc, m, L, m', h1, h2, h => by
    unfold takeF at h
    split at h
    · rename_i hok
      obtain ⟨g1, g2, g3⟩ := takeF_spec ps (putL acc p) _ L m' (putL_asc acc p h1) (fun q hq => (putL_mem acc p q hq).elim (fun e => e ▸ okP_good hok) (h2 q)) h
      exact ⟨g1, g2, by have := putL_len acc p; simp; omega⟩
    · cases h
theorem takeF_all {f t : List UInt8} : ∀ (ps acc : List PairD) (m : Int), Asc (acc ++ ps) → (∀ p ∈ ps, GoodP f t p) → ∃ m', takeF f t ps acc m = some (acc ++ ps, m')
  | [], acc, m, _, _ => ⟨m, by simp [takeF]⟩
  | p :: ps, acc, m, h, hg => by
    have hp : ∀ q ∈ acc, Op.bytesLess q.k p.k = true := fun q hq => (List.pairwise_append.1 h).2.2 q hq p (by simp)
    have hno : hasK acc p.k = false := by
      unfold hasK
      rw [List.any_eq_false]
      intro q hq
      have := hp q hq
      simp only [decide_eq_true_eq]
      intro e
      rw [e, bl_irrefl] at this
      cases this
    obtain ⟨g1, g2, g3, g4⟩ := hg p (by simp)
    have hok : okP f t acc p = true := by
      unfold okP
      rw [hno, g1, g2, decide_eq_true g3, decide_eq_true g4]
      rfl
    obtain ⟨m', h'⟩ := takeF_all ps (acc ++ [p]) (maxI m p.n) (by simpa using h) fun q hq => hg q (List.mem_cons_of_mem _ hq)
    refine ⟨m', ?_⟩
    unfold takeF
    rw [if_pos hok, putL_end acc p hp, h']
    simp
/-- what is left, and what is given -/
theorem left_part : ∀ (L : List PairD) (k : List UInt8), Asc L → (∀ p ∈ L, Op.bytesLess p.k [121] = true) → leftL L k [121] ++ partL L k [121] = L
  | [], k, _, _ => rfl
  | p :: L, k, h, hb => by
    obtain ⟨h1, h2⟩ := List.pairwise_cons.1 h
    have ih := left_part L k h2 fun q hq => hb q (List.mem_cons_of_mem _ hq)
    have hw : ∀ q : PairD, Op.bytesLess q.k [121] = true → withinB k [121] q.k = !(Op.bytesLess q.k k) := fun q hq => by
      unfold withinB
      rw [hq]; simp
    have hp := hw p (hb p (by simp))
    unfold leftL partL at ih ⊢
    cases hk : Op.bytesLess p.k k with
    | true =>
      rw [hk] at hp
      rw [List.filter_cons_of_pos (by rw [hp]; rfl), List.filter_cons_of_neg (by rw [hp]; decide), List.cons_append, ih]
    | false =>
      rw [hk] at hp
      have hall : ∀ q ∈ L, withinB k [121] q.k = true := fun q hq => by
        rw [hw q (hb q (List.mem_cons_of_mem _ hq))]
        cases hq2 : Op.bytesLess q.k k with
        | false => rfl
        | true => have := bl_trans _ _ _ (h1 q hq) hq2; rw [hk] at this; cases this
      rw [List.filter_cons_of_neg (by rw [hp]; decide), List.filter_cons_of_pos (by rw [hp]; rfl), List.filter_eq_nil_iff.2 fun q hq => by rw [hall q hq]; decide, List.filter_eq_self.2 fun q hq => hall q hq]
      rfl
end Go.Proofs.Ytikkknaofiafhaa

namespace Go.Proofs.Ytikkknaofiafhaa
open Go.RowKit

/-- pointers at blocks -/
def rPtr : Rel Nat where
  sz := 1
  wt := 8
  rel _ _ cs g := cs = [.pointer (some ⟨g, 0, none⟩)]
  len := by rintro ok w cs d rfl; rfl
  one := by
    rintro ok w cs d rfl u hu
    simp at hu
    subst hu
    rfl
  kp := fun _ h => h
  mono := fun _ h => h
theorem Try.rowPtr : RowTy Try.prog 82 83 1 8 := rowTy_mk Try.underlying82 (by kernel_rfl)
theorem OwnL.rslO {α : Type} {E : Rel α} {okd ok : Nat → Prop} {base : Nat} {T : TypeId} {w : World} {v : Value} {l : List α} (h : OwnL E okd base T w v l) (hb : l.length * E.wt ≤ 140737488351232) (hrow : ∀ b, base ≤ b → some b = v.ownBlock → ok b) (hd : ∀ b, okd b → ok b) : RSl E ok w v l := by
  have hlt := h.lt
  obtain ⟨css, ho, hch⟩ := h
  obtain ⟨A, c, rfl, hc, _⟩ := own_slice w ho
  refine ⟨A, l.length, c, css, rfl, hc, rfl, hb, Rd.of_own ho, hch.mono fun b hb _ => hd b hb.1, fun _ a ha => ?_⟩
  subst ha
  exact hrow _ (hlt _ rfl).1 rfl
/-- a shard's data -/
structure ShD where
  lf : List UInt8
  lu : List UInt8
  L : List PairD
  T : Option (List UInt8)
  ov : Bool
  tn : Bool
def zS : ShD := ⟨[], [], [], none, true, true⟩
def ShR (ok : Nat → Prop) (w : World) (h : Nat) (d : ShD) : Prop := ∃ o1 o2 l T n over f1 f2 gone, Blk w h 90 (shCs o1 o2 l T n over f1 f2 gone) ∧ RB ok w o1 d.lf ∧ RB ok w o2 d.lu ∧ RSl rPair ok w l d.L ∧ RSl rHe ok w T d.T.toList ∧ (d.ov = true → over = nl) ∧ (d.tn = true → T = nl)
theorem ShR.kp {ok ok2 : Nat → Prop} {w w' : World} {h : Nat} {d : ShD} (hs : ShR ok w h d) (hk : Kp ok2 w w') (hh : ok2 h) (hok : ∀ b, ok b → ok2 b) : ShR ok w' h d := by
  obtain ⟨o1, o2, l, T, n, over, f1, f2, gone, k, r1, r2, r3, r4, r5, r6⟩ := hs
  exact ⟨o1, o2, l, T, n, over, f1, f2, gone, k.kp hk hh, r1.kp (hk.mono hok), r2.kp (hk.mono hok), r3.kp (hk.mono hok), r4.kp (hk.mono hok), r5, r6⟩
theorem ShR.lt {ok : Nat → Prop} {w : World} {h : Nat} {d : ShD} (hs : ShR ok w h d) : h < w.heap.size := by
  obtain ⟨o1, o2, l, T, n, over, f1, f2, gone, k, _⟩ := hs
  exact k.lt
/-- who stands where -/
structure Who where
  gr : Nat
  gj : Nat
  h0 : Nat
  h1 : Nat
  h2 : Nat
  h3 : Nat
  h4 : Nat
  h5 : Nat
  rb : Nat
def Who.sp (c : Who) (b : Nat) : Prop := b = c.gr ∨ b = c.gj ∨ b = c.h2 ∨ b = c.h3 ∨ b = c.h4 ∨ b = c.h5
def okW (c : Who) (b : Nat) : Prop := ¬ c.sp b ∧ b ≠ c.rb
theorem okW.of {c : Who} {b : Nat} (hr : c.rb = c.gr) (h : ¬ c.sp b) : okW c b := ⟨h, fun e => h (by rw [e, hr]; exact .inl rfl)⟩
structure Who.Apart (c : Who) (B : Nat) : Prop where
  a1 : c.gr ≠ c.gj
  a2 : c.gr ≠ c.h2
  a3 : c.gr ≠ c.h3
  a4 : c.gr ≠ c.h4
  a5 : c.gr ≠ c.h5
  a6 : c.gj ≠ c.h2
  a7 : c.gj ≠ c.h3
  a8 : c.gj ≠ c.h4
  a9 : c.gj ≠ c.h5
  b1 : c.h2 ≠ c.h3
  b2 : c.h2 ≠ c.h4
  b3 : c.h2 ≠ c.h5
  b4 : c.h3 ≠ c.h4
  b5 : c.h3 ≠ c.h5
  b6 : c.h4 ≠ c.h5
  low : ∀ b, c.sp b → B ≤ b
theorem Who.Apart.box {c : Who} {B : Nat} (h : c.Apart B) (r : Nat) : ({ c with rb := r } : Who).Apart B :=
  ⟨h.a1, h.a2, h.a3, h.a4, h.a5, h.a6, h.a7, h.a8, h.a9, h.b1, h.b2, h.b3, h.b4, h.b5, h.b6, h.low⟩
structure MSt (w0 : World) (c : Who) (vsh vall : Value) (sp : Int) (Lall : List PairD) (j : Option JobD) (d : RouteD) (s2 s3 : ShD) (w : World) : Prop where
  bel : Below w0.heap.size w0 w
  rt : RootR (okW c) w c.gr d sp
  jb : ∀ x, j = some x → PJob (okW c) w c.gj x
  lj : c.gj < w.heap.size
  s2 : ShR (okW c) w c.h2 s2
  s3 : ShR (okW c) w c.h3 s3
  s4 : ShR (okW c) w c.h4 zS
  s5 : ShR (okW c) w c.h5 zS
  lst : RSl rPtr (okW c) w vsh [c.h0, c.h1, c.h2, c.h3, c.h4, c.h5]
  all : RSl rPair (okW c) w vall Lall
  lb : c.rb < w.heap.size
section
variable {w0 w w' : World} {c : Who} {vsh vall : Value} {sp : Int} {Lall : List PairD} {j : Option JobD} {d : RouteD} {s2 s3 : ShD}
theorem MSt.new (h : MSt w0 c vsh vall sp Lall j d s2 s3 w) : ∀ b, w.heap.size ≤ b → okW c b := fun b hb => ⟨fun hs => by
  have := h.rt.lt; have := h.lj; have := h.s2.lt; have := h.s3.lt; have := h.s4.lt; have := h.s5.lt
  rcases hs with hs | hs | hs | hs | hs | hs <;> omega, fun e => by have := h.lb; omega⟩
theorem okW.ne {b t : Nat} (hb : okW c b) (ht : c.sp t) : b ≠ t := fun e => hb.1 (e ▸ ht)
/-- a call that makes memory -/
theorem MSt.below (h : MSt w0 c vsh vall sp Lall j d s2 s3 w) (hb : Below w.heap.size w w') : MSt w0 c vsh vall sp Lall j d s2 s3 w' := by
  have hk : Kp (fun _ => True) w w' := .of_below hb
  have t : ∀ b, okW c b → True := fun _ _ => trivial
  exact ⟨h.bel.trans (hb.mono h.bel.size), h.rt.kp hk trivial t, fun x hx => (h.jb x hx).kp (hk.mono t) (hk.block _ h.lj trivial), Nat.lt_of_lt_of_le h.lj hk.size, h.s2.kp hk trivial t, h.s3.kp hk trivial t, h.s4.kp hk trivial t, h.s5.kp hk trivial t, h.lst.kp (hk.mono t), h.all.kp (hk.mono t), Nat.lt_of_lt_of_le h.lb hk.size⟩
theorem MSt.bel' (h : MSt w0 c vsh vall sp Lall j d s2 s3 w) {t : Nat} (hk : Kp (fun b => b ≠ t) w w') (ht : w0.heap.size ≤ t) : Below w0.heap.size w0 w' :=
  h.bel.trans (hk.below h.bel.size fun b hb e => by omega)
/-- a call that changes the root -/
theorem MSt.root (h : MSt w0 c vsh vall sp Lall j d s2 s3 w) (ap : c.Apart w0.heap.size) (hk : Kp (fun b => b ≠ c.gr) w w') {d' : RouteD} (hr : RootR (okW c) w' c.gr d' sp) : MSt w0 c vsh vall sp Lall j d' s2 s3 w' := by
  have t : ∀ b, okW c b → b ≠ c.gr := fun b hb => hb.ne (.inl rfl)
  exact ⟨h.bel' hk (ap.low _ (.inl rfl)), hr, fun x hx => (h.jb x hx).kp (hk.mono t) (hk.block _ h.lj ap.a1.symm), Nat.lt_of_lt_of_le h.lj hk.size, h.s2.kp hk ap.a2.symm t, h.s3.kp hk ap.a3.symm t, h.s4.kp hk ap.a4.symm t, h.s5.kp hk ap.a5.symm t, h.lst.kp (hk.mono t), h.all.kp (hk.mono t), Nat.lt_of_lt_of_le h.lb hk.size⟩
/-- .. the job -/
theorem MSt.job (h : MSt w0 c vsh vall sp Lall j d s2 s3 w) (ap : c.Apart w0.heap.size) (hk : Kp (fun b => b ≠ c.gj) w w') {j' : JobD} (hj : PJob (okW c) w' c.gj j') : MSt w0 c vsh vall sp Lall (some j') d s2 s3 w' := by
  have t : ∀ b, okW c b → b ≠ c.gj := fun b hb => hb.ne (.inr (.inl rfl))
  exact ⟨h.bel' hk (ap.low _ (.inr (.inl rfl))), h.rt.kp hk ap.a1 t, (fun x hx => by cases hx; exact hj), Nat.lt_of_lt_of_le h.lj hk.size, h.s2.kp hk ap.a6.symm t, h.s3.kp hk ap.a7.symm t, h.s4.kp hk ap.a8.symm t, h.s5.kp hk ap.a9.symm t, h.lst.kp (hk.mono t), h.all.kp (hk.mono t), Nat.lt_of_lt_of_le h.lb hk.size⟩
/-- .. the second group's shard -/
theorem MSt.sh2 (h : MSt w0 c vsh vall sp Lall j d s2 s3 w) (ap : c.Apart w0.heap.size) (hk : Kp (fun b => b ≠ c.h2) w w') {s' : ShD} (hs : ShR (okW c) w' c.h2 s') : MSt w0 c vsh vall sp Lall j d s' s3 w' := by
  have t : ∀ b, okW c b → b ≠ c.h2 := fun b hb => hb.ne (.inr (.inr (.inl rfl)))
  exact ⟨h.bel' hk (ap.low _ (.inr (.inr (.inl rfl)))), h.rt.kp hk ap.a2 t, fun x hx => (h.jb x hx).kp (hk.mono t) (hk.block _ h.lj ap.a6), Nat.lt_of_lt_of_le h.lj hk.size, hs, h.s3.kp hk ap.b1.symm t, h.s4.kp hk ap.b2.symm t, h.s5.kp hk ap.b3.symm t, h.lst.kp (hk.mono t), h.all.kp (hk.mono t), Nat.lt_of_lt_of_le h.lb hk.size⟩
/-- .. the third's -/
theorem MSt.sh3 (h : MSt w0 c vsh vall sp Lall j d s2 s3 w) (ap : c.Apart w0.heap.size) (hk : Kp (fun b => b ≠ c.h3) w w') {s' : ShD} (hs : ShR (okW c) w' c.h3 s') : MSt w0 c vsh vall sp Lall j d s2 s' w' := by
  have t : ∀ b, okW c b → b ≠ c.h3 := fun b hb => hb.ne (.inr (.inr (.inr (.inl rfl))))
  exact ⟨h.bel' hk (ap.low _ (.inr (.inr (.inr (.inl rfl))))), h.rt.kp hk ap.a3 t, fun x hx => (h.jb x hx).kp (hk.mono t) (hk.block _ h.lj ap.a7), Nat.lt_of_lt_of_le h.lj hk.size, h.s2.kp hk ap.b1 t, hs, h.s4.kp hk ap.b4.symm t, h.s5.kp hk ap.b5.symm t, h.lst.kp (hk.mono t), h.all.kp (hk.mono t), Nat.lt_of_lt_of_le h.lb hk.size⟩
end

/-- a job begins -/
theorem MSt.begin {w0 w w' : World} {c : Who} {vsh vall : Value} {sp : Int} {Lall : List PairD} {d : RouteD} {s2 s3 : ShD} (h : MSt w0 c vsh vall sp Lall none d s2 s3 w) (ap : c.Apart w0.heap.size) (hb : Below w.heap.size w w') (hj : PJob (fun _ => False) w' w.heap.size zJob) :
    (({ c with gj := w.heap.size } : Who)).Apart w0.heap.size ∧ MSt w0 { c with gj := w.heap.size } vsh vall sp Lall (some zJob) d s2 s3 w' := by
  have l1 := h.rt.lt
  have l2 := h.s2.lt
  have l3 := h.s3.lt
  have l4 := h.s4.lt
  have l5 := h.s5.lt
  have m := h.below hb
  have t : ∀ b, okW c b → b < w.heap.size → okW ({ c with gj := w.heap.size } : Who) b := fun b hb hlt => ⟨fun hs => by
    rcases hs with hs | hs | hs | hs | hs | hs
    · exact hb.1 (.inl hs)
    · simp only at hs; omega
    · exact hb.1 (.inr (.inr (.inl hs)))
    · exact hb.1 (.inr (.inr (.inr (.inl hs))))
    · exact hb.1 (.inr (.inr (.inr (.inr (.inl hs)))))
    · exact hb.1 (.inr (.inr (.inr (.inr (.inr hs))))), hb.2⟩
  have ts : ∀ {x : Nat} {s : ShD}, ShR (okW c) w x s → ShR (okW ({ c with gj := w.heap.size } : Who)) w' x s := fun {x s} hs => by
    obtain ⟨o1, o2, l, T, n, over, f1, f2, gone, k, r1, r2, r3, r4, r5, r6⟩ := hs
    exact ⟨o1, o2, l, T, n, over, f1, f2, gone, k.below hb k.lt, (r1.mono (by decide) t).below hb, (r2.mono (by decide) t).below hb, (r3.mono (by decide) t).below hb, (r4.mono (by decide) t).below hb, r5, r6⟩
  refine ⟨⟨by show c.gr ≠ w.heap.size; omega, ap.a2, ap.a3, ap.a4, ap.a5, by show w.heap.size ≠ c.h2; omega, by show w.heap.size ≠ c.h3; omega, by show w.heap.size ≠ c.h4; omega, by show w.heap.size ≠ c.h5; omega, ap.b1, ap.b2, ap.b3, ap.b4, ap.b5, ap.b6, fun b hs => ?_⟩,
    ⟨m.bel, (h.rt.mono t).kp (.of_below hb (ok := fun _ => True)) trivial fun _ _ => trivial, fun x hx => ?_, hj.lt, ts h.s2, ts h.s3, ts h.s4, ts h.s5, (h.lst.mono (by decide) t).below hb, (h.all.mono (by decide) t).below hb, Nat.lt_of_lt_of_le h.lb hb.size⟩⟩
  · rcases hs with hs | hs | hs | hs | hs | hs
    · exact ap.low b (.inl hs)
    · simp only at hs; have := h.bel.size; omega
    · exact ap.low b (.inr (.inr (.inl hs)))
    · exact ap.low b (.inr (.inr (.inr (.inl hs))))
    · exact ap.low b (.inr (.inr (.inr (.inr (.inl hs)))))
    · exact ap.low b (.inr (.inr (.inr (.inr (.inr hs)))))
  · cases hx
    obtain ⟨C, given, k1, k2, k3⟩ := hj
    exact ⟨C, given, k1, k2.mono fun _ h _ => h.elim, k3.mono (by decide) fun _ h _ => h.elim⟩

/-- a box of its own -/
theorem MSt.box {w0 w w' : World} {c : Who} {vsh vall : Value} {sp : Int} {Lall : List PairD} {j : Option JobD} {d : RouteD} {s2 s3 : ShD} (h : MSt w0 c vsh vall sp Lall j d s2 s3 w) (hb : Below w.heap.size w w') (r : Nat) (h1 : w.heap.size ≤ r) (h2 : r < w'.heap.size) : MSt w0 { c with rb := r } vsh vall sp Lall j d s2 s3 w' := by
  have m := h.below hb
  have t : ∀ b, okW c b → b < w.heap.size → okW ({ c with rb := r } : Who) b := fun b hb hlt => ⟨hb.1, fun e => by simp only at e; omega⟩
  have ts : ∀ {x : Nat} {s : ShD}, ShR (okW c) w x s → ShR (okW ({ c with rb := r } : Who)) w' x s := fun {x s} hs => by
    obtain ⟨o1, o2, l, T, n, over, f1, f2, gone, k, r1, r2, r3, r4, r5, r6⟩ := hs
    exact ⟨o1, o2, l, T, n, over, f1, f2, gone, k.below hb k.lt, (r1.mono (by decide) t).below hb, (r2.mono (by decide) t).below hb, (r3.mono (by decide) t).below hb, (r4.mono (by decide) t).below hb, r5, r6⟩
  refine ⟨m.bel, (h.rt.mono t).kp (.of_below hb (ok := fun _ => True)) trivial fun _ _ => trivial, fun x hx => ?_, m.lj, ts h.s2, ts h.s3, ts h.s4, ts h.s5, (h.lst.mono (by decide) t).below hb, (h.all.mono (by decide) t).below hb, h2⟩
  obtain ⟨C, given, k1, k2, k3⟩ := h.jb x hx
  exact ⟨C, given, k1.below hb h.lj, (k2.mono t).below hb, (k3.mono (by decide) t).below hb⟩
theorem MSt.unbox {w0 w : World} {c : Who} {vsh vall : Value} {sp : Int} {Lall : List PairD} {j : Option JobD} {d : RouteD} {s2 s3 : ShD} {r : Nat} (h : MSt w0 { c with rb := r } vsh vall sp Lall j d s2 s3 w) (hr : c.rb = c.gr) : MSt w0 c vsh vall sp Lall j d s2 s3 w := by
  have t : ∀ b, okW ({ c with rb := r } : Who) b → b < w.heap.size → okW c b := fun b hb _ => okW.of hr hb.1
  have ts : ∀ {x : Nat} {s : ShD}, ShR (okW ({ c with rb := r } : Who)) w x s → ShR (okW c) w x s := fun {x s} hs => by
    obtain ⟨o1, o2, l, T, n, over, f1, f2, gone, k, r1, r2, r3, r4, r5, r6⟩ := hs
    exact ⟨o1, o2, l, T, n, over, f1, f2, gone, k, r1.mono (by decide) t, r2.mono (by decide) t, r3.mono (by decide) t, r4.mono (by decide) t, r5, r6⟩
  refine ⟨h.bel, h.rt.mono t, fun x hx => ?_, h.lj, ts h.s2, ts h.s3, ts h.s4, ts h.s5, h.lst.mono (by decide) t, h.all.mono (by decide) t, by rw [hr]; exact h.rt.lt⟩
  obtain ⟨C, given, k1, k2, k3⟩ := h.jb x hx
  exact ⟨C, given, k1, k2.mono t, k3.mono (by decide) t⟩
/-- what is stored in it -/
theorem MSt.sto {w0 w w' : World} {c : Who} {vsh vall : Value} {sp : Int} {Lall : List PairD} {j : Option JobD} {d : RouteD} {s2 s3 : ShD} (h : MSt w0 c vsh vall sp Lall j d s2 s3 w) (hl : w0.heap.size ≤ c.rb) (hn : ¬ c.sp c.rb) (hk : Kp (fun b => b ≠ c.rb) w w') : MSt w0 c vsh vall sp Lall j d s2 s3 w' := by
  have t : ∀ b, okW c b → b ≠ c.rb := fun b hb => hb.2
  have u : ∀ b, c.sp b → b ≠ c.rb := fun b hb e => hn (e ▸ hb)
  exact ⟨h.bel' hk hl, h.rt.kp hk (u _ (.inl rfl)) t, fun x hx => (h.jb x hx).kp (hk.mono t) (hk.block _ h.lj (u _ (.inr (.inl rfl)))), Nat.lt_of_lt_of_le h.lj hk.size, h.s2.kp hk (u _ (.inr (.inr (.inl rfl)))) t, h.s3.kp hk (u _ (.inr (.inr (.inr (.inl rfl))))) t, h.s4.kp hk (u _ (.inr (.inr (.inr (.inr (.inl rfl)))))) t, h.s5.kp hk (u _ (.inr (.inr (.inr (.inr (.inr rfl)))))) t, h.lst.kp (hk.mono t), h.all.kp (hk.mono t), Nat.lt_of_lt_of_le h.lb hk.size⟩

/-- where the moving stands, at the head of round n -/
def PhX (kA : List UInt8) (L : List PairD) (hT : Option (List UInt8)) (n : Nat) (j : JobD) (d : RouteD) (s2 s3 : ShD) : Prop :=
  (d = rdc kA ∧ j.asd = false ∧
    ((j.ph = 0 ∧ n ≤ 6 ∧ (n = 0 ∨ touchB hT kA [121] = true) ∧ s2.lf = [120] ∧ s2.lu = [121] ∧ s2.L = L ∧ s2.T = hT ∧ s2.ov = true ∧ s3 = zS) ∨
     (j.ph = 1 ∧ (n = 1 ∨ n = 7) ∧ (6 ≤ n ∨ touchB hT kA [121] = false) ∧ j.given = partL L kA [121] ∧ s2.L = leftL L kA [121] ∧ s3 = zS) ∨
     (j.ph = 2 ∧ (n = 2 ∨ n = 8) ∧ (6 ≤ n ∨ touchB hT kA [121] = false) ∧ s2.L = leftL L kA [121] ∧ s3.L = partL L kA [121]) ∨
     (j.ph = 3 ∧ (n = 1 ∨ n = 7) ∧ (6 ≤ n ∨ touchB hT kA [121] = false) ∧ s2.L = L ∧ s3 = zS))) ∨
  ((n = 2 ∨ n = 3 ∨ n = 8 ∨ n = 9) ∧ j.asd = false ∧ ((d = rdm kA ∧ s2.L = leftL L kA [121] ∧ s3.L = partL L kA [121]) ∨ (d = rdS ∧ s2.L = L ∧ s3.L = [])))
theorem PhX.le {kA : List UInt8} {L : List PairD} {hT : Option (List UInt8)} {n : Nat} {j : JobD} {d : RouteD} {s2 s3 : ShD} (h : PhX kA L hT n j d s2 s3) : n ≤ 9 := by
  rcases h with ⟨_, _, h | h | h | h⟩ | ⟨h, _⟩
  · have := h.2.1; omega
  · have := h.2.1; omega
  · have := h.2.1; omega
  · have := h.2.1; omega
  · omega

/-- .. behind what lets the lock go -/
def PhY (kA : List UInt8) (L : List PairD) (hT : Option (List UInt8)) (n : Nat) (j : JobD) (d : RouteD) (s2 s3 : ShD) : Prop :=
  (d = rdc kA ∧ j.asd = false ∧
    ((j.ph = 0 ∧ n ≤ 6 ∧ (n = 0 ∨ touchB hT kA [121] = true) ∧ s2.lf = [120] ∧ s2.lu = [121] ∧ s2.L = L ∧ s2.T = (if n < 6 then hT else none) ∧ (n < 6 → s2.ov = true) ∧ s3 = zS) ∨
     (j.ph = 1 ∧ (n = 1 ∨ n = 7) ∧ (6 ≤ n ∨ touchB hT kA [121] = false) ∧ j.given = partL L kA [121] ∧ s2.L = leftL L kA [121] ∧ s3 = zS) ∨
     (j.ph = 2 ∧ (n = 2 ∨ n = 8) ∧ (6 ≤ n ∨ touchB hT kA [121] = false) ∧ s2.L = leftL L kA [121] ∧ s3.L = partL L kA [121]) ∨
     (j.ph = 3 ∧ (n = 1 ∨ n = 7) ∧ (6 ≤ n ∨ touchB hT kA [121] = false) ∧ s2.L = L ∧ s3 = zS))) ∨
  ((n = 2 ∨ n = 3 ∨ n = 8 ∨ n = 9) ∧ j.asd = false ∧ ((d = rdm kA ∧ s2.L = leftL L kA [121] ∧ s3.L = partL L kA [121]) ∨ (d = rdS ∧ s2.L = L ∧ s3.L = [])))
theorem PhX.no6 {kA : List UInt8} {L : List PairD} {hT : Option (List UInt8)} {n : Nat} {j : JobD} {d : RouteD} {s2 s3 : ShD} (h : PhX kA L hT n j d s2 s3) (hn : n ≠ 6) : PhY kA L hT n j d s2 s3 := by
  rcases h with ⟨h1, h2, h | h | h | h⟩ | h
  · obtain ⟨a1, a2, a3, a4, a5, a6, a7, a8, a9⟩ := h
    exact .inl ⟨h1, h2, .inl ⟨a1, a2, a3, a4, a5, a6, by rw [if_pos (by omega)]; exact a7, fun _ => a8, a9⟩⟩
  · exact .inl ⟨h1, h2, .inr (.inl h)⟩
  · exact .inl ⟨h1, h2, .inr (.inr (.inl h))⟩
  · exact .inl ⟨h1, h2, .inr (.inr (.inr h))⟩
  · exact .inr h
theorem PhX.at6 {kA : List UInt8} {L : List PairD} {hT : Option (List UInt8)} {j : JobD} {d : RouteD} {s2 s3 : ShD} (h : PhX kA L hT 6 j d s2 s3) : s2.ov = true ∧ PhY kA L hT 6 j d ⟨s2.lf, s2.lu, s2.L, none, false, true⟩ s3 := by
  rcases h with ⟨h1, h2, h | h | h | h⟩ | h
  · obtain ⟨a1, a2, a3, a4, a5, a6, a7, a8, a9⟩ := h
    exact ⟨a8, .inl ⟨h1, h2, .inl ⟨a1, a2, a3, a4, a5, a6, by rw [if_neg (by omega)], fun h => by omega, a9⟩⟩⟩
  · have := h.2.1; omega
  · have := h.2.1; omega
  · have := h.2.1; omega
  · have := h.1; omega

theorem stepJ_on (k : List UInt8) (sp : Int) (j : JobD) (h2 : 2 ≤ sp) (h4 : sp ≤ 4) (ha : j.asd = false) : stepJ (rdc k) sp j = (⟨j.ph, true, (askJ (rdc k) 3 j).1, (askJ (rdc k) 3 j).2, j.given⟩, true) := by
  have hn : nx (rdc k) sp = 3 := by
    unfold nx
    rw [next_rdc k sp (by omega) h4]
    unfold n0
    rw [if_neg (by omega)]
  unfold stepJ
  rw [if_neg (by rw [ha]; decide), hn, if_neg (by intro h; rcases h with h | h <;> cases h)]
theorem stepJ_off (d : RouteD) (sp : Int) (j : JobD) (ha : j.asd = false) (hm : d.m = 0) : stepJ d sp j = (zJob, false) := by
  unfold stepJ
  rw [if_neg (by rw [ha]; decide), if_pos (.inl hm)]

/-! ### what is asked, over the data -/
section
variable {ok : Nat → Prop} {okc : Nat → Prop}
/-- take -/
theorem sTake {h : Nat} {d : ShD} {C : Array Value} {q : CmdD} {w : World} (hs : ShR ok w h d) (hq : CmdV okc w C q) (hk : q.kind = 6) (hlen : q.pairs.length ≤ 1000) (hokc : ∀ b, okc b → b ≠ h) (hok : ∀ b, ok b → b ≠ h) (hnew : ∀ b, w.heap.size ≤ b → ok b) :
    Calls Try.prog 37 #[.pointer (some ⟨h, 0, none⟩), .agg C] w fun e w' => e = .returned (.agg (repCs (takeE d.lf d.lu q.from_ q.upto q.pairs) nl)) ∧ Kp (fun b => b ≠ h) w w' ∧
      (takeE d.lf d.lu q.from_ q.upto q.pairs = 0 → ∃ L m, takeF q.from_ q.upto q.pairs [] 0 = some (L, m) ∧ ShR ok w' h ⟨q.from_, q.upto, L, d.T, d.ov, d.tn⟩) := by
  obtain ⟨o1, o2, l, T, n, over, f1, f2, gone, k, r1, r2, r3, r4, r5, r6⟩ := hs
  obtain ⟨A1, c1, A2, c2, A3, c3, A4, c4, rfl, hc⟩ := hq
  rw [hk]
  refine (runTake_any h o1 o2 l T over f1 f2 gone _ _ _ n d.lf d.lu q.from_ q.upto q.pairs _ w k r1 r2 rfl rfl rfl hc.fr hc.upto hc.pairs hlen hokc rfl rfl).mono ?_
  rintro e w' ⟨he, hk', hS⟩
  refine ⟨he, hk', fun h0 => ?_⟩
  unfold ShTook at hS
  rw [if_pos h0] at hS
  obtain ⟨v1, v2, vl, L, m, g1, g2, g3, g4, g5⟩ := hS
  exact ⟨L, m, g1, v1, v2, vl, T, _, over, f1, f2, gone, g2, g3.mono (by decide) fun b hb _ => hnew b hb, g4.mono (by decide) fun b hb _ => hnew b hb, g5.mono (by decide) fun b hb _ => hnew b hb, r4.kp (hk'.mono hok), r5, r6⟩
/-- give -/
theorem sGive {h : Nat} {d : ShD} {C : Array Value} {q : CmdD} {w : World} (hs : ShR ok w h d) (hq : CmdV okc w C q) (hk : q.kind = 5) (hlen : d.L.length ≤ 1000) (hokc : ∀ b, okc b → b ≠ h) (hok : ∀ b, ok b → b ≠ h) (hnew : ∀ b, w.heap.size ≤ b → ok b) :
    Calls Try.prog 37 #[.pointer (some ⟨h, 0, none⟩), .agg C] w fun e w' => (∃ R, e = .returned (.agg R) ∧ R.all (·.oneCell') = true ∧ RepR (fun b => w.heap.size ≤ b) w' R (giveE d.lf d.lu q.key d.T d.L) (if giveE d.lf d.lu q.key d.T d.L = 0 then partL d.L q.key d.lu else [])) ∧ Kp (fun b => b ≠ h) w w' ∧
      ShR ok w' h (if giveE d.lf d.lu q.key d.T d.L = 0 then ⟨d.lf, q.key, leftL d.L q.key d.lu, d.T, d.ov, d.tn⟩ else d) := by
  obtain ⟨o1, o2, l, T, n, over, f1, f2, gone, k, r1, r2, r3, r4, r5, r6⟩ := hs
  obtain ⟨A1, c1, A2, c2, A3, c3, A4, c4, rfl, hc⟩ := hq
  rw [hk]
  refine (runGive_any h o1 o2 l T over f1 f2 gone _ n d.lf d.lu q.key d.T d.L _ w k r1 r2 r3 r4 hlen hok rfl hc.key hokc rfl rfl).mono ?_
  rintro e w' ⟨he, hk', hS⟩
  refine ⟨he, hk', ?_⟩
  unfold ShGave at hS
  split
  · rename_i h0
    rw [if_pos h0] at hS
    obtain ⟨o2', l', f1', f2', gone', g1, g2, g3⟩ := hS
    exact ⟨o1, o2', l', T, n, over, f1', f2', gone', g1, r1.kp (hk'.mono hok), g2.mono (by decide) fun b hb _ => hnew b hb, g3.mono (by decide) fun b hb _ => hb.elim id (hnew b), r4.kp (hk'.mono hok), r5, r6⟩
  · rename_i h0
    rw [if_neg h0] at hS
    exact ⟨o1, o2, l, T, n, over, f1, f2, gone, hS, r1.kp (hk'.mono hok), r2.kp (hk'.mono hok), r3.kp (hk'.mono hok), r4.kp (hk'.mono hok), r5, r6⟩
/-- prepare -/
theorem sPrep {h : Nat} {d : ShD} {C : Array Value} {w : World} {ws : Value} {k : List UInt8} (hs : ShR ok w h d) (hT : d.T = none) (hov : d.ov = true) (hC : C.size = 25) (c0 : C[0]? = some (.int .i64 3)) (c2 : C[2]? = some (.int .u64 9)) (c10 : C[10]? = some nl) (c11 : C[11]? = some nl) (c12 : C[12]? = some ws) (hw : RSl rWr okc w ws [k]) (hok : ∀ b, ok b → b ≠ h) (hnew : ∀ b, w.heap.size ≤ b → ok b) (htn : d.tn = true) :
    Calls Try.prog 37 #[.pointer (some ⟨h, 0, none⟩), .agg C] w fun e w' => e = .returned (.agg (repCs (preE d.lf d.lu k) nl)) ∧ Kp (fun b => b ≠ h) w w' ∧ ShR ok w' h ⟨d.lf, d.lu, d.L, if preE d.lf d.lu k = 0 then some k else none, true, false⟩ := by
  obtain ⟨o1, o2, l, T, n, over, f1, f2, gone, kb, r1, r2, r3, r4, r5, r6⟩ := hs
  obtain rfl := r5 hov
  obtain rfl := r6 htn
  refine (runPrep_any h o1 o2 l f1 f2 gone ws n d.lf d.lu k C w kb r1 r2 c2 c10 c11 c12 hw hC c0).mono ?_
  rintro e w' ⟨he, hk', T', g1, g2⟩
  refine ⟨he, hk', o1, o2, l, T', n, nl, f1, f2, gone, g1, r1.kp (hk'.mono hok), r2.kp (hk'.mono hok), r3.kp (hk'.mono hok), ?_, fun _ => rfl, fun h => by cases h⟩
  have g3 := g2.mono (ok' := ok) (by decide) fun b hb _ => hnew b hb
  split at g3 <;> rename_i h0 <;> simp only [h0, if_true, if_false]
  · exact g3
  · exact g3
/-- resolve -/
theorem sRes {h : Nat} {d : ShD} {C : Array Value} {w : World} (hs : ShR ok w h d) (hov : d.ov = true) (hC : C.size = 25) (c0 : C[0]? = some (.int .i64 4)) (c2 : C[2]? = some (.int .u64 9)) (c6 : C[6]? = some (.bool false)) (hok : ∀ b, ok b → b ≠ h) :
    Calls Try.prog 37 #[.pointer (some ⟨h, 0, none⟩), .agg C] w fun e w' => (∃ R, e = .returned (.agg R)) ∧ Kp (fun b => b ≠ h) w w' ∧ ShR ok w' h ⟨d.lf, d.lu, d.L, none, false, true⟩ := by
  obtain ⟨o1, o2, l, T, n, over, f1, f2, gone, kb, r1, r2, r3, r4, r5, r6⟩ := hs
  obtain rfl := r5 hov
  refine (runRes_any h o1 o2 l T f1 f2 gone n d.T C w kb r4 c2 c6 hC c0).mono ?_
  rintro e w' ⟨he, hk', over', g1⟩
  exact ⟨he, hk', o1, o2, l, nl, n, over', f1, f2, gone, g1, r1.kp (hk'.mono hok), r2.kp (hk'.mono hok), r3.kp (hk'.mono hok), RSl.nil_ _ _ _, (fun h => by cases h), fun _ => rfl⟩
end
end Go.Proofs.Ytikkknaofiafhaa

namespace Go.Proofs.Ytikkknaofiafhaa
open Go.RowKit

theorem cut_facts {k : List UInt8} (h : cutE k = 0) : withinB [120] [121] k = true ∧ k ≠ [120] ∧ Op.bytesLess k [121] = true := by
  unfold cutE at h
  split at h
  · cases h
  split at h
  · cases h
  rename_i h2
  split at h
  · cases h
  rename_i h3
  have h4 : withinB [120] [121] k = true := by simpa using h3
  refine ⟨h4, fun e => h2 (by rw [e]; decide), ?_⟩
  unfold withinB at h4
  simp only [Bool.and_eq_true, List.isEmpty_cons, Bool.false_or] at h4
  exact h4.2
theorem give_cut {k : List UInt8} {T : Option (List UInt8)} {L : List PairD} (h : cutE k = 0) : giveE [120] [121] k T L = if touchB T k [121] = true then 12 else if sumP (partL L k [121]) > 20000 then 10 else 0 := by
  obtain ⟨h1, h2, _⟩ := cut_facts h
  unfold giveE
  rw [h1, show someB [120] [121] = true from by decide, if_neg (by decide), if_neg (by simpa using h2)]
theorem touch_conf {hd : Bool} {hT : Option (List UInt8)} {kL kA : List UInt8} (h1 : hT = if hd = true then some kL else none) (h2 : hd = true → withinB [120] [121] kL = true) (hc : hd = true) (hb : Op.bytesLess kL kA = false) : touchB hT kA [121] = true := by
  rw [h1, if_pos hc]
  show withinB kA [121] kL = true
  have h3 := h2 hc
  unfold withinB at h3 ⊢
  simp only [Bool.and_eq_true, List.isEmpty_cons, Bool.false_or] at h3 ⊢
  exact ⟨by rw [hb]; rfl, h3.2⟩
section
variable {kA : List UInt8} {L : List PairD} {hT : Option (List UInt8)} {n : Nat} {jb : JobD} {s2 s3 : ShD}
theorem giveNext (hcut : cutE kA = 0) (hA : jb.ph = 0 ∧ n ≤ 6 ∧ (n = 0 ∨ touchB hT kA [121] = true) ∧ s2.lf = [120] ∧ s2.lu = [121] ∧ s2.L = L ∧ s2.T = (if n < 6 then hT else none) ∧ (n < 6 → s2.ov = true) ∧ s3 = zS) (c : CmdD) (gr E : Int) (hE : E = giveE s2.lf s2.lu kA s2.T s2.L) :
    PhX kA L hT (n + 1) (gotJ ⟨jb.ph, true, gr, c, jb.given⟩ E (if E = 0 then partL s2.L kA s2.lu else [])).1 (rdc kA) (if E = 0 then ⟨s2.lf, kA, leftL s2.L kA s2.lu, s2.T, s2.ov, s2.tn⟩ else s2) s3 ∧ (n < 6 → touchB hT kA [121] = true → E = 12) := by
  obtain ⟨a1, a2, a3, a4, a5, a6, a7, a8, a9⟩ := hA
  rw [a4, a5, a6, give_cut hcut] at hE
  by_cases t : touchB s2.T kA [121] = true
  · rw [if_pos t] at hE
    subst hE
    have hn : n < 6 := by
      apply Classical.byContradiction
      intro hn
      rw [a7, if_neg hn] at t
      cases t
    rw [a7, if_pos hn] at t
    refine ⟨.inl ⟨rfl, by simp [gotJ, gaveJ, a1], .inl ⟨by simp [gotJ, gaveJ, a1], by omega, .inr t, by simpa using a4, by simpa using a5, by simpa using a6, by simpa [hn] using a7, by simpa using a8 hn, a9⟩⟩, fun _ _ => rfl⟩
  rw [if_neg t] at hE
  have hn0 : n = 0 ∨ n = 6 := by
    rcases a3 with h | h
    · exact .inl h
    · by_cases hn : n < 6
      · rw [a7, if_pos hn] at t; exact absurd h t
      · omega
  have hno : n < 6 → touchB hT kA [121] = false := fun hn => by
    rw [a7, if_pos hn] at t
    simpa using t
  have h7 : 6 ≤ n + 1 ∨ touchB hT kA [121] = false := by
    by_cases hn : n < 6
    · exact .inr (hno hn)
    · exact .inl (by omega)
  refine ⟨?_, fun hn h => by rw [hno hn] at h; cases h⟩
  by_cases hb : sumP (partL L kA [121]) > 20000
  · rw [if_pos hb] at hE
    subst hE
    exact .inl ⟨rfl, by simp [gotJ, gaveJ, a1], .inr (.inr (.inr ⟨by simp [gotJ, gaveJ, a1], by omega, h7, by simpa using a6, a9⟩))⟩
  · rw [if_neg hb] at hE
    subst hE
    exact .inl ⟨rfl, by simp [gotJ, gaveJ, a1], .inr (.inl ⟨by simp [gotJ, gaveJ, a1], by omega, h7, by simp [gotJ, gaveJ, a1, a5, a6], by simp [a5, a6], a9⟩)⟩
theorem takeNext (hB : jb.ph = 1 ∧ (n = 1 ∨ n = 7) ∧ (6 ≤ n ∨ touchB hT kA [121] = false) ∧ jb.given = partL L kA [121] ∧ s2.L = leftL L kA [121] ∧ s3 = zS) (c : CmdD) (gr : Int) (s3' : ShD) (h3 : s3'.L = partL L kA [121]) :
    PhX kA L hT (n + 1) (gotJ ⟨jb.ph, true, gr, c, jb.given⟩ 0 []).1 (rdc kA) s2 s3' := by
  obtain ⟨a1, a2, a3, a4, a5, a6⟩ := hB
  exact .inl ⟨rfl, by simp [gotJ, a1], .inr (.inr (.inl ⟨by simp [gotJ, a1], by omega, a3.imp (by omega) id, a5, h3⟩))⟩
theorem moveNext (hC : jb.ph = 2 ∧ (n = 2 ∨ n = 8) ∧ (6 ≤ n ∨ touchB hT kA [121] = false) ∧ s2.L = leftL L kA [121] ∧ s3.L = partL L kA [121]) (c : CmdD) (gr : Int) :
    PhX kA L hT (n + 1) (gotJ ⟨jb.ph, true, gr, c, jb.given⟩ 0 []).1 (rdm kA) s2 s3 := by
  obtain ⟨a1, a2, a3, a4, a5⟩ := hC
  exact .inr ⟨by omega, by simp [gotJ, a1, zJob], .inl ⟨rfl, a4, a5⟩⟩
theorem stopNext (hE : jb.ph = 3 ∧ (n = 1 ∨ n = 7) ∧ (6 ≤ n ∨ touchB hT kA [121] = false) ∧ s2.L = L ∧ s3 = zS) (c : CmdD) (gr : Int) :
    PhX kA L hT (n + 1) (gotJ ⟨jb.ph, true, gr, c, jb.given⟩ 0 []).1 rdS s2 s3 := by
  obtain ⟨a1, a2, a3, a4, a5⟩ := hE
  exact .inr ⟨by omega, by simp [gotJ, a1, zJob], .inr ⟨rfl, a4, by rw [a5]; rfl⟩⟩
theorem part_good (hasc : Asc L) (hgood : ∀ p ∈ L, GoodP [120] [121] p) : Asc (partL L kA [121]) ∧ ∀ p ∈ partL L kA [121], GoodP kA [121] p := by
  refine ⟨hasc.sublist List.filter_sublist, fun p hp => ?_⟩
  obtain ⟨h1, h2⟩ := List.mem_filter.1 hp
  obtain ⟨g1, g2, g3, g4⟩ := hgood p h1
  exact ⟨g1, h2, g3, g4⟩
theorem take_part (hcut : cutE kA = 0) (hasc : Asc L) (hgood : ∀ p ∈ L, GoodP [120] [121] p) : takeE [] [] kA [121] (partL L kA [121]) = 0 ∧ ∀ L' m, takeF kA [121] (partL L kA [121]) [] 0 = some (L', m) → L' = partL L kA [121] := by
  obtain ⟨h1, h2⟩ := part_good (kA := kA) hasc hgood
  obtain ⟨m, hm⟩ := takeF_all (partL L kA [121]) [] 0 (by simpa using h1) h2
  rw [List.nil_append] at hm
  refine ⟨?_, fun L' m' h => by rw [hm] at h; cases h; rfl⟩
  unfold takeE
  rw [hm, if_neg (by decide), if_neg (by
    have h3 := (cut_facts hcut).2.2
    unfold someB
    rw [h3]; decide)]
  rfl
end

/-- what stands at the end -/
def EndX (kA : List UInt8) (L : List PairD) (d : RouteD) (a b : List PairD) : Prop := (d = rdm kA ∧ a = leftL L kA [121] ∧ b = partL L kA [121]) ∨ (d = rdS ∧ a = L ∧ b = [])
def pAt (a b : List PairD) (g : Nat) : List PairD := if g = 2 then a else if g = 3 then b else []
def uTo (a b : List PairD) (g : Nat) : List PairD := if g ≤ 2 then [] else if g = 3 then a else a ++ b
theorem uTo_step (a b : List PairD) {g : Nat} (h : 2 ≤ g) : uTo a b g ++ pAt a b g = uTo a b (g + 1) := by
  unfold uTo pAt
  by_cases h2 : g = 2
  · subst h2; simp
  by_cases h3 : g = 3
  · subst h3; simp
  rw [if_neg (by omega), if_neg h3, if_neg h2, if_neg h3, if_neg (by omega), if_neg (by omega), List.append_nil]
section
variable {kA : List UInt8} {L : List PairD} {d : RouteD} {a b : List PairD}
theorem good_end {p : PairD} (h : GoodP [120] [121] p) : Op.bytesLess p.k [121] = true := by
  have h2 := h.2.1
  unfold withinB at h2
  simp only [Bool.and_eq_true, List.isEmpty_cons, Bool.false_or] at h2
  exact h2.2
theorem EndX.all (h : EndX kA L d a b) (hasc : Asc L) (hgood : ∀ p ∈ L, GoodP [120] [121] p) : a ++ b = L := by
  rcases h with ⟨_, rfl, rfl⟩ | ⟨_, rfl, rfl⟩
  · exact left_part L kA hasc fun p hp => good_end (hgood p hp)
  · simp
theorem leB_120 (r : List UInt8) : leB [120] (120 :: r) = true := by
  unfold leB
  cases r with
  | nil => decide
  | cons x y => rw [bl_cons]; simp [bl_nil_l]
theorem EndX.group (h : EndX kA L d a b) (hgood : ∀ p ∈ L, GoodP [120] [121] p) {g : Nat} (hg : 2 ≤ g) : ∀ p ∈ pAt a b g, ∃ h0 : 0 < d.s.length, entryG p.k d.s (d.s[0]'h0).g = (g : Int) ∧ ∃ r, p.k = 120 :: r := by
  intro p hp
  rcases h with ⟨rfl, rfl, rfl⟩ | ⟨rfl, rfl, rfl⟩
  · unfold pAt at hp
    split at hp
    · rename_i h2
      subst h2
      obtain ⟨h1, h2⟩ := List.mem_filter.1 hp
      obtain ⟨r, hr⟩ := within_120 (hgood p h1).2.1
      have hb := good_end (hgood p h1)
      have h3 : leB kA p.k = false := by
        unfold withinB at h2
        rw [hb] at h2
        simp only [Bool.or_true, Bool.and_true, Bool.not_not] at h2
        unfold leB
        rw [bl_asymm _ _ h2, Bool.false_or]
        apply Bool.eq_false_iff.2
        intro e
        rw [eq_of_beq e, bl_irrefl] at h2
        cases h2
      refine ⟨by show 0 < 2; omega, ?_, r, hr⟩
      show entryG p.k [⟨2, [120]⟩, ⟨3, kA⟩] 2 = 2
      simp only [entryG, h3]
      rw [hr, leB_120]; rfl
    · split at hp
      · rename_i h2
        subst h2
        obtain ⟨h1, h2⟩ := List.mem_filter.1 hp
        obtain ⟨r, hr⟩ := within_120 (hgood p h1).2.1
        have h3 : leB kA p.k = true := by
          unfold withinB at h2
          simp only [Bool.and_eq_true] at h2
          have h4 : Op.bytesLess p.k kA = false := by simpa using h2.1
          unfold leB
          by_cases e : kA = p.k
          · rw [e]; simp
          · rw [bl_total _ _ e, h4]; rfl
        refine ⟨by show 0 < 2; omega, ?_, r, hr⟩
        show entryG p.k [⟨2, [120]⟩, ⟨3, kA⟩] 2 = 3
        simp only [entryG, h3]
        rfl
      · cases hp
  · unfold pAt at hp
    split at hp
    · rename_i h2
      subst h2
      obtain ⟨r, hr⟩ := within_120 (hgood p hp).2.1
      refine ⟨by show 0 < 1; omega, ?_, r, hr⟩
      show entryG p.k [⟨2, [120]⟩] 2 = 2
      simp only [entryG]
      rw [hr, leB_120]; rfl
    · split at hp <;> cases hp
theorem EndX.put (h : EndX kA L d a b) (hasc : Asc L) (hgood : ∀ p ∈ L, GoodP [120] [121] p) {g i : Nat} (hg : 2 ≤ g) (hi : i < (pAt a b g).length) : putL (uTo a b g ++ (pAt a b g).take i) (pAt a b g)[i] = uTo a b g ++ (pAt a b g).take (i + 1) := by
  have hall := h.all hasc hgood
  have hsub : List.Sublist (uTo a b g ++ pAt a b g) L := by
    rw [uTo_step a b hg, ← hall]
    unfold uTo
    split
    · exact List.nil_sublist _
    split
    · exact List.sublist_append_left _ _
    · exact List.Sublist.refl _
  have hA : Asc (uTo a b g ++ (pAt a b g).take (i + 1)) := hasc.sublist (((List.take_sublist _ _).append_left _).trans hsub)
  rw [List.take_succ_eq_append_getElem hi, ← List.append_assoc] at hA ⊢
  exact putL_end _ _ fun q hq => (List.pairwise_append.1 hA).2.2 q hq _ (by simp)
theorem EndX.len (h : EndX kA L d a b) (hasc : Asc L) (hgood : ∀ p ∈ L, GoodP [120] [121] p) (g : Nat) : (uTo a b g).length ≤ L.length ∧ (pAt a b g).length ≤ L.length := by
  have hl : a.length + b.length = L.length := by rw [← h.all hasc hgood, List.length_append]
  unfold uTo pAt
  constructor
  · split
    · simp
    split
    · omega
    · rw [List.length_append]; omega
  · split
    · omega
    split
    · omega
    · simp
end
/-- a block read whole, at a quiet operation -/
theorem still_loadB {P : Program} {o : Oper} {a : Act} {w : World} {g : Nat} {T : TypeId} {C : Array Value} {ty : TypeId} {x : Operand} {d : TypeDesc} (ho : o.op = .load ty x) (hx : a.eval x = .pointer (some ⟨g, 0, none⟩)) (hk : Blk w g T C) (hu : P.underlying ty = some d) (hd : d.isRow = true) (hi : (P.info? ty).map (·.size) = some C.size) : StillAt P o a w (.agg C) := by
  refine .inl ?_
  unfold execOp
  simp only [ho, hx, Sem.run_bind, Sem.run_pure, hk.loadAt hu hd hi, Result.andThen_ok]
theorem MSt.cellAt {w0 w : World} {c : Who} {bl offl cc : Nat} {vall : Value} {sp : Int} {Lall : List PairD} {j : Option JobD} {d : RouteD} {s2 s3 : ShD} (h : MSt w0 c (.slice (some ⟨bl, offl, none⟩) 6 cc) vall sp Lall j d s2 s3 w) (i g : Nat) (hi : i < 6) (hg : [c.h0, c.h1, c.h2, c.h3, c.h4, c.h5][i]'hi = g) : w.cell? ⟨bl, offl + i * 1, none⟩ = some (.pointer (some ⟨g, 0, none⟩)) := by
  obtain ⟨b, off, c', cs, hv, _, hcs, hcell⟩ := h.lst.at_ (i := i) hi
  simp only [Value.slice.injEq, Option.some.injEq, Addr.mk.injEq, List.length_cons, List.length_nil, and_true] at hv
  obtain ⟨⟨rfl, rfl⟩, _, rfl⟩ := hv
  have hcs' : cs = [.pointer (some ⟨[c.h0, c.h1, c.h2, c.h3, c.h4, c.h5][i]'hi, 0, none⟩)] := hcs
  subst hcs'
  rw [hg] at hcell
  exact hcell 0 _ rfl
/-- the shard at a place -/
theorem MSt.pt {w0 w : World} {c : Who} {bl offl cc : Nat} {vall : Value} {sp : Int} {Lall : List PairD} {j : Option JobD} {d : RouteD} {s2 s3 : ShD} (h : MSt w0 c (.slice (some ⟨bl, offl, none⟩) 6 cc) vall sp Lall j d s2 s3 w) {gi : Nat} (h2 : 2 ≤ gi) (h6 : gi < 6) :
    ∃ g s, s.L = pAt s2.L s3.L gi ∧ ShR (okW c) w g s ∧ w.cell? ⟨bl, offl + gi * 1, none⟩ = some (.pointer (some ⟨g, 0, none⟩)) := by
  obtain rfl | rfl | rfl | rfl : gi = 2 ∨ gi = 3 ∨ gi = 4 ∨ gi = 5 := by omega
  · exact ⟨c.h2, s2, rfl, h.s2, h.cellAt 2 _ (by omega) rfl⟩
  · exact ⟨c.h3, s3, rfl, h.s3, h.cellAt 3 _ (by omega) rfl⟩
  · exact ⟨c.h4, zS, rfl, h.s4, h.cellAt 4 _ (by omega) rfl⟩
  · exact ⟨c.h5, zS, rfl, h.s5, h.cellAt 5 _ (by omega) rfl⟩
end Go.Proofs.Ytikkknaofiafhaa
