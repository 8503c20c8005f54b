/- What the cells of pairs, owners, routes, spans say. No program in sight.
What the cells of values, columns, tables, indexes say. No program in sight.
A region that draws its order: first operations that are quiet in a class of worlds, in whatever order, then a tail in one forced order: walked once.
A region that draws its order, some of whose operations make memory or store: walked once, in the text's order; what such an operation leaves is said ahead. No program in sight.
Drawn regions walked once: the words for a walk. What an operation leaves is said by a specification of its own. No program in sight.
Contracts: slices.Clone, CopyBytes over data.
Contracts: slices.Clone, CopyBytes over data; split.pairs.
Blocks read and written whole; what the cells of a command say. No program in sight.
Contracts: the document's pick; rows.Fits, head, Key, Name; the document's Key.
Contracts: rows.head, Key, Name, Pair; the document's Key.
Contracts: rows.null, ContainsFunc of it; slices.Index; bytes.Equal, HasPrefix, CutPrefix; rows.Pair.
A region that draws its order, some of whose operations make memory: as XReg has it, but the invariant may speak of the values that the operations left. No program in sight.
Drawn regions walked once, with boxes that are laid in any order: the boxes lie apart. No program in sight.
Drawn regions walked once, in which one operation stores one cell of a block that is known whole. No program in sight.
Drawn regions walked once, in which one operation changes blocks of one's own (an append) behind all that makes memory. No program in sight.
Drawn regions walked once, that hold two calls, each of which works on memory of its own; what each operation leaves is known. No program in sight.
Contract: split.own.
Contracts: the document's at and route.place, route.Next.
Contracts: what law 22's awake reaches of the document's routes: New, copied, span, Within, Cut.
Contract: the document's copied.
Contract: the document's span.
Contract: same.Within.
Contract: rows.Entry.
Contracts: help.In[int], ref12.Name, ref12.places.
Contract: ref12.TableRight.
Catalogs as data; contract: ref12.ByID. -/
import Derived.Test.YtmiceacjpadllaaGreatDoorDat
import Derived.StillTail
import Derived.Outline
import Derived.Deep.MidRow
import Derived.Deep.RegionHeld3
import Derived.Deep.DrawnRows
import Derived.Deep.DeepCutAuto
namespace Go.Proofs.YtmiceacjpadllaaGreatDoor
open Go.RowKit
def I64 (i : Int) : Prop := -9223372036854775808 ≤ i ∧ i < 9223372036854775808
structure PairD where
  k : List UInt8
  v : List UInt8
  n : Int
def rPair : Rel PairD where
  sz := 3
  wt := 56
  rel ok w cs p := ∃ a b, cs = [a, b, .int .i64 p.n] ∧ RB ok w a p.k ∧ RB ok w b p.v ∧ I64 p.n
  len := by rintro ok w cs d ⟨a, b, rfl, _⟩; rfl
  one := by
    rintro ok w cs d ⟨a, b, rfl, h1, h2, _⟩ u hu
    simp at hu
    rcases hu with rfl | rfl | rfl
    · exact h1.one
    · exact h2.one
    · rfl
  kp := by
    rintro ok w w' cs d hk ⟨a, b, rfl, h1, h2, h3⟩
    exact ⟨a, b, rfl, h1.kp hk, h2.kp hk, h3⟩
  mono := by
    rintro ok ok' w cs d hm ⟨a, b, rfl, h1, h2, h3⟩
    exact ⟨a, b, rfl, h1.mono (by decide) hm, h2.mono (by decide) hm, h3⟩
structure OwnerD where
  g : Int
  f : List UInt8
def rOwner : Rel OwnerD where
  sz := 2
  wt := 32
  rel ok w cs p := ∃ a, cs = [.int .i64 p.g, a] ∧ RB ok w a p.f ∧ I64 p.g
  len := by rintro ok w cs d ⟨a, rfl, _⟩; rfl
  one := by
    rintro ok w cs d ⟨a, rfl, h1, _⟩ u hu
    simp at hu
    rcases hu with rfl | rfl
    · rfl
    · exact h1.one
  kp := by
    rintro ok w w' cs d hk ⟨a, rfl, h1, h3⟩
    exact ⟨a, rfl, h1.kp hk, h3⟩
  mono := by
    rintro ok ok' w cs d hm ⟨a, rfl, h1, h3⟩
    exact ⟨a, rfl, h1.mono (by decide) hm, h3⟩
structure RouteD where
  e : Int
  b : Int
  s : List OwnerD
  m : Int
  c : List UInt8
end Go.Proofs.YtmiceacjpadllaaGreatDoor
namespace Go.Proofs.YtmiceacjpadllaaGreatDoor
open Go.RowKit
def rInt : Rel Int where
  sz := 1
  wt := 8
  rel _ _ cs i := cs = [.int .i64 i] ∧ I64 i
  len := by rintro ok w cs d ⟨rfl, _⟩; rfl
  one := by
    rintro ok w cs d ⟨rfl, _⟩ u hu
    simp at hu
    subst hu
    rfl
  kp := fun _ h => h
  mono := fun _ h => h
def rVal : Rel Val where
  sz := 3
  wt := 32
  rel _ _ cs x := cs = x.cs ∧ x.ok
  len := by rintro ok w cs d ⟨rfl, _⟩; rfl
  one := by
    rintro ok w cs d ⟨rfl, _⟩ u hu
    simp [Val.cs] at hu
    rcases hu with rfl | rfl | rfl <;> rfl
  kp := fun _ h => h
  mono := fun _ h => h
structure ColD where
  name : ByteArray
  kind : Int
  null : Bool
def rCol : Rel ColD where
  sz := 3
  wt := 32
  rel _ _ cs c := cs = [.string c.name, .int .i64 c.kind, .bool c.null] ∧ I64 c.kind ∧ c.name.size ≤ 9223372036854775807
  len := by rintro ok w cs d ⟨rfl, _⟩; rfl
  one := by
    rintro ok w cs d ⟨rfl, _⟩ u hu
    simp at hu
    rcases hu with rfl | rfl | rfl <;> rfl
  kp := fun _ h => h
  mono := fun _ h => h
theorem chunks_vals {ok : Nat → Prop} {w : World} : ∀ {css : List (List Value)} {l : List Val}, Chunks rVal ok w css l → css.flatten = vcs l ∧ okVals l
  | [], [], _ => ⟨rfl, fun x hx => by cases hx⟩
  | _ :: _, x :: l, h => by
    obtain ⟨h1, h2⟩ := chunks_vals h.2
    refine ⟨by rw [List.flatten_cons, h1, h.1.1]; rfl, fun y hy => ?_⟩
    rcases List.mem_cons.1 hy with rfl | hy
    · exact h.1.2
    · exact h2 y hy
  | [], _ :: _, h => h.elim
  | _ :: _, [], h => h.elim
theorem vals_chunks (ok : Nat → Prop) (w : World) : ∀ l : List Val, okVals l → Chunks rVal ok w (l.map Val.cs) l ∧ (l.map Val.cs).flatten = vcs l
  | [], _ => ⟨trivial, rfl⟩
  | x :: l, h => ⟨⟨⟨rfl, h x (by simp)⟩, (vals_chunks ok w l fun y hy => h y (by simp [hy])).1⟩, by rw [List.map_cons, List.flatten_cons, (vals_chunks ok w l fun y hy => h y (by simp [hy])).2]; rfl⟩
abbrev RV (ok : Nat → Prop) (w : World) (v : Value) (l : List Val) : Prop := RSl rVal ok w v l
section
variable {ok : Nat → Prop} {w : World}
theorem RV.open_ {v : Value} {l : List Val} (h : RV ok w v l) : ∃ A c, v = .slice A l.length c ∧ l.length ≤ c ∧ l.length ≤ 4398046510976 ∧ Rd w 3 A l.length (vcs l) ∧ okVals l ∧ (0 < l.length → ∀ a, A = some a → ok a.block) := by
  obtain ⟨A, n, c, css, rfl, hc, hn, hb, hr, hch, ho⟩ := h
  subst hn
  obtain ⟨h1, h2⟩ := chunks_vals hch
  rw [h1] at hr
  exact ⟨A, c, rfl, hc, by simp [rVal] at hb; omega, hr, h2, ho⟩
theorem RV.mk_ {A : Option Addr} {n c : Nat} {l : List Val} (hr : Rd w 3 A n (vcs l)) (hc : n ≤ c) (hb : n ≤ 4398046510976) (hk : okVals l) (ho : 0 < n → ∀ a, A = some a → ok a.block) : RV ok w (.slice A n c) l := by
  obtain ⟨h1, h2⟩ := vals_chunks ok w l hk
  have hn : l.length = n := by have := hr.1; rw [vcs_length] at this; omega
  refine ⟨A, n, c, _, rfl, hc, hn, by simp [rVal]; omega, ?_, h1, ho⟩
  rw [h2]
  exact hr
end
structure TabD where
  id : Int
  name : ByteArray
  cols : List ColD
  key : List Int
structure IdxD where
  id : Int
  table : Int
  name : ByteArray
  cols : List Int
  uniq : Bool
  state : Int
  bad : Bool
structure TabR (ok : Nat → Prop) (w : World) (a b : Value) (d : TabD) : Prop where
  cols : RSl rCol ok w a d.cols
  key : RSl rInt ok w b d.key
  id : I64 d.id
  nm : d.name.size ≤ 9223372036854775807
theorem TabR.below {ok : Nat → Prop} {w w' : World} {a b : Value} {d : TabD} (h : TabR ok w a b d) (hb : Below w.heap.size w w') : TabR ok w' a b d := ⟨h.cols.below hb, h.key.below hb, h.id, h.nm⟩
def at_ (row : List Val) (k : Int) : Option Val := if 0 ≤ k ∧ k < row.length then row[k.toNat]? else none
end Go.Proofs.YtmiceacjpadllaaGreatDoor
namespace Go.Proofs.YtmiceacjpadllaaGreatDoor
open Go.RowKit
section
variable {P : Program} {ops : Array Oper} {md : Region.Mode}
def waitsB (md : Region.Mode) (ops : Array Oper) : Nat → Nat → Nat → Bool
  | 0, _, _ => false
  | f + 1, j, d => match ops[j]? with
    | some o => o.after.any fun e => Region.binds md e && (e.on == d || waitsB md ops f e.on d)
    | none => false
def Closed (md : Region.Mode) (ops : Array Oper) (L : Array Bool) : Prop := ∀ j oj, ops[j]? = some oj → L.getD j false = true → ∀ e ∈ oj.after, Region.binds md e = true → L.getD e.on false = true
theorem waits_of {L : Array Bool} (hc : Closed md ops L) : ∀ (f j d : Nat), (∀ oj, ops[j]? = some oj → ∀ e ∈ oj.after, Region.binds md e = true → L.getD e.on false = true) → waitsB md ops f j d = true → L.getD d false = true
  | 0, _, _, _, h => by simp [waitsB] at h
  | f + 1, j, d, hj, h => by
    unfold waitsB at h
    split at h
    · rename_i o ho
      obtain ⟨e, he, hb⟩ := Array.any_eq_true'.1 h
      simp only [Bool.and_eq_true, Bool.or_eq_true, beq_iff_eq] at hb
      have h1 := hj o ho e he hb.1
      rcases hb.2 with h2 | h2
      · rw [← h2]; exact h1
      · exact waits_of hc f e.on d (fun oj hoj e' he' hb' => hc e.on oj hoj h1 e' he' hb') h2
    · cases h
theorem waits_closed {L : Array Bool} (hc : Closed md ops L) {f j d : Nat} (hj : L.getD j false = true) (h : waitsB md ops f j d = true) : L.getD d false = true :=
  waits_of hc f j d (fun oj hoj e he hb => hc j oj hoj hj e he hb) h
def plainOp : Op → Bool
  | .move .. | .assign .. | .pick .. | .build .. | .load .. | .binOp .. | .unOp .. | .convert .. | .fieldAddr .. | .field .. | .indexAddr .. | .index .. | .slice .. | .extract .. | .makeInterface .. => true
  | _ => false
theorem run_v_no (s : Sem Value) (w w' : World) (f : FuncId) (args : Array Value) : (do let x ← s; pure (Next.value x) : Sem Next).run P w ≠ .ok (.enter f args) w' := by
  rw [Sem.run_bind]
  cases s.run P w with
  | ok x w1 =>
    simp only [Result.andThen_ok, Sem.run_pure]
    intro h
    cases h
  | halt x w1 =>
    intro h
    cases h
theorem plain_no {o : Oper} (h : plainOp o.op = true) (ρ : Operand → Value) (w w' : World) (f : FuncId) (args : Array Value) : (execOp ρ o).run P w ≠ .ok (.enter f args) w' := by
  obtain ⟨dst, op, type, pos, after, guard⟩ := o
  cases op <;> simp only [plainOp] at h <;> first | (exact absurd h (by decide)) | skip
  all_goals simp only [execOp]
  all_goals first
    | exact run_v_no _ _ _ _ _
    | (intro h2; cases h2; done)
    | skip
  all_goals
    rw [Sem.run_bind]
    intro h2
    cases hq : (asBool _).run P w <;> rw [hq] at h2
    · simp only [Result.andThen_ok, Sem.run_pure] at h2
      cases h2
    · cases h2
def manyB (md : Region.Mode) (ops : Array Oper) (n : Nat) (wild : List Nat) : Bool :=
  Region.noSelect ops && decide (n ≤ ops.size) && (List.range n).all fun j => match ops[j]? with
    | none => false
    | some oj => (wild.contains j || plainOp oj.op) && (oj.after.all fun e => !Region.binds md e || decide (e.on < j)) &&
      (List.range j).all fun i => match ops[i]? with
        | none => false
        | some oi => ((oj.after.any fun e => Region.binds md e && e.on == i) || oi.apart ops oj) && (match oi.dst with | some d => oj.dst != some d | none => true)
structure ManyOk (md : Region.Mode) (ops : Array Oper) (n : Nat) (wild : List Nat) : Prop where
  le : n ≤ ops.size
  sel : ∀ (j : Nat) (o : Oper) cs b, ops[j]? = some o → o.op ≠ .select cs b
  plain : ∀ j oj, j < n → ops[j]? = some oj → j ∉ wild → plainOp oj.op = true
  back : ∀ j oj, j < n → ops[j]? = some oj → ∀ e ∈ oj.after, Region.binds md e = true → e.on < j
  free : ∀ (i j : Nat) (oi oj : Oper), i < j → j < n → ops[i]? = some oi → ops[j]? = some oj → (∃ e ∈ oj.after, Region.binds md e = true ∧ e.on = i) ∨ oi.apart ops oj = true
  dsts : ∀ (i j : Nat) (oi oj : Oper), i < j → j < n → ops[i]? = some oi → ops[j]? = some oj → ∀ d, oi.dst = some d → oj.dst ≠ some d
theorem many_ok {n : Nat} {wild : List Nat} (h : manyB md ops n wild = true) : ManyOk md ops n wild := by
  simp only [manyB, Bool.and_eq_true, List.all_eq_true, List.mem_range, decide_eq_true_eq] at h
  obtain ⟨⟨h0, hle⟩, h1⟩ := h
  have key : ∀ (j : Nat) (oj : Oper), j < n → ops[j]? = some oj → ((wild.contains j || plainOp oj.op) = true ∧ (oj.after.all fun e => !Region.binds md e || decide (e.on < j)) = true) ∧
      ∀ i, i < j → (match ops[i]? with
        | none => false
        | some oi => ((oj.after.any fun e => Region.binds md e && e.on == i) || oi.apart ops oj) && (match oi.dst with | some d => oj.dst != some d | none => true)) = true := by
    intro j oj hjn hj
    have h2 := h1 j hjn
    rw [hj] at h2
    simpa only [Bool.and_eq_true, List.all_eq_true, List.mem_range] using h2
  have key2 : ∀ (i j : Nat) (oi oj : Oper), i < j → j < n → ops[i]? = some oi → ops[j]? = some oj → ((oj.after.any fun e => Region.binds md e && e.on == i) || oi.apart ops oj) = true ∧ (match oi.dst with | some d => oj.dst != some d | none => true) = true := by
    intro i j oi oj hij hjn hi hj
    have h2 := (key j oj hjn hj).2 i hij
    rw [hi] at h2
    simpa only [Bool.and_eq_true] using h2
  refine ⟨hle, Region.noSelect_spec h0, fun j oj hjn hj hw => ?_, fun j oj hjn hj e he hb => ?_, fun i j oi oj hij hjn hi hj => ?_, fun i j oi oj hij hjn hi hj d hd => ?_⟩
  · have h2 := (key j oj hjn hj).1.1
    simpa [hw] using h2
  · have h2 := Array.all_eq_true_iff_forall_mem.1 (key j oj hjn hj).1.2 e he
    simpa [hb] using h2
  · have h2 := (key2 i j oi oj hij hjn hi hj).1
    simp only [Bool.or_eq_true] at h2
    rcases h2 with h2 | h2
    · obtain ⟨e, he, hb⟩ := Array.any_eq_true'.1 h2
      simp only [Bool.and_eq_true, beq_iff_eq] at hb
      exact .inl ⟨e, he, hb⟩
    · exact .inr h2
  · have h2 := (key2 i j oi oj hij hjn hi hj).2
    rw [hd] at h2
    simpa using h2
def dstOf (ops : Array Oper) (k : Nat) : Option Tmp := (ops[k]?).bind (·.dst)
def fr (ops : Array Oper) (a : Act) (S : Nat → Bool) (e : Nat → Value) : Nat → Act
  | 0 => a
  | k + 1 => if S k then (fr ops a S e k).put (dstOf ops k) (e k) else fr ops a S e k
def upd (e : Nat → Value) (k : Nat) (x : Value) : Nat → Value := fun i => if i = k then x else e i
def on (S : Nat → Bool) (k : Nat) : Nat → Bool := fun i => i == k || S i
theorem fr_congr {ops : Array Oper} {a : Act} {S S' : Nat → Bool} {e e' : Nat → Value} : ∀ n, (∀ i, i < n → S i = S' i ∧ (S i = true → e i = e' i)) → fr ops a S e n = fr ops a S' e' n
  | 0, _ => rfl
  | n + 1, h => by
    have ih := fr_congr (ops := ops) (a := a) n fun i hi => h i (by omega)
    obtain ⟨h1, h2⟩ := h n (by omega)
    unfold fr
    rw [ih, ← h1]
    cases hS : S n
    · rfl
    · simp only [if_true]; rw [h2 hS]
theorem fr_lex {a : Act} {e : Nat → Value} (k : Nat) : ∀ n, k ≤ n → fr ops a (fun i => decide (i < k)) e n = fr ops a (fun _ => true) e k
  | 0, h => by obtain rfl : k = 0 := by omega
               rfl
  | n + 1, h => by
    by_cases hk : k = n + 1
    · subst hk
      exact fr_congr _ fun i hi => ⟨by simp [hi], fun _ => rfl⟩
    · have ih := fr_lex (a := a) (e := e) k n (by omega)
      show (if decide (n < k) = true then _ else _) = _
      rw [if_neg (by simp; omega)]
      exact ih
theorem fr_set {n0 : Nat} {wild : List Nat} (hm : ManyOk md ops n0 wild) {a : Act} {S : Nat → Bool} {e : Nat → Value} {k : Nat} {x : Value} (hS : S k = false) : ∀ n, k < n → n ≤ n0 → fr ops a (on S k) (upd e k x) n = (fr ops a S e n).put (dstOf ops k) x
  | 0, h, _ => absurd h (by omega)
  | n + 1, h, hn => by
    by_cases hk : k = n
    · subst hk
      have hc : fr ops a (on S k) (upd e k x) k = fr ops a S e k := fr_congr k fun i hi => ⟨by simp [on]; omega, fun _ => by simp [upd]; omega⟩
      unfold fr
      rw [hc, hS, if_pos (by simp [on]), if_neg (by simp)]
      simp [upd]
    · have ih := fr_set hm (x := x) (a := a) (e := e) hS n (by omega) (by omega)
      have e1 : on S k n = S n := by simp [on]; omega
      have e2 : upd e k x n = e n := by simp [upd]; omega
      unfold fr
      rw [ih, e1, e2]
      cases hSn : S n
      · simp
      · simp only [if_true]
        refine Act.put_comm _ _ _ fun d hd => ?_
        obtain ⟨ok, hok⟩ : ∃ o, ops[k]? = some o := ⟨_, Array.getElem?_eq_getElem (by have := hm.le; omega)⟩
        obtain ⟨on', hon⟩ : ∃ o, ops[n]? = some o := ⟨_, Array.getElem?_eq_getElem (by have := hm.le; omega)⟩
        unfold dstOf at hd ⊢
        rw [hok] at hd
        rw [hon]
        exact hm.dsts k n ok on' (by omega) (by omega) hok hon d hd
def Ag (ops : Array Oper) (o : Oper) (a a' : Act) : Prop := a.tmps.size = a'.tmps.size ∧ ∀ t ∈ o.looksAt ops, a.tmps[t]? = a'.tmps[t]?
theorem Ag.exec {o : Oper} {a a' : Act} (hs : ∀ cs b, o.op ≠ .select cs b) (h : Ag ops o a a') : execOp a.eval o = execOp a'.eval o :=
  execOp_congr o hs fun x hx => by
    cases x with
    | tmp t =>
      have := h.2 t (List.mem_append_left _ (List.mem_filterMap.2 ⟨.tmp t, by simpa using hx, rfl⟩))
      simp [Act.eval, Array.getD_eq_getD_getElem?, this]
    | _ => rfl
theorem Ag.wanted {o : Oper} {a a' : Act} (h : Ag ops o a a') : Region.wanted o (yielded ops a.tmps) = Region.wanted o (yielded ops a'.tmps) := by
  unfold Region.wanted
  cases hg : o.guard with
  | none => rfl
  | some gw =>
    obtain ⟨g, want⟩ := gw
    have hy : yielded ops a.tmps g = yielded ops a'.tmps g := by
      unfold yielded
      cases ht : (ops[g]?).bind (·.dst) with
      | none => rfl
      | some t =>
        have := h.2 t (by simp [Oper.looksAt, hg, ht])
        simp only [Option.bind_some, this]
    simp only [hy]
theorem put_size (a : Act) (d : Option Tmp) (v : Value) : (a.put d v).tmps.size = a.tmps.size := by cases d <;> simp [Act.put]
theorem put_at (a : Act) (d : Option Tmp) (v : Value) (t : Nat) (h : d ≠ some t) : (a.put d v).tmps[t]? = a.tmps[t]? := by
  cases d with
  | none => rfl
  | some d =>
    have : d ≠ t := fun e => h (by rw [e])
    simp [Act.put, Array.getElem?_setIfInBounds_ne this]
theorem put_both {a a' : Act} (d : Option Tmp) (v : Value) (t : Nat) (hs : a.tmps.size = a'.tmps.size) (h : a.tmps[t]? = a'.tmps[t]?) : (a.put d v).tmps[t]? = (a'.put d v).tmps[t]? := by
  by_cases e : d = some t
  · subst e
    simp [Act.put, Array.getElem?_setIfInBounds, hs]
  · rw [put_at _ _ _ _ e, put_at _ _ _ _ e, h]
theorem ag_fr {o : Oper} {a : Act} {S1 S2 : Nat → Bool} {e1 e2 : Nat → Value} : ∀ n, (∀ k, k < n → S1 k = true → S2 k = true → e1 k = e2 k) → (∀ k, k < n → S1 k ≠ S2 k → ∀ d, dstOf ops k = some d → d ∉ o.looksAt ops) →
    Ag ops o (fr ops a S1 e1 n) (fr ops a S2 e2 n)
  | 0, _, _ => ⟨rfl, fun _ _ => rfl⟩
  | n + 1, h1, h2 => by
    obtain ⟨i1, i2⟩ := ag_fr n (fun k hk => h1 k (by omega)) (fun k hk => h2 k (by omega))
    unfold fr
    cases hS1 : S1 n <;> cases hS2 : S2 n
    · exact ⟨i1, i2⟩
    · simp only [if_true, Bool.false_eq_true, if_false]
      exact ⟨by rw [put_size]; exact i1, fun t ht => by rw [put_at _ _ _ _ (fun e => h2 n (by omega) (by rw [hS1, hS2]; simp) t e ht)]; exact i2 t ht⟩
    · simp only [if_true, Bool.false_eq_true, if_false]
      exact ⟨by rw [put_size]; exact i1, fun t ht => by rw [put_at _ _ _ _ (fun e => h2 n (by omega) (by rw [hS1, hS2]; simp) t e ht)]; exact i2 t ht⟩
    · simp only [if_true]
      rw [h1 n (by omega) hS1 hS2]
      exact ⟨by rw [put_size, put_size]; exact i1, fun t ht => put_both _ _ _ i1 (i2 t ht)⟩
def giv (P : Program) (Φ : Value → World → Prop) : Result Next → Prop
  | .ok (.value x) w' => Φ x w'
  | .ok .skip w' => Φ undef w'
  | .ok (.enter f args) w' => Calls P f args w' fun e w'' => ∃ x, e = .returned x ∧ Φ x w''
  | _ => False
def Gives (P : Program) (o : Oper) (a : Act) (w : World) (Φ : Value → World → Prop) : Prop := giv P Φ ((execOp a.eval o).run P w)
theorem Gives.wp {o : Oper} {a : Act} {w : World} {Φ : Value → World → Prop} {K : Act → World → Prop} {Q : Exit → Act → World → Prop} (h : Gives P o a w Φ) (hK : ∀ x w', Φ x w' → K (a.put o.dst x) w') : o.wp P a w K Q := by
  unfold Gives at h
  unfold Oper.wp
  generalize (execOp a.eval o).run P w = r at *
  cases r with
  | ok n w' =>
    cases n <;> simp only [giv] at h <;> simp only [Oper.upon]
    case value u => exact hK _ _ h
    case skip => exact hK _ _ h
    case enter f args => exact h.mono fun e w'' ⟨x, he, hx⟩ => by subst he; exact hK _ _ hx
  | halt x w' => simp only [giv] at h
theorem Gives.congr {o : Oper} {a a' : Act} {w : World} {Φ : Value → World → Prop} (he : execOp a.eval o = execOp a'.eval o) (h : Gives P o a' w Φ) : Gives P o a w Φ := by
  unfold Gives at *
  rw [he]
  exact h
theorem Gives.mono {o : Oper} {a : Act} {w : World} {Φ Ψ : Value → World → Prop} (h : Gives P o a w Φ) (hK : ∀ x w', Φ x w' → Ψ x w') : Gives P o a w Ψ := by
  unfold Gives at *
  generalize (execOp a.eval o).run P w = r at *
  cases r with
  | ok n w' =>
    cases n <;> simp only [giv] at h ⊢
    case value u => exact hK _ _ h
    case skip => exact hK _ _ h
    case enter f args => exact h.mono fun e w'' ⟨x, he, hx⟩ => ⟨x, he, hK _ _ hx⟩
  | halt x w' => simp only [giv] at h
variable (P md ops)
variable (Inv : (Nat → Bool) → World → Prop) (V : Nat → Value → World → Prop) (wild : List Nat)
def wantedAt (a : Act) (e : Nat → Value) (k : Nat) (o : Oper) : Bool := Region.wanted o (yielded ops (fr ops a (fun _ => true) e k).tmps)
variable {P md ops Inv V wild}
theorem all_listed {n : Nat} {wild : List Nat} (hm : ManyOk md ops n wild) {L : Array Bool} (hs : L.size = ops.size) (hr : Region.ready md ops L = []) : ∀ i, i < n → L.getD i false = true := by
  intro i
  induction i using Nat.strongRecOn with
  | _ i ih =>
    intro hi
    cases hl : L.getD i false with
    | true => rfl
    | false =>
      have hi' : i < ops.size := by have := hm.le; omega
      have hmem : i ∈ Region.ready md ops L := mem_ready.2 ⟨getD_in (by omega) hl, ops[i], Array.getElem?_eq_getElem hi', fun e he hb => ih e.on (hm.back i _ hi (Array.getElem?_eq_getElem hi') e he hb) (by
        have := hm.back i _ hi (Array.getElem?_eq_getElem hi') e he hb
        omega)⟩
      rw [hr] at hmem
      cases hmem
theorem countP_one {p q : Nat → Bool} {j : Nat} (hj : p j = true) (hq : q j = false) (h : ∀ i, i ≠ j → q i = p i) : ∀ n, j < n → (List.range n).countP p = (List.range n).countP q + 1
  | 0, hn => absurd hn (by omega)
  | n + 1, hn => by
    rw [List.range_succ, List.countP_append, List.countP_append]
    by_cases hjn : j = n
    · subst hjn
      have : (List.range j).countP p = (List.range j).countP q := List.countP_congr fun i hi => by
        have := List.mem_range.1 hi
        rw [h i (by omega)]
      rw [this]
      simp [hj, hq]
    · have ih := countP_one hj hq h n (by omega)
      rw [ih]
      simp only [List.countP_cons, List.countP_nil]
      rw [h n (by omega)]
      omega
theorem setL_at {L : Array Bool} {n j : Nat} (hs : L.size = n) (hj : j < n) (i : Nat) : (L.setIfInBounds j true).getD i false = on (L.getD · false) j i := by
  unfold on
  by_cases h : i = j
  · subst h
    simp [hs, hj]
  · rw [getD_set_ne false (Ne.symm h)]
    simp [h]
end
end Go.Proofs.YtmiceacjpadllaaGreatDoor
namespace Go.Proofs.YtmiceacjpadllaaGreatDoor
open Go.RowKit
structure Sp where
  sh : Value → Prop
  wit : Value
  shw : sh wit
  F : Value → World → Prop
  shF : ∀ x w, F x w → sh x
  st : ∀ x w1 w2, Below w1.heap.size w1 w2 → F x w1 → F x w2
def Sp.any : Sp := ⟨fun _ => True, undef, trivial, fun _ _ => True, fun _ _ _ => trivial, fun _ _ _ _ h => h⟩
def Sp.val (u : Value) : Sp := ⟨fun x => x = u, u, rfl, fun x _ => x = u, fun _ _ h => h, fun _ _ _ _ h => h⟩
def Sp.rsl {α : Type} (E : Rel α) (ok : Nat → Prop) (l : List α) : Sp :=
  ⟨fun x => ∃ A c, x = .slice A l.length c ∧ l.length ≤ c, .slice none l.length l.length, ⟨none, l.length, rfl, Nat.le_refl _⟩, fun x w => RSl E ok w x l, fun x w h => by obtain ⟨A, c, hv, hc, _⟩ := h.form; exact ⟨A, c, hv, hc⟩, fun _ _ _ hb h => h.below hb⟩
def Sp.rb (ok : Nat → Prop) (l : List UInt8) : Sp := Sp.rsl rU8 ok l
section
variable {P : Program} {ops : Array Oper} {md : Region.Mode} {w : World} {L : List (Nat × Sp)} {wild : List Nat} {v : Nat → Value} {Q : Act → World → Prop}
@[go_sem] theorem giv_enter {Φ : Value → World → Prop} {f : FuncId} {args : Array Value} {w' : World} : giv P Φ (.ok (.enter f args) w') = Calls P f args w' fun e w'' => ∃ x, e = .returned x ∧ Φ x w'' := rfl
@[go_sem] theorem giv_value {Φ : Value → World → Prop} {x : Value} {w' : World} : giv P Φ (.ok (.value x) w') = Φ x w' := rfl
@[go_sem] theorem giv_skip {Φ : Value → World → Prop} {w' : World} : giv P Φ (.ok .skip w') = Φ undef w' := rfl
end
end Go.Proofs.YtmiceacjpadllaaGreatDoor
namespace Go.Proofs.YtmiceacjpadllaaGreatDoor
open Go.RowKit
theorem OwnB.rb {base : Nat} {w : World} {A : Option Addr} {n c : Nat} {l : List UInt8} (h : OwnB base w A n c l) (hm : n ≤ 140737488351232) : RB (fun b => base ≤ b) w (.slice A n c) l := by
  refine RB.mk_ h.rd h.cap hm fun h0 a ha => ?_
  subst ha
  exact (World.ownsRow.lt h _ rfl).1
theorem clone_rb {ok : Nat → Prop} (v : Value) (l : List UInt8) (w : World) (hr : RB ok w v l) :
    Calls Tryz.prog 20 #[v] w fun e w' => (∃ v', e = .returned v' ∧ RB (fun b => w.heap.size ≤ b) w' v' l) ∧ Below w.heap.size w w' := by
  obtain ⟨A, c, rfl, hc, hm, hrd, _⟩ := hr.open_
  exact (clone_any A _ c l w hrd (by omega)).mono fun e w' ⟨⟨A', c', he, ho⟩, hb⟩ => ⟨⟨_, he, ho.rb hm⟩, hb⟩
end Go.Proofs.YtmiceacjpadllaaGreatDoor
namespace Go.Proofs.YtmiceacjpadllaaGreatDoor
open Go.RowKit
section
variable {w w' : World} {g : Nat} {T : TypeId} {C : Array Value}
theorem Blk.range (h : Blk w g T C) : w.rangeAt g 0 C.toList := fun j v hv => by
  rw [Nat.zero_add, h.cell j]
  simpa using hv
theorem Blk.there (h : Blk w g T C) : w.there g 0 C.size := fun j hj => by
  rw [Nat.zero_add]
  exact ⟨by rw [h.cell j, Array.getElem?_eq_getElem hj]; rfl, h.frozen j⟩
theorem Blk.setCells_at : ∀ (vs : List Value) (o : Nat) {w : World} {C : Array Value}, Blk w g T C → Blk (w.setCells g o vs) g T ((List.range vs.length).foldl (fun a i => a.setIfInBounds (o + i) (vs.getD i undef)) C)
  | [], _, _, _, h => h
  | v :: r, o, w, C, h => by
    have := Blk.setCells_at r (o + 1) (h.set_ o v)
    rw [World.setCells, List.length_cons, List.range_succ_eq_map, List.foldl_cons, List.foldl_map]
    simpa [Nat.add_assoc, Nat.add_comm 1] using this
theorem foldl_set (vs : List Value) : ∀ (n : Nat) (C : Array Value), n ≤ vs.length → C.size = vs.length → ((List.range n).foldl (fun a i => a.setIfInBounds (0 + i) (vs.getD i undef)) C).toList = vs.take n ++ C.toList.drop n ∧ ((List.range n).foldl (fun a i => a.setIfInBounds (0 + i) (vs.getD i undef)) C).size = vs.length
  | 0, C, _, hs => by simp [hs]
  | n + 1, C, hn, hs => by
    obtain ⟨h1, h2⟩ := foldl_set vs n C (by omega) hs
    rw [List.range_succ, List.foldl_append, List.foldl_cons, List.foldl_nil]
    refine ⟨?_, by simpa using h2⟩
    rw [Array.toList_setIfInBounds, h1, Nat.zero_add]
    have hl : (vs.take n).length = n := by simp; omega
    have hd : C.toList.drop n = C.toList[n]'(by simp [hs]; omega) :: C.toList.drop (n + 1) := List.drop_eq_getElem_cons (by simp [hs]; omega)
    rw [hd, List.set_append_right _ _ (by omega), hl, Nat.sub_self, List.set_cons_zero, List.take_succ_eq_append_getElem (by omega), List.append_assoc]
    simp [List.getD, List.getElem?_eq_getElem (show n < vs.length by omega)]
theorem Blk.setCells (h : Blk w g T C) (cs : Array Value) (hs : C.size = cs.size) : Blk (w.setCells g 0 cs.toList) g T cs := by
  have h1 := h.setCells_at cs.toList 0
  obtain ⟨h2, _⟩ := foldl_set cs.toList cs.toList.length C (Nat.le_refl _) (by simpa using hs)
  have h3 : (List.range cs.toList.length).foldl (fun a i => a.setIfInBounds (0 + i) (cs.toList.getD i undef)) C = cs := by
    refine Array.ext' ?_
    rw [h2, List.take_length, List.drop_of_length_le (by simp [hs]), List.append_nil]
  rwa [h3] at h1
theorem Kp.setCells {ok : Nat → Prop} {a : World} {b : Nat} (hb : b < a.heap.size → ¬ ok b) : ∀ (vs : List Value) (o : Nat) {w : World}, Kp ok a w → Kp ok a (w.setCells b o vs)
  | [], _, _, h => h
  | v :: r, o, _, h => by rw [World.setCells]; exact Kp.setCells hb r (o + 1) (h.setCell (p := ⟨b, o, none⟩) hb v)
theorem below_setCells {B : Nat} {a : World} {b : Nat} (hb : B ≤ b) : ∀ (vs : List Value) (o : Nat) {w : World}, Below B a w → Below B a (w.setCells b o vs)
  | [], _, _, h => h
  | v :: r, o, _, h => by rw [World.setCells]; exact below_setCells hb r (o + 1) (h.setCell (p := ⟨b, o, none⟩) hb v)
@[simp] theorem size_setCells {b : Nat} : ∀ (vs : List Value) (o : Nat) {w : World}, (w.setCells b o vs).heap.size = w.heap.size
  | [], _, _ => rfl
  | v :: r, o, _ => by rw [World.setCells, size_setCells r (o + 1)]; simp
theorem Blk.loadVar {P : Program} {ty : TypeId} {d : TypeDesc} (h : Blk w g T C) (hu : P.underlying ty = some d) (hd : d.isRow = true) (hi : (P.info? ty).map (·.size) = some C.size) : (Go.loadVar ty ⟨g, 0, none⟩).run P w = .ok (.agg C) w := by
  have := run_loadVar_mid (P := P) w g 0 ty C.toList d h.range hu hd (by simpa using hi)
  simpa using this
variable {P : Program} {ops : Array Oper} {rest : List Oper} {o : Oper} {a : Act} {Q : Exit → Act → World → Prop}
theorem wpList_storeB (hgd : o.guard = none) {ty : TypeId} {x y : Operand} (ho : o.op = .store ty x y) (cs : Array Value) (hx : a.eval x = .pointer (some ⟨g, 0, none⟩)) (hy : a.eval y = .agg cs) (hk : Blk w g T C) (hs : C.size = cs.size) (hi : (P.info? ty).map (·.size) = some cs.size) (h1 : cs.all (·.oneCell') = true)
    (h : Blk (w.setCells g 0 cs.toList) g T cs → wpList P ops Q rest (a.put o.dst undef) (w.setCells g 0 cs.toList)) : wpList P ops Q (o :: rest) a w :=
  wpList_store_mid hgd ty x y ho g 0 cs hx hy (hs ▸ hk.there) hi h1 (h (hk.setCells cs hs))
end
theorem asAddr_ok {P : Program} (p : Addr) (w : World) : (asAddr (.pointer (some p))).run P w = .ok p w := rfl
structure CmdD where
  kind : Int
  n : Int
  flag : Bool
  key : List UInt8
  from_ : List UInt8
  upto : List UInt8
  pairs : List PairD
def cmdCs (kind n : Int) (flag : Bool) (key fr ut pairs : Value) : Array Value :=
  #[.int .i64 kind, .int .i64 0, .int .u64 0, .int .i64 n, .int .i64 0, .int .i64 0, .bool flag, key, fr, ut, pairs, .slice none 0 0, .slice none 0 0, .int .i64 0, .string ⟨#[]⟩, .slice none 0 0, .slice none 0 0,
    .int .i64 0, .int .i64 0, .string ⟨#[]⟩, .slice none 0 0, .bool false, .int .i64 0, .bool false, .string ⟨#[]⟩]
theorem cmdCs_one {kind n : Int} {flag : Bool} {key fr ut pairs : Value} (h1 : key.oneCell' = true) (h2 : fr.oneCell' = true) (h3 : ut.oneCell' = true) (h4 : pairs.oneCell' = true) : (cmdCs kind n flag key fr ut pairs).all (·.oneCell') = true := by
  have e : ∀ v : Value, v.oneCell' = true → v.oneCell' = true := fun _ h => h
  simp only [cmdCs, List.all_toArray, List.all_cons, List.all_nil, h1, h2, h3, h4, Bool.true_and, Bool.and_true]
  rfl
structure CmdR (ok : Nat → Prop) (w : World) (key fr ut pairs : Value) (d : CmdD) : Prop where
  key : RB ok w key d.key
  fr : RB ok w fr d.from_
  upto : RB ok w ut d.upto
  pairs : RSl rPair ok w pairs d.pairs
section
variable {ok ok' : Nat → Prop} {w w' : World} {key fr ut pairs : Value} {d : CmdD}
theorem CmdR.below (h : CmdR ok w key fr ut pairs d) (hb : Below w.heap.size w w') : CmdR ok w' key fr ut pairs d :=
  ⟨h.key.below hb, h.fr.below hb, h.upto.below hb, h.pairs.below hb⟩
theorem CmdR.kp (hk : Kp ok w w') (h : CmdR ok w key fr ut pairs d) : CmdR ok w' key fr ut pairs d := ⟨h.key.kp hk, h.fr.kp hk, h.upto.kp hk, h.pairs.kp hk⟩
theorem CmdR.mono (hm : ∀ b, ok b → b < w.heap.size → ok' b) (h : CmdR ok w key fr ut pairs d) : CmdR ok' w key fr ut pairs d := ⟨h.key.mono (by decide) hm, h.fr.mono (by decide) hm, h.upto.mono (by decide) hm, h.pairs.mono (by decide) hm⟩
end
end Go.Proofs.YtmiceacjpadllaaGreatDoor
namespace Go.Proofs.YtmiceacjpadllaaGreatDoor
open Go.RowKit
theorem bytes_rb {ok ok2 : Nat → Prop} (u v : Value) (l p : List UInt8) (w : World) (h1 : RB ok w u l) (h2 : RB ok2 w v p) :
    Calls Tryz.prog 28 #[u, v] w fun e w' => e = .returned (.bool (decide (l = p))) ∧ w = w' := by
  obtain ⟨A, c, rfl, _, _, r1, _⟩ := h1.open_
  obtain ⟨A2, c2, rfl, _, _, r2, _⟩ := h2.open_
  have hE : (l == p) = decide (l = p) := by
    by_cases h : l = p
    · simp [h]
    · simp [h]
  exact (bytes_any A A2 _ c _ c2 l p w r1 r2).mono fun e w' ⟨he, hw⟩ => ⟨by rw [he]; exact ret_bool hE, hw⟩
end Go.Proofs.YtmiceacjpadllaaGreatDoor
namespace Go.Proofs.YtmiceacjpadllaaGreatDoor
open Go.RowKit
structure SpK (h : Nat) where
  sh : Value → Prop
  wit : Value
  shw : sh wit
  F : Value → World → Prop
  shF : ∀ x w, F x w → sh x
  st : ∀ x w1 w2, Kp (fun b => b ≠ h) w1 w2 → F x w1 → F x w2
def SpK.any (h : Nat) : SpK h := ⟨fun _ => True, undef, trivial, fun _ _ => True, fun _ _ _ => trivial, fun _ _ _ _ h => h⟩
def SpK.val (h : Nat) (u : Value) : SpK h := ⟨fun x => x = u, u, rfl, fun x _ => x = u, fun _ _ h => h, fun _ _ _ _ h => h⟩
def SpK.rb (h : Nat) (ok : Nat → Prop) (l : List UInt8) : SpK h :=
  ⟨fun x => ∃ A c, x = .slice A l.length c ∧ l.length ≤ c, .slice none l.length l.length, ⟨none, l.length, rfl, Nat.le_refl _⟩, fun x w => RB (fun b => ok b ∧ b ≠ h) w x l, fun x w h => by obtain ⟨A, c, hv, hc, _⟩ := h.form; exact ⟨A, c, hv, hc⟩, fun _ _ _ hk h => h.kp (hk.mono fun _ h => h.2)⟩
structure LaterS (w : World) (h : Nat) (T : TypeId) (A B : Array Value) where
  val : World
  kp : Kp (fun b => b ≠ h) w val
  blk : Blk val h T A ∨ Blk val h T B
section
variable {P : Program} {ops : Array Oper} {w : World} {h : Nat} {T : TypeId} {A B : Array Value} {st : Nat} {L : List (Nat × SpK h)} {wild : List Nat} {v : Nat → Value} {Q : Act → World → Prop}
theorem LaterS.size (s : LaterS w h T A B) : w.heap.size ≤ s.val.heap.size := s.kp.size
theorem LaterS.cell {p : Addr} {u : Value} (hc : w.cell? p = some u) (hp : p.block ≠ h) (s : LaterS w h T A B) : s.val.cell? p = some u := s.kp.cell hp hc
theorem LaterS.own {i : Nat} {u : Value} (ha : A[i]? = some u) (hb : B[i]? = some u) (s : LaterS w h T A B) : s.val.cell? ⟨h, i, none⟩ = some u := by
  rcases s.blk with hk | hk
  · exact (hk.cell i).trans ha
  · exact (hk.cell i).trans hb
end
end Go.Proofs.YtmiceacjpadllaaGreatDoor
namespace Go.Proofs.YtmiceacjpadllaaGreatDoor
open Go.RowKit
structure SpB (bad : Nat → Prop) where
  sh : Value → Prop
  wit : Value
  shw : sh wit
  F : Value → World → Prop
  shF : ∀ x w, F x w → sh x
  st : ∀ x w1 w2, Kp (fun b => ¬ bad b) w1 w2 → F x w1 → F x w2
def SpB.any (bad : Nat → Prop) : SpB bad := ⟨fun _ => True, undef, trivial, fun _ _ => True, fun _ _ _ => trivial, fun _ _ _ _ h => h⟩
def SpB.val (bad : Nat → Prop) (u : Value) : SpB bad := ⟨fun x => x = u, u, rfl, fun x _ => x = u, fun _ _ h => h, fun _ _ _ _ h => h⟩
def SpB.len (bad : Nat → Prop) (n : Nat) : SpB bad := ⟨fun x => ∃ A c, x = .slice A n c, .slice none n n, ⟨none, n, rfl⟩, fun x _ => ∃ A c, x = .slice A n c, fun _ _ h => h, fun _ _ _ _ h => h⟩
def SpB.rsl {α : Type} (bad : Nat → Prop) (E : Rel α) (ok : Nat → Prop) (hok : ∀ b, ok b → ¬ bad b) (l : List α) : SpB bad :=
  ⟨fun x => ∃ A c, x = .slice A l.length c ∧ l.length ≤ c, .slice none l.length l.length, ⟨none, l.length, rfl, Nat.le_refl _⟩, fun x w => RSl E ok w x l, fun x w h => by obtain ⟨A, c, hv, hc, _⟩ := h.form; exact ⟨A, c, hv, hc⟩, fun _ _ _ hk h => h.kp (hk.mono hok)⟩
structure LaterB (w : World) (bad : Nat → Prop) where
  val : World
  kp : Kp (fun b => ¬ bad b) w val
instance laterB_nonempty (w : World) (bad : Nat → Prop) : Nonempty (LaterB w bad) := ⟨⟨w, Kp.refl _ _⟩⟩
theorem LaterB.cell {w : World} {bad : Nat → Prop} {p : Addr} {u : Value} (hc : w.cell? p = some u) (hp : ¬ bad p.block) (s : LaterB w bad) : s.val.cell? p = some u := s.kp.cell hp hc
end Go.Proofs.YtmiceacjpadllaaGreatDoor
namespace Go.Proofs.YtmiceacjpadllaaGreatDoor
open Go.RowKit
structure LaterT (w : World) (okI : Nat → Prop) where
  val : World
  kp : Kp okI w val
instance {w : World} {okI : Nat → Prop} : Nonempty (LaterT w okI) := ⟨⟨w, Kp.refl _ _⟩⟩
end Go.Proofs.YtmiceacjpadllaaGreatDoor
namespace Go.Proofs.YtmiceacjpadllaaGreatDoor
open Go.RowKit
abbrev nl : Value := .slice none 0 0
theorem Tryz.infoCmd : (Tryz.prog.info? 55).map (·.size) = some 25 := by kernel_rfl
end Go.Proofs.YtmiceacjpadllaaGreatDoor
namespace Go.Proofs.YtmiceacjpadllaaGreatDoor
open Go.RowKit
structure RouteR (ok : Nat → Prop) (w : World) (a c : Value) (d : RouteD) : Prop where
  s : RSl rOwner ok w a d.s
  c : RB ok w c d.c
  e : I64 d.e
  b : I64 d.b
  m : I64 d.m
section
variable {ok ok' : Nat → Prop} {w w' : World} {a c : Value} {d : RouteD}
theorem RouteR.below (h : RouteR ok w a c d) (hb : Below w.heap.size w w') : RouteR ok w' a c d := ⟨h.s.below hb, h.c.below hb, h.e, h.b, h.m⟩
theorem RouteR.kp (hk : Kp ok w w') (h : RouteR ok w a c d) : RouteR ok w' a c d := ⟨h.s.kp hk, h.c.kp hk, h.e, h.b, h.m⟩
theorem RouteR.mono (hm : ∀ b, ok b → b < w.heap.size → ok' b) (h : RouteR ok w a c d) : RouteR ok' w a c d := ⟨h.s.mono (by decide) hm, h.c.mono (by decide) hm, h.e, h.b, h.m⟩
end
end Go.Proofs.YtmiceacjpadllaaGreatDoor
namespace Go.Proofs.YtmiceacjpadllaaGreatDoor
open Go.RowKit
theorem Blk.set5 {w : World} {g : Nat} {T : TypeId} {C : Array Value} (h : Blk w g T C) (hs : C.size = 5) (y0 y1 y2 y3 y4 : Value) : Blk (((((w.setCell ⟨g, 0, none⟩ y0).setCell ⟨g, 1, none⟩ y1).setCell ⟨g, 2, none⟩ y2).setCell ⟨g, 3, none⟩ y3).setCell ⟨g, 4, none⟩ y4) g T #[y0, y1, y2, y3, y4] := by
  have := h.setCells #[y0, y1, y2, y3, y4] (by simpa using hs)
  simpa [World.setCells] using this
end Go.Proofs.YtmiceacjpadllaaGreatDoor
namespace Go.Proofs.YtmiceacjpadllaaGreatDoor
open Go.RowKit
theorem Tryz.rowOwner : RowTy Tryz.prog 35 79 2 32 := rowTy_mk Tryz.underlying35 (by kernel_rfl)
end Go.Proofs.YtmiceacjpadllaaGreatDoor
namespace Go.Proofs.YtmiceacjpadllaaGreatDoor
open Go.RowKit
structure IdxR (ok : Nat → Prop) (w : World) (a : Value) (d : IdxD) : Prop where
  cols : RSl rInt ok w a d.cols
  id : I64 d.id
  nm : d.name.size ≤ 9223372036854775807
theorem IdxR.below {ok : Nat → Prop} {w w' : World} {a : Value} {d : IdxD} (h : IdxR ok w a d) (hb : Below w.heap.size w w') : IdxR ok w' a d := ⟨h.cols.below hb, h.id, h.nm⟩
end Go.Proofs.YtmiceacjpadllaaGreatDoor
namespace Go.Proofs.YtmiceacjpadllaaGreatDoor
open Go.RowKit
def RetB (e : Ending) (p : Prop) : Prop := ∃ b, e = .returned (.bool b) ∧ (b = true ↔ p)
theorem RetB.mk {v : Value} {p : Prop} (b : Bool) (hv : v = .bool b) (h : b = true ↔ p) : RetB (.returned v) p := ⟨b, by rw [hv], h⟩
end Go.Proofs.YtmiceacjpadllaaGreatDoor
namespace Go.Proofs.YtmiceacjpadllaaGreatDoor
open Go.RowKit
theorem TabR.kp {ok : Nat → Prop} {w w' : World} {a b : Value} {d : TabD} (hk : Kp ok w w') (h : TabR ok w a b d) : TabR ok w' a b d := ⟨h.cols.kp hk, h.key.kp hk, h.id, h.nm⟩
theorem TabR.mono {ok ok' : Nat → Prop} {w : World} {a b : Value} {d : TabD} (hm : ∀ b, ok b → b < w.heap.size → ok' b) (h : TabR ok w a b d) : TabR ok' w a b d := ⟨h.cols.mono (by decide) hm, h.key.mono (by decide) hm, h.id, h.nm⟩
theorem IdxR.kp {ok : Nat → Prop} {w w' : World} {a : Value} {d : IdxD} (hk : Kp ok w w') (h : IdxR ok w a d) : IdxR ok w' a d := ⟨h.cols.kp hk, h.id, h.nm⟩
theorem IdxR.mono {ok ok' : Nat → Prop} {w : World} {a : Value} {d : IdxD} (hm : ∀ b, ok b → b < w.heap.size → ok' b) (h : IdxR ok w a d) : IdxR ok' w a d := ⟨h.cols.mono (by decide) hm, h.id, h.nm⟩
def rTab : Rel TabD where
  sz := 4
  wt := 72
  rel ok w cs d := ∃ a b, cs = [.int .i64 d.id, .string d.name, a, b] ∧ TabR ok w a b d
  len := by rintro ok w cs d ⟨a, c, rfl, _⟩; rfl
  one := by
    rintro ok w cs d ⟨a, c, rfl, h⟩ u hu
    simp at hu
    rcases hu with rfl | rfl | rfl | rfl
    · rfl
    · rfl
    · exact h.cols.one
    · exact h.key.one
  kp := by
    rintro ok w w' cs d hk ⟨a, c, rfl, h⟩
    exact ⟨a, c, rfl, h.kp hk⟩
  mono := by
    rintro ok ok' w cs d hm ⟨a, c, rfl, h⟩
    exact ⟨a, c, rfl, h.mono hm⟩
def rIdx : Rel IdxD where
  sz := 7
  wt := 80
  rel ok w cs d := ∃ a, cs = [.int .i64 d.id, .int .i64 d.table, .string d.name, a, .bool d.uniq, .int .i64 d.state, .bool d.bad] ∧ IdxR ok w a d
  len := by rintro ok w cs d ⟨a, rfl, _⟩; rfl
  one := by
    rintro ok w cs d ⟨a, rfl, h⟩ u hu
    simp at hu
    rcases hu with rfl | rfl | rfl | rfl | rfl | rfl | rfl
    · rfl
    · rfl
    · rfl
    · exact h.cols.one
    · rfl
    · rfl
    · rfl
  kp := by
    rintro ok w w' cs d hk ⟨a, rfl, h⟩
    exact ⟨a, rfl, h.kp hk⟩
  mono := by
    rintro ok ok' w cs d hm ⟨a, rfl, h⟩
    exact ⟨a, rfl, h.mono hm⟩
structure CatD where
  ver : Int
  next : Int
  tabs : List TabD
  idxs : List IdxD
structure CatR (ok : Nat → Prop) (w : World) (a b : Value) (d : CatD) : Prop where
  tabs : RSl rTab ok w a d.tabs
  idxs : RSl rIdx ok w b d.idxs
theorem CatR.below {ok : Nat → Prop} {w w' : World} {a b : Value} {d : CatD} (h : CatR ok w a b d) (hb : Below w.heap.size w w') : CatR ok w' a b d := ⟨h.tabs.below hb, h.idxs.below hb⟩
theorem set4_cells {w : World} {g : Nat} {t : TypeId} {x0 x1 x2 x3 : Value} (h : Blk w g t #[x0, x1, x2, x3]) : w.cell? ⟨g, 0, none⟩ = some x0 ∧ w.cell? ⟨g, 1, none⟩ = some x1 ∧ w.cell? ⟨g, 2, none⟩ = some x2 ∧ w.cell? ⟨g, 3, none⟩ = some x3 := ⟨h.cell 0, h.cell 1, h.cell 2, h.cell 3⟩
end Go.Proofs.YtmiceacjpadllaaGreatDoor
