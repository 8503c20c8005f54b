/- Vault: logs, and what stands in records, as plain data. No walk.
Vault: what is read of records, as plain data. No walk.
Vault: groups of records, read one behind the other, as plain data. No walk.
Vault: a group of records makes one log out of another one; a part of it does nothing. No walk.
Vault: groups cut off ahead; how many sectors a group has. No walk.
From a row's reading to the walk's words, and back: slices of values, of bytes; the end of a law that changes nothing.
From a row's reading to plain data: slices, structs; numbers, bools, lists of bytes. No program in sight but the types at the end.
Vault: logs in memory: relations.
Vault: numbers as bytes, the bits. No walk.
Vault: the opener of a log that came in.
Vault: when two logs are the same. No walk. -/
import Derived.Test.YtnlhjhpikjmoaaaGreatDoorReg
import Derived.Test.YtnlhjhpikjmoaaaGreatDoorV5
import Derived.Test.YtnlhjhpikjmoaaaGreatDoorRows
import Derived.ProofKit
import Derived.SizedLaws
import Derived.Deep.Slices
import Derived.Deep.Strs
import Derived.Lib.SmallJoins
import Derived.Test.YtnlhjhpikjmoaaaGreatDoorW4
import Derived.Deep.Fields
namespace Go.Proofs.YtnlhjhpikjmoaaaGreatDoor
def numF : Nat → Nat → List UInt8
  | 0, v => [UInt8.ofNat v]
  | f + 1, v => if v < 128 then [UInt8.ofNat v] else UInt8.ofNat (v % 128 + 128) :: numF f (v / 128)
def numB (v : Nat) : List UInt8 := numF 9 v
theorem numF_pos : ∀ (f v : Nat), 0 < (numF f v).length
  | 0, _ => by simp [numF]
  | f + 1, v => by unfold numF; split <;> simp
theorem numF_len : ∀ (f v : Nat), (numF f v).length ≤ f + 1
  | 0, _ => by simp [numF]
  | f + 1, v => by
    unfold numF
    split
    · simp
    · have := numF_len f (v / 128)
      simp
      omega
theorem numB_len (v : Nat) : (numB v).length ≤ 10 := numF_len 9 v
theorem numB_pos (v : Nat) : 0 < (numB v).length := numF_pos 9 v
def txtB (b : List UInt8) : List UInt8 := numB b.length ++ b
structure VEnt where
  term : Nat
  idx : Nat
  data : List UInt8
structure VLog where
  term : Nat
  vote : Int
  si : Nat
  st : Nat
  sd : List UInt8
  es : List VEnt
def VLog.zero : VLog := ⟨0, 0, 0, 0, [], []⟩
def rightE (top : Nat) : Nat → Nat → List VEnt → Bool
  | _, _, [] => true
  | t, i, e :: r => e.idx == i + 1 && (decide (t ≤ e.term) && (decide (e.term ≤ top) && (decide (e.data.length ≤ 32668) && rightE top e.term (i + 1) r)))
def rightV (l : VLog) : Bool :=
  decide (l.st ≤ l.term) && (decide (l.si = 0 ↔ l.st = 0) && (decide (l.si ≤ 4611686018427387904) && (decide (l.sd.length ≤ 32668) && (decide (0 ≤ l.vote) && (decide (l.vote ≤ 5) && rightE l.term (max l.st 1) l.si l.es)))))
inductive Th where
  | beg : Th
  | fol : Th
  | hard (t v : Nat) : Th
  | snap (i t : Nat) (d : List UInt8) : Th
  | back (n : Nat) : Th
  | ent (t : Nat) (d : List UInt8) : Th
  | fin : Th
def encT : Th → List UInt8
  | .beg => numB 1
  | .fol => numB 2
  | .hard t v => numB 3 ++ (numB t ++ numB v)
  | .snap i t d => numB 4 ++ (numB i ++ (numB t ++ txtB d))
  | .back n => numB 5 ++ numB n
  | .ent t d => numB 6 ++ (numB t ++ txtB d)
  | .fin => numB 7
def changeV (l : VLog) (i t : Nat) (d : List UInt8) : VLog :=
  let es := l.es.filter fun e => decide (i < e.idx)
  { l with si := i, st := t, sd := d, es := match es with
    | [] => []
    | e :: r => if e.idx = i + 1 then e :: r else [] }
def comN : List VEnt → List VEnt → Nat
  | a :: x, b :: y => if a.term = b.term ∧ a.idx = b.idx ∧ a.data = b.data then comN x y + 1 else 0
  | _, _ => 0
def backT (l : List VEnt) (n : Nat) : List Th := match l[n]? with
  | some e => [.back e.idx]
  | none => []
def thingsV (f t : VLog) (kind : Th) : List Th :=
  let f2 := if f.si = t.si ∧ f.st = t.st ∧ f.sd = t.sd then f else changeV f t.si t.st t.sd
  let n := comN f2.es t.es
  [kind] ++ ((if f.term = t.term ∧ f.vote = t.vote then [] else [.hard t.term t.vote.toNat]) ++ ((if f.si = t.si ∧ f.st = t.st ∧ f.sd = t.sd then [] else [.snap t.si t.st t.sd]) ++
    (backT f2.es n ++ ((t.es.drop n).map (fun e => .ent e.term e.data) ++ [.fin]))))
def packB (lim : Nat) : List UInt8 → List (List UInt8) → List (List UInt8)
  | b, [] => [b]
  | b, t :: r => if b.length + t.length > lim then b :: packB lim t r else packB lim (b ++ t) r
def recordsV (f t : VLog) (kind : Th) : List (List UInt8) := packB 32768 [] ((thingsV f t kind).map encT)
end Go.Proofs.YtnlhjhpikjmoaaaGreatDoor
namespace Go.Proofs.YtnlhjhpikjmoaaaGreatDoor
def conE : Nat → List VEnt → Prop
  | _, [] => True
  | i, e :: r => e.idx = i + 1 ∧ conE (i + 1) r
theorem rightE_con {top : Nat} : ∀ {t i : Nat} {l : List VEnt}, rightE top t i l = true → conE i l
  | _, _, [], _ => trivial
  | t, i, e :: r, h => by
    simp only [rightE, Bool.and_eq_true, beq_iff_eq] at h
    exact ⟨h.1, rightE_con h.2.2.2.2⟩
theorem conE_drop : ∀ {i : Nat} {l : List VEnt}, conE i l → ∀ k, conE (i + k) (l.drop k)
  | _, [], _, k => by rw [List.drop_nil]; trivial
  | i, e :: r, h, 0 => h
  | i, e :: r, h, k + 1 => by
    rw [List.drop_succ_cons, show i + (k + 1) = i + 1 + k by omega]
    exact conE_drop h.2 k
theorem conE_get : ∀ {i : Nat} {l : List VEnt}, conE i l → ∀ (k : Nat) (e : VEnt), l[k]? = some e → e.idx = i + k + 1
  | _, [], _, k, e, h => by simp at h
  | i, a :: r, h, 0, e, he => by
    rw [List.getElem?_cons_zero] at he
    rw [← Option.some.inj he]
    exact h.1
  | i, a :: r, h, k + 1, e, he => by
    rw [List.getElem?_cons_succ] at he
    have := conE_get h.2 k e he
    omega
theorem conE_up : ∀ {j : Nat} {l : List VEnt}, conE j l → ∀ i, l.filter (fun e => decide (i < e.idx)) = l.drop (i - j)
  | _, [], _, i => by simp
  | j, e :: r, h, i => by
    have ih := conE_up h.2 i
    by_cases hi : i < e.idx
    · rw [List.filter_cons_of_pos (by simpa using hi), ih]
      have := h.1
      rw [show i - j = 0 by omega, show i - (j + 1) = 0 by omega, List.drop_zero, List.drop_zero]
    · rw [List.filter_cons_of_neg (by simpa using hi), ih]
      have := h.1
      rw [show i - j = (i - (j + 1)) + 1 by omega, List.drop_succ_cons]
theorem conE_low : ∀ {j : Nat} {l : List VEnt}, conE j l → ∀ n, l.filter (fun e => decide (e.idx < n)) = l.take (n - (j + 1))
  | _, [], _, n => by simp
  | j, e :: r, h, n => by
    have ih := conE_low h.2 n
    by_cases hi : e.idx < n
    · rw [List.filter_cons_of_pos (by simpa using hi), ih]
      have := h.1
      rw [show n - (j + 1) = (n - (j + 1 + 1)) + 1 by omega, List.take_succ_cons]
    · rw [List.filter_cons_of_neg (by simpa using hi), ih]
      have := h.1
      rw [show n - (j + 1) = 0 by omega, show n - (j + 1 + 1) = 0 by omega, List.take_zero, List.take_zero]
theorem changeV_con {l : VLog} (h : conE l.si l.es) (i t : Nat) (d : List UInt8) : conE i (changeV l i t d).es := by
  unfold changeV
  simp only
  rw [conE_up h]
  have hd := conE_drop h (i - l.si)
  generalize l.es.drop (i - l.si) = q at hd
  cases q with
  | nil => trivial
  | cons e r =>
    by_cases he : e.idx = i + 1
    · simp only [he, if_true]
      have h1 := hd.1
      exact ⟨he, by rw [show i + 1 = l.si + (i - l.si) + 1 by omega]; exact hd.2⟩
    · simp only [he, if_false]
      trivial
theorem comN_le : ∀ a b : List VEnt, comN a b ≤ a.length ∧ comN a b ≤ b.length ∧ a.take (comN a b) = b.take (comN a b)
  | [], b => by simp [comN]
  | a :: x, [] => by simp [comN]
  | a :: x, b :: y => by
    unfold comN
    split
    · rename_i h
      obtain ⟨h1, h2, h3⟩ := comN_le x y
      refine ⟨by simpa using h1, by simpa using h2, ?_⟩
      rw [List.take_succ_cons, List.take_succ_cons, h3]
      congr 1
      obtain ⟨h4, h5, h6⟩ := h
      cases a; cases b
      simp only at h4 h5 h6
      rw [h4, h5, h6]
    · simp
structure RdS where
  cur : VLog
  begun : Bool
  ended : Bool
def stepT (had : VLog) (s : RdS) : Th → RdS
  | .beg => ⟨VLog.zero, true, false⟩
  | .fol => ⟨had, s.begun, false⟩
  | .hard t v => { s with cur := { s.cur with term := t, vote := (v : Int) } }
  | .snap i t d => { s with cur := changeV s.cur i t d }
  | .back n => { s with cur := { s.cur with es := s.cur.es.filter fun e => decide (e.idx < n) } }
  | .ent t d => { s with cur := { s.cur with es := s.cur.es ++ [⟨t, s.cur.si + s.cur.es.length + 1, d⟩] } }
  | .fin => { s with ended := true }
theorem fold_ents (had : VLog) : ∀ (q : List VEnt) (s : RdS), conE (s.cur.si + s.cur.es.length) q → (q.map fun e => Th.ent e.term e.data).foldl (stepT had) s = { s with cur := { s.cur with es := s.cur.es ++ q } }
  | [], s, _ => by simp
  | e :: q, s, h => by
    rw [List.map_cons, List.foldl_cons]
    have he : (⟨e.term, s.cur.si + s.cur.es.length + 1, e.data⟩ : VEnt) = e := by
      have := h.1
      cases e
      simp only at this
      rw [this]
    rw [fold_ents had q (stepT had s (.ent e.term e.data)) (by
      show conE (s.cur.si + (s.cur.es ++ [_]).length) q
      rw [List.length_append, List.length_singleton, ← Nat.add_assoc]
      exact h.2)]
    show { s with cur := { s.cur with es := (s.cur.es ++ [_]) ++ q } } = _
    rw [he, List.append_assoc]
    rfl
theorem fold_things {f t had : VLog} {kind : Th} (hf : conE f.si f.es) (ht : conE t.si t.es) (hv : 0 ≤ t.vote) (s : RdS) (b : Bool) (hk : stepT had s kind = ⟨f, b, false⟩) : (thingsV f t kind).foldl (stepT had) s = ⟨t, b, true⟩ := by
  unfold thingsV
  simp only
  rw [List.foldl_append, List.foldl_cons, List.foldl_nil, hk, List.foldl_append]
  have e1 : (if f.term = t.term ∧ f.vote = t.vote then ([] : List Th) else [.hard t.term t.vote.toNat]).foldl (stepT had) ⟨f, b, false⟩ = ⟨{ f with term := t.term, vote := t.vote }, b, false⟩ := by
    split
    · rename_i h
      rw [← h.1, ← h.2]
      rfl
    · show (⟨{ f with term := t.term, vote := ((t.vote.toNat : Nat) : Int) }, b, false⟩ : RdS) = _
      rw [Int.toNat_of_nonneg hv]
  rw [e1, List.foldl_append]
  have e2 : ∃ es2, (if f.si = t.si ∧ f.st = t.st ∧ f.sd = t.sd then f else changeV f t.si t.st t.sd).es = es2 ∧ conE t.si es2 ∧ (if f.si = t.si ∧ f.st = t.st ∧ f.sd = t.sd then ([] : List Th) else [.snap t.si t.st t.sd]).foldl (stepT had) ⟨{ f with term := t.term, vote := t.vote }, b, false⟩ = ⟨{ t with es := es2 }, b, false⟩ := by
    split
    · rename_i h
      refine ⟨_, rfl, by rw [← h.1]; exact hf, ?_⟩
      rw [List.foldl_nil]
      cases f; cases t
      simp only at h
      rw [h.1, h.2.1, h.2.2]
    · exact ⟨_, rfl, changeV_con hf _ _ _, rfl⟩
  obtain ⟨es2, h2, hc2, e2⟩ := e2
  rw [e2, h2, List.foldl_append]
  obtain ⟨h3, h4, h5⟩ := comN_le es2 t.es
  generalize comN es2 t.es = n at h3 h4 h5
  have e3 : (backT es2 n).foldl (stepT had) ⟨{ t with es := es2 }, b, false⟩ = ⟨{ t with es := es2.take n }, b, false⟩ := by
    unfold backT
    cases hn : es2[n]? with
    | none =>
      rw [List.getElem?_eq_none_iff] at hn
      rw [List.take_of_length_le hn]
      rfl
    | some e =>
      have hi := conE_get hc2 n e hn
      show (⟨{ t with es := es2.filter fun x => decide (x.idx < e.idx) }, b, false⟩ : RdS) = _
      rw [conE_low hc2, hi, show t.si + n + 1 - (t.si + 1) = n by omega]
  rw [e3, List.foldl_append, fold_ents had _ _ (by
    show conE (t.si + (es2.take n).length) (t.es.drop n)
    rw [List.length_take, Nat.min_eq_left h3]
    exact conE_drop ht n)]
  show (⟨{ t with es := es2.take n ++ t.es.drop n }, b, true⟩ : RdS) = _
  rw [h5, List.take_append_drop]
end Go.Proofs.YtnlhjhpikjmoaaaGreatDoor
namespace Go.Proofs.YtnlhjhpikjmoaaaGreatDoor
def flatT (g : List Th) : List UInt8 := (g.map encT).flatten
theorem flatT_append (a b : List Th) : flatT (a ++ b) = flatT a ++ flatT b := by unfold flatT; rw [List.map_append, List.flatten_append]
theorem packB_groups (lim : Nat) : ∀ (ts g : List Th), ∃ (gs : List (List Th)) (q : List Th), packB lim (flatT g) (ts.map encT) = gs.map flatT ++ [flatT q] ∧ gs.flatten ++ q = g ++ ts ∧ (g ++ ts ≠ [] → q ≠ []) ∧ ∃ x, (gs ++ [q])[0]? = some (g ++ x)
  | [], g => ⟨[], g, rfl, by simp, by simp, [], by simp⟩
  | t :: r, g => by
    rw [List.map_cons, packB]
    split
    · obtain ⟨gs, q, h1, h2, h3, _⟩ := packB_groups lim r [t]
      have e : flatT [t] = encT t := by simp [flatT]
      rw [e] at h1
      refine ⟨g :: gs, q, by rw [h1]; rfl, ?_, fun _ => h3 (by simp), [], by simp⟩
      rw [List.flatten_cons, List.append_assoc, h2]
      simp
    · obtain ⟨gs, q, h1, h2, h3, x, hx⟩ := packB_groups lim r (g ++ [t])
      have e : flatT (g ++ [t]) = flatT g ++ encT t := by rw [flatT_append]; simp [flatT]
      rw [e] at h1
      exact ⟨gs, q, h1, by rw [h2]; simp, fun _ => h3 (by simp), t :: x, by rw [hx]; simp⟩
theorem packB_le (lim : Nat) : ∀ (ts : List (List UInt8)) (b : List UInt8), b.length ≤ lim → (∀ t ∈ ts, t.length ≤ lim) → ∀ r ∈ packB lim b ts, r.length ≤ lim
  | [], b, hb, _, r, hr => by
    rw [packB, List.mem_singleton] at hr
    rw [hr]
    exact hb
  | t :: ts, b, hb, ht, r, hr => by
    rw [packB] at hr
    split at hr
    · rcases List.mem_cons.1 hr with h | h
      · rw [h]; exact hb
      · exact packB_le lim ts t (ht t (by simp)) (fun x hx => ht x (by simp [hx])) r h
    · exact packB_le lim ts (b ++ t) (by rw [List.length_append]; omega) (fun x hx => ht x (by simp [hx])) r hr
def plainT : Th → Bool
  | .hard .. | .snap .. | .back .. | .ent .. => true
  | _ => false
theorem stepT_cur (had : VLog) (s s' : RdS) (h : s.cur = s'.cur) (t : Th) : (stepT had s t).cur = (stepT had s' t).cur := by cases t <;> simp [stepT, h]
theorem fold_cur (had : VLog) : ∀ (l : List Th) (s s' : RdS), s.cur = s'.cur → (l.foldl (stepT had) s).cur = (l.foldl (stepT had) s').cur
  | [], _, _, h => h
  | t :: l, s, s', h => fold_cur had l _ _ (stepT_cur had s s' h t)
theorem fold_plain (had : VLog) : ∀ (l : List Th) (s : RdS), (∀ t ∈ l, plainT t = true) → (l.foldl (stepT had) s).begun = s.begun ∧ (l.foldl (stepT had) s).ended = s.ended
  | [], _, _ => ⟨rfl, rfl⟩
  | t :: l, s, h => by
    have ht := h t (by simp)
    obtain ⟨h1, h2⟩ := fold_plain had l (stepT had s t) fun x hx => h x (by simp [hx])
    rw [List.foldl_cons, h1, h2]
    cases t <;> simp_all [stepT, plainT]
structure RS where
  log : VLog
  next : VLog
  from_ : Nat
  first : Nat
  whole : Nat
  n : Nat
def stepR (s : RS) (g : List Th) : RS :=
  let r := g.foldl (stepT s.log) ⟨s.next, false, false⟩
  let fr := if r.begun = true then s.n else s.from_
  if r.ended = true then ⟨r.cur, r.cur, fr, fr, s.n + 1, s.n + 1⟩ else ⟨s.log, r.cur, fr, s.first, s.whole, s.n + 1⟩
theorem fold_stepR_plain : ∀ (gs : List (List Th)) (s : RS), (∀ t ∈ gs.flatten, plainT t = true) → gs.foldl stepR s = ⟨s.log, (gs.flatten.foldl (stepT s.log) ⟨s.next, false, false⟩).cur, s.from_, s.first, s.whole, s.n + gs.length⟩
  | [], s, _ => by simp
  | g :: gs, s, h => by
    obtain ⟨h1, h2⟩ := fold_plain s.log g ⟨s.next, false, false⟩ fun t ht => h t (by rw [List.flatten_cons]; exact List.mem_append_left _ ht)
    have e : stepR s g = ⟨s.log, (g.foldl (stepT s.log) ⟨s.next, false, false⟩).cur, s.from_, s.first, s.whole, s.n + 1⟩ := by
      unfold stepR
      simp only [h1, h2]
      rfl
    rw [List.foldl_cons, e, fold_stepR_plain gs _ fun t ht => h t (by rw [List.flatten_cons]; exact List.mem_append_right _ ht)]
    simp only
    rw [List.flatten_cons, List.foldl_append, List.length_cons]
    congr 1
    · exact fold_cur _ _ _ _ rfl
    · omega
theorem fold_stepR_part {had : VLog} (kind : Th) (b : Bool) (f : VLog) (hk : ∀ c e, stepT had ⟨c, false, e⟩ kind = ⟨f, b, false⟩) (g : List Th) (gs : List (List Th)) (s : RS) (hs : s.log = had) (h : ∀ t ∈ g ++ gs.flatten, plainT t = true) :
    ((kind :: g) :: gs).foldl stepR s = ⟨s.log, ((kind :: g ++ gs.flatten).foldl (stepT had) ⟨s.next, false, false⟩).cur, if b = true then s.n else s.from_, s.first, s.whole, s.n + (gs.length + 1)⟩ := by
  subst hs
  obtain ⟨h1, h2⟩ := fold_plain s.log g ⟨f, b, false⟩ fun t ht => h t (List.mem_append_left _ ht)
  have e : stepR s (kind :: g) = ⟨s.log, ((kind :: g).foldl (stepT s.log) ⟨s.next, false, false⟩).cur, if b = true then s.n else s.from_, s.first, s.whole, s.n + 1⟩ := by
    unfold stepR
    rw [List.foldl_cons, hk]
    simp only [h1, h2]
    rfl
  rw [List.foldl_cons, e, fold_stepR_plain gs _ fun t ht => h t (List.mem_append_right _ ht)]
  simp only
  rw [List.foldl_append]
  congr 1
  · exact fold_cur _ _ _ _ rfl
  · omega
theorem thingsV_form (f t : VLog) (kind : Th) : ∃ m, thingsV f t kind = kind :: (m ++ [.fin]) ∧ ∀ x ∈ m, plainT x = true := by
  unfold thingsV
  simp only
  generalize hf2 : (if f.si = t.si ∧ f.st = t.st ∧ f.sd = t.sd then f else changeV f t.si t.st t.sd) = f2
  refine ⟨(if f.term = t.term ∧ f.vote = t.vote then [] else [.hard t.term t.vote.toNat]) ++ ((if f.si = t.si ∧ f.st = t.st ∧ f.sd = t.sd then [] else [.snap t.si t.st t.sd]) ++ (backT f2.es (comN f2.es t.es) ++ (t.es.drop (comN f2.es t.es)).map (fun e => .ent e.term e.data))), by simp, fun x hx => ?_⟩
  simp only [List.mem_append] at hx
  rcases hx with h | h | h | h
  · split at h
    · cases h
    · rw [List.mem_singleton.1 h]; rfl
  · split at h
    · cases h
    · rw [List.mem_singleton.1 h]; rfl
  · unfold backT at h
    split at h
    · rw [List.mem_singleton.1 h]; rfl
    · cases h
  · obtain ⟨e, _, rfl⟩ := List.mem_map.1 h
    rfl
theorem recordsV_groups (f t : VLog) (kind : Th) (hkl : (encT kind).length ≤ 32768) : ∃ (gs : List (List Th)) (q : List Th), recordsV f t kind = (gs ++ [q ++ [Th.fin]]).map flatT ∧
    ((gs = [] ∧ ∃ q', q = kind :: q' ∧ q = (thingsV f t kind).dropLast ∧ ∀ x ∈ q', plainT x = true) ∨ (∃ g gs', gs = (kind :: g) :: gs' ∧ kind :: g ++ gs'.flatten ++ q = (thingsV f t kind).dropLast ∧ ∀ x ∈ g ++ gs'.flatten ++ q, plainT x = true)) := by
  obtain ⟨m, hm, hp⟩ := thingsV_form f t kind
  have hdl : (thingsV f t kind).dropLast = kind :: m := by rw [hm, ← List.cons_append, List.dropLast_concat]
  unfold recordsV
  have e : ([] : List UInt8) ++ encT kind = flatT [kind] := by simp [flatT]
  have e0 : packB 32768 [] ((thingsV f t kind).map encT) = packB 32768 (flatT [kind]) ((m ++ [Th.fin]).map encT) := by
    rw [hm, List.map_cons, packB, if_neg (by simpa using hkl), e]
  rw [e0]
  obtain ⟨gs, q, h1, h2, h3, y, hy⟩ := packB_groups 32768 (m ++ [Th.fin]) [kind]
  rw [h1]
  have hq : q ≠ [] := h3 (by simp)
  obtain ⟨q0, x, rfl⟩ : ∃ q0 x, q = q0 ++ [x] := ⟨q.dropLast, q.getLast hq, (List.dropLast_concat_getLast hq).symm⟩
  have h4 : (gs.flatten ++ q0) ++ [x] = (kind :: m) ++ [Th.fin] := by rw [List.append_assoc, h2]; simp
  obtain ⟨h5, h6⟩ := List.append_inj' h4 rfl
  obtain rfl : x = Th.fin := by simpa using h6
  refine ⟨gs, q0, by rw [List.map_append]; rfl, ?_⟩
  cases gs with
  | nil =>
    rw [List.flatten_nil, List.nil_append] at h5
    exact .inl ⟨rfl, m, h5, by rw [h5, hdl], hp⟩
  | cons g0 gs' =>
    right
    rw [List.flatten_cons] at h5
    obtain rfl : g0 = kind :: y := by simpa using hy
    rw [List.append_assoc, List.cons_append] at h5
    obtain ⟨_, h7⟩ := List.cons.inj h5
    refine ⟨y, gs', rfl, ?_, ?_⟩
    · rw [hdl, ← h7]; simp
    · rw [List.append_assoc, h7]; exact hp
end Go.Proofs.YtnlhjhpikjmoaaaGreatDoor
namespace Go.Proofs.YtnlhjhpikjmoaaaGreatDoor
theorem stepR_last {s : RS} {q : List Th} {cur : VLog} {b : Bool} (hc : (q.foldl (stepT s.log) ⟨s.next, false, false⟩).cur = cur) (hb : (q.foldl (stepT s.log) ⟨s.next, false, false⟩).begun = b) :
    stepR s (q ++ [Th.fin]) = ⟨cur, cur, if b = true then s.n else s.from_, if b = true then s.n else s.from_, s.n + 1, s.n + 1⟩ := by
  unfold stepR
  rw [List.foldl_append, List.foldl_cons, List.foldl_nil]
  generalize q.foldl (stepT s.log) ⟨s.next, false, false⟩ = r at hc hb
  obtain ⟨c, b', e⟩ := r
  simp only at hc hb
  subst hc hb
  rfl
theorem thingsV_last (f t : VLog) (kind : Th) : thingsV f t kind = (thingsV f t kind).dropLast ++ [Th.fin] := by
  obtain ⟨m, hm, _⟩ := thingsV_form f t kind
  rw [hm, ← List.cons_append, List.dropLast_concat]
theorem grp_read {had f t : VLog} {kind : Th} {b : Bool} (hk : ∀ c e, stepT had ⟨c, false, e⟩ kind = ⟨f, b, false⟩) (hkl : (encT kind).length ≤ 32768) (hf : conE f.si f.es) (ht : conE t.si t.es) (hv : 0 ≤ t.vote) (s : RS) (hs : s.log = had) :
    ∃ gs : List (List Th), recordsV f t kind = gs.map flatT ∧ gs.flatten = thingsV f t kind ∧ gs.foldl stepR s = ⟨t, t, if b = true then s.n else s.from_, if b = true then s.n else s.from_, s.n + gs.length, s.n + gs.length⟩ ∧
      ∀ j, j < gs.length → ∃ nx fr, (gs.take j).foldl stepR s = ⟨s.log, nx, fr, s.first, s.whole, s.n + j⟩ := by
  obtain ⟨gs, q, h1, h2⟩ := recordsV_groups f t kind hkl
  have hth := fold_things (had := had) hf ht hv ⟨s.next, false, false⟩ b (hk _ _)
  rw [thingsV_last, List.foldl_append] at hth
  have hcur : ((thingsV f t kind).dropLast.foldl (stepT had) ⟨s.next, false, false⟩).cur = t := by
    have := congrArg RdS.cur hth
    exact this
  subst hs
  refine ⟨gs ++ [q ++ [Th.fin]], h1, ?_, ?_, ?_⟩
  · rw [thingsV_last f t kind, List.flatten_append, List.flatten_cons, List.flatten_nil, List.append_nil, ← List.append_assoc]
    congr 1
    rcases h2 with ⟨rfl, q', h3, h4, _⟩ | ⟨g, gs', rfl, h4, _⟩
    · rw [List.flatten_nil, List.nil_append, h4]
    · rw [List.flatten_cons, h4]
  · rcases h2 with ⟨rfl, q', h3, h4, h5⟩ | ⟨g, gs', rfl, h4, h5⟩
    · show stepR s (q ++ [Th.fin]) = _
      rw [stepR_last (cur := t) (b := b) (by rw [h4]; exact hcur) (by
        rw [h3, List.foldl_cons, hk]
        exact (fold_plain _ q' _ h5).1)]
      rfl
    · rw [List.foldl_append, fold_stepR_part kind b f hk g gs' s rfl fun x hx => h5 x (List.mem_append_left _ hx)]
      show stepR _ (q ++ [Th.fin]) = _
      have hq := fold_plain s.log q ⟨((kind :: g ++ gs'.flatten).foldl (stepT s.log) ⟨s.next, false, false⟩).cur, false, false⟩ fun x hx => h5 x (List.mem_append_right _ hx)
      have hc2 : ∀ R : RdS, R = (kind :: g ++ gs'.flatten).foldl (stepT s.log) ⟨s.next, false, false⟩ → (q.foldl (stepT s.log) ⟨R.cur, false, false⟩).cur = t := fun R hR =>
        (fold_cur s.log q ⟨R.cur, false, false⟩ R rfl).trans (by rw [hR, ← List.foldl_append, h4]; exact hcur)
      rw [stepR_last (cur := t) (b := false) (hc2 _ rfl) hq.1]
      simp [Nat.add_assoc]
  · intro j hj
    rw [List.length_append, List.length_singleton] at hj
    rw [List.take_append_of_le_length (by omega)]
    rcases h2 with ⟨rfl, _⟩ | ⟨g, gs', rfl, h4, h5⟩
    · obtain rfl : j = 0 := by simpa using hj
      exact ⟨_, _, rfl⟩
    · cases j with
      | zero => exact ⟨_, _, rfl⟩
      | succ j =>
        rw [List.take_succ_cons, fold_stepR_part kind b f hk g (gs'.take j) s rfl fun x hx => h5 x (by
          refine List.mem_append_left _ ?_
          rcases List.mem_append.1 hx with h | h
          · exact List.mem_append_left _ h
          · refine List.mem_append_right _ ?_
            obtain ⟨y, hy, hxy⟩ := List.mem_flatten.1 h
            exact List.mem_flatten.2 ⟨y, List.mem_of_mem_take hy, hxy⟩)]
        have hlt : (gs'.take j).length = j := by rw [List.length_take, Nat.min_eq_left (by rw [List.length_cons] at hj; omega)]
        rw [hlt]
        exact ⟨_, _, rfl⟩
theorem fol_step (had c : VLog) (e : Bool) : stepT had ⟨c, false, e⟩ .fol = ⟨had, false, false⟩ := rfl
theorem beg_step (had c : VLog) (e : Bool) : stepT had ⟨c, false, e⟩ .beg = ⟨VLog.zero, true, false⟩ := rfl
def fitV (t : VLog) : Prop := rightV t = true ∧ t.es.length ≤ 100000 ∧ t.term < 18446744073709551616
inductive Grps : List (List UInt8) → VLog → Nat → Prop
  | nil : Grps [] VLog.zero 0
  | fol {rs l i t} : Grps rs l i → fitV t → Grps (rs ++ recordsV l t .fol) t i
  | beg {rs l i t} : Grps rs l i → fitV t → Grps (rs ++ recordsV VLog.zero t .beg) t rs.length
theorem rightV_con {l : VLog} (h : rightV l = true) : conE l.si l.es := by
  simp only [rightV, Bool.and_eq_true] at h
  exact rightE_con h.2.2.2.2.2.2
theorem rightV_vote {l : VLog} (h : rightV l = true) : 0 ≤ l.vote ∧ l.vote ≤ 5 := by
  simp only [rightV, Bool.and_eq_true, decide_eq_true_eq] at h
  exact ⟨h.2.2.2.2.1, h.2.2.2.2.2.1⟩
theorem Grps.con {rs : List (List UInt8)} {l : VLog} {i : Nat} (h : Grps rs l i) : conE l.si l.es := by
  cases h with
  | nil => trivial
  | fol _ h => exact rightV_con h.1
  | beg _ h => exact rightV_con h.1
theorem Grps.le {rs : List (List UInt8)} {l : VLog} {i : Nat} (h : Grps rs l i) : i ≤ rs.length := by
  induction h with
  | nil => exact Nat.le_refl _
  | fol _ _ ih => rw [List.length_append]; omega
  | beg _ _ _ => rw [List.length_append]; omega
theorem Grps.read {rs : List (List UInt8)} {l : VLog} {i : Nat} (h : Grps rs l i) (n0 : Nat) : ∃ gs : List (List Th), rs = gs.map flatT ∧ ∃ nx, gs.foldl stepR ⟨VLog.zero, VLog.zero, n0, n0, n0, n0⟩ = ⟨l, nx, n0 + i, n0 + i, n0 + rs.length, n0 + rs.length⟩ := by
  induction h with
  | nil => exact ⟨[], rfl, _, rfl⟩
  | @fol rs l i t h ht ih =>
    obtain ⟨gs, h1, nx, h2⟩ := ih
    have hlen : gs.length = rs.length := by rw [h1, List.length_map]
    obtain ⟨q, h3, _, h4, _⟩ := grp_read (had := l) (f := l) (t := t) (kind := .fol) (b := false) (fol_step l) (by decide) h.con (rightV_con ht.1) (rightV_vote ht.1).1 ⟨l, nx, n0 + i, n0 + i, n0 + rs.length, n0 + rs.length⟩ rfl
    have hql : (recordsV l t .fol).length = q.length := by rw [h3, List.length_map]
    refine ⟨gs ++ q, by rw [List.map_append, ← h1, ← h3], t, ?_⟩
    rw [List.foldl_append, h2, h4, List.length_append, hql]
    simp [Nat.add_assoc]
  | @beg rs l i t h ht ih =>
    obtain ⟨gs, h1, nx, h2⟩ := ih
    have hlen : gs.length = rs.length := by rw [h1, List.length_map]
    obtain ⟨q, h3, _, h4, _⟩ := grp_read (had := l) (f := VLog.zero) (t := t) (kind := .beg) (b := true) (beg_step l) (by decide) trivial (rightV_con ht.1) (rightV_vote ht.1).1 ⟨l, nx, n0 + i, n0 + i, n0 + rs.length, n0 + rs.length⟩ rfl
    have hql : (recordsV VLog.zero t .beg).length = q.length := by rw [h3, List.length_map]
    refine ⟨gs ++ q, by rw [List.map_append, ← h1, ← h3], t, ?_⟩
    rw [List.foldl_append, h2, h4, List.length_append, hql]
    simp [Nat.add_assoc]
end Go.Proofs.YtnlhjhpikjmoaaaGreatDoor
namespace Go.Proofs.YtnlhjhpikjmoaaaGreatDoor
theorem Grps.cut {rs : List (List UInt8)} {l : VLog} {i : Nat} (h : Grps rs l i) : Grps (rs.drop i) l 0 := by
  induction h with
  | nil => exact .nil
  | fol h ht ih =>
    rw [List.drop_append_of_le_length h.le]
    exact .fol ih ht
  | @beg rs l i t h ht ih =>
    rw [List.drop_left']
    · have := Grps.beg (t := t) Grps.nil ht
      simpa using this
    · rfl
def sizeV (l : VLog) : Nat := 400 + l.sd.length + (l.es.map fun e => 100 + e.data.length).sum
theorem encT_ent_len (t : Nat) (d : List UInt8) : (encT (.ent t d)).length ≤ 30 + d.length := by
  have h1 := numB_len 6
  have h2 := numB_len t
  have h3 := numB_len d.length
  have h4 : (numB 6).length = 1 := rfl
  simp only [encT, txtB, List.length_append]
  omega
theorem secN_le (m : Nat) : 48 * secN m ≤ m + 50 := by unfold secN; omega
theorem packB_secs (lim : Nat) : ∀ (ts : List (List UInt8)) (b : List UInt8), 48 * secSum (packB lim b ts) ≤ b.length + (ts.map List.length).sum + 50 * (ts.length + 1)
  | [], b => by
    have := secN_le b.length
    rw [packB, secSum_cons]
    simp only [secSum, List.map_nil, List.sum_nil, List.length_nil]
    omega
  | t :: ts, b => by
    rw [packB]
    split
    · have h1 := packB_secs lim ts t
      have h2 := secN_le b.length
      rw [secSum_cons]
      simp only [List.map_cons, List.sum_cons, List.length_cons]
      omega
    · have h1 := packB_secs lim ts (b ++ t)
      rw [List.length_append] at h1
      simp only [List.map_cons, List.sum_cons, List.length_cons]
      omega
theorem ents_len (l : List VEnt) : ((l.map fun e => encT (.ent e.term e.data)).map List.length).sum ≤ (l.map fun e => 30 + e.data.length).sum := by
  induction l with
  | nil => simp
  | cons e r ih =>
    simp only [List.map_cons, List.sum_cons]
    have := encT_ent_len e.term e.data
    omega
theorem sum_ge (l : List VEnt) : 100 * l.length ≤ (l.map fun e => 100 + e.data.length).sum ∧ (l.map fun e => 30 + e.data.length).sum + 70 * l.length = (l.map fun e => 100 + e.data.length).sum := by
  induction l with
  | nil => simp
  | cons e r ih =>
    simp only [List.map_cons, List.sum_cons, List.length_cons]
    omega
theorem zero_things (t : VLog) (kind : Th) : ∃ a b : List Th, thingsV VLog.zero t kind = [kind] ++ (a ++ (b ++ (t.es.map (fun e => .ent e.term e.data) ++ [.fin]))) ∧ (a = [] ∨ a = [.hard t.term t.vote.toNat]) ∧ (b = [] ∨ b = [.snap t.si t.st t.sd]) := by
  unfold thingsV
  simp only
  have h0 : (if VLog.zero.si = t.si ∧ VLog.zero.st = t.st ∧ VLog.zero.sd = t.sd then VLog.zero else changeV VLog.zero t.si t.st t.sd).es = [] := by split <;> rfl
  rw [h0]
  have h1 : comN [] t.es = 0 := by unfold comN; cases t.es <;> rfl
  rw [h1]
  refine ⟨_, _, rfl, ?_, ?_⟩
  · split
    · exact .inl rfl
    · exact .inr rfl
  · split
    · exact .inl rfl
    · exact .inr rfl
theorem whole_secs (t : VLog) (kind : Th) (hk : (encT kind).length = 1) : 48 * secSum (recordsV VLog.zero t kind) ≤ sizeV t + 50 * t.es.length := by
  obtain ⟨a, b, h1, h2, h3⟩ := zero_things t kind
  have h4 := packB_secs 32768 ((thingsV VLog.zero t kind).map encT) []
  unfold recordsV
  rw [h1] at h4 ⊢
  have ha : ((a.map encT).map List.length).sum ≤ 30 ∧ a.length ≤ 1 := by
    rcases h2 with rfl | rfl
    · simp
    · have h5 := numB_len 3
      have h6 := numB_len t.term
      have h7 := numB_len t.vote.toNat
      simp only [List.map_cons, List.map_nil, List.sum_cons, List.sum_nil, List.length_singleton, encT, List.length_append]
      omega
  have hb : ((b.map encT).map List.length).sum ≤ 40 + t.sd.length ∧ b.length ≤ 1 := by
    rcases h3 with rfl | rfl
    · simp
    · have h5 := numB_len 4
      have h6 := numB_len t.si
      have h7 := numB_len t.st
      have h8 := numB_len t.sd.length
      simp only [List.map_cons, List.map_nil, List.sum_cons, List.sum_nil, List.length_singleton, encT, txtB, List.length_append]
      omega
  have he := ents_len t.es
  have hs := sum_ge t.es
  have h9 : (encT .fin).length = 1 := rfl
  simp only [List.map_append, List.sum_append, List.map_cons, List.map_nil, List.sum_cons, List.sum_nil, List.length_append, List.length_map, List.length_singleton, List.length_nil, hk, h9, List.map_map, Function.comp_def] at h4 he ⊢
  simp only [List.map_map, Function.comp_def] at ha hb
  unfold sizeV
  omega
end Go.Proofs.YtnlhjhpikjmoaaaGreatDoor
namespace Go.Proofs.YtnlhjhpikjmoaaaGreatDoor
open Go.ChangeShapes Go.WideShapes Go.ChangeAt Go.RowKit
theorem Tryz.own : ownKnob Tryz.prog.godebug = none := by kernel_rfl
theorem Tryz.laidOut : laidOutB Tryz.prog = true := by kernel_rfl
section
variable {H : Type} {enc : TypeId × Value → H} {P : Program} {base : Nat}
theorem trodAll_stays (hl : laidOutB P = true) {W W' : World} {sp' : Nat → Bool} : ∀ {ts : List TypeId} {vs : List Value} {ds : List (DataW H)} {ps : List MemPlace}, (∀ t ∈ ts, P.readableRec t = true ∧ t < P.types.size) →
    DataW.TrodAll enc P W 0 (fun _ => true) true ts vs ds ps → (∀ p ∈ ps, W.sameAt W' p) → (∀ p ∈ ps, sp' p.block = true) → DataW.TrodAll enc P W' 0 sp' true ts vs ds ps
  | [], _, _, _, _, h, _, _ => by
    obtain ⟨rfl, rfl, rfl⟩ := trodAll_nil h
    exact trodAll_mk0
  | t :: ts, _, _, _, ht, h, hs, hp => by
    obtain ⟨v, vs, d, ds, p, q, rfl, rfl, rfl, h1, h2⟩ := trodAll_cons h
    exact ⟨p, q, WideElems.Trod_stays hl (ht t (by simp)).1 (ht t (by simp)).2 h1 (fun x hx => hs x (by simp [hx])) (fun x hx => hp x (by simp [hx])),
      trodAll_stays hl (fun t' h' => ht t' (by simp [h'])) h2 (fun x hx => hs x (by simp [hx])) (fun x hx => hp x (by simp [hx])), rfl⟩
theorem law_end {f : Func} {s : ChangeSpec} {apart fresh handsOn again : Bool} {W W' : World} {args : Array Value} {ds gs : List (DataW H)} {before : List MemPlace} {T : TypeId}
    (hl : laidOutB P = true) (hpar : f.params.toList.all (fun t => P.readableRec t && decide (t < P.types.size)) = true) (hvars : s.vars = []) (hrt : f.resultTypes = #[T]) (hbool : P.underlying T = some .bool)
    (hW : DataW.Whole enc P f.params.toList s.vars apart W args.toList ds gs before)
    (hr : (s.fn H (ds ++ gs)).results = [.lit (.bool true)]) (ha : (s.fn H (ds ++ gs)).args = ds) (hv : (s.fn H (ds ++ gs)).vars = []) (hb : Below W.heap.size W W') :
    s.post enc P f apart fresh handsOn again W args (.bool true) W' := by
  have hlt : ∀ p ∈ before, p.block < W.heap.size := fun p hp => hW.lt p hp
  have hpar' : ∀ t ∈ f.params.toList, P.readableRec t = true ∧ t < P.types.size := fun t ht => by
    have := List.all_eq_true.1 hpar t ht
    simpa using this
  have hW0 := hW
  obtain ⟨p, q, hA, hV, rfl, hz, hn⟩ := hW
  rw [hvars] at hV
  obtain ⟨rfl, rfl⟩ := trodVars_none hV
  simp only [List.append_nil] at hlt hz hn hW0 ⊢
  have hargs : ∀ sp : Nat → Bool, (∀ x ∈ p, sp x.block = true) → DataW.TrodAll enc P W' 0 sp true f.params.toList args.toList ds p := fun sp hsp =>
    trodAll_stays hl hpar' hA (fun x hx => hb.same (hlt x hx)) hsp
  have hres : ∀ (b : Nat) (sp : Nat → Bool) (hd : Bool), DataW.TrodAll enc P W' b sp hd f.resultTypes.toList ((Value.bool true).resultList f.resultTypes.size) [.lit (.bool true)] [] := fun b sp hd => by
    rw [hrt]
    exact trodAll_mk1 (shut_bool hbool true)
  refine ⟨ds, [], p, [], p, [], ?_, ?_, ?_, ?_, hb.frame _, fun _ => ?_⟩
  · exact hW0
  · rw [hr]; exact hres _ _ _
  · rw [ha]; exact hargs _ fun x hx => by simpa using hlt x hx
  · rw [hv, hvars]; rfl
  · have hall := trodAll_append (hargs (fun _ => true) (fun _ _ => rfl)) (hres 0 (fun _ => true) true)
    rw [List.nil_append] at hall
    refine ⟨ok_one hrt rfl (okWide_bool_mk hbool true), [.lit (.bool true)] ++ ds, [], p, ⟨p, [], hall, ?_, by simp, ?_, ?_⟩, ?_⟩
    · rw [hvars]; rfl
    · intro b off hp
      rw [hb.frozen (p := ⟨b, off, none⟩) (hlt _ hp)]
      exact hz b off hp
    · intro ha'
      simpa using hn ha'
    · intro x hx _
      simpa using hx
end
end Go.Proofs.YtnlhjhpikjmoaaaGreatDoor
namespace Go.Proofs.YtnlhjhpikjmoaaaGreatDoor
open Go.ChangeShapes Go.WideShapes Go.ChangeAt Go.RowKit Go.Deep
section
variable {H : Type} {enc : TypeId × Value → H} {P : Program} {W : World} {base : Nat} {α : Type} {E : Rel α}
def Opens (enc : TypeId × Value → H) (P : Program) (W : World) (t : TypeId) (E : Rel α) : Prop :=
  ∀ fuel cs x, DataW.trod enc P W 0 (fun _ => true) true fuel t cs = some x → (∀ n ∈ x.1.weights P t, n ≤ reachBytes) → ∃ d, E.rel (fun _ => True) W cs d
theorem flat_at {sz : Nat} : ∀ {css : List (List Value)} {j : Nat} {u : Value}, (∀ i (h : i < css.length), css[i].length = sz) → css.flatten[j]? = some u → ∃ i r, ∃ h : i < css.length, j = i * sz + r ∧ r < sz ∧ css[i][r]? = some u
  | [], _, _, _, h => by simp at h
  | cs :: css, j, u, hl, h => by
    have h0 : cs.length = sz := hl 0 (by simp)
    rw [List.flatten_cons] at h
    by_cases hj : j < cs.length
    · rw [List.getElem?_append_left hj] at h
      exact ⟨0, j, by simp, by omega, by omega, by simpa using h⟩
    · rw [List.getElem?_append_right (by omega)] at h
      obtain ⟨i, r, hi, hjr, hr, hu⟩ := flat_at (css := css) (fun i hi => by have := hl (i + 1) (by simpa using hi); simpa using this) h
      exact ⟨i + 1, r, by simpa using hi, by rw [Nat.add_mul]; omega, hr, by simpa using hu⟩
theorem weights_all {e : TypeId} : ∀ {l : List (DataW H)} {d : DataW H}, d ∈ l → ∀ n ∈ d.weights P e, n ∈ DataW.weightsAll P e l
  | d0 :: l, d, h, n, hn => by
    simp only [DataW.weightsAll, List.mem_append]
    rcases List.mem_cons.1 h with rfl | h
    · exact .inl hn
    · exact .inr (weights_all h n hn)
  | [], _, h, _, _ => by cases h
theorem chunks_of {ok : Nat → Prop} : ∀ (css : List (List Value)), (∀ i (h : i < css.length), ∃ d, E.rel ok W css[i] d) → ∃ l, Chunks E ok W css l
  | [], _ => ⟨[], trivial⟩
  | cs :: css, h => by
    obtain ⟨d, hd⟩ := h 0 (by simp)
    obtain ⟨l, hl⟩ := chunks_of css fun i hi => h (i + 1) (by simpa using hi)
    exact ⟨d :: l, hd, hl⟩
theorem opens_slice {t e : TypeId} (hu : P.underlying t = some (.slice e)) (hc : P.cellsOf e = E.sz) (hb : P.bytesOf e = E.wt) (hsz : 0 < E.sz) (hE : Opens enc P W e E) : Opens enc P W t (rSl E hsz) := by
  intro fuel cs x h hw
  rcases Go.Deep.open_slice hu h with ⟨rfl, rfl⟩ | ⟨a, len, cap, m, n, D, Pl, rfl, _, hl, hm, hmm, rfl, hi⟩
  · exact ⟨[], _, rfl, RSl.nil_ _ _ _⟩
  · simp only [if_true] at hmm
    subst hmm
    have hbound : m * E.wt ≤ reachBytes := by
      have := hw ((((List.range len).map D).length + ((List.range (m - len)).map fun j => D (len + j)).length) * P.bytesOf e) (by simp [DataW.weights, hu])
      rw [hb] at this
      simpa [show len + (m - len) = m by omega] using this
    obtain ⟨css, hcl, hcs⟩ := list_of (p := fun i (cs' : List Value) => cs'.length = E.sz ∧ (∀ r u, cs'[r]? = some u → W.cell? (a.add (i * E.sz + r)) = some u) ∧ ∃ d, E.rel (fun _ => True) W cs' d) len (fun i hil => by
      obtain ⟨cs', h1, h2⟩ := hi i (by omega)
      rw [hc] at h1
      obtain ⟨_, hlen, hat⟩ := World.cells?_some h1
      refine ⟨cs', hlen, fun r u hr => ?_, hE _ _ _ h2 fun k hk => hw k ?_⟩
      · rw [← Go.Deep.add_add, hat r (by have := (List.getElem?_eq_some_iff.1 hr).1; omega)]
        exact hr
      · simp only [DataW.weights, hu, List.mem_cons, List.mem_append]
        exact .inr (.inl (weights_all (d := D i) (List.mem_map.2 ⟨i, List.mem_range.2 hil, rfl⟩) k hk)))
    obtain ⟨l, hch⟩ := chunks_of (E := E) (W := W) (ok := fun _ => True) css fun i hil => (hcs i hil).2.2
    have hll := hch.length
    refine ⟨l, _, rfl, some a, len, m, css, rfl, hl, by omega, ?_, ⟨?_, fun h0 => ?_⟩, hch, fun _ _ _ => trivial⟩
    · have h1 : len * E.wt ≤ m * E.wt := Nat.mul_le_mul_right _ hl
      simp only [reachBytes] at hbound
      omega
    · rw [hch.flat, ← hll, hcl]
    · obtain ⟨b, off, spot⟩ := a
      have hx0 := hcs 0 (by omega)
      have hspot : spot = none := by
        have hz : 0 < (css[0]'(by omega)).length := by rw [hx0.1]; exact hsz
        have := World.cell?_spot (hx0.2.1 0 _ (List.getElem?_eq_getElem hz))
        unfold Addr.add at this
        split at this
        · exact this
        · rename_i hne
          exact absurd (by simp) hne
      subst hspot
      refine ⟨b, off, rfl, fun j u hu' => ?_⟩
      obtain ⟨i, r, hil, rfl, hr, hur⟩ := flat_at (fun i h => (hcs i h).1) hu'
      have := (hcs i hil).2.1 r u hur
      rwa [Addr.add_lit] at this
theorem opens_fields {t : TypeId} {fs : Array Field} {fuel : Nat} {cs : List Value} {x : DataW H × List MemPlace} (hs : P.underlying t = some (.struct fs)) (hone : oneCellFields P fs = true) (hC : P.cellsOf t = fs.size)
    (h : DataW.trod enc P W 0 (fun _ => true) true fuel t cs = some x) (hw : ∀ n ∈ x.1.weights P t, n ≤ reachBytes) : cs.length = fs.size ∧
    ∀ (j : Nat) (f : Field), fs[j]? = some f → ∃ (v : Value) (y : DataW H × List MemPlace) (n : Nat), cs[j]? = some v ∧ DataW.trod enc P W 0 (fun _ => true) true n f.type [v] = some y ∧ ∀ k ∈ y.1.weights P f.type, k ≤ reachBytes := by
  obtain ⟨ys, n', _, rfl, hlen, hyl, hf⟩ := DataW.trod_struct hs h
  refine ⟨by omega, fun j f hj => ?_⟩
  obtain ⟨ho, hk⟩ := Go.Deep.hone_of hone j f hj
  have hjl : j < fs.size := (Array.getElem?_eq_some_iff.1 hj).1
  have h1 := hf j f hj
  rw [ho, hk] at h1
  have hone' : (cs.drop j).take 1 = [cs[j]'(by omega)] := by
    rw [List.drop_eq_getElem_cons (by omega)]
    rfl
  rw [hone'] at h1
  have hys : ys[j]? = some (ys[j]'(by omega)) := List.getElem?_eq_getElem (by omega)
  refine ⟨_, _, n', List.getElem?_eq_getElem (by omega), h1.trans hys, fun k hk' => hw k ?_⟩
  simp only [DataW.weights, hs]
  refine DataW.weights_mem_each (j := j) (t := f.type) (d := (ys[j]'(by omega)).1) ?_ ?_ k hk'
  · have : fs.toList[j]? = some f := by simpa using hj
    simp [this]
  · simp [hys]
theorem opens_list {t e : TypeId} {v : Value} {d : DataW H} {p : List MemPlace} {ts : List TypeId} {ds : List (DataW H)} {j : Nat} (hs : P.underlying t = some (.slice e)) (hval : Value.okWide P W .any base t v) (h : DataW.Trod enc P W 0 (fun _ => true) true t v d p)
    (hsz : (DataW.weightsEach P ts ds).all (· ≤ reachBytes) = true) (hts : ts[j]? = some t) (hds : ds[j]? = some d) (hz : 0 < E.sz) (hE : Opens enc P W t (rSl E hz)) : ∃ x, RSl E (fun _ => True) W v x := by
  obtain ⟨a0, len, cap, rfl⟩ := okWide_slice hs hval
  obtain ⟨fuel, hf⟩ := h
  obtain ⟨x, v', hv, hx⟩ := hE fuel [.slice a0 len cap] _ (by simpa [Value.cells] using hf) fun n hn => by simpa using List.all_eq_true.1 hsz n (DataW.weights_mem_each hts hds n hn)
  simp only [List.cons.injEq, and_true] at hv
  subst hv
  exact ⟨x, hx⟩
theorem i64_of {k : Int} (h : (Lit.int .i64 k).wf = true) : I64 k := by
  have h1 : IntKind.i64.min = -9223372036854775808 := rfl
  have h2 : IntKind.i64.max = 9223372036854775807 := rfl
  simp only [Lit.wf, Bool.and_eq_true, decide_eq_true_eq] at h
  exact ⟨by omega, by omega⟩
end
section
variable {H : Type} {enc : TypeId × Value → H} {W : World}
theorem opens_int : Opens enc Tryz.prog W 3 rInt := by
  intro fuel cs x h _
  obtain ⟨k, rfl, rfl, hk⟩ := DataW.trod_int Tryz.underlying3 h
  exact ⟨k, rfl, i64_of hk⟩
theorem opens_u8 : Opens enc Tryz.prog W 5 rU8 := by
  intro fuel cs x h _
  obtain ⟨z, rfl, rfl, h2⟩ := DataW.trod_int Tryz.underlying5 h
  refine ⟨UInt8.ofNat z.toNat, ?_⟩
  have h3 : IntKind.u8.min = 0 := rfl
  have h4 : IntKind.u8.max = 255 := rfl
  simp only [Lit.wf, Bool.and_eq_true, decide_eq_true_eq] at h2
  show [Value.int .u8 z] = [.int .u8 _]
  congr 2
  simp
  omega
theorem opens_ints : Opens enc Tryz.prog W 53 (rSl rInt (by decide)) := opens_slice Tryz.underlying53 (by kernel_rfl) (by kernel_rfl) _ opens_int
theorem opens_bytes : Opens enc Tryz.prog W 25 (rSl rU8 (by decide)) := opens_slice Tryz.underlying25 (by kernel_rfl) (by kernel_rfl) _ opens_u8
end
end Go.Proofs.YtnlhjhpikjmoaaaGreatDoor
namespace Go.Proofs.YtnlhjhpikjmoaaaGreatDoor
open Go.RowKit
def rEnt : Rel VEnt where
  sz := 3
  wt := 40
  rel ok w cs e := ∃ vd, cs = [.int .u64 (e.term : Int), .int .u64 (e.idx : Int), vd] ∧ RB ok w vd e.data ∧ e.term < 18446744073709551616 ∧ e.idx < 18446744073709551616
  len := by rintro ok w cs d ⟨a, rfl, _⟩; rfl
  one := by
    rintro ok w cs d ⟨a, rfl, h1, _⟩ u hu
    simp at hu
    rcases hu with rfl | rfl | rfl
    · rfl
    · rfl
    · exact h1.one
  kp := by
    rintro ok w w' cs d hk ⟨a, rfl, h1, h2⟩
    exact ⟨a, rfl, h1.kp hk, h2⟩
  mono := by
    rintro ok ok' w cs d hm ⟨a, rfl, h1, h2⟩
    exact ⟨a, rfl, h1.mono (by decide) hm, h2⟩
def vlCs (l : VLog) (vsd ves : Value) : Array Value := #[.int .u64 (l.term : Int), .int .i64 l.vote, .int .u64 (l.si : Int), .int .u64 (l.st : Int), vsd, ves]
structure VLm (ok : Nat → Prop) (w : World) (vsd ves : Value) (l : VLog) : Prop where
  sd : RB ok w vsd l.sd
  es : RSl rEnt ok w ves l.es
  term : l.term < 18446744073709551616
  vote : I64 l.vote
  si : l.si < 18446744073709551616
  st : l.st < 18446744073709551616
section
variable {ok ok' : Nat → Prop} {w w' : World} {vsd ves : Value} {l : VLog}
theorem VLm.kp (h : VLm ok w vsd ves l) (hk : Kp ok w w') : VLm ok w' vsd ves l := ⟨h.sd.kp hk, h.es.kp hk, h.term, h.vote, h.si, h.st⟩
theorem VLm.below (h : VLm ok w vsd ves l) (hb : Below w.heap.size w w') : VLm ok w' vsd ves l := h.kp (.of_below hb)
theorem VLm.mono (h : VLm ok w vsd ves l) (hm : ∀ b, ok b → b < w.heap.size → ok' b) : VLm ok' w vsd ves l := ⟨h.sd.mono (by decide) hm, h.es.mono (by decide) hm, h.term, h.vote, h.si, h.st⟩
end
end Go.Proofs.YtnlhjhpikjmoaaaGreatDoor
namespace Go.Proofs.YtnlhjhpikjmoaaaGreatDoor
open Go.RowKit
set_option maxRecDepth 100000 in
theorem or128 : ∀ r, r < 256 → r ||| 128 = r % 128 + 128 := by decide
theorem wrap_u8' (v : Nat) : IntKind.u8.wrap (v : Int) = ((v % 256 : Nat) : Int) := by simp [IntKind.wrap, IntKind.bits, IntKind.signed]
theorem num_byte (v : Nat) : bits .or .u8 (IntKind.u8.wrap (v : Int)) 128 = ((UInt8.ofNat (v % 128 + 128)).toNat : Int) := by
  rw [wrap_u8']
  have h := u8_or_nat (v % 256) 128 (by omega) (by omega)
  refine h.trans ?_
  rw [or128 _ (by omega), show v % 256 % 128 = v % 128 by omega]
  simp only [UInt8.toNat_ofNat']
  omega
theorem last_byte {v : Nat} (h : v < 256) : IntKind.u8.wrap (v : Int) = ((UInt8.ofNat v).toNat : Int) := by
  rw [wrap_u8']
  simp only [UInt8.toNat_ofNat']
theorem numF_big {f v : Nat} (h : 128 ≤ v) : numF (f + 1) v = UInt8.ofNat (v % 128 + 128) :: numF f (v / 128) := by
  rw [numF, if_neg (by omega)]
theorem numF_little {f v : Nat} (h : v < 128) : numF f v = [UInt8.ofNat v] := by
  cases f with
  | zero => rfl
  | succ f => rw [numF, if_pos h]
def numsB (l : List Nat) : List UInt8 := (l.map numB).flatten
end Go.Proofs.YtnlhjhpikjmoaaaGreatDoor
namespace Go.Proofs.YtnlhjhpikjmoaaaGreatDoor
open Go.ChangeShapes Go.WideShapes Go.ChangeAt Go.RowKit Go.Deep
section
variable {H : Type} {enc : TypeId × Value → H} {P : Program} {W : World}
theorem opens_parts {t : TypeId} {fs : Array Field} {fuel : Nat} {cs : List Value} {x : DataW H × List MemPlace} (hs : P.underlying t = some (.struct fs))
    (h : DataW.trod enc P W 0 (fun _ => true) true fuel t cs = some x) (hw : ∀ n ∈ x.1.weights P t, n ≤ reachBytes) : cs.length = P.cellsOf t ∧
    ∀ (j : Nat) (f : Field), fs[j]? = some f → ∃ (y : DataW H × List MemPlace) (n : Nat), DataW.trod enc P W 0 (fun _ => true) true n f.type ((cs.drop f.offset).take (P.cellsOf f.type)) = some y ∧ ∀ k ∈ y.1.weights P f.type, k ≤ reachBytes := by
  obtain ⟨ys, n', _, rfl, hlen, hyl, hf⟩ := DataW.trod_struct hs h
  refine ⟨hlen, fun j f hj => ?_⟩
  have hjl : j < fs.size := (Array.getElem?_eq_some_iff.1 hj).1
  have h1 := hf j f hj
  have hys : ys[j]? = some (ys[j]'(by omega)) := List.getElem?_eq_getElem (by omega)
  refine ⟨_, n', h1.trans hys, fun k hk' => hw k ?_⟩
  simp only [DataW.weights, hs]
  refine DataW.weights_mem_each (j := j) (t := f.type) (d := (ys[j]'(by omega)).1) ?_ ?_ k hk'
  · have : fs.toList[j]? = some f := by simpa using hj
    simp [this]
  · simp [hys]
end
def rLog : Rel VLog where
  sz := 6
  wt := 80
  rel ok w cs l := ∃ vsd ves, cs = (vlCs l vsd ves).toList ∧ VLm ok w vsd ves l
  len := by rintro ok w cs d ⟨a, b, rfl, _⟩; rfl
  one := by
    rintro ok w cs d ⟨a, b, rfl, h⟩ u hu
    simp [vlCs] at hu
    rcases hu with rfl | rfl | rfl | rfl | rfl | rfl
    · rfl
    · rfl
    · rfl
    · rfl
    · exact h.sd.one
    · exact h.es.one
  kp := by
    rintro ok w w' cs d hk ⟨a, b, rfl, h⟩
    exact ⟨a, b, rfl, h.kp hk⟩
  mono := by
    rintro ok ok' w cs d hm ⟨a, b, rfl, h⟩
    exact ⟨a, b, rfl, h.mono hm⟩
theorem u64_of {k : Int} (h : (Lit.int .u64 k).wf = true) : ∃ n : Nat, k = (n : Int) ∧ n < 18446744073709551616 := by
  have h1 : IntKind.u64.min = 0 := rfl
  have h2 : IntKind.u64.max = 18446744073709551615 := rfl
  simp only [Lit.wf, Bool.and_eq_true, decide_eq_true_eq] at h
  exact ⟨k.toNat, by omega, by omega⟩
section
variable {H : Type} {enc : TypeId × Value → H} {W : World}
set_option maxRecDepth 100000 in
theorem opens_ent : Opens enc Tryz.prog W 50 rEnt := by
  intro fuel cs x h hw
  obtain ⟨hl, hf⟩ := opens_fields Tryz.underlying50 (by kernel_rfl) (by kernel_rfl) h hw
  obtain ⟨v0, y0, n0, e0, t0, _⟩ := hf 0 _ rfl
  obtain ⟨v1, y1, n1, e1, t1, _⟩ := hf 1 _ rfl
  obtain ⟨v2, y2, n2, e2, t2, k2⟩ := hf 2 _ rfl
  obtain ⟨k, e, _, w0⟩ := DataW.trod_int Tryz.underlying22 t0
  obtain ⟨m, e', _, w1⟩ := DataW.trod_int Tryz.underlying22 t1
  obtain ⟨l2, u2, e'', r2⟩ := opens_bytes _ _ _ t2 k2
  obtain ⟨k', rfl, hk'⟩ := u64_of w0
  obtain ⟨m', rfl, hm'⟩ := u64_of w1
  simp only [List.cons.injEq, and_true] at e e' e''
  subst e e' e''
  refine ⟨⟨k', m', l2⟩, v2, ?_, r2, hk', hm'⟩
  clear hk' hm' w0 w1
  match cs, hl with
  | [c0, c1, c2], _ =>
    simp only [List.getElem?_cons_zero, List.getElem?_cons_succ, Option.some.injEq] at e0 e1 e2
    rw [e0, e1, e2]
theorem opens_ents : Opens enc Tryz.prog W 28 (rSl rEnt (by decide)) := opens_slice Tryz.underlying28 (by kernel_rfl) (by kernel_rfl) _ opens_ent
set_option maxRecDepth 100000 in
theorem opens_log : Opens enc Tryz.prog W 30 rLog := by
  intro fuel cs x h hw
  obtain ⟨hl, hf⟩ := opens_parts Tryz.underlying30 h hw
  have hl6 : cs.length = 6 := hl.trans (by kernel_rfl)
  obtain ⟨y0, n0, t0, k0⟩ := hf 0 _ rfl
  obtain ⟨y1, n1, t1, k1⟩ := hf 1 _ rfl
  obtain ⟨y2, n2, t2, k2⟩ := hf 2 _ rfl
  match cs, hl6 with
  | [a0, a1, a2, a3, a4, a5], _ =>
    have t0' : DataW.trod enc Tryz.prog W 0 (fun _ => true) true n0 24 [a0, a1] = some y0 := t0
    have t1' : DataW.trod enc Tryz.prog W 0 (fun _ => true) true n1 27 [a2, a3, a4] = some y1 := t1
    have t2' : DataW.trod enc Tryz.prog W 0 (fun _ => true) true n2 28 [a5] = some y2 := t2
    obtain ⟨_, hf0⟩ := opens_fields Tryz.underlying24 (by kernel_rfl) (by kernel_rfl) t0' k0
    obtain ⟨_, hf1⟩ := opens_fields Tryz.underlying27 (by kernel_rfl) (by kernel_rfl) t1' k1
    obtain ⟨v0, z0, _, e0, u0, _⟩ := hf0 0 _ rfl
    obtain ⟨v1, z1, _, e1, u1, _⟩ := hf0 1 _ rfl
    obtain ⟨v2, z2, _, e2, u2, _⟩ := hf1 0 _ rfl
    obtain ⟨v3, z3, _, e3, u3, _⟩ := hf1 1 _ rfl
    obtain ⟨v4, z4, _, e4, u4, q4⟩ := hf1 2 _ rfl
    obtain ⟨i0, c0, _, w0⟩ := DataW.trod_int Tryz.underlying22 u0
    obtain ⟨i1, c1, _, w1⟩ := DataW.trod_int Tryz.underlying3 u1
    obtain ⟨i2, c2, _, w2⟩ := DataW.trod_int Tryz.underlying22 u2
    obtain ⟨i3, c3, _, w3⟩ := DataW.trod_int Tryz.underlying22 u3
    obtain ⟨l4, p4, c4, r4⟩ := opens_bytes _ _ _ u4 q4
    obtain ⟨l5, p5, c5, r5⟩ := opens_ents _ _ _ t2' k2
    obtain ⟨j0, rfl, hj0⟩ := u64_of w0
    obtain ⟨j2, rfl, hj2⟩ := u64_of w2
    obtain ⟨j3, rfl, hj3⟩ := u64_of w3
    simp only [List.cons.injEq, and_true] at c0 c1 c2 c3 c4 c5
    subst c0 c1 c2 c3 c4 c5
    simp only [List.getElem?_cons_zero, List.getElem?_cons_succ, Option.some.injEq] at e0 e1 e2 e3 e4
    subst e0 e1 e2 e3 e4
    exact ⟨⟨j0, i1, j2, j3, l4, l5⟩, _, _, rfl, r4, r5, hj0, i64_of w1, hj2, hj3⟩
end
end Go.Proofs.YtnlhjhpikjmoaaaGreatDoor
namespace Go.Proofs.YtnlhjhpikjmoaaaGreatDoor
def entEq (a b : VEnt) : Bool := decide (a.term = b.term) && (decide (a.idx = b.idx) && decide (a.data = b.data))
theorem entEq_iff (a b : VEnt) : entEq a b = true ↔ a = b := by
  cases a; cases b
  simp [entEq]
def sameE : List VEnt → List VEnt → Bool
  | [], [] => true
  | a :: x, b :: y => entEq a b && sameE x y
  | _, _ => false
theorem sameE_iff : ∀ a b : List VEnt, sameE a b = true ↔ a = b
  | [], [] => by simp [sameE]
  | [], b :: y => by simp [sameE]
  | a :: x, [] => by simp [sameE]
  | a :: x, b :: y => by simp [sameE, entEq_iff, sameE_iff x y]
def sameV (a b : VLog) : Bool := decide (a.term = b.term) && (decide (a.vote = b.vote) && (decide (a.si = b.si) && (decide (a.st = b.st) && (decide (a.sd = b.sd) && sameE a.es b.es))))
theorem sameV_iff (a b : VLog) : sameV a b = true ↔ a = b := by
  cases a; cases b
  simp [sameV, sameE_iff]
theorem sameV_refl (a : VLog) : sameV a a = true := (sameV_iff a a).2 rfl
end Go.Proofs.YtnlhjhpikjmoaaaGreatDoor
