/- Vault: logs, and what stands in records, as plain data. No walk.
Vault: what is read of records, as plain data. No walk.
Vault: groups of records, read one behind the other, as plain data. No walk.
Vault: a group of records makes one log out of another one; a part of it does nothing. No walk.
Vault: groups cut off ahead; how many sectors a group has. No walk. -/
import Derived.Test.YtnlhjhpikjmoaaaGreatDoorMem
import Derived.Test.YtnlhjhpikjmoaaaGreatDoorV5
namespace Go.Proofs.YtnlhjhpikjmoaaaGreatDoor

/-! ### numbers and texts as bytes -/
def numF : Nat → Nat → List UInt8
  | 0, v => [UInt8.ofNat v]
  | f + 1, v => if v < 128 then [UInt8.ofNat v] else UInt8.ofNat (v % 128 + 128) :: numF f (v / 128)
def numB (v : Nat) : List UInt8 := numF 9 v
theorem numF_pos : ∀ (f v : Nat), 0 < (numF f v).length
  | 0, _ => by simp [numF]
  | f + 1, v => by unfold numF; split <;> simp
theorem numF_len : ∀ (f v : Nat), (numF f v).length ≤ f + 1
  | 0, _ => by simp [numF]
  | f + 1, v => by
    unfold numF
    split
    · simp
    · have := numF_len f (v / 128)
      simp
      omega
theorem numB_len (v : Nat) : (numB v).length ≤ 10 := numF_len 9 v
theorem numB_pos (v : Nat) : 0 < (numB v).length := numF_pos 9 v
theorem numB_small {v : Nat} (h : v < 128) : numB v = [UInt8.ofNat v] := by unfold numB numF; rw [if_pos h]
def txtB (b : List UInt8) : List UInt8 := numB b.length ++ b

/-! ### logs -/
structure VEnt where
  term : Nat
  idx : Nat
  data : List UInt8
structure VLog where
  term : Nat
  vote : Int
  si : Nat
  st : Nat
  sd : List UInt8
  es : List VEnt
def VLog.zero : VLog := ⟨0, 0, 0, 0, [], []⟩
def rightE (top : Nat) : Nat → Nat → List VEnt → Bool
  | _, _, [] => true
  | t, i, e :: r => e.idx == i + 1 && (decide (t ≤ e.term) && (decide (e.term ≤ top) && (decide (e.data.length ≤ 32668) && rightE top e.term (i + 1) r)))
def rightV (l : VLog) : Bool :=
  decide (l.st ≤ l.term) && (decide (l.si = 0 ↔ l.st = 0) && (decide (l.si ≤ 4611686018427387904) && (decide (l.sd.length ≤ 32668) && (decide (0 ≤ l.vote) && (decide (l.vote ≤ 5) && rightE l.term (max l.st 1) l.si l.es)))))

/-! ### what stands in records -/
inductive Th where
  | beg : Th
  | fol : Th
  | hard (t v : Nat) : Th
  | snap (i t : Nat) (d : List UInt8) : Th
  | back (n : Nat) : Th
  | ent (t : Nat) (d : List UInt8) : Th
  | fin : Th
def encT : Th → List UInt8
  | .beg => numB 1
  | .fol => numB 2
  | .hard t v => numB 3 ++ (numB t ++ numB v)
  | .snap i t d => numB 4 ++ (numB i ++ (numB t ++ txtB d))
  | .back n => numB 5 ++ numB n
  | .ent t d => numB 6 ++ (numB t ++ txtB d)
  | .fin => numB 7
/-- a snapshot is taken -/
def changeV (l : VLog) (i t : Nat) (d : List UInt8) : VLog :=
  let es := l.es.filter fun e => decide (i < e.idx)
  { l with si := i, st := t, sd := d, es := match es with
    | [] => []
    | e :: r => if e.idx = i + 1 then e :: r else [] }
def comN : List VEnt → List VEnt → Nat
  | a :: x, b :: y => if a.term = b.term ∧ a.idx = b.idx ∧ a.data = b.data then comN x y + 1 else 0
  | _, _ => 0
/-- the entries from the n-th on go -/
def backT (l : List VEnt) (n : Nat) : List Th := match l[n]? with
  | some e => [.back e.idx]
  | none => []
/-- what makes one log out of another one -/
def thingsV (f t : VLog) (kind : Th) : List Th :=
  let f2 := if f.si = t.si ∧ f.st = t.st ∧ f.sd = t.sd then f else changeV f t.si t.st t.sd
  let n := comN f2.es t.es
  [kind] ++ ((if f.term = t.term ∧ f.vote = t.vote then [] else [.hard t.term t.vote.toNat]) ++ ((if f.si = t.si ∧ f.st = t.st ∧ f.sd = t.sd then [] else [.snap t.si t.st t.sd]) ++
    (backT f2.es n ++ ((t.es.drop n).map (fun e => .ent e.term e.data) ++ [.fin]))))
/-- things put together to records of at most so many bytes -/
def packB (lim : Nat) : List UInt8 → List (List UInt8) → List (List UInt8)
  | b, [] => [b]
  | b, t :: r => if b.length + t.length > lim then b :: packB lim t r else packB lim (b ++ t) r
def recordsV (f t : VLog) (kind : Th) : List (List UInt8) := packB 32768 [] ((thingsV f t kind).map encT)
end Go.Proofs.YtnlhjhpikjmoaaaGreatDoor

namespace Go.Proofs.YtnlhjhpikjmoaaaGreatDoor

/-! ### indexes one behind the other -/
def conE : Nat → List VEnt → Prop
  | _, [] => True
  | i, e :: r => e.idx = i + 1 ∧ conE (i + 1) r
theorem rightE_con {top : Nat} : ∀ {t i : Nat} {l : List VEnt}, rightE top t i l = true → conE i l
  | _, _, [], _ => trivial
  | t, i, e :: r, h => by
    simp only [rightE, Bool.and_eq_true, beq_iff_eq] at h
    exact ⟨h.1, rightE_con h.2.2.2.2⟩
theorem conE_drop : ∀ {i : Nat} {l : List VEnt}, conE i l → ∀ k, conE (i + k) (l.drop k)
  | _, [], _, k => by rw [List.drop_nil]; trivial
  | i, e :: r, h, 0 => h
  | i, e :: r, h, k + 1 => by
    rw [List.drop_succ_cons, show i + (k + 1) = i + 1 + k by omega]
    exact conE_drop h.2 k
theorem conE_get : ∀ {i : Nat} {l : List VEnt}, conE i l → ∀ (k : Nat) (e : VEnt), l[k]? = some e → e.idx = i + k + 1
  | _, [], _, k, e, h => by simp at h
  | i, a :: r, h, 0, e, he => by
    rw [List.getElem?_cons_zero] at he
    rw [← Option.some.inj he]
    exact h.1
  | i, a :: r, h, k + 1, e, he => by
    rw [List.getElem?_cons_succ] at he
    have := conE_get h.2 k e he
    omega
theorem conE_up : ∀ {j : Nat} {l : List VEnt}, conE j l → ∀ i, l.filter (fun e => decide (i < e.idx)) = l.drop (i - j)
  | _, [], _, i => by simp
  | j, e :: r, h, i => by
    have ih := conE_up h.2 i
    by_cases hi : i < e.idx
    · rw [List.filter_cons_of_pos (by simpa using hi), ih]
      have := h.1
      rw [show i - j = 0 by omega, show i - (j + 1) = 0 by omega, List.drop_zero, List.drop_zero]
    · rw [List.filter_cons_of_neg (by simpa using hi), ih]
      have := h.1
      rw [show i - j = (i - (j + 1)) + 1 by omega, List.drop_succ_cons]
theorem conE_low : ∀ {j : Nat} {l : List VEnt}, conE j l → ∀ n, l.filter (fun e => decide (e.idx < n)) = l.take (n - (j + 1))
  | _, [], _, n => by simp
  | j, e :: r, h, n => by
    have ih := conE_low h.2 n
    by_cases hi : e.idx < n
    · rw [List.filter_cons_of_pos (by simpa using hi), ih]
      have := h.1
      rw [show n - (j + 1) = (n - (j + 1 + 1)) + 1 by omega, List.take_succ_cons]
    · rw [List.filter_cons_of_neg (by simpa using hi), ih]
      have := h.1
      rw [show n - (j + 1) = 0 by omega, show n - (j + 1 + 1) = 0 by omega, List.take_zero, List.take_zero]
theorem changeV_con {l : VLog} (h : conE l.si l.es) (i t : Nat) (d : List UInt8) : conE i (changeV l i t d).es := by
  unfold changeV
  simp only
  rw [conE_up h]
  have hd := conE_drop h (i - l.si)
  generalize l.es.drop (i - l.si) = q at hd
  cases q with
  | nil => trivial
  | cons e r =>
    by_cases he : e.idx = i + 1
    · simp only [he, if_true]
      have h1 := hd.1
      exact ⟨he, by rw [show i + 1 = l.si + (i - l.si) + 1 by omega]; exact hd.2⟩
    · simp only [he, if_false]
      trivial
theorem comN_le : ∀ a b : List VEnt, comN a b ≤ a.length ∧ comN a b ≤ b.length ∧ a.take (comN a b) = b.take (comN a b)
  | [], b => by simp [comN]
  | a :: x, [] => by simp [comN]
  | a :: x, b :: y => by
    unfold comN
    split
    · rename_i h
      obtain ⟨h1, h2, h3⟩ := comN_le x y
      refine ⟨by simpa using h1, by simpa using h2, ?_⟩
      rw [List.take_succ_cons, List.take_succ_cons, h3]
      congr 1
      obtain ⟨h4, h5, h6⟩ := h
      cases a; cases b
      simp only at h4 h5 h6
      rw [h4, h5, h6]
    · simp
/-! ### reading things -/
structure RdS where
  cur : VLog
  begun : Bool
  ended : Bool
def stepT (had : VLog) (s : RdS) : Th → RdS
  | .beg => ⟨VLog.zero, true, false⟩
  | .fol => ⟨had, s.begun, false⟩
  | .hard t v => { s with cur := { s.cur with term := t, vote := (v : Int) } }
  | .snap i t d => { s with cur := changeV s.cur i t d }
  | .back n => { s with cur := { s.cur with es := s.cur.es.filter fun e => decide (e.idx < n) } }
  | .ent t d => { s with cur := { s.cur with es := s.cur.es ++ [⟨t, s.cur.si + s.cur.es.length + 1, d⟩] } }
  | .fin => { s with ended := true }
theorem fold_ents (had : VLog) : ∀ (q : List VEnt) (s : RdS), conE (s.cur.si + s.cur.es.length) q → (q.map fun e => Th.ent e.term e.data).foldl (stepT had) s = { s with cur := { s.cur with es := s.cur.es ++ q } }
  | [], s, _ => by simp
  | e :: q, s, h => by
    rw [List.map_cons, List.foldl_cons]
    have he : (⟨e.term, s.cur.si + s.cur.es.length + 1, e.data⟩ : VEnt) = e := by
      have := h.1
      cases e
      simp only at this
      rw [this]
    rw [fold_ents had q (stepT had s (.ent e.term e.data)) (by
      show conE (s.cur.si + (s.cur.es ++ [_]).length) q
      rw [List.length_append, List.length_singleton, ← Nat.add_assoc]
      exact h.2)]
    show { s with cur := { s.cur with es := (s.cur.es ++ [_]) ++ q } } = _
    rw [he, List.append_assoc]
    rfl
/-- what makes one log out of another one does so -/
theorem fold_things {f t had : VLog} {kind : Th} (hf : conE f.si f.es) (ht : conE t.si t.es) (hv : 0 ≤ t.vote) (s : RdS) (b : Bool) (hk : stepT had s kind = ⟨f, b, false⟩) : (thingsV f t kind).foldl (stepT had) s = ⟨t, b, true⟩ := by
  unfold thingsV
  simp only
  rw [List.foldl_append, List.foldl_cons, List.foldl_nil, hk, List.foldl_append]
  have e1 : (if f.term = t.term ∧ f.vote = t.vote then ([] : List Th) else [.hard t.term t.vote.toNat]).foldl (stepT had) ⟨f, b, false⟩ = ⟨{ f with term := t.term, vote := t.vote }, b, false⟩ := by
    split
    · rename_i h
      rw [← h.1, ← h.2]
      rfl
    · show (⟨{ f with term := t.term, vote := ((t.vote.toNat : Nat) : Int) }, b, false⟩ : RdS) = _
      rw [Int.toNat_of_nonneg hv]
  rw [e1, List.foldl_append]
  have e2 : ∃ es2, (if f.si = t.si ∧ f.st = t.st ∧ f.sd = t.sd then f else changeV f t.si t.st t.sd).es = es2 ∧ conE t.si es2 ∧ (if f.si = t.si ∧ f.st = t.st ∧ f.sd = t.sd then ([] : List Th) else [.snap t.si t.st t.sd]).foldl (stepT had) ⟨{ f with term := t.term, vote := t.vote }, b, false⟩ = ⟨{ t with es := es2 }, b, false⟩ := by
    split
    · rename_i h
      refine ⟨_, rfl, by rw [← h.1]; exact hf, ?_⟩
      rw [List.foldl_nil]
      cases f; cases t
      simp only at h
      rw [h.1, h.2.1, h.2.2]
    · exact ⟨_, rfl, changeV_con hf _ _ _, rfl⟩
  obtain ⟨es2, h2, hc2, e2⟩ := e2
  rw [e2, h2, List.foldl_append]
  obtain ⟨h3, h4, h5⟩ := comN_le es2 t.es
  generalize comN es2 t.es = n at h3 h4 h5
  have e3 : (backT es2 n).foldl (stepT had) ⟨{ t with es := es2 }, b, false⟩ = ⟨{ t with es := es2.take n }, b, false⟩ := by
    unfold backT
    cases hn : es2[n]? with
    | none =>
      rw [List.getElem?_eq_none_iff] at hn
      rw [List.take_of_length_le hn]
      rfl
    | some e =>
      have hi := conE_get hc2 n e hn
      show (⟨{ t with es := es2.filter fun x => decide (x.idx < e.idx) }, b, false⟩ : RdS) = _
      rw [conE_low hc2, hi, show t.si + n + 1 - (t.si + 1) = n by omega]
  rw [e3, List.foldl_append, fold_ents had _ _ (by
    show conE (t.si + (es2.take n).length) (t.es.drop n)
    rw [List.length_take, Nat.min_eq_left h3]
    exact conE_drop ht n)]
  show (⟨{ t with es := es2.take n ++ t.es.drop n }, b, true⟩ : RdS) = _
  rw [h5, List.take_append_drop]
end Go.Proofs.YtnlhjhpikjmoaaaGreatDoor

namespace Go.Proofs.YtnlhjhpikjmoaaaGreatDoor

def flatT (g : List Th) : List UInt8 := (g.map encT).flatten
theorem flatT_append (a b : List Th) : flatT (a ++ b) = flatT a ++ flatT b := by unfold flatT; rw [List.map_append, List.flatten_append]
theorem packB_groups (lim : Nat) : ∀ (ts g : List Th), ∃ (gs : List (List Th)) (q : List Th), packB lim (flatT g) (ts.map encT) = gs.map flatT ++ [flatT q] ∧ gs.flatten ++ q = g ++ ts ∧ (g ++ ts ≠ [] → q ≠ []) ∧ ∃ x, (gs ++ [q])[0]? = some (g ++ x)
  | [], g => ⟨[], g, rfl, by simp, by simp, [], by simp⟩
  | t :: r, g => by
    rw [List.map_cons, packB]
    split
    · obtain ⟨gs, q, h1, h2, h3, _⟩ := packB_groups lim r [t]
      have e : flatT [t] = encT t := by simp [flatT]
      rw [e] at h1
      refine ⟨g :: gs, q, by rw [h1]; rfl, ?_, fun _ => h3 (by simp), [], by simp⟩
      rw [List.flatten_cons, List.append_assoc, h2]
      simp
    · obtain ⟨gs, q, h1, h2, h3, x, hx⟩ := packB_groups lim r (g ++ [t])
      have e : flatT (g ++ [t]) = flatT g ++ encT t := by rw [flatT_append]; simp [flatT]
      rw [e] at h1
      exact ⟨gs, q, h1, by rw [h2]; simp, fun _ => h3 (by simp), t :: x, by rw [hx]; simp⟩
theorem packB_le (lim : Nat) : ∀ (ts : List (List UInt8)) (b : List UInt8), b.length ≤ lim → (∀ t ∈ ts, t.length ≤ lim) → ∀ r ∈ packB lim b ts, r.length ≤ lim
  | [], b, hb, _, r, hr => by
    rw [packB, List.mem_singleton] at hr
    rw [hr]
    exact hb
  | t :: ts, b, hb, ht, r, hr => by
    rw [packB] at hr
    split at hr
    · rcases List.mem_cons.1 hr with h | h
      · rw [h]; exact hb
      · exact packB_le lim ts t (ht t (by simp)) (fun x hx => ht x (by simp [hx])) r h
    · exact packB_le lim ts (b ++ t) (by rw [List.length_append]; omega) (fun x hx => ht x (by simp [hx])) r hr

/-! ### one record -/
def plainT : Th → Bool
  | .hard .. | .snap .. | .back .. | .ent .. => true
  | _ => false
theorem stepT_cur (had : VLog) (s s' : RdS) (h : s.cur = s'.cur) (t : Th) : (stepT had s t).cur = (stepT had s' t).cur := by cases t <;> simp [stepT, h]
theorem fold_cur (had : VLog) : ∀ (l : List Th) (s s' : RdS), s.cur = s'.cur → (l.foldl (stepT had) s).cur = (l.foldl (stepT had) s').cur
  | [], _, _, h => h
  | t :: l, s, s', h => fold_cur had l _ _ (stepT_cur had s s' h t)
theorem fold_plain (had : VLog) : ∀ (l : List Th) (s : RdS), (∀ t ∈ l, plainT t = true) → (l.foldl (stepT had) s).begun = s.begun ∧ (l.foldl (stepT had) s).ended = s.ended
  | [], _, _ => ⟨rfl, rfl⟩
  | t :: l, s, h => by
    have ht := h t (by simp)
    obtain ⟨h1, h2⟩ := fold_plain had l (stepT had s t) fun x hx => h x (by simp [hx])
    rw [List.foldl_cons, h1, h2]
    cases t <;> simp_all [stepT, plainT]
/-! ### records, one behind the other -/
structure RS where
  log : VLog
  next : VLog
  from_ : Nat
  first : Nat
  whole : Nat
  n : Nat
def stepR (s : RS) (g : List Th) : RS :=
  let r := g.foldl (stepT s.log) ⟨s.next, false, false⟩
  let fr := if r.begun = true then s.n else s.from_
  if r.ended = true then ⟨r.cur, r.cur, fr, fr, s.n + 1, s.n + 1⟩ else ⟨s.log, r.cur, fr, s.first, s.whole, s.n + 1⟩
/-- records of plain things -/
theorem fold_stepR_plain : ∀ (gs : List (List Th)) (s : RS), (∀ t ∈ gs.flatten, plainT t = true) → gs.foldl stepR s = ⟨s.log, (gs.flatten.foldl (stepT s.log) ⟨s.next, false, false⟩).cur, s.from_, s.first, s.whole, s.n + gs.length⟩
  | [], s, _ => by simp
  | g :: gs, s, h => by
    obtain ⟨h1, h2⟩ := fold_plain s.log g ⟨s.next, false, false⟩ fun t ht => h t (by rw [List.flatten_cons]; exact List.mem_append_left _ ht)
    have e : stepR s g = ⟨s.log, (g.foldl (stepT s.log) ⟨s.next, false, false⟩).cur, s.from_, s.first, s.whole, s.n + 1⟩ := by
      unfold stepR
      simp only [h1, h2]
      rfl
    rw [List.foldl_cons, e, fold_stepR_plain gs _ fun t ht => h t (by rw [List.flatten_cons]; exact List.mem_append_right _ ht)]
    simp only
    rw [List.flatten_cons, List.foldl_append, List.length_cons]
    congr 1
    · exact fold_cur _ _ _ _ rfl
    · omega
/-- records whose first thing begins: a part of a group -/
theorem fold_stepR_part {had : VLog} (kind : Th) (b : Bool) (f : VLog) (hk : ∀ c e, stepT had ⟨c, false, e⟩ kind = ⟨f, b, false⟩) (g : List Th) (gs : List (List Th)) (s : RS) (hs : s.log = had) (h : ∀ t ∈ g ++ gs.flatten, plainT t = true) :
    ((kind :: g) :: gs).foldl stepR s = ⟨s.log, ((kind :: g ++ gs.flatten).foldl (stepT had) ⟨s.next, false, false⟩).cur, if b = true then s.n else s.from_, s.first, s.whole, s.n + (gs.length + 1)⟩ := by
  subst hs
  obtain ⟨h1, h2⟩ := fold_plain s.log g ⟨f, b, false⟩ fun t ht => h t (List.mem_append_left _ ht)
  have e : stepR s (kind :: g) = ⟨s.log, ((kind :: g).foldl (stepT s.log) ⟨s.next, false, false⟩).cur, if b = true then s.n else s.from_, s.first, s.whole, s.n + 1⟩ := by
    unfold stepR
    rw [List.foldl_cons, hk]
    simp only [h1, h2]
    rfl
  rw [List.foldl_cons, e, fold_stepR_plain gs _ fun t ht => h t (List.mem_append_right _ ht)]
  simp only
  rw [List.foldl_append]
  congr 1
  · exact fold_cur _ _ _ _ rfl
  · omega
theorem thingsV_form (f t : VLog) (kind : Th) : ∃ m, thingsV f t kind = kind :: (m ++ [.fin]) ∧ ∀ x ∈ m, plainT x = true := by
  unfold thingsV
  simp only
  generalize hf2 : (if f.si = t.si ∧ f.st = t.st ∧ f.sd = t.sd then f else changeV f t.si t.st t.sd) = f2
  refine ⟨(if f.term = t.term ∧ f.vote = t.vote then [] else [.hard t.term t.vote.toNat]) ++ ((if f.si = t.si ∧ f.st = t.st ∧ f.sd = t.sd then [] else [.snap t.si t.st t.sd]) ++ (backT f2.es (comN f2.es t.es) ++ (t.es.drop (comN f2.es t.es)).map (fun e => .ent e.term e.data))), by simp, fun x hx => ?_⟩
  simp only [List.mem_append] at hx
  rcases hx with h | h | h | h
  · split at h
    · cases h
    · rw [List.mem_singleton.1 h]; rfl
  · split at h
    · cases h
    · rw [List.mem_singleton.1 h]; rfl
  · unfold backT at h
    split at h
    · rw [List.mem_singleton.1 h]; rfl
    · cases h
  · obtain ⟨e, _, rfl⟩ := List.mem_map.1 h
    rfl
/-- a group's records as things: all but the last one are plain behind the first thing; the last one ends with the end -/
theorem recordsV_groups (f t : VLog) (kind : Th) (hkl : (encT kind).length ≤ 32768) : ∃ (gs : List (List Th)) (q : List Th), recordsV f t kind = (gs ++ [q ++ [Th.fin]]).map flatT ∧
    ((gs = [] ∧ ∃ q', q = kind :: q' ∧ q = (thingsV f t kind).dropLast ∧ ∀ x ∈ q', plainT x = true) ∨ (∃ g gs', gs = (kind :: g) :: gs' ∧ kind :: g ++ gs'.flatten ++ q = (thingsV f t kind).dropLast ∧ ∀ x ∈ g ++ gs'.flatten ++ q, plainT x = true)) := by
  obtain ⟨m, hm, hp⟩ := thingsV_form f t kind
  have hdl : (thingsV f t kind).dropLast = kind :: m := by rw [hm, ← List.cons_append, List.dropLast_concat]
  unfold recordsV
  have e : ([] : List UInt8) ++ encT kind = flatT [kind] := by simp [flatT]
  have e0 : packB 32768 [] ((thingsV f t kind).map encT) = packB 32768 (flatT [kind]) ((m ++ [Th.fin]).map encT) := by
    rw [hm, List.map_cons, packB, if_neg (by simpa using hkl), e]
  rw [e0]
  obtain ⟨gs, q, h1, h2, h3, y, hy⟩ := packB_groups 32768 (m ++ [Th.fin]) [kind]
  rw [h1]
  have hq : q ≠ [] := h3 (by simp)
  obtain ⟨q0, x, rfl⟩ : ∃ q0 x, q = q0 ++ [x] := ⟨q.dropLast, q.getLast hq, (List.dropLast_concat_getLast hq).symm⟩
  have h4 : (gs.flatten ++ q0) ++ [x] = (kind :: m) ++ [Th.fin] := by rw [List.append_assoc, h2]; simp
  obtain ⟨h5, h6⟩ := List.append_inj' h4 rfl
  obtain rfl : x = Th.fin := by simpa using h6
  refine ⟨gs, q0, by rw [List.map_append]; rfl, ?_⟩
  cases gs with
  | nil =>
    rw [List.flatten_nil, List.nil_append] at h5
    exact .inl ⟨rfl, m, h5, by rw [h5, hdl], hp⟩
  | cons g0 gs' =>
    right
    rw [List.flatten_cons] at h5
    obtain rfl : g0 = kind :: y := by simpa using hy
    rw [List.append_assoc, List.cons_append] at h5
    obtain ⟨_, h7⟩ := List.cons.inj h5
    refine ⟨y, gs', rfl, ?_, ?_⟩
    · rw [hdl, ← h7]; simp
    · rw [List.append_assoc, h7]; exact hp
end Go.Proofs.YtnlhjhpikjmoaaaGreatDoor

namespace Go.Proofs.YtnlhjhpikjmoaaaGreatDoor

theorem stepR_last {s : RS} {q : List Th} {cur : VLog} {b : Bool} (hc : (q.foldl (stepT s.log) ⟨s.next, false, false⟩).cur = cur) (hb : (q.foldl (stepT s.log) ⟨s.next, false, false⟩).begun = b) :
    stepR s (q ++ [Th.fin]) = ⟨cur, cur, if b = true then s.n else s.from_, if b = true then s.n else s.from_, s.n + 1, s.n + 1⟩ := by
  unfold stepR
  rw [List.foldl_append, List.foldl_cons, List.foldl_nil]
  generalize q.foldl (stepT s.log) ⟨s.next, false, false⟩ = r at hc hb
  obtain ⟨c, b', e⟩ := r
  simp only at hc hb
  subst hc hb
  rfl
theorem thingsV_last (f t : VLog) (kind : Th) : thingsV f t kind = (thingsV f t kind).dropLast ++ [Th.fin] := by
  obtain ⟨m, hm, _⟩ := thingsV_form f t kind
  rw [hm, ← List.cons_append, List.dropLast_concat]
theorem grp_read {had f t : VLog} {kind : Th} {b : Bool} (hk : ∀ c e, stepT had ⟨c, false, e⟩ kind = ⟨f, b, false⟩) (hkl : (encT kind).length ≤ 32768) (hf : conE f.si f.es) (ht : conE t.si t.es) (hv : 0 ≤ t.vote) (s : RS) (hs : s.log = had) :
    ∃ gs : List (List Th), recordsV f t kind = gs.map flatT ∧ gs.flatten = thingsV f t kind ∧ gs.foldl stepR s = ⟨t, t, if b = true then s.n else s.from_, if b = true then s.n else s.from_, s.n + gs.length, s.n + gs.length⟩ ∧
      ∀ j, j < gs.length → ∃ nx fr, (gs.take j).foldl stepR s = ⟨s.log, nx, fr, s.first, s.whole, s.n + j⟩ := by
  obtain ⟨gs, q, h1, h2⟩ := recordsV_groups f t kind hkl
  have hth := fold_things (had := had) hf ht hv ⟨s.next, false, false⟩ b (hk _ _)
  rw [thingsV_last, List.foldl_append] at hth
  have hcur : ((thingsV f t kind).dropLast.foldl (stepT had) ⟨s.next, false, false⟩).cur = t := by
    have := congrArg RdS.cur hth
    exact this
  subst hs
  refine ⟨gs ++ [q ++ [Th.fin]], h1, ?_, ?_, ?_⟩
  · rw [thingsV_last f t kind, List.flatten_append, List.flatten_cons, List.flatten_nil, List.append_nil, ← List.append_assoc]
    congr 1
    rcases h2 with ⟨rfl, q', h3, h4, _⟩ | ⟨g, gs', rfl, h4, _⟩
    · rw [List.flatten_nil, List.nil_append, h4]
    · rw [List.flatten_cons, h4]
  · rcases h2 with ⟨rfl, q', h3, h4, h5⟩ | ⟨g, gs', rfl, h4, h5⟩
    · show stepR s (q ++ [Th.fin]) = _
      rw [stepR_last (cur := t) (b := b) (by rw [h4]; exact hcur) (by
        rw [h3, List.foldl_cons, hk]
        exact (fold_plain _ q' _ h5).1)]
      rfl
    · rw [List.foldl_append, fold_stepR_part kind b f hk g gs' s rfl fun x hx => h5 x (List.mem_append_left _ hx)]
      show stepR _ (q ++ [Th.fin]) = _
      have hq := fold_plain s.log q ⟨((kind :: g ++ gs'.flatten).foldl (stepT s.log) ⟨s.next, false, false⟩).cur, false, false⟩ fun x hx => h5 x (List.mem_append_right _ hx)
      have hc2 : ∀ R : RdS, R = (kind :: g ++ gs'.flatten).foldl (stepT s.log) ⟨s.next, false, false⟩ → (q.foldl (stepT s.log) ⟨R.cur, false, false⟩).cur = t := fun R hR =>
        (fold_cur s.log q ⟨R.cur, false, false⟩ R rfl).trans (by rw [hR, ← List.foldl_append, h4]; exact hcur)
      rw [stepR_last (cur := t) (b := false) (hc2 _ rfl) hq.1]
      simp [Nat.add_assoc]
  · intro j hj
    rw [List.length_append, List.length_singleton] at hj
    rw [List.take_append_of_le_length (by omega)]
    rcases h2 with ⟨rfl, _⟩ | ⟨g, gs', rfl, h4, h5⟩
    · obtain rfl : j = 0 := by simpa using hj
      exact ⟨_, _, rfl⟩
    · cases j with
      | zero => exact ⟨_, _, rfl⟩
      | succ j =>
        rw [List.take_succ_cons, fold_stepR_part kind b f hk g (gs'.take j) s rfl fun x hx => h5 x (by
          refine List.mem_append_left _ ?_
          rcases List.mem_append.1 hx with h | h
          · exact List.mem_append_left _ h
          · refine List.mem_append_right _ ?_
            obtain ⟨y, hy, hxy⟩ := List.mem_flatten.1 h
            exact List.mem_flatten.2 ⟨y, List.mem_of_mem_take hy, hxy⟩)]
        have hlt : (gs'.take j).length = j := by rw [List.length_take, Nat.min_eq_left (by rw [List.length_cons] at hj; omega)]
        rw [hlt]
        exact ⟨_, _, rfl⟩
theorem fol_step (had c : VLog) (e : Bool) : stepT had ⟨c, false, e⟩ .fol = ⟨had, false, false⟩ := rfl
theorem beg_step (had c : VLog) (e : Bool) : stepT had ⟨c, false, e⟩ .beg = ⟨VLog.zero, true, false⟩ := rfl
/-! ### groups -/
/-- records as groups, one behind the other: what they make; from where the last one began anew -/
inductive Grps : List (List UInt8) → VLog → Nat → Prop
  | nil : Grps [] VLog.zero 0
  | fol {rs l i t} : Grps rs l i → rightV t = true → Grps (rs ++ recordsV l t .fol) t i
  | beg {rs l i t} : Grps rs l i → rightV t = true → Grps (rs ++ recordsV VLog.zero t .beg) t rs.length
theorem rightV_con {l : VLog} (h : rightV l = true) : conE l.si l.es := by
  simp only [rightV, Bool.and_eq_true] at h
  exact rightE_con h.2.2.2.2.2.2
theorem rightV_vote {l : VLog} (h : rightV l = true) : 0 ≤ l.vote ∧ l.vote ≤ 5 := by
  simp only [rightV, Bool.and_eq_true, decide_eq_true_eq] at h
  exact ⟨h.2.2.2.2.1, h.2.2.2.2.2.1⟩
theorem Grps.con {rs : List (List UInt8)} {l : VLog} {i : Nat} (h : Grps rs l i) : conE l.si l.es := by
  cases h with
  | nil => trivial
  | fol _ h => exact rightV_con h
  | beg _ h => exact rightV_con h
theorem Grps.le {rs : List (List UInt8)} {l : VLog} {i : Nat} (h : Grps rs l i) : i ≤ rs.length := by
  induction h with
  | nil => exact Nat.le_refl _
  | fol _ _ ih => rw [List.length_append]; omega
  | beg _ _ _ => rw [List.length_append]; omega
/-- what is read of groups -/
theorem Grps.read {rs : List (List UInt8)} {l : VLog} {i : Nat} (h : Grps rs l i) (n0 : Nat) : ∃ gs : List (List Th), rs = gs.map flatT ∧ ∃ nx, gs.foldl stepR ⟨VLog.zero, VLog.zero, n0, n0, n0, n0⟩ = ⟨l, nx, n0 + i, n0 + i, n0 + rs.length, n0 + rs.length⟩ := by
  induction h with
  | nil => exact ⟨[], rfl, _, rfl⟩
  | @fol rs l i t h ht ih =>
    obtain ⟨gs, h1, nx, h2⟩ := ih
    have hlen : gs.length = rs.length := by rw [h1, List.length_map]
    obtain ⟨q, h3, _, h4, _⟩ := grp_read (had := l) (f := l) (t := t) (kind := .fol) (b := false) (fol_step l) (by decide) h.con (rightV_con ht) (rightV_vote ht).1 ⟨l, nx, n0 + i, n0 + i, n0 + rs.length, n0 + rs.length⟩ rfl
    have hql : (recordsV l t .fol).length = q.length := by rw [h3, List.length_map]
    refine ⟨gs ++ q, by rw [List.map_append, ← h1, ← h3], t, ?_⟩
    rw [List.foldl_append, h2, h4, List.length_append, hql]
    simp [Nat.add_assoc]
  | @beg rs l i t h ht ih =>
    obtain ⟨gs, h1, nx, h2⟩ := ih
    have hlen : gs.length = rs.length := by rw [h1, List.length_map]
    obtain ⟨q, h3, _, h4, _⟩ := grp_read (had := l) (f := VLog.zero) (t := t) (kind := .beg) (b := true) (beg_step l) (by decide) trivial (rightV_con ht) (rightV_vote ht).1 ⟨l, nx, n0 + i, n0 + i, n0 + rs.length, n0 + rs.length⟩ rfl
    have hql : (recordsV VLog.zero t .beg).length = q.length := by rw [h3, List.length_map]
    refine ⟨gs ++ q, by rw [List.map_append, ← h1, ← h3], t, ?_⟩
    rw [List.foldl_append, h2, h4, List.length_append, hql]
    simp [Nat.add_assoc]
end Go.Proofs.YtnlhjhpikjmoaaaGreatDoor

namespace Go.Proofs.YtnlhjhpikjmoaaaGreatDoor

theorem Grps.cut {rs : List (List UInt8)} {l : VLog} {i : Nat} (h : Grps rs l i) : Grps (rs.drop i) l 0 := by
  induction h with
  | nil => exact .nil
  | fol h ht ih =>
    rw [List.drop_append_of_le_length h.le]
    exact .fol ih ht
  | @beg rs l i t h ht ih =>
    rw [List.drop_left']
    · have := Grps.beg (t := t) Grps.nil ht
      simpa using this
    · rfl
/-- groups and a part of one more -/
theorem Grps.read_part {rs : List (List UInt8)} {l : VLog} {i : Nat} (h : Grps rs l i) (n0 : Nat) {f t : VLog} {kind : Th} (hk : (kind = .fol ∧ f = l) ∨ (kind = .beg ∧ f = VLog.zero)) (ht : rightV t = true) (j : Nat) (hj : j < (recordsV f t kind).length) :
    ∃ gs : List (List Th), rs ++ (recordsV f t kind).take j = gs.map flatT ∧ ∃ nx fr, gs.foldl stepR ⟨VLog.zero, VLog.zero, n0, n0, n0, n0⟩ = ⟨l, nx, fr, n0 + i, n0 + rs.length, n0 + rs.length + j⟩ := by
  obtain ⟨gs, h1, nx, h2⟩ := h.read n0
  obtain ⟨b, hkk, hkl, hcf⟩ : ∃ b, (∀ c e, stepT l ⟨c, false, e⟩ kind = ⟨f, b, false⟩) ∧ (encT kind).length ≤ 32768 ∧ conE f.si f.es := by
    rcases hk with ⟨rfl, rfl⟩ | ⟨rfl, rfl⟩
    · exact ⟨false, fol_step _, by decide, h.con⟩
    · exact ⟨true, beg_step _, by decide, trivial⟩
  obtain ⟨q, h3, _, _, h4⟩ := grp_read (had := l) (f := f) (t := t) hkk hkl hcf (rightV_con ht) (rightV_vote ht).1 ⟨l, nx, n0 + i, n0 + i, n0 + rs.length, n0 + rs.length⟩ rfl
  have hql : (recordsV f t kind).length = q.length := by rw [h3, List.length_map]
  obtain ⟨nx', fr', h5⟩ := h4 j (by omega)
  refine ⟨gs ++ q.take j, by rw [List.map_append, ← h1, h3, List.map_take], nx', fr', ?_⟩
  rw [List.foldl_append, h2, h5]

/-! ### room -/
def sizeV (l : VLog) : Nat := 400 + l.sd.length + (l.es.map fun e => 100 + e.data.length).sum
theorem encT_ent_len (t : Nat) (d : List UInt8) : (encT (.ent t d)).length ≤ 30 + d.length := by
  have h1 := numB_len 6
  have h2 := numB_len t
  have h3 := numB_len d.length
  have h4 : (numB 6).length = 1 := rfl
  simp only [encT, txtB, List.length_append]
  omega
theorem secN_le (m : Nat) : 48 * secN m ≤ m + 50 := by unfold secN; omega
theorem packB_secs (lim : Nat) : ∀ (ts : List (List UInt8)) (b : List UInt8), 48 * secSum (packB lim b ts) ≤ b.length + (ts.map List.length).sum + 50 * (ts.length + 1)
  | [], b => by
    have := secN_le b.length
    rw [packB, secSum_cons]
    simp only [secSum, List.map_nil, List.sum_nil, List.length_nil]
    omega
  | t :: ts, b => by
    rw [packB]
    split
    · have h1 := packB_secs lim ts t
      have h2 := secN_le b.length
      rw [secSum_cons]
      simp only [List.map_cons, List.sum_cons, List.length_cons]
      omega
    · have h1 := packB_secs lim ts (b ++ t)
      rw [List.length_append] at h1
      simp only [List.map_cons, List.sum_cons, List.length_cons]
      omega
theorem ents_len (l : List VEnt) : ((l.map fun e => encT (.ent e.term e.data)).map List.length).sum ≤ (l.map fun e => 30 + e.data.length).sum := by
  induction l with
  | nil => simp
  | cons e r ih =>
    simp only [List.map_cons, List.sum_cons]
    have := encT_ent_len e.term e.data
    omega
theorem sum_ge (l : List VEnt) : 100 * l.length ≤ (l.map fun e => 100 + e.data.length).sum ∧ (l.map fun e => 30 + e.data.length).sum + 70 * l.length = (l.map fun e => 100 + e.data.length).sum := by
  induction l with
  | nil => simp
  | cons e r ih =>
    simp only [List.map_cons, List.sum_cons, List.length_cons]
    omega
theorem zero_things (t : VLog) (kind : Th) : ∃ a b : List Th, thingsV VLog.zero t kind = [kind] ++ (a ++ (b ++ (t.es.map (fun e => .ent e.term e.data) ++ [.fin]))) ∧ (a = [] ∨ a = [.hard t.term t.vote.toNat]) ∧ (b = [] ∨ b = [.snap t.si t.st t.sd]) := by
  unfold thingsV
  simp only
  have h0 : (if VLog.zero.si = t.si ∧ VLog.zero.st = t.st ∧ VLog.zero.sd = t.sd then VLog.zero else changeV VLog.zero t.si t.st t.sd).es = [] := by split <;> rfl
  rw [h0]
  have h1 : comN [] t.es = 0 := by unfold comN; cases t.es <;> rfl
  rw [h1]
  refine ⟨_, _, rfl, ?_, ?_⟩
  · split
    · exact .inl rfl
    · exact .inr rfl
  · split
    · exact .inl rfl
    · exact .inr rfl
/-- a whole log has few sectors -/
theorem whole_secs (t : VLog) (kind : Th) (hk : (encT kind).length = 1) : 48 * secSum (recordsV VLog.zero t kind) ≤ sizeV t + 50 * t.es.length := by
  obtain ⟨a, b, h1, h2, h3⟩ := zero_things t kind
  have h4 := packB_secs 32768 ((thingsV VLog.zero t kind).map encT) []
  unfold recordsV
  rw [h1] at h4 ⊢
  have ha : ((a.map encT).map List.length).sum ≤ 30 ∧ a.length ≤ 1 := by
    rcases h2 with rfl | rfl
    · simp
    · have h5 := numB_len 3
      have h6 := numB_len t.term
      have h7 := numB_len t.vote.toNat
      simp only [List.map_cons, List.map_nil, List.sum_cons, List.sum_nil, List.length_singleton, encT, List.length_append]
      omega
  have hb : ((b.map encT).map List.length).sum ≤ 40 + t.sd.length ∧ b.length ≤ 1 := by
    rcases h3 with rfl | rfl
    · simp
    · have h5 := numB_len 4
      have h6 := numB_len t.si
      have h7 := numB_len t.st
      have h8 := numB_len t.sd.length
      simp only [List.map_cons, List.map_nil, List.sum_cons, List.sum_nil, List.length_singleton, encT, txtB, List.length_append]
      omega
  have he := ents_len t.es
  have hs := sum_ge t.es
  have h9 : (encT .fin).length = 1 := rfl
  simp only [List.map_append, List.sum_append, List.map_cons, List.map_nil, List.sum_cons, List.sum_nil, List.length_append, List.length_map, List.length_singleton, List.length_nil, hk, h9, List.map_map, Function.comp_def] at h4 he ⊢
  simp only [List.map_map, Function.comp_def] at ha hb
  unfold sizeV
  omega
end Go.Proofs.YtnlhjhpikjmoaaaGreatDoor
