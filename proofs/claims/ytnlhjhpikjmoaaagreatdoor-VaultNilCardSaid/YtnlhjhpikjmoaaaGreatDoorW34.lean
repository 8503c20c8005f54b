/- The log on a calm disk: what each function does, as plain data. No walk.
A log on a calm disk: states, one behind the other. No walk.
A log on a calm disk, in memory: contracts in one's own words. -/
import Derived.Test.YtnlhjhpikjmoaaaGreatDoorW31
import Derived.Lib.SlBytesConst
namespace Go.Proofs.YtnlhjhpikjmoaaaGreatDoor
open Go.RowKit

structure Calm (d : DskD) : Prop where
  down : d.down = false
  armed : d.armed = 0
theorem Calm.hit {d : DskD} (h : Calm d) : d.hit = (d, false) := by unfold DskD.hit; rw [if_pos h.armed]
theorem Calm.flush {d : DskD} (h : Calm d) : d.flush = ({ d with kept := keepW d.kept d.wait, wait := [] }, 0) := by
  unfold DskD.flush
  rw [if_neg (by rw [h.down]; decide), h.hit]
  rfl
theorem Calm.write {d : DskD} (h : Calm d) {p : Nat} {b : List UInt8} (hp : p < d.kept.length) (hb : b.length = 64) : d.write (p : Int) b = ({ d with wait := d.wait ++ [(p, b)] }, 0) := by
  unfold DskD.write
  rw [if_neg (by rw [h.down]; decide), if_neg (by omega)]
  have hc : Calm ({ d with wait := d.wait ++ [(p, b)] } : DskD) := ⟨h.down, h.armed⟩
  have hh := hc.hit
  simp only [Int.toNat_natCast, hh]
  rfl
/-- a log that is up, on a disk of n sectors -/
structure Good (n : Nat) (l : LogD) (d : DskD) : Prop where
  kept : d.kept.length = n
  calm : Calm d
  dead : l.dead = false
  sum : l.used = secSum l.recs
  fit : l.used ≤ n - 2
theorem Good.rdy {n : Nat} {l : LogD} {d : DskD} (h : Good n l d) : rdyE l d = 0 ∧ rdy l d = l := by
  unfold rdyE Go.Proofs.YtnlhjhpikjmoaaaGreatDoor.rdy
  rw [h.dead, h.calm.down]
  exact ⟨rfl, rfl⟩
/-- the sectors of a record, as they are written -/
def secsB (turn : Nat) (b : List UInt8) : List (List UInt8) := (List.range (secN b.length)).map fun k => secB turn (partB b k)
def putsW (ring : Nat) : Nat → List (List UInt8) → List (Nat × List UInt8)
  | _, [] => []
  | at_, s :: r => (2 + at_, s) :: putsW ring ((at_ + 1) % ring) r
theorem putsW_len (ring : Nat) : ∀ (r : List (List UInt8)) (at_ : Nat), (putsW ring at_ r).length = r.length
  | [], _ => rfl
  | s :: r, at_ => by rw [putsW, List.length_cons, putsW_len ring r, List.length_cons]
theorem stA_calm (b : List UInt8) (turn ring : Nat) (hring : 1 ≤ ring) : ∀ (ks : List Nat) (d : DskD) (at_ : Nat), Calm d → d.kept.length = ring + 2 → at_ < ring →
    ks.foldl (stepA b turn ring) (d, at_, 0) = ({ d with wait := d.wait ++ putsW ring at_ (ks.map fun k => secB turn (partB b k)) }, (at_ + ks.length) % ring, 0)
  | [], d, at_, _, _, ha => by
    rw [List.foldl_nil, List.map_nil, putsW, List.append_nil, List.length_nil, Nat.add_zero, Nat.mod_eq_of_lt ha]
  | k :: ks, d, at_, hc, hk, ha => by
    have hs : stepA b turn ring (d, at_, 0) k = ({ d with wait := d.wait ++ [(2 + at_, secB turn (partB b k))] }, (at_ + 1) % ring, 0) := by
      unfold stepA
      simp only
      rw [if_neg (by decide), hc.write (by omega) (secB_len _ _ (by rw [partB_len]; unfold ckN; omega))]
    rw [List.foldl_cons, hs, stA_calm b turn ring hring ks { d with wait := d.wait ++ [(2 + at_, secB turn (partB b k))] } ((at_ + 1) % ring) ⟨hc.down, hc.armed⟩ hk (Nat.mod_lt _ hring), List.map_cons, putsW, List.length_cons]
    simp only [List.append_assoc, List.singleton_append, Nat.mod_add_mod]
    rw [show at_ + 1 + ks.length = at_ + (ks.length + 1) by omega]
theorem append_good {n : Nat} {l : LogD} {d : DskD} (h : Good n l d) (hn : 3 ≤ n) (he : l.end_ < n - 2) {b : List UInt8} (hb : b.length ≤ 32768) (hfit : l.used + secN b.length ≤ n - 2) :
    appendL l d b = ({ took l b (n - 2) with waits := true }, { d with wait := d.wait ++ putsW (n - 2) l.end_ (secsB l.turn b) }, 0) := by
  have hk := h.kept
  unfold appendL
  rw [if_neg (by omega), if_neg (by rw [h.rdy.1]; decide), if_neg (by omega), hk]
  have := stA_calm b l.turn (n - 2) (by omega) (List.range (secN b.length)) d l.end_ h.calm (by omega) he
  unfold stA
  rw [this]
  rfl
theorem append_keeps {n : Nat} {l : LogD} {d : DskD} (h : Good n l d) (hn : 3 ≤ n) {b : List UInt8} (hfit : l.used + secN b.length ≤ n - 2) (w : List (Nat × List UInt8)) : Good n { took l b (n - 2) with waits := true } { d with wait := w } ∧ (l.end_ + secN b.length) % (n - 2) < n - 2 :=
  ⟨⟨h.kept, ⟨h.calm.down, h.calm.armed⟩, h.dead, took_sum (b := b) (ring := n - 2) h.sum, hfit⟩, Nat.mod_lt _ (by omega)⟩
/-- what is safe of a disk -/
def DskD.all (d : DskD) : DskD := { d with kept := keepW d.kept d.wait, wait := [] }
theorem Calm.all {d : DskD} (h : Calm d) : Calm d.all := ⟨h.down, h.armed⟩
theorem all_kept (d : DskD) : d.all.kept.length = d.kept.length := keepW_len _ _
theorem sync_good {n : Nat} {l : LogD} {d : DskD} (h : Good n l d) : syncL l d = (if l.waits = true then ({ l with waits := false }, d.all, 0) else (l, d, 0)) := by
  unfold syncL
  rw [if_neg (by rw [h.rdy.1]; decide)]
  cases hw : l.waits
  · rfl
  · rw [if_neg (by decide), h.calm.flush]
    simp only
    rw [if_neg (by decide), h.dead]
    rfl
theorem tell_good {n : Nat} {l : LogD} {d : DskD} (h : Good n l d) (hn : 3 ≤ n) (k : Nat) : tellL l d k = ({ l with turn := l.turn + 1, first := l.first + k, recs := l.recs.drop k, places := l.places.drop k, used := l.used - secSum (l.recs.take k) }, { d with kept := (keepW d.kept d.wait).set ((l.turn + 1) % 2) (tellB l k), wait := [] }, 0) := by
  have hk := h.kept
  unfold tellL
  rw [if_neg (by omega), h.calm.flush]
  simp only
  have hw := Calm.write (d := { d with kept := keepW d.kept d.wait, wait := [] }) ⟨h.calm.down, h.calm.armed⟩ (p := (l.turn + 1) % 2) (b := tellB l k) (by simp only [keepW_len]; omega) (hdB_len _ _ _ _ _)
  rw [if_neg (by decide), hw]
  simp only
  have hf2 := Calm.flush (d := { kept := keepW d.kept d.wait, wait := [] ++ [((l.turn + 1) % 2, tellB l k)], down := d.down, armed := d.armed }) ⟨h.calm.down, h.calm.armed⟩
  rw [if_neg (by decide), hf2]
  simp only
  rw [if_neg (by decide)]
  rfl
theorem secSum_drop (rs : List (List UInt8)) (k : Nat) : secSum (rs.drop k) = secSum rs - secSum (rs.take k) := by
  conv => rhs; rw [← List.take_append_drop k rs]
  rw [secSum_append, List.take_append_drop]
  omega
theorem tell_keeps {n : Nat} {l : LogD} {d : DskD} (h : Good n l d) (k : Nat) (kp : List (List UInt8)) (hkp : kp.length = n) (x : Nat) (f w : Bool) : Good n { l with turn := x, first := l.first + k, recs := l.recs.drop k, places := l.places.drop k, used := l.used - secSum (l.recs.take k), waits := w } { d with kept := kp, wait := [] } :=
  ⟨hkp, ⟨h.calm.down, h.calm.armed⟩, h.dead, by show l.used - _ = secSum (l.recs.drop k); rw [secSum_drop, h.sum], by have := h.fit; show l.used - _ ≤ _; omega⟩
theorem cut_good {n : Nat} {l : LogD} {d : DskD} (h : Good n l d) (hn : 3 ≤ n) {k : Nat} (h1 : l.first ≤ k) (h2 : k ≤ l.first + l.recs.length) : cutL l d k =
    if k = l.first then syncL l d else ({ l with turn := l.turn + 1, first := k, recs := l.recs.drop (k - l.first), places := l.places.drop (k - l.first), used := l.used - secSum (l.recs.take (k - l.first)), waits := false }, { d with kept := (keepW d.kept d.wait).set ((l.turn + 1) % 2) (tellB l (k - l.first)), wait := [] }, 0) := by
  unfold cutL
  rw [if_neg (by omega)]
  split
  · rfl
  · rw [if_neg (by rw [h.rdy.1]; decide), tell_good h hn]
    simp only
    rw [if_neg (by decide), h.dead, show l.first + (k - l.first) = k by omega]
    rfl
end Go.Proofs.YtnlhjhpikjmoaaaGreatDoor

namespace Go.Proofs.YtnlhjhpikjmoaaaGreatDoor
open Go.RowKit

structure St (n : Nat) (l : LogD) (d : DskD) (recs : List (List UInt8)) (first turn wt : Nat) : Prop where
  good : Good n l d
  end_ : l.end_ < n - 2
  recs : l.recs = recs
  first : l.first = first
  turn : l.turn ≤ turn
  wait : d.wait.length ≤ wt
theorem secsB_len (turn : Nat) (b : List UInt8) : (secsB turn b).length = secN b.length := by unfold secsB; simp
theorem append_st {n : Nat} {l : LogD} {d : DskD} {recs : List (List UInt8)} {first turn wt : Nat} (hn : 3 ≤ n) (h : St n l d recs first turn wt) {b : List UInt8} (hb : b.length ≤ 32768) (hfit : secSum recs + secN b.length ≤ n - 2) :
    ∃ l' d', appendL l d b = (l', d', 0) ∧ St n l' d' (recs ++ [b]) first turn (wt + secN b.length) := by
  have hf : l.used + secN b.length ≤ n - 2 := by rw [h.good.sum, h.recs]; exact hfit
  refine ⟨_, _, append_good h.good hn h.end_ hb hf, ⟨(append_keeps h.good hn hf _).1, (append_keeps h.good hn hf d.wait).2, ?_, h.first, h.turn, ?_⟩⟩
  · show l.recs ++ [b] = _
    rw [h.recs]
  · show (d.wait ++ putsW (n - 2) l.end_ (secsB l.turn b)).length ≤ _
    rw [List.length_append, putsW_len, secsB_len]
    have := h.wait
    omega
theorem sync_st {n : Nat} {l : LogD} {d : DskD} {recs : List (List UInt8)} {first turn wt : Nat} (h : St n l d recs first turn wt) :
    ∃ l' d', syncL l d = (l', d', 0) ∧ St n l' d' recs first turn wt := by
  rw [sync_good h.good]
  split
  · exact ⟨_, _, rfl, ⟨⟨by rw [all_kept]; exact h.good.kept, h.good.calm.all, h.good.dead, h.good.sum, h.good.fit⟩, h.end_, h.recs, h.first, h.turn, Nat.zero_le _⟩⟩
  · exact ⟨_, _, rfl, h⟩
theorem cut_st {n : Nat} {l : LogD} {d : DskD} {recs : List (List UInt8)} {first turn wt : Nat} (hn : 3 ≤ n) (h : St n l d recs first turn wt) {k : Nat} (h1 : first ≤ k) (h2 : k ≤ first + recs.length) :
    ∃ l' d', cutL l d k = (l', d', 0) ∧ St n l' d' (recs.drop (k - first)) k (turn + 1) wt := by
  rw [cut_good h.good hn (by rw [h.first]; exact h1) (by rw [h.first, h.recs]; exact h2)]
  split
  · rename_i hk
    obtain ⟨l', d', he, hs⟩ := sync_st h
    refine ⟨l', d', he, ⟨hs.good, hs.end_, ?_, by rw [hs.first, hk, h.first], Nat.le_succ_of_le hs.turn, hs.wait⟩⟩
    rw [hs.recs, hk, h.first, Nat.sub_self, List.drop_zero]
  · have hg := tell_keeps h.good (k - l.first) ((keepW d.kept d.wait).set ((l.turn + 1) % 2) (tellB l (k - l.first))) (by rw [List.length_set, keepW_len]; exact h.good.kept) (l.turn + 1) false false
    rw [show l.first + (k - l.first) = k by have := h.first; omega] at hg
    exact ⟨_, _, rfl, ⟨hg, h.end_, by show l.recs.drop _ = _; rw [h.recs, h.first], rfl, Nat.succ_le_succ h.turn, Nat.zero_le _⟩⟩
theorem rdN_zero (k : Nat) : rdN (List.replicate 64 0) k = 0 := by
  unfold rdN
  rw [List.drop_replicate, List.take_replicate]
  generalize min 8 (64 - k) = m
  unfold beNat
  induction m with
  | zero => rfl
  | succ m ih => rw [List.replicate_succ, List.foldl_cons]; exact ih
theorem newD_shown (n i : Nat) : (readH ((newD n).shown i)).turn = 0 := by
  show rdN ((newD n).shown i) 0 = 0
  have : (newD n).shown i = (List.replicate n (List.replicate 64 0)).getD i [] := rfl
  rw [this, List.getD_eq_getElem?_getD, List.getElem?_replicate]
  split
  · exact rdN_zero 0
  · rfl
theorem newD_best (n : Nat) : ∀ i, bestI (newD n) i = zeroH
  | 0 => rfl
  | i + 1 => by
    rw [bestI, newD_best n i, stepH, if_neg (by rw [newD_shown]; exact fun h => absurd h.2 (Nat.lt_irrefl _))]
theorem newD_len (n : Nat) : (newD n).kept.length = n := by simp [newD]
theorem open_st (n : Nat) (hn : 3 ≤ n) : ∃ l d, openL (newD n) = (l, d, 0) ∧ St n l d [] 0 1 0 := by
  have hf : findL zeroL (newD n) zeroH = (zeroL, 0) := by
    unfold findL
    rw [if_neg (by rw [newD_len]; show ¬ (n < 3 ∨ n - 2 ≤ 0 ∨ 0 < 0); omega), newD_len, show n - 1 = (n - 2) + 1 by omega, findF, if_pos ⟨rfl, Nat.le_refl _⟩]
    rfl
  have hg : Good n zeroL (newD n) := ⟨newD_len n, ⟨rfl, rfl⟩, rfl, rfl, Nat.zero_le _⟩
  have ho : openL (newD n) = tellL zeroL (newD n) 0 := by
    unfold openL
    rw [if_neg (show ¬ ((newD n).down = true) from Bool.false_ne_true), newD_best, hf]
    rfl
  rw [ho, tell_good hg hn]
  have hk := tell_keeps hg 0 ((keepW (newD n).kept (newD n).wait).set ((zeroL.turn + 1) % 2) (tellB zeroL 0)) (by rw [List.length_set, keepW_len]; exact newD_len n) (zeroL.turn + 1) false false
  exact ⟨_, _, rfl, ⟨hk, by show 0 < n - 2; omega, rfl, rfl, Nat.le_refl _, Nat.le_refl _⟩⟩
end Go.Proofs.YtnlhjhpikjmoaaaGreatDoor

namespace Go.Proofs.YtnlhjhpikjmoaaaGreatDoor
open Go.RowKit

/-- a log on a calm disk of n sectors, in blocks from B on -/
def LogAt (B : Nat) (w : World) (gl gd n : Nat) (recs : List (List UInt8)) (first turn wt : Nat) : Prop :=
  ∃ l d, Both (fun x => B ≤ x ∧ x < w.heap.size) w gl gd l d ∧ St n l d recs first turn wt
theorem LogAt.below {B : Nat} {w w' : World} {gl gd n : Nat} {recs : List (List UInt8)} {first turn wt : Nat} (h : LogAt B w gl gd n recs first turn wt) (hb : Below w.heap.size w w') : LogAt B w' gl gd n recs first turn wt := by
  obtain ⟨l, d, h1, h2⟩ := h
  exact ⟨l, d, (h1.below hb).mono fun x hx hlt => ⟨hx.1, hlt⟩, h2⟩
theorem LogAt.lt {B : Nat} {w : World} {gl gd n : Nat} {recs : List (List UInt8)} {first turn wt : Nat} (h : LogAt B w gl gd n recs first turn wt) : B ≤ gl ∧ gl < w.heap.size := by
  obtain ⟨l, d, h1, h2⟩ := h
  exact h1.glf
theorem LogAt.kp {B : Nat} {ok : Nat → Prop} {w w' : World} {gl gd n : Nat} {recs : List (List UInt8)} {first turn wt : Nat} (h : LogAt B w gl gd n recs first turn wt) (hk : Kp ok w w') (hok : ∀ x, B ≤ x → x < w.heap.size → ok x) : LogAt B w' gl gd n recs first turn wt := by
  obtain ⟨l, d, h1, h2⟩ := h
  exact ⟨l, d, (h1.kp hk fun x hx => hok x hx.1 hx.2).mono fun x hx hlt => ⟨hx.1, hlt⟩, h2⟩
section
variable {B : Nat} {w w0 : World} {gl gd n : Nat} {recs : List (List UInt8)} {first turn wt : Nat}
theorem append_op (hn : 3 ≤ n) (h : LogAt B w0 gl gd n recs first turn wt) (hb0 : Below w0.heap.size w0 w) (v : Value) (b : List UInt8) (hrb : RB (fun x => ¬ (B ≤ x ∧ x < w0.heap.size)) w v b) (hlen : b.length ≤ 32768) (hfit : secSum recs + secN b.length ≤ n - 2) (hf : first + 70000 < 18446744073709551616) (hw : wt + 1000 ≤ 1000000000) :
    Calls Tryz.prog 73 #[.pointer (some ⟨gl, 0, none⟩), v] w fun e w' => e = .returned (.int .i64 0) ∧ LogAt B w' gl gd n (recs ++ [b]) first turn (wt + secN b.length) ∧ Kp (fun x => ¬ (B ≤ x ∧ x < w0.heap.size)) w w' := by
  obtain ⟨l, d, h1, h2⟩ := h
  obtain ⟨l', d', he, hs⟩ := append_st hn h2 hlen hfit
  have hz := hb0.size
  have hBz : B ≤ w0.heap.size := by have := h1.glf; omega
  refine (append_any v b (h1.below hb0) hrb (fun x hx => hx) (by omega) h2.good.sum (by rw [h2.first]; exact hf) (by have := h2.wait; omega)).mono ?_
  rintro e w' ⟨rfl, hB, hk⟩
  rw [he] at hB ⊢
  exact ⟨rfl, ⟨l', d', hB.mono fun x hx hlt => ⟨hx.elim (fun h => h.1) fun h => by omega, hlt⟩, hs⟩, hk⟩
theorem sync_op (h : LogAt B w gl gd n recs first turn wt) :
    Calls Tryz.prog 62 #[.pointer (some ⟨gl, 0, none⟩)] w fun e w' => e = .returned (.int .i64 0) ∧ LogAt B w' gl gd n recs first turn wt ∧ Kp (fun x => ¬ (B ≤ x ∧ x < w.heap.size)) w w' := by
  obtain ⟨l, d, h1, h2⟩ := h
  obtain ⟨l', d', he, hs⟩ := sync_st h2
  refine (sync_b h1).mono ?_
  rintro e w' ⟨rfl, hB, hk⟩
  rw [he] at hB ⊢
  exact ⟨rfl, ⟨l', d', hB.mono fun x hx hlt => ⟨hx.1, hlt⟩, hs⟩, hk⟩
theorem cut_op (hn : 3 ≤ n) (h : LogAt B w gl gd n recs first turn wt) (k : Nat) (h1 : first ≤ k) (h2 : k ≤ first + recs.length) (hk : k < 18446744073709551616) (ht : turn + 1 < 18446744073709551616) (hw : wt + 1 ≤ 1000000000) :
    Calls Tryz.prog 36 #[.pointer (some ⟨gl, 0, none⟩), .int .u64 (k : Int)] w fun e w' => e = .returned (.int .i64 0) ∧ LogAt B w' gl gd n (recs.drop (k - first)) k (turn + 1) wt ∧ Kp (fun x => ¬ (B ≤ x ∧ x < w.heap.size)) w w' := by
  obtain ⟨l, d, g1, g2⟩ := h
  obtain ⟨l', d', he, hs⟩ := cut_st hn g2 h1 h2
  have hB0 : B ≤ w.heap.size := by have := g1.glf; omega
  refine (cut_any k g1 hk g2.good.sum (by have := g2.turn; omega) (by have := g2.wait; omega)).mono ?_
  rintro e w' ⟨rfl, hB, hk⟩
  rw [he] at hB ⊢
  exact ⟨rfl, ⟨l', d', hB.mono fun x hx hlt => ⟨hx.elim (fun h => h.1) fun h => by omega, hlt⟩, hs⟩, hk⟩
theorem first_op (h : LogAt B w gl gd n recs first turn wt) : Calls Tryz.prog 52 #[.pointer (some ⟨gl, 0, none⟩)] w fun e w' => e = .returned (.int .u64 (first : Int)) ∧ w' = w := by
  obtain ⟨l, d, g1, g2⟩ := h
  have := first_b g1
  rw [g2.first] at this
  exact this
theorem next_op (h : LogAt B w gl gd n recs first turn wt) : Calls Tryz.prog 44 #[.pointer (some ⟨gl, 0, none⟩)] w fun e w' => e = .returned (.int .u64 ((first + recs.length : Nat) : Int)) ∧ Below w.heap.size w w' := by
  obtain ⟨l, d, g1, g2⟩ := h
  have := next_b g1
  rw [g2.first, g2.recs] at this
  exact this
theorem records_op (h : LogAt B w gl gd n recs first turn wt) : Calls Tryz.prog 53 #[.pointer (some ⟨gl, 0, none⟩)] w fun e w' => (∃ v, e = .returned v ∧ RSl rBs (fun b => w.heap.size ≤ b) w' v recs) ∧ Below w.heap.size w w' := by
  obtain ⟨l, d, g1, g2⟩ := h
  have := records_b g1 (by have := g2.good.sum; have := g1.ok.1.used; have := secSum_ge l.recs; omega)
  rw [g2.recs] at this
  exact this
/-- Open of a new disk -/
theorem open_op (hn : 3 ≤ n) (hd : DiskR (fun x => B ≤ x) w gd (newD n)) (hB : B ≤ w.heap.size) :
    Calls Tryz.prog 31 #[.pointer (some ⟨gd, 0, none⟩)] w fun e w' => (∃ gl, e = .returned (.tuple #[.pointer (some ⟨gl, 0, none⟩), .int .i64 0]) ∧ LogAt B w' gl gd n [] 0 1 0) ∧ Kp (fun x => ¬ (B ≤ x)) w w' := by
  obtain ⟨l, d, ho, s⟩ := open_st n hn
  have hop := open_any (hd.mono (ft' := fun x => B ≤ x ∧ x < w.heap.size) fun x hx hlt => ⟨hx, hlt⟩) (fun x hx => hx.2) (by rw [newD_best]; show 0 + 70000 < _; omega) (by rw [newD_best]; show 0 + 1 < _; omega) (by show 0 + 1 ≤ _; omega)
  rw [ho] at hop
  refine hop.mono ?_
  rintro e w' ⟨⟨p, rfl, hp⟩, hk⟩
  obtain ⟨_, gl, rfl, hB2⟩ := hp.resolve_left fun h => h.1 rfl
  exact ⟨⟨gl, rfl, l, d, hB2.mono fun x hx hlt => ⟨hx.elim (fun h => h.1) fun h => by omega, hlt⟩, s⟩, hk.mono fun x hx h => hx h.1⟩
end
theorem marked_rb {ok : Nat → Prop} (w : World) (l : List UInt8) (hl : l.length ≤ 1000) (f : Nat × Nat) (hok : ok w.heap.size) : RB ok (w.alloc (.cells (bs l).toArray 5 f)) (.slice (some ⟨w.heap.size, 0, none⟩) l.length l.length) l := by
  refine RB.mk_ ⟨by rw [bs_len]; simp, fun _ => ⟨_, 0, rfl, fun j u hu => ?_⟩⟩ (Nat.le_refl _) (by omega) (fun _ a ha => by rw [← Option.some.inj ha]; exact hok)
  have h1 : (w.alloc (.cells (bs l).toArray 5 f)).heap[w.heap.size]? = some (.cells (bs l).toArray 5 f) := heap_alloc_new w _
  simp only [World.cell?, h1, Nat.zero_add, Option.bind_some]
  simpa using hu
theorem conv_const (w : World) (C : Array Value) (n c : Nat) : (convert 25 25 (.slice (some ⟨w.heap.size, 0, none⟩) n c)).run Tryz.prog (w.alloc (.cells C 5)) = .ok (.slice (some ⟨w.heap.size, 0, none⟩) n c) (w.alloc (.cells C 5 (C.size, C.size + 1))) := Lib.run_convert_bytes_const w _ _ C n c Tryz.underlying25 (by kernel_rfl)
end Go.Proofs.YtnlhjhpikjmoaaaGreatDoor
