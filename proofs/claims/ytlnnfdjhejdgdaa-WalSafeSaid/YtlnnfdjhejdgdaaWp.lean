/- The disk and the log as plain data: what each function of packages disk and wal computes. No program in sight. -/
import Derived.Test.YtlnnfdjhejdgdaaSeqG
namespace Go.Proofs.Ytlnnfdjhejdgdaa
open Go.RowKit

/-- a disk: what is kept, what waits, whether it is down, how many calls are left till one is hit -/
structure DskD where
  kept : List (List UInt8)
  wait : List (Nat × List UInt8)
  down : Bool
  armed : Nat
def DskD.hit (d : DskD) : DskD × Bool := if d.armed = 0 then (d, false) else ({ d with armed := d.armed - 1, down := decide (d.armed - 1 = 0) }, decide (d.armed - 1 = 0))
def showW (i : Nat) (s : List UInt8) (l : List (Nat × List UInt8)) : List UInt8 := l.foldl (fun s p => if p.1 = i then p.2 else s) s
def DskD.shown (d : DskD) (i : Nat) : List UInt8 := showW i (d.kept.getD i []) d.wait
def DskD.read (d : DskD) (i : Int) : List UInt8 × Int := if d.down = true then ([], 3) else if i < 0 ∨ (d.kept.length : Int) ≤ i then ([], 1) else (d.shown i.toNat, 0)
def DskD.write (d : DskD) (i : Int) (b : List UInt8) : DskD × Int :=
  if d.down = true then (d, 3) else if i < 0 ∨ (d.kept.length : Int) ≤ i ∨ b.length ≠ 64 then (d, 1) else
  (({ d with wait := d.wait ++ [(i.toNat, b)] } : DskD).hit.1, if ({ d with wait := d.wait ++ [(i.toNat, b)] } : DskD).hit.2 = true then 3 else 0)
def keepW (k : List (List UInt8)) (l : List (Nat × List UInt8)) : List (List UInt8) := l.foldl (fun k p => k.set p.1 p.2) k
def DskD.flush (d : DskD) : DskD × Int :=
  if d.down = true then (d, 3) else if d.hit.2 = true then (d.hit.1, 3) else ({ d.hit.1 with kept := keepW d.kept d.wait, wait := [] }, 0)
def newD (n : Nat) : DskD := ⟨List.replicate n (List.replicate 64 0), [], false, 0⟩
/-- as it may be: all sectors of one size, what waits is for one that is there -/
structure DskD.Ok (d : DskD) : Prop where
  kept : ∀ s ∈ d.kept, s.length = 64
  wait : ∀ p ∈ d.wait, p.1 < d.kept.length ∧ p.2.length = 64
theorem DskD.hit_ok {d : DskD} (h : d.Ok) : d.hit.1.Ok := by
  unfold DskD.hit
  split
  · exact h
  · exact ⟨h.kept, h.wait⟩
theorem DskD.write_ok {d : DskD} (h : d.Ok) (i : Int) (b : List UInt8) : (d.write i b).1.Ok := by
  unfold DskD.write
  split
  · exact h
  split
  · exact h
  · rename_i h1 h2
    refine DskD.hit_ok ⟨h.kept, fun p hp => ?_⟩
    rcases List.mem_append.1 hp with hp | hp
    · exact h.wait p hp
    · rw [List.mem_singleton.1 hp]
      refine ⟨?_, ?_⟩
      · show i.toNat < d.kept.length
        omega
      · show b.length = 64
        omega
theorem keepW_len : ∀ (l : List (Nat × List UInt8)) (k : List (List UInt8)), (keepW k l).length = k.length
  | [], k => rfl
  | p :: l, k => by
    show (keepW (k.set p.1 p.2) l).length = _
    rw [keepW_len l, List.length_set]
theorem keepW_64 : ∀ (l : List (Nat × List UInt8)) (k : List (List UInt8)), (∀ s ∈ k, s.length = 64) → (∀ p ∈ l, p.2.length = 64) → ∀ s ∈ keepW k l, s.length = 64
  | [], k, h, _ => h
  | p :: l, k, h, hl => keepW_64 l (k.set p.1 p.2) (fun s hs => (List.mem_or_eq_of_mem_set hs).elim (h s) fun e => e ▸ hl p (by simp)) fun q hq => hl q (List.mem_cons_of_mem _ hq)
theorem DskD.flush_ok {d : DskD} (h : d.Ok) : d.flush.1.Ok := by
  unfold DskD.flush
  split
  · exact h
  split
  · exact DskD.hit_ok h
  · exact ⟨keepW_64 _ _ h.kept fun p hp => (h.wait p hp).2, fun p hp => by cases hp⟩
theorem showW_64 (i : Nat) : ∀ (l : List (Nat × List UInt8)) (s : List UInt8), s.length = 64 → (∀ p ∈ l, p.2.length = 64) → (showW i s l).length = 64
  | [], s, h, _ => h
  | p :: l, s, h, hl => by
    show (showW i (if p.1 = i then p.2 else s) l).length = 64
    refine showW_64 i l _ ?_ fun q hq => hl q (List.mem_cons_of_mem _ hq)
    split
    · exact hl p (by simp)
    · exact h
theorem DskD.shown_64 {d : DskD} (h : d.Ok) {i : Nat} (hi : i < d.kept.length) : (d.shown i).length = 64 :=
  showW_64 i _ _ (by rw [List.getD_eq_getElem?_getD, List.getElem?_eq_getElem hi]; exact h.kept _ (List.getElem_mem _)) fun p hp => (h.wait p hp).2
end Go.Proofs.Ytlnnfdjhejdgdaa
