/- Contract: the document's Cut, as awake calls it.
Contracts: split.New; (*Job).next at the beginning.
The operations of a plain region walked in two parts. No program in sight.
A job's block: its cells, one and many stored. No program in sight.
Contract: (*Job).Next, as awake calls it.
Contract: law 22's awake. -/
import Derived.Test.YtdibkhphemfdeaaGreatDoorS2
import Derived.Test.YtdibkhphemfdeaaGreatDoorCmd
namespace Go.Proofs.YtdibkhphemfdeaaGreatDoor
open Go.RowKit

def kb2 : List UInt8 := [120, 1]
def rdM : RouteD := ⟨0, 1, [⟨2, [120]⟩], 2, [120, 1]⟩
end Go.Proofs.YtdibkhphemfdeaaGreatDoor

namespace Go.Proofs.YtdibkhphemfdeaaGreatDoor
open Go.RowKit

def jobCs (ph : Int) (asd : Bool) (g : Int) (C : Array Value) (given : Value) : Array Value := #[.int .i64 ph, .bool asd, .int .i64 g] ++ C ++ #[given]
theorem jobCs_size {ph : Int} {asd : Bool} {g : Int} {C : Array Value} {given : Value} (h : C.size = 25) : (jobCs ph asd g C given).size = 29 := by simp [jobCs, h]
theorem job0 (ph : Int) (asd : Bool) (g : Int) (C : Array Value) (given : Value) : (jobCs ph asd g C given)[0]? = some (.int .i64 ph) ∧ (jobCs ph asd g C given)[1]? = some (.bool asd) ∧ (jobCs ph asd g C given)[2]? = some (.int .i64 g) := by
  unfold jobCs
  rw [Array.append_assoc]
  refine ⟨?_, ?_, ?_⟩ <;> (rw [Array.getElem?_append_left (by simp)]; rfl)
theorem job3 (ph : Int) (asd : Bool) (g : Int) (C : Array Value) (given : Value) (j : Nat) (h : j < C.size) : (jobCs ph asd g C given)[3 + j]? = C[j]? := by
  unfold jobCs
  rw [Array.append_assoc, Array.getElem?_append_right (by simp), Array.getElem?_append_left (by simp; omega)]
  simp
theorem job28 (ph : Int) (asd : Bool) (g : Int) (C : Array Value) (given : Value) (h : C.size = 25) : (jobCs ph asd g C given)[28]? = some given := by
  unfold jobCs
  rw [Array.getElem?_append_right (by simp [h])]
  simp [h]
def zC : Array Value := cmdCs 0 0 false nl nl nl nl

theorem RB.sl {ok : Nat → Prop} {w : World} {v : Value} {l : List UInt8} (h : RB ok w v l) : ∃ A c, v = .slice A l.length c ∧ l.length ≤ c := by obtain ⟨A, c, h, h2, _⟩ := h.form; exact ⟨A, c, h, h2⟩
/-- a command by value -/
def Sp.cmd (ok : Nat → Prop) (kind n : Int) (flag : Bool) (d : CmdD) : Sp :=
  ⟨fun x => ∃ A1 c1 A2 c2 A3 c3 A4 c4, x = .agg (cmdCs kind n flag (.slice A1 d.key.length c1) (.slice A2 d.from_.length c2) (.slice A3 d.upto.length c3) (.slice A4 d.pairs.length c4)), .agg (cmdCs kind n flag (.slice none d.key.length 0) (.slice none d.from_.length 0) (.slice none d.upto.length 0) (.slice none d.pairs.length 0)), ⟨none, 0, none, 0, none, 0, none, 0, rfl⟩,
    fun x w => ∃ A1 c1 A2 c2 A3 c3 A4 c4, x = .agg (cmdCs kind n flag (.slice A1 d.key.length c1) (.slice A2 d.from_.length c2) (.slice A3 d.upto.length c3) (.slice A4 d.pairs.length c4)) ∧ CmdR ok w (.slice A1 d.key.length c1) (.slice A2 d.from_.length c2) (.slice A3 d.upto.length c3) (.slice A4 d.pairs.length c4) d,
    fun _ _ ⟨A1, c1, A2, c2, A3, c3, A4, c4, h, _⟩ => ⟨A1, c1, A2, c2, A3, c3, A4, c4, h⟩, fun _ _ _ hb ⟨A1, c1, A2, c2, A3, c3, A4, c4, h, h1⟩ => ⟨A1, c1, A2, c2, A3, c3, A4, c4, h, h1.below hb⟩⟩

end Go.Proofs.YtdibkhphemfdeaaGreatDoor

namespace Go.Proofs.YtdibkhphemfdeaaGreatDoor
open Go.RowKit

section
variable {P : Program} {ops : Array Oper} {Q : Exit → Act → World → Prop}
/-- behind the first part the second one -/
def thenL (P : Program) (ops : Array Oper) (Q : Exit → Act → World → Prop) (r : List Oper) : Exit → Act → World → Prop
  | .normal, a, w => wpList P ops Q r a w
  | x, a, w => Q x a w
theorem upon_thenL {o : Oper} {a : Act} {r : List Oper} {K K' : Act → World → Prop} (h : ∀ a w, K' a w → K a w) : ∀ {y : Result Next}, o.upon P a K' (thenL P ops Q r) y → o.upon P a K Q y := by
  intro y hy
  unfold Oper.upon at hy ⊢
  split at hy
  · exact h _ _ hy
  · exact h _ _ hy
  · exact h _ _ hy
  · refine Calls.mono hy fun e w' he => ?_
    cases e with
    | returned v => exact h _ _ he
    | panicked chain => exact he
    | outgrown => exact he
  · refine Rows.mono hy fun v w' he => h _ _ he
  · exact hy
  · exact hy.elim
theorem wpList_app : ∀ (l r : List Oper) {a : Act} {w : World}, wpList P ops (thenL P ops Q r) l a w → wpList P ops Q (l ++ r) a w
  | [], _, _, _, h => h
  | o :: l, r, a, w, h => by
    rw [List.cons_append]
    unfold wpList at h ⊢
    split at h
    · rename_i hw
      rw [if_pos hw]
      rcases h with h | ⟨h1, h2⟩
      · exact .inl (upon_thenL (fun a' w' => wpList_app l r) h)
      · exact .inr ⟨h1, h2⟩
    · rename_i hw
      rw [if_neg hw]
      exact wpList_app l r h
theorem wpList_split (n : Nat) {l : List Oper} {a : Act} {w : World} (h : wpList P ops (thenL P ops Q (l.drop n)) (l.take n) a w) : wpList P ops Q l a w := by
  have := wpList_app (l.take n) (l.drop n) h
  rwa [List.take_append_drop] at this
theorem wp_region_split (n : Nat) {id : Nat} {l : List Oper} {a : Act} {w : World} (h : wpList P l.toArray (thenL P l.toArray Q (l.drop n)) (l.take n) a w) : (Code.region id l.toArray false).wp P Q a w := wp_region_lit (wpList_split n h)
end
end Go.Proofs.YtdibkhphemfdeaaGreatDoor

namespace Go.Proofs.YtdibkhphemfdeaaGreatDoor
open Go.RowKit

theorem foldl_set_at (vs : List Value) (o : Nat) : ∀ (n : Nat) (C : Array Value), n ≤ vs.length → o + vs.length ≤ C.size → ((List.range n).foldl (fun a i => a.setIfInBounds (o + i) (vs.getD i undef)) C).toList = C.toList.take o ++ vs.take n ++ C.toList.drop (o + n)
  | 0, C, _, hs => by simp
  | n + 1, C, hn, hs => by
    have h1 := foldl_set_at vs o n C (by omega) hs
    rw [List.range_succ, List.foldl_append, List.foldl_cons, List.foldl_nil, Array.toList_setIfInBounds, h1]
    have hl : (C.toList.take o ++ vs.take n).length = o + n := by simp; omega
    have hlt : o + n < C.toList.length := by simp; omega
    have hd : C.toList.drop (o + n) = C.toList[o + n] :: C.toList.drop (o + n + 1) := List.drop_eq_getElem_cons hlt
    rw [hd, List.set_append_right _ _ (by omega), hl, Nat.sub_self, List.set_cons_zero, List.take_succ_eq_append_getElem (by omega)]
    have e : vs.getD n undef = vs[n] := by simp [List.getD, List.getElem?_eq_getElem (show n < vs.length by omega)]
    rw [e]
    simp only [List.append_assoc, List.cons_append, List.nil_append, Nat.add_assoc]
section
variable {w : World} {g : Nat} {T : TypeId}
theorem Blk.there_at {C : Array Value} (h : Blk w g T C) (o n : Nat) (hn : o + n ≤ C.size) : w.there g o n := fun j hj => by
  exact ⟨by rw [h.cell (o + j), Array.getElem?_eq_getElem (by omega)]; rfl, h.frozen (o + j)⟩
theorem Blk.setCells_mid {A C B : Array Value} (h : Blk w g T (A ++ C ++ B)) (cs : Array Value) (hs : cs.size = C.size) : Blk (w.setCells g A.size cs.toList) g T (A ++ cs ++ B) := by
  have h1 := h.setCells_at cs.toList A.size
  have h2 := foldl_set_at cs.toList A.size cs.toList.length (A ++ C ++ B) (Nat.le_refl _) (by simp; omega)
  have h3 : (List.range cs.toList.length).foldl (fun a i => a.setIfInBounds (A.size + i) (cs.toList.getD i undef)) (A ++ C ++ B) = A ++ cs ++ B := by
    refine Array.ext' ?_
    rw [h2, List.take_length]
    simp only [Array.toList_append, Array.length_toList]
    have e1 : (A.toList ++ C.toList ++ B.toList).take A.size = A.toList := by rw [List.append_assoc]; exact List.take_left' (by simp)
    have e2 : (A.toList ++ C.toList ++ B.toList).drop (A.size + cs.size) = B.toList := List.drop_left' (by simp [hs])
    rw [e1, e2]
  rwa [h3] at h1
theorem job_set1 (ph : Int) (asd b : Bool) (gr : Int) (C : Array Value) (given : Value) : (jobCs ph asd gr C given).setIfInBounds 1 (.bool b) = jobCs ph b gr C given := by
  refine Array.ext' ?_
  rw [Array.toList_setIfInBounds]
  simp [jobCs]
theorem job_set2 (ph : Int) (asd : Bool) (gr gr2 : Int) (C : Array Value) (given : Value) : (jobCs ph asd gr C given).setIfInBounds 2 (.int .i64 gr2) = jobCs ph asd gr2 C given := by
  refine Array.ext' ?_
  rw [Array.toList_setIfInBounds]
  simp [jobCs]
theorem Blk.setC {ph : Int} {asd : Bool} {gr : Int} {C : Array Value} {given : Value} (h : Blk w g T (jobCs ph asd gr C given)) (cs : Array Value) (hs : cs.size = C.size) : Blk (w.setCells g 3 cs.toList) g T (jobCs ph asd gr cs given) := Blk.setCells_mid (A := #[.int .i64 ph, .bool asd, .int .i64 gr]) (B := #[given]) h cs hs
theorem Blk.rangeC {ph : Int} {asd : Bool} {gr : Int} {C : Array Value} {given : Value} (h : Blk w g T (jobCs ph asd gr C given)) : w.rangeAt g 3 C.toList := fun j v hv => by
  have hj : j < C.size := by have := (List.getElem?_eq_some_iff.1 hv).1; simpa using this
  rw [h.cell (3 + j), job3 _ _ _ _ _ _ hj]
  simpa using hv
end
/-- a command stored into a job, at the list of a plain region -/
theorem wpList_storeC {P : Program} {ops : Array Oper} {rest : List Oper} {o : Oper} {a : Act} {w : World} {Q : Exit → Act → World → Prop} {g : Nat} {T : TypeId} {ph : Int} {asd : Bool} {gr : Int} {C : Array Value} {given : Value} (hgd : o.guard = none) {ty : TypeId} {x y : Operand} (ho : o.op = .store ty x y) (cs : Array Value)
    (hx : a.eval x = .pointer (some ⟨g, 3, none⟩)) (hy : a.eval y = .agg cs) (hk : Blk w g T (jobCs ph asd gr C given)) (hC : C.size = 25) (hs : cs.size = 25) (hi : (P.info? ty).map (·.size) = some 25) (h1 : cs.all (·.oneCell') = true)
    (h : Blk (w.setCells g 3 cs.toList) g T (jobCs ph asd gr cs given) → wpList P ops Q rest a (w.setCells g 3 cs.toList)) (hdst : o.dst = none) : wpList P ops Q (o :: rest) a w :=
  wpList_store_mid hgd ty x y ho g 3 cs hx hy (hk.there_at 3 cs.size (by rw [jobCs_size hC]; omega)) (by rw [hs]; exact hi) h1 (by rw [hdst]; exact h (hk.setC cs (by omega)))
/-- a command read out of a job -/
theorem gives_loadC {P : Program} {o : Oper} {a : Act} {w : World} {g : Nat} {T : TypeId} {ph : Int} {asd : Bool} {gr : Int} {C : Array Value} {given : Value} {ty : TypeId} {x : Operand} {d : TypeDesc} (ho : o.op = .load ty x)
    (hx : a.eval x = .pointer (some ⟨g, 3, none⟩)) (hk : Blk w g T (jobCs ph asd gr C given)) (hu : P.underlying ty = some d) (hd : d.isRow = true) (hi : (P.info? ty).map (·.size) = some C.size) {Φ : Value → World → Prop} (h : Φ (.agg C) w) : Gives P o a w Φ := by
  have hr := run_loadVar_mid (P := P) w g 3 ty C.toList d hk.rangeC hu hd (by simpa using hi)
  unfold Gives execOp
  simp only [ho, hx, Instr.loadAt, Instr.sureAddr, Sem.run_bind, Sem.run_pure, Result.andThen_ok, hr, giv]
  simpa using h
end Go.Proofs.YtdibkhphemfdeaaGreatDoor

namespace Go.Proofs.YtdibkhphemfdeaaGreatDoor
open Go.RowKit

theorem next3 : nextG rd1.s rd1.b 1 (min (2 : Int) 4).toNat = 3 := by decide

end Go.Proofs.YtdibkhphemfdeaaGreatDoor

namespace Go.Proofs.YtdibkhphemfdeaaGreatDoor
open Go.RowKit

theorem wpList_storeB' {P : Program} {ops : Array Oper} {rest : List Oper} {o : Oper} {a : Act} {w : World} {Q : Exit → Act → World → Prop} {g : Nat} {T : TypeId} {C : Array Value} (hgd : o.guard = none) {ty : TypeId} {x y : Operand} (ho : o.op = .store ty x y) (cs : Array Value) (hx : a.eval x = .pointer (some ⟨g, 0, none⟩)) (hy : a.eval y = .agg cs) (hk : Blk w g T C) (hs : C.size = cs.size) (hi : (P.info? ty).map (·.size) = some cs.size) (h1 : cs.all (·.oneCell') = true)
    (h : Blk (w.setCells g 0 cs.toList) g T cs → wpList P ops Q rest a (w.setCells g 0 cs.toList)) (hdst : o.dst = none) : wpList P ops Q (o :: rest) a w :=
  wpList_storeB hgd ho cs hx hy hk hs hi h1 (by rw [hdst]; exact h)

end Go.Proofs.YtdibkhphemfdeaaGreatDoor
