/- A job's block: its cells, one and many stored. No program in sight. -/
import Derived.Test.YtikkknaofiafhaaSpl
import Derived.Test.YtikkknaofiafhaaS9
namespace Go.Proofs.Ytikkknaofiafhaa
open Go.RowKit

theorem foldl_set_at (vs : List Value) (o : Nat) : ∀ (n : Nat) (C : Array Value), n ≤ vs.length → o + vs.length ≤ C.size → ((List.range n).foldl (fun a i => a.setIfInBounds (o + i) (vs.getD i undef)) C).toList = C.toList.take o ++ vs.take n ++ C.toList.drop (o + n)
  | 0, C, _, hs => by simp
  | n + 1, C, hn, hs => by
    have h1 := foldl_set_at vs o n C (by omega) hs
    rw [List.range_succ, List.foldl_append, List.foldl_cons, List.foldl_nil, Array.toList_setIfInBounds, h1]
    have hl : (C.toList.take o ++ vs.take n).length = o + n := by simp; omega
    have hlt : o + n < C.toList.length := by simp; omega
    have hd : C.toList.drop (o + n) = C.toList[o + n] :: C.toList.drop (o + n + 1) := List.drop_eq_getElem_cons hlt
    rw [hd, List.set_append_right _ _ (by omega), hl, Nat.sub_self, List.set_cons_zero, List.take_succ_eq_append_getElem (by omega)]
    have e : vs.getD n undef = vs[n] := by simp [List.getD, List.getElem?_eq_getElem (show n < vs.length by omega)]
    rw [e]
    simp only [List.append_assoc, List.cons_append, List.nil_append, Nat.add_assoc]
section
variable {w : World} {g : Nat} {T : TypeId}
theorem Blk.there_at {C : Array Value} (h : Blk w g T C) (o n : Nat) (hn : o + n ≤ C.size) : w.there g o n := fun j hj => by
  exact ⟨by rw [h.cell (o + j), Array.getElem?_eq_getElem (by omega)]; rfl, h.frozen (o + j)⟩
theorem Blk.setCells_mid {A C B : Array Value} (h : Blk w g T (A ++ C ++ B)) (cs : Array Value) (hs : cs.size = C.size) : Blk (w.setCells g A.size cs.toList) g T (A ++ cs ++ B) := by
  have h1 := h.setCells_at cs.toList A.size
  have h2 := foldl_set_at cs.toList A.size cs.toList.length (A ++ C ++ B) (Nat.le_refl _) (by simp; omega)
  have h3 : (List.range cs.toList.length).foldl (fun a i => a.setIfInBounds (A.size + i) (cs.toList.getD i undef)) (A ++ C ++ B) = A ++ cs ++ B := by
    refine Array.ext' ?_
    rw [h2, List.take_length]
    simp only [Array.toList_append, Array.length_toList]
    have e1 : (A.toList ++ C.toList ++ B.toList).take A.size = A.toList := by rw [List.append_assoc]; exact List.take_left' (by simp)
    have e2 : (A.toList ++ C.toList ++ B.toList).drop (A.size + cs.size) = B.toList := List.drop_left' (by simp [hs])
    rw [e1, e2]
  rwa [h3] at h1
theorem job_set1 (ph : Int) (asd b : Bool) (gr : Int) (C : Array Value) (given : Value) : (jobCs ph asd gr C given).setIfInBounds 1 (.bool b) = jobCs ph b gr C given := by
  refine Array.ext' ?_
  rw [Array.toList_setIfInBounds]
  simp [jobCs]
theorem job_set2 (ph : Int) (asd : Bool) (gr gr2 : Int) (C : Array Value) (given : Value) : (jobCs ph asd gr C given).setIfInBounds 2 (.int .i64 gr2) = jobCs ph asd gr2 C given := by
  refine Array.ext' ?_
  rw [Array.toList_setIfInBounds]
  simp [jobCs]
theorem Blk.setC {ph : Int} {asd : Bool} {gr : Int} {C : Array Value} {given : Value} (h : Blk w g T (jobCs ph asd gr C given)) (cs : Array Value) (hs : cs.size = C.size) : Blk (w.setCells g 3 cs.toList) g T (jobCs ph asd gr cs given) := Blk.setCells_mid (A := #[.int .i64 ph, .bool asd, .int .i64 gr]) (B := #[given]) h cs hs
theorem Blk.rangeC {ph : Int} {asd : Bool} {gr : Int} {C : Array Value} {given : Value} (h : Blk w g T (jobCs ph asd gr C given)) : w.rangeAt g 3 C.toList := fun j v hv => by
  have hj : j < C.size := by have := (List.getElem?_eq_some_iff.1 hv).1; simpa using this
  rw [h.cell (3 + j), job3 _ _ _ _ _ _ hj]
  simpa using hv
end
/-- a command stored into a job, at the list of a plain region -/
theorem wpList_storeC {P : Program} {ops : Array Oper} {rest : List Oper} {o : Oper} {a : Act} {w : World} {Q : Exit → Act → World → Prop} {g : Nat} {T : TypeId} {ph : Int} {asd : Bool} {gr : Int} {C : Array Value} {given : Value} (hgd : o.guard = none) {ty : TypeId} {x y : Operand} (ho : o.op = .store ty x y) (cs : Array Value)
    (hx : a.eval x = .pointer (some ⟨g, 3, none⟩)) (hy : a.eval y = .agg cs) (hk : Blk w g T (jobCs ph asd gr C given)) (hC : C.size = 25) (hs : cs.size = 25) (hi : (P.info? ty).map (·.size) = some 25) (h1 : cs.all (·.oneCell') = true)
    (h : Blk (w.setCells g 3 cs.toList) g T (jobCs ph asd gr cs given) → wpList P ops Q rest a (w.setCells g 3 cs.toList)) (hdst : o.dst = none) : wpList P ops Q (o :: rest) a w :=
  wpList_store_mid hgd ty x y ho g 3 cs hx hy (hk.there_at 3 cs.size (by rw [jobCs_size hC]; omega)) (by rw [hs]; exact hi) h1 (by rw [hdst]; exact h (hk.setC cs (by omega)))
/-- a command read out of a job -/
theorem gives_loadC {P : Program} {o : Oper} {a : Act} {w : World} {g : Nat} {T : TypeId} {ph : Int} {asd : Bool} {gr : Int} {C : Array Value} {given : Value} {ty : TypeId} {x : Operand} {d : TypeDesc} (ho : o.op = .load ty x)
    (hx : a.eval x = .pointer (some ⟨g, 3, none⟩)) (hk : Blk w g T (jobCs ph asd gr C given)) (hu : P.underlying ty = some d) (hd : d.isRow = true) (hi : (P.info? ty).map (·.size) = some C.size) {Φ : Value → World → Prop} (h : Φ (.agg C) w) : Gives P o a w Φ := by
  have hr := run_loadVar_mid (P := P) w g 3 ty C.toList d hk.rangeC hu hd (by simpa using hi)
  unfold Gives execOp
  simp only [ho, hx, Instr.loadAt, Instr.sureAddr, Sem.run_bind, Sem.run_pure, Result.andThen_ok, hr, giv]
  simpa using h
end Go.Proofs.Ytikkknaofiafhaa
