/- Contracts for law 21's nil job: (*Job).next of an index in DeleteOnly. -/
import Derived.Test.YtdibkhphemfdeaaGreatDoorE4
namespace Go.Proofs.YtdibkhphemfdeaaGreatDoor
open Go.RowKit

theorem still_loadAt {P : Program} {o : Oper} {a : Act} {w : World} {g k : Nat} {cs : Array Value} {ty : TypeId} {x : Operand} {d : TypeDesc} (ho : o.op = .load ty x) (hx : a.eval x = .pointer (some ⟨g, k, none⟩)) (hk : w.rangeAt g k cs.toList) (hu : P.underlying ty = some d) (hd : d.isRow = true) (hi : (P.info? ty).map (·.size) = some cs.size) : StillAt P o a w (.agg cs) := by
  have hr := run_loadVar_mid (P := P) w g k ty cs.toList d hk hu hd (by simpa using hi)
  refine .inl ?_
  unfold execOp
  simp only [ho, hx, Instr.loadAt, Instr.sureAddr, Sem.run_bind, Sem.run_pure, Result.andThen_ok, hr]
theorem wpList_loadAt {P : Program} {ops : Array Oper} {rest : List Oper} {o : Oper} {a : Act} {w : World} {Q : Exit → Act → World → Prop} {g k : Nat} {cs : Array Value} (hgd : o.guard = none) {ty : TypeId} {x : Operand} (ho : o.op = .load ty x) (hx : a.eval x = .pointer (some ⟨g, k, none⟩)) (hk : w.rangeAt g k cs.toList) {d : TypeDesc} (hu : P.underlying ty = some d) (hd : d.isRow = true) (hi : (P.info? ty).map (·.size) = some cs.size)
    (h : wpList P ops Q rest (a.put o.dst (.agg cs)) w) : wpList P ops Q (o :: rest) a w := by
  have := wpList_load_mid (P := P) (ops := ops) (rest := rest) (op := o) (a := a) (w := w) (Q := Q) hgd ty x ho g k hx cs.toList d hk hu hd (by simpa using hi)
  exact this (by simpa using h)
theorem Blk.rangeAt_ {w : World} {g : Nat} {T : TypeId} {C : Array Value} (h : Blk w g T C) (k : Nat) (l : List Value) (hl : ∀ j v, l[j]? = some v → C[k + j]? = some v) : w.rangeAt g k l := fun j v hv => (h.cell (k + j)).trans (hl j v hv)
theorem ix_one {cA : Option Addr} {cn cc : Nat} : (ixCs cA cn cc).all (·.oneCell') = true := by simp [ixCs, Value.oneCell']

set_option maxRecDepth 100000 in
set_option maxHeartbeats 6400000 in
theorem ddlnext_any (C1 C2 : Array Value) (cA : Option Addr) (cn cc : Nat) (g : Nat) (w : World) (hk : Blk w g 72 djZ) :
    Calls Tryz.prog 13 #[.pointer (some ⟨g, 0, none⟩), .agg C1, .agg C2, .agg (ixCs cA cn cc)] w fun e w' => e = .returned (.agg askS) ∧ Below w.heap.size w w' := by
  go_enter Tryz.func13, Tryz.ntmps13
  go_upto_region 1 with fail
  refine name_world (fun w1 => Below w.heap.size w w1 ∧ w.heap.size + 4 ≤ w1.heap.size ∧ Blk w1 (w.heap.size + 1 + 1) 49 (ixCs cA cn cc) ∧ Blk w1 (w.heap.size + 1 + 1 + 1) 69 askZ)
    ⟨((((Below.refl _ _).alloc (Nat.le_refl _) _).alloc (by simp) _).alloc (by simp; omega) _).alloc (by simp; omega) _, by simp, (Blk.new_ (by simp)).alloc _, Blk.new_ (by simp)⟩ ?_
  rintro w1 ⟨hB1, hz1, k2, k3⟩
  have kg := hk.below hB1 hk.lt
  have l39 : ∀ s : Later w1, s.val.cell? ⟨g, 39, none⟩ = some (.pointer none) := kg.later rfl
  refine wp_seqL [] (by as_aux_lemma => kernel_rfl) (by as_aux_lemma => kernel_rfl) fun w2 hb2 => ?_
  refine seqL_pre 34 (by kernel_rfl) ?_
  simp only [List.take_succ_cons, List.take_zero, List.drop_succ_cons, List.drop_zero]
  repeat (go_big_quiet_step (fail))
  refine wpQuiet_nil ?_
  refine seqL_nil ?_
  have k22 := k2.below hb2 k2.lt
  have k32 := k3.below hb2 k3.lt
  have hB2 := hB1.trans (hb2.mono hB1.size)
  have a5 : w2.cell? ⟨w.heap.size + 1 + 1, 5, none⟩ = some (.int .i64 1) := k22.cell 5
  clear l39
  go_upto_region 8 with fail
  refine wp_seqB (fun b => b = w.heap.size + 1 + 1 + 1) 4 [2, 3, 4] (by as_aux_lemma => kernel_rfl) (by as_aux_lemma => kernel_rfl) fun w4 hb4 => ?_
  refine seqB_still (.agg (ixCs cA cn cc)) rfl rfl (fun s => still_loadAt (g := w.heap.size + 1 + 1) (k := 0) (cs := ixCs cA cn cc) rfl rfl (k22.kp s.kp (by omega)).range Tryz.underlying49 rfl Tryz.infoIx) ?_
  simp only [Act.put, List.setIfInBounds_toArray, List.set_cons_succ, List.set_cons_zero]
  refine seqB_still (.agg (ixCs cA cn cc)) rfl rfl (fun s => still_loadAt (g := w.heap.size + 1 + 1) (k := 0) (cs := ixCs cA cn cc) rfl rfl (k22.kp s.kp (by omega)).range Tryz.underlying49 rfl Tryz.infoIx) ?_
  simp only [Act.put, List.setIfInBounds_toArray, List.set_cons_succ, List.set_cons_zero]
  refine seqB_wild0 hb4 rfl rfl fun K hK => ?_
  unfold Gives
  go_simp
  refine (schemaNext_any cA cn cc _).mono ?_
  rintro e w5 ⟨rfl, hb5⟩
  refine ⟨_, rfl, hK _ _ (hb5) fun hb5x => ?_⟩
  clear hK
  clear K
  simp only [Act.put, List.setIfInBounds_toArray, List.set_cons_succ, List.set_cons_zero]
  refine seqB_wild0 hb5x rfl rfl fun K hK => ?_
  unfold Gives
  go_simp
  refine (ddlStep_any cA cn cc _).mono ?_
  rintro e w6 ⟨rfl, hb6⟩
  refine ⟨_, rfl, hK _ _ (hb6) fun hb6x => ?_⟩
  clear hK
  clear K
  simp only [Act.put, List.setIfInBounds_toArray, List.set_cons_succ, List.set_cons_zero]
  have k36 := k32.below hb6x k32.lt
  refine seqB_wild (Kp.of_below hb6x) rfl rfl fun K hK => ?_
  refine gives_storeAt (k := 0) rfl askS rfl rfl k36 (Nat.le_refl _) Tryz.infoAsk ask_one ?_
  have k37 := k36.setCells askS rfl
  have hst := Kp.setCells (ok := fun b => ¬ b = w.heap.size + 1 + 1 + 1) (a := w6) (b := w.heap.size + 1 + 1 + 1) (fun _ hh => hh rfl) askS.toList 0 (Kp.refl _ _)
  have hB7 := below_setCells (B := w.heap.size) (b := w.heap.size + 1 + 1 + 1) (by omega) askS.toList 0 (hB2.trans (hb6x.mono hB2.size))
  generalize hwr : World.setCells w6 (w.heap.size + 1 + 1 + 1) 0 askS.toList = w7 at k37 hst hB7 ⊢
  clear hwr
  refine hK _ _ (hst) fun hK8 => ?_
  clear hK
  clear K
  simp only [Act.put, List.setIfInBounds_toArray, List.set_cons_succ, List.set_cons_zero]
  refine seqB_nil ?_
  have lv := k37.loadVar (P := Tryz.prog) Tryz.underlying69 rfl Tryz.infoAsk
  clear a5
  go_wp2
  refine bodyPost_ret (v := .agg askS) ?_ rfl ⟨rfl, hB7⟩
  simp [results, Tryz.results13, Act.put, Sem.run_bind, Sem.run_pure, asAddr_ok, lv]
end Go.Proofs.YtdibkhphemfdeaaGreatDoor
