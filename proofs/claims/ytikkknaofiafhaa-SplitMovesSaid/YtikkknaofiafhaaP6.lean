/- Contracts: (*Job).gave, (*Job).Got.
Contract: (*Job).Got.
The document's job in memory: its block, one and many cells stored; what is asked of it. No walk. -/
import Derived.Test.YtikkknaofiafhaaP4
import Derived.Test.YtikkknaofiafhaaRegE
namespace Go.Proofs.Ytikkknaofiafhaa
open Go.RowKit

theorem job_set0 (ph p2 : Int) (asd : Bool) (gr : Int) (C : Array Value) (given : Value) : (jobCs ph asd gr C given).setIfInBounds 0 (.int .i64 p2) = jobCs p2 asd gr C given := by
  refine Array.ext' ?_
  rw [Array.toList_setIfInBounds]
  simp [jobCs]
theorem job_set28 (ph : Int) (asd : Bool) (gr : Int) (C : Array Value) (given v : Value) (h : C.size = 25) : (jobCs ph asd gr C given).setIfInBounds 28 v = jobCs ph asd gr C v := by
  refine Array.ext' ?_
  rw [Array.toList_setIfInBounds]
  unfold jobCs
  simp only [Array.toList_append]
  rw [List.set_append_right _ _ (by simp [h]), show 28 - ([Value.int .i64 ph, .bool asd, .int .i64 gr] ++ C.toList).length = 0 by simp [h]]
  rfl
/-- what is answered, as far as jobs look at it -/
structure RepR (ok : Nat → Prop) (w : World) (R : Array Value) (err : Int) (ps : List PairD) : Prop where
  size : R.size = 15
  err : R[0]? = some (.int .i64 err)
  ps : ∃ v, R[4]? = some v ∧ RSl rPair ok w v ps
theorem RepR.below {ok : Nat → Prop} {w w' : World} {R : Array Value} {err : Int} {ps : List PairD} (h : RepR ok w R err ps) (hb : Below w.heap.size w w') : RepR ok w' R err ps := by obtain ⟨h1, h2, v, h3, h4⟩ := h; exact ⟨h1, h2, v, h3, h4.below hb⟩
theorem RepR.kp {ok : Nat → Prop} {w w' : World} {R : Array Value} {err : Int} {ps : List PairD} (h : RepR ok w R err ps) (hb : Kp ok w w') : RepR ok w' R err ps := by obtain ⟨h1, h2, v, h3, h4⟩ := h; exact ⟨h1, h2, v, h3, h4.kp hb⟩
def gaveJ (j : JobD) (err : Int) (ps : List PairD) : JobD := if err = 0 then ⟨1, j.asd, j.gr, j.c, ps⟩ else if err = 10 then ⟨3, j.asd, j.gr, j.c, j.given⟩ else j
def gotJ (j : JobD) (err : Int) (ps : List PairD) : JobD × Int :=
  if j.asd = false then (j, 7) else
  (if j.ph = 0 then gaveJ ⟨0, false, j.gr, j.c, j.given⟩ err ps else if j.ph = 1 then (if err = 0 ∨ err = 7 then ⟨2, false, j.gr, j.c, j.given⟩ else ⟨1, false, j.gr, j.c, j.given⟩) else zJob, 0)
/-- the program's job with its command's cells -/
def PJobC (ok : Nat → Prop) (w : World) (g : Nat) (C : Array Value) (j : JobD) : Prop := ∃ given, Blk w g 129 (jobCs j.ph j.asd j.gr C given) ∧ RSl rPair ok w given j.given

set_option maxRecDepth 100000 in
set_option maxHeartbeats 6400000 in
theorem gave_any {ok : Nat → Prop} {okr : Nat → Prop} (j : JobD) (R : Array Value) (err : Int) (ps : List PairD) (g : Nat) (C : Array Value) (w : World) (hR : RepR okr w R err ps) (hj : PJobC ok w g C j) (hC : C.size = 25) (hok : ∀ b, ok b → b ≠ g) (hnew : ∀ b, w.heap.size ≤ b → ok b) :
    Calls Try.prog 70 #[.pointer (some ⟨g, 0, none⟩), .agg R] w fun e w' => (∃ v, e = .returned v) ∧ PJobC ok w' g C (gaveJ j err ps) ∧ Kp (fun b => b ≠ g) w w' := by
  obtain ⟨given, hk, hgv⟩ := hj
  obtain ⟨hs, he, v, hv, hps⟩ := hR
  obtain ⟨A9, cc9, rfl, _, _⟩ := hgv.form
  obtain ⟨A8, cc8, rfl, _, _⟩ := hps.form
  obtain ⟨ph, asd, gr, cd, gl⟩ := j
  simp only at hk hgv
  have hgl := hk.lt
  go_enter Try.func70, Try.ntmps70
  go_upto_region 1 with fail
  refine name_world (fun w1 => Below w.heap.size w w1 ∧ w.heap.size + 1 ≤ w1.heap.size ∧ Blk w1 w.heap.size 70 R)
    ⟨(Below.refl _ _).alloc (Nat.le_refl _) _, by simp, Blk.new _ _ _⟩ ?_
  rintro w1 ⟨hB1, hz1, k1⟩
  have kg := hk.below hB1 hgl
  have hne0 : w.heap.size ≠ g := by omega
  have hK1 : Kp (fun b => b ≠ g) w w1 := (Kp.of_below hB1).mono fun _ _ => trivial
  have p0 : w1.cell? ⟨w.heap.size, 0, none⟩ = some (.int .i64 err) := (k1.cell 0).trans he
  have p4 : w1.cell? ⟨w.heap.size, 4, none⟩ = some (.slice A8 ps.length cc8) := (k1.cell 4).trans hv
  have fz := fun i => kg.frozen i
  have c0 : w1.cell? ⟨g, 0, none⟩ = some (.int .i64 ph) := (kg.cell 0).trans (job0 _ _ _ _ _).1
  by_cases h0 : err = 0
  · have s0 : (err == 0) = true := by simp [h0]
    have HG : Hid (gaveJ ⟨ph, asd, gr, cd, gl⟩ err ps = ⟨1, asd, gr, cd, ps⟩) := by unfold gaveJ; rw [if_pos h0]; trivial
    clear h0
    go_wp2_with fail
    refine (pairs_any _ ps _ (hps.below hB1)).mono ?_
    rintro e w2 ⟨⟨x, rfl, hx⟩, hb2⟩
    obtain ⟨A7, cc7, rfl, _, _⟩ := hx.form
    have kg2 := kg.below hb2 kg.lt
    have fz2 := fun i => kg2.frozen i
    have d0 : w2.cell? ⟨g, 0, none⟩ = some (.int .i64 ph) := (kg2.cell 0).trans (job0 _ _ _ _ _).1
    have d28 : w2.cell? ⟨g, 28, none⟩ = some (.slice A9 gl.length cc9) := (kg2.cell 28).trans (job28 _ _ _ _ _ hC)
    have hK2 := hK1.trans ((Kp.of_below hb2).mono (ok' := fun b => b ≠ g) fun _ _ => trivial)
    have hz2 : w1.heap.size ≤ w2.heap.size := hb2.size
    clear p0 p4 fz c0
    go_wp2
    go_end0
    have hkp : Kp (fun b => b ≠ g) w2 ((w2.setCell ⟨g, 0, none⟩ (.int .i64 1)).setCell ⟨g, 28, none⟩ (.slice A7 ps.length cc7)) := ((Kp.refl _ _).setCell (fun _ h => h rfl) _).setCell (fun _ h => h rfl) _
    rw [HG.out]
    refine ⟨⟨_, rfl⟩, ⟨_, ?_, (hx.kp (hkp.mono fun b h => by have : w1.heap.size ≤ b := h; omega)).mono (by decide) fun b h _ => hnew b (by have : w1.heap.size ≤ b := h; omega)⟩, hK2.trans hkp⟩
    have := (kg2.set_ 0 (.int .i64 1)).set_ 28 (.slice A7 ps.length cc7)
    rwa [job_set0, job_set28 _ _ _ _ _ _ hC] at this
  have s0 : (err == 0) = false := by simpa using h0
  by_cases h10 : err = 10
  · have s1 : (err == 10) = true := by simp [h10]
    have HG : Hid (gaveJ ⟨ph, asd, gr, cd, gl⟩ err ps = ⟨3, asd, gr, cd, gl⟩) := by unfold gaveJ; rw [if_neg h0, if_pos h10]; trivial
    clear h0 h10
    go_wp2
    go_end0
    have hkp : Kp (fun b => b ≠ g) w1 (w1.setCell ⟨g, 0, none⟩ (.int .i64 3)) := (Kp.refl _ _).setCell (fun _ h => h rfl) _
    rw [HG.out]
    refine ⟨⟨_, rfl⟩, ⟨_, ?_, (hgv.below hB1).kp (hkp.mono fun b h => hok b h)⟩, hK1.trans hkp⟩
    have := kg.set_ 0 (.int .i64 3)
    rwa [job_set0] at this
  have s1 : (err == 10) = false := by simpa using h10
  have HG : Hid (gaveJ ⟨ph, asd, gr, cd, gl⟩ err ps = ⟨ph, asd, gr, cd, gl⟩) := by unfold gaveJ; rw [if_neg h0, if_neg h10]; trivial
  clear h0 h10
  go_wp2
  go_end0
  rw [HG.out]
  exact ⟨⟨_, rfl⟩, ⟨_, kg, hgv.below hB1⟩, hK1⟩
end Go.Proofs.Ytikkknaofiafhaa

namespace Go.Proofs.Ytikkknaofiafhaa
open Go.RowKit

theorem Try.infoReply : (Try.prog.info? 70).map (·.size) = some 15 := by kernel_rfl

set_option maxRecDepth 100000 in
set_option maxHeartbeats 6400000 in
theorem got_any {ok okr : Nat → Prop} (j : JobD) (R : Array Value) (err : Int) (ps : List PairD) (g : Nat) (w : World) (hR : RepR okr w R err ps) (hj : PJob ok w g j) (hok : ∀ b, ok b → b ≠ g) (hokr : ∀ b, okr b → b ≠ g) (hnew : ∀ b, w.heap.size ≤ b → ok b) :
    Calls Try.prog 30 #[.pointer (some ⟨g, 0, none⟩), .agg R] w fun e w' => e = .returned (.int .i64 (gotJ j err ps).2) ∧ PJob ok w' g (gotJ j err ps).1 ∧ Kp (fun b => b ≠ g) w w' := by
  obtain ⟨C, given, hk, hc, hgv⟩ := hj
  obtain ⟨A9, cc9, rfl, _, _⟩ := hgv.form
  have hC := hc.size
  obtain ⟨ph, asd, gr, cd, gl⟩ := j
  simp only at hk hc hgv
  have hgl := hk.lt
  go_enter Try.func30, Try.ntmps30
  go_upto_region 1 with fail
  refine name_world (fun w1 => Below w.heap.size w w1 ∧ w.heap.size + 1 ≤ w1.heap.size ∧ Blk w1 w.heap.size 70 R)
    ⟨(Below.refl _ _).alloc (Nat.le_refl _) _, by simp, Blk.new _ _ _⟩ ?_
  rintro w1 ⟨hB1, hz1, k1⟩
  have kg := hk.below hB1 hgl
  have hne0 : w.heap.size ≠ g := by omega
  have hK1 : Kp (fun b => b ≠ g) w w1 := (Kp.of_below hB1).mono fun _ _ => trivial
  have p1 : w1.cell? ⟨g, 1, none⟩ = some (.bool asd) := (kg.cell 1).trans (job0 _ _ _ _ _).2.1
  have fz := fun i => kg.frozen i
  cases asd
  case false =>
    go_wp2
    go_ret
    exact ⟨rfl, ⟨C, _, kg, hc.below hB1, hgv.below hB1⟩, hK1⟩
  go_upto_region 6 with fail
  refine name_world (fun w2 => Kp (fun b => b ≠ g) w w2 ∧ w.heap.size + 1 ≤ w2.heap.size ∧ Blk w2 w.heap.size 70 R ∧ Blk w2 g 129 (jobCs ph false gr C (.slice A9 gl.length cc9)))
    ⟨hK1.setCell (fun _ h => h rfl) _, by simp; omega, k1.far hne0 _, ?_⟩ ?_
  · have := kg.set_ 1 (.bool false)
    rwa [job_set1] at this
  clear k1 kg hK1 p1 fz hB1 hz1
  rintro w2 ⟨hK2, hz2, k2, kg2⟩
  have hc2 := hc.kp (hK2.mono hok)
  have hg2 := hgv.kp (hK2.mono hok)
  have hR2 := hR.kp (hK2.mono hokr)
  have p0 : w2.cell? ⟨g, 0, none⟩ = some (.int .i64 ph) := (kg2.cell 0).trans (job0 _ _ _ _ _).1
  have q0 : w2.cell? ⟨w.heap.size, 0, none⟩ = some (.int .i64 err) := (k2.cell 0).trans hR.err
  have fz := fun i => kg2.frozen i
  by_cases h0 : ph = 0
  · subst h0
    have HG : Hid (gotJ ⟨0, true, gr, cd, gl⟩ err ps = (gaveJ ⟨0, false, gr, cd, gl⟩ err ps, 0)) := by unfold gotJ; rw [if_neg (by simp), if_pos rfl]; trivial
    go_upto_region 10 with fail
    refine wp_region_split 1 ?_
    simp only [List.take_succ_cons, List.take_zero, List.drop_succ_cons, List.drop_zero]
    go_wp2
    show wpList _ _ _ _ _ _
    refine wpList_loadB rfl rfl rfl k2 Try.underlying70 rfl (by rw [hR.size]; exact Try.infoReply) ?_
    simp only [Act.put, List.setIfInBounds_toArray, List.set_cons_succ, List.set_cons_zero]
    go_wp2_with fail
    refine (gave_any (ok := ok) ⟨0, false, gr, cd, gl⟩ R err ps g C _ hR2 ⟨_, kg2, hg2⟩ hC hok (fun b hb => hnew b (by omega))).mono ?_
    rintro e w3 ⟨⟨v, rfl⟩, ⟨g3, hk3, hg3⟩, hK3⟩
    have hc3 := hc2.kp (hK3.mono hok)
    have HC : Hid ((gaveJ ⟨0, false, gr, cd, gl⟩ err ps).c = cd) := by unfold gaveJ; split; trivial; split <;> trivial
    go_wp2
    go_ret
    rw [HG.out]
    exact ⟨rfl, ⟨C, g3, hk3, by rw [HC.out]; exact hc3, hg3⟩, hK2.trans hK3⟩
  have s0 : (ph == 0) = false := by simpa using h0
  by_cases h1 : ph = 1
  · subst h1
    by_cases he : err = 0 ∨ err = 7
    · have HG : Hid (gotJ ⟨1, true, gr, cd, gl⟩ err ps = (⟨2, false, gr, cd, gl⟩, 0)) := by unfold gotJ; rw [if_neg (by simp), if_neg (by simp), if_pos rfl, if_pos he]; trivial
      cases e1 : (err == 0) <;> cases e2 : (err == 7)
      case false.false => exact absurd he (by simp at e1 e2; simp [e1, e2])
      all_goals
        clear he
        go_wp2
        go_ret
        rw [HG.out]
        have hkp : Kp (fun b => b ≠ g) w2 (w2.setCell ⟨g, 0, none⟩ (.int .i64 2)) := (Kp.refl _ _).setCell (fun _ h => h rfl) _
        refine ⟨rfl, ⟨C, _, ?_, hc2.kp (hkp.mono hok), hg2.kp (hkp.mono hok)⟩, hK2.trans hkp⟩
        have := kg2.set_ 0 (.int .i64 2)
        rwa [job_set0] at this
    · have HG : Hid (gotJ ⟨1, true, gr, cd, gl⟩ err ps = (⟨1, false, gr, cd, gl⟩, 0)) := by unfold gotJ; rw [if_neg (by simp), if_neg (by simp), if_pos rfl, if_neg he]; trivial
      have e1 : (err == 0) = false := by simp; exact fun h => he (.inl h)
      have e2 : (err == 7) = false := by simp; exact fun h => he (.inr h)
      clear he
      go_wp2
      go_ret
      rw [HG.out]
      exact ⟨rfl, ⟨C, _, kg2, hc2, hg2⟩, hK2⟩
  have s1 : (ph == 1) = false := by simpa using h1
  have HG : Hid (gotJ ⟨ph, true, gr, cd, gl⟩ err ps = (zJob, 0)) := by unfold gotJ; rw [if_neg (by simp), if_neg h0, if_neg h1]; trivial
  clear h0 h1
  cases s2 : (ph == 2)
  all_goals
    go_upto_region 13 with fail
    refine wp_region_split 3 ?_
    simp only [List.take_succ_cons, List.take_zero, List.drop_succ_cons, List.drop_zero]
    go_wp2
    show wpList _ _ _ _ _ _
    refine wpList_storeB' rfl rfl (jobCs 0 false 0 zC nl) rfl rfl kg2 (by rw [jobCs_size hC]; rfl) (by rw [jobCs_size rfl]; exact Try.infoJob) zjob_one ?_ rfl
    intro kg3
    have hK3 := Kp.setCells (ok := fun b => b ≠ g) (a := w) (b := g) (fun _ h => h rfl) (jobCs 0 false 0 zC nl).toList 0 hK2
    clear p0 q0 fz
    go_wp2
    go_ret
    rw [HG.out]
    exact ⟨rfl, ⟨zC, nl, kg3, CmdV.of (d := zCmd) (k := nl) (f := nl) (u := nl) (p := nl) ⟨RSl.nil_ _ _ _, RSl.nil_ _ _ _, RSl.nil_ _ _ _, RSl.nil_ _ _ _⟩, RSl.nil_ _ _ _⟩, hK3⟩
end Go.Proofs.Ytikkknaofiafhaa

namespace Go.Proofs.Ytikkknaofiafhaa
open Go.RowKit

def rjobCs (ph : Int) (given : Value) (asd : Bool) (gr : Int) (C : Array Value) : Array Value := #[.int .i64 ph, given, .bool asd, .int .i64 gr] ++ C
theorem rjobCs_size {ph : Int} {given : Value} {asd : Bool} {gr : Int} {C : Array Value} (h : C.size = 25) : (rjobCs ph given asd gr C).size = 29 := by simp [rjobCs, h]
theorem rjob0 (ph : Int) (given : Value) (asd : Bool) (gr : Int) (C : Array Value) : (rjobCs ph given asd gr C)[0]? = some (.int .i64 ph) ∧ (rjobCs ph given asd gr C)[1]? = some given ∧ (rjobCs ph given asd gr C)[2]? = some (.bool asd) ∧ (rjobCs ph given asd gr C)[3]? = some (.int .i64 gr) := by
  unfold rjobCs
  refine ⟨?_, ?_, ?_, ?_⟩ <;> (rw [Array.getElem?_append_left (by simp)]; rfl)
theorem rjob4 (ph : Int) (given : Value) (asd : Bool) (gr : Int) (C : Array Value) (j : Nat) : (rjobCs ph given asd gr C)[4 + j]? = C[j]? := by
  unfold rjobCs
  rw [Array.getElem?_append_right (by simp)]
  simp
theorem rjob_set0 (ph p2 : Int) (given : Value) (asd : Bool) (gr : Int) (C : Array Value) : (rjobCs ph given asd gr C).setIfInBounds 0 (.int .i64 p2) = rjobCs p2 given asd gr C := by
  refine Array.ext' ?_
  rw [Array.toList_setIfInBounds]
  simp [rjobCs]
theorem rjob_set1 (ph : Int) (given g2 : Value) (asd : Bool) (gr : Int) (C : Array Value) : (rjobCs ph given asd gr C).setIfInBounds 1 g2 = rjobCs ph g2 asd gr C := by
  refine Array.ext' ?_
  rw [Array.toList_setIfInBounds]
  simp [rjobCs]
theorem rjob_set2 (ph : Int) (given : Value) (asd b : Bool) (gr : Int) (C : Array Value) : (rjobCs ph given asd gr C).setIfInBounds 2 (.bool b) = rjobCs ph given b gr C := by
  refine Array.ext' ?_
  rw [Array.toList_setIfInBounds]
  simp [rjobCs]
theorem rjob_set3 (ph : Int) (given : Value) (asd : Bool) (gr g2 : Int) (C : Array Value) : (rjobCs ph given asd gr C).setIfInBounds 3 (.int .i64 g2) = rjobCs ph given asd g2 C := by
  refine Array.ext' ?_
  rw [Array.toList_setIfInBounds]
  simp [rjobCs]
section
variable {w : World} {g : Nat} {T : TypeId} {ph : Int} {given : Value} {asd : Bool} {gr : Int} {C : Array Value}
theorem Blk.setR (h : Blk w g T (rjobCs ph given asd gr C)) (cs : Array Value) (hs : cs.size = C.size) : Blk (w.setCells g 4 cs.toList) g T (rjobCs ph given asd gr cs) := by
  have h1 : Blk w g T (#[.int .i64 ph, given, .bool asd, .int .i64 gr] ++ C ++ #[]) := by simpa [rjobCs] using h
  have h2 := h1.setCells_mid cs hs
  simpa [rjobCs] using h2
theorem Blk.rangeR (h : Blk w g T (rjobCs ph given asd gr C)) : w.rangeAt g 4 C.toList := fun j v hv => by
  rw [h.cell (4 + j), rjob4]
  simpa using hv
end
theorem wpList_storeR {P : Program} {ops : Array Oper} {rest : List Oper} {o : Oper} {a : Act} {w : World} {Q : Exit → Act → World → Prop} {g : Nat} {T : TypeId} {ph : Int} {asd : Bool} {gr : Int} {C : Array Value} {given : Value} (hgd : o.guard = none) {ty : TypeId} {x y : Operand} (ho : o.op = .store ty x y) (cs : Array Value)
    (hx : a.eval x = .pointer (some ⟨g, 4, none⟩)) (hy : a.eval y = .agg cs) (hk : Blk w g T (rjobCs ph given asd gr C)) (hC : C.size = 25) (hs : cs.size = 25) (hi : (P.info? ty).map (·.size) = some 25) (h1 : cs.all (·.oneCell') = true)
    (h : Blk (w.setCells g 4 cs.toList) g T (rjobCs ph given asd gr cs) → wpList P ops Q rest a (w.setCells g 4 cs.toList)) (hdst : o.dst = none) : wpList P ops Q (o :: rest) a w :=
  wpList_store_mid hgd ty x y ho g 4 cs hx hy (hk.there_at 4 cs.size (by rw [rjobCs_size hC]; omega)) (by rw [hs]; exact hi) h1 (by rw [hdst]; exact h (hk.setR cs (by omega)))
theorem gives_loadR {P : Program} {o : Oper} {a : Act} {w : World} {g : Nat} {T : TypeId} {ph : Int} {asd : Bool} {gr : Int} {C : Array Value} {given : Value} {ty : TypeId} {x : Operand} {d : TypeDesc} (ho : o.op = .load ty x)
    (hx : a.eval x = .pointer (some ⟨g, 4, none⟩)) (hk : Blk w g T (rjobCs ph given asd gr C)) (hu : P.underlying ty = some d) (hd : d.isRow = true) (hi : (P.info? ty).map (·.size) = some C.size) {Φ : Value → World → Prop} (h : Φ (.agg C) w) : Gives P o a w Φ := by
  have hr := run_loadVar_mid (P := P) w g 4 ty C.toList d hk.rangeR hu hd (by simpa using hi)
  unfold Gives execOp
  simp only [ho, hx, Instr.loadAt, Instr.sureAddr, Sem.run_bind, Sem.run_pure, Result.andThen_ok, hr, giv]
  simpa using h
/-- the document's job in memory -/
def RJob (ok : Nat → Prop) (w : World) (h : Nat) (j : JobD) : Prop := ∃ C given, Blk w h 62 (rjobCs j.ph given j.asd j.gr C) ∧ CmdV ok w C j.c ∧ RSl rPair ok w given j.given
theorem RJob.kp {ok : Nat → Prop} {w w' : World} {g : Nat} {j : JobD} (h : RJob ok w g j) (hk : Kp ok w w') (hg : w'.heap[g]? = w.heap[g]?) : RJob ok w' g j := by
  obtain ⟨C, v, h1, h2, h3⟩ := h
  exact ⟨C, v, hg.trans h1, h2.kp hk, h3.kp hk⟩
theorem RJob.lt {ok : Nat → Prop} {w : World} {g : Nat} {j : JobD} (h : RJob ok w g j) : g < w.heap.size := by obtain ⟨C, v, h1, _⟩ := h; exact h1.lt
def RAskPost (ok : Nat → Prop) (g : Nat) (j' : JobD) (b : Bool) (w : World) (e : Ending) (w' : World) : Prop :=
  (∃ C, e = .returned (.tuple #[.int .i64 j'.gr, .agg C, .bool b]) ∧ CmdV ok w' C j'.c) ∧ RJob ok w' g j' ∧ Kp (fun b => b ≠ g) w w'
theorem zrjob_one : (rjobCs 0 nl false 0 zC).all (·.oneCell') = true := by simp [rjobCs, zC, cmdCs, Value.oneCell']
theorem Try.infoRJob : (Try.prog.info? 62).map (·.size) = some 29 := by kernel_rfl
/-- bytes that are read lie in no block without bytes -/
theorem rb_off {ok : Nat → Prop} {w : World} {v : Value} {l : List UInt8} {g : Nat} {T : TypeId} {cs : Array Value} (h : RB ok w v l) (hk : Blk w g T cs) (hcs : ∀ (i : Nat) (z : Int), cs[i]? ≠ some (Value.int .u8 z)) : RB (fun b => ok b ∧ b ≠ g) w v l := by
  obtain ⟨A, c, rfl, hc, hm, hr, ho⟩ := h.open_
  refine RB.mk_ hr hc hm fun h0 a ha => ⟨ho h0 a ha, fun hb => ?_⟩
  obtain ⟨b, off, rfl, hcell⟩ := hr.2 h0
  obtain rfl := Option.some.inj ha
  simp only at hb
  subst hb
  have h1 := hcell 0 _ (bs_get l 0 h0)
  have h2 := hk.cell off
  rw [Nat.add_zero] at h1
  rw [h1] at h2
  exact hcs off _ h2.symm
/-- what a group owns, by value -/
def Sp.owned (ok : Nat → Prop) (t : List UInt8) : Sp :=
  ⟨fun x => ∃ A n c A2 c2, x = .agg #[.slice A n c, .slice A2 t.length c2], .agg #[.slice none 0 0, .slice none t.length 0], ⟨none, 0, 0, none, 0, rfl⟩,
    fun x w => ∃ A n c A2 c2, x = .agg #[.slice A n c, .slice A2 t.length c2] ∧ RB ok w (.slice A2 t.length c2) t,
    fun _ _ ⟨A, n, c, A2, c2, h, _⟩ => ⟨A, n, c, A2, c2, h⟩, fun _ _ _ hb ⟨A, n, c, A2, c2, h, h2⟩ => ⟨A, n, c, A2, c2, h, h2.below hb⟩⟩
end Go.Proofs.Ytikkknaofiafhaa
