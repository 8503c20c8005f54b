/- Contract: (*Job).next, whatever the phase.
Contract: (*Job).Next, whatever the job and the routes. -/
import Derived.Test.YtikkknaofiafhaaP1
import Derived.Test.YtikkknaofiafhaaS8
namespace Go.Proofs.Ytikkknaofiafhaa
open Go.RowKit

structure JobD where
  ph : Int
  asd : Bool
  gr : Int
  c : CmdD
  given : List PairD
def zCmd : CmdD := ⟨0, 0, false, [], [], [], []⟩
def zJob : JobD := ⟨0, false, 0, zCmd, []⟩
/-- what a job asks for: of whom, and what -/
def askJ (d : RouteD) (n : Int) (j : JobD) : Int × CmdD :=
  if j.ph = 0 then (d.m, ⟨5, 0, false, d.c, [], [], []⟩) else if j.ph = 1 then (n, ⟨6, 0, false, [], d.c, ownedT d.s d.m, j.given⟩) else if j.ph = 2 then (0, ⟨19, n, false, [], [], [], []⟩) else (0, ⟨19, 0, true, [], [], [], []⟩)
/-- a command in memory -/
def CmdV (ok : Nat → Prop) (w : World) (C : Array Value) (d : CmdD) : Prop := ∃ A1 c1 A2 c2 A3 c3 A4 c4, C = cmdCs d.kind d.n d.flag (.slice A1 d.key.length c1) (.slice A2 d.from_.length c2) (.slice A3 d.upto.length c3) (.slice A4 d.pairs.length c4) ∧ CmdR ok w (.slice A1 d.key.length c1) (.slice A2 d.from_.length c2) (.slice A3 d.upto.length c3) (.slice A4 d.pairs.length c4) d
theorem CmdV.of {ok : Nat → Prop} {w : World} {k f u p : Value} {d : CmdD} (h : CmdR ok w k f u p d) : CmdV ok w (cmdCs d.kind d.n d.flag k f u p) d := by
  obtain ⟨_, _, rfl, _⟩ := h.key.form
  obtain ⟨_, _, rfl, _⟩ := h.fr.form
  obtain ⟨_, _, rfl, _⟩ := h.upto.form
  obtain ⟨_, _, rfl, _⟩ := h.pairs.form
  exact ⟨_, _, _, _, _, _, _, _, rfl, h⟩
section
variable {ok ok' : Nat → Prop} {w w' : World} {C : Array Value} {d : CmdD}
theorem CmdV.kp (hk : Kp ok w w') (h : CmdV ok w C d) : CmdV ok w' C d := by obtain ⟨_, _, _, _, _, _, _, _, h1, h2⟩ := h; exact ⟨_, _, _, _, _, _, _, _, h1, h2.kp hk⟩
theorem CmdV.below (h : CmdV ok w C d) (hb : Below w.heap.size w w') : CmdV ok w' C d := by obtain ⟨_, _, _, _, _, _, _, _, h1, h2⟩ := h; exact ⟨_, _, _, _, _, _, _, _, h1, h2.below hb⟩
theorem CmdV.mono (hm : ∀ b, ok b → b < w.heap.size → ok' b) (h : CmdV ok w C d) : CmdV ok' w C d := by obtain ⟨_, _, _, _, _, _, _, _, h1, h2⟩ := h; exact ⟨_, _, _, _, _, _, _, _, h1, h2.mono hm⟩
theorem CmdV.size (h : CmdV ok w C d) : C.size = 25 := by obtain ⟨_, _, _, _, _, _, _, _, rfl, _⟩ := h; rfl
theorem CmdV.one (h : CmdV ok w C d) : C.all (·.oneCell') = true := by obtain ⟨_, _, _, _, _, _, _, _, rfl, _⟩ := h; exact cmdCs_one rfl rfl rfl rfl
end
theorem ownV_any {ok : Nat → Prop} (C : Array Value) (d : CmdD) (w : World) (h : CmdV ok w C d) :
    Calls Try.prog 74 #[.agg C] w fun e w' => (∃ C', e = .returned (.agg C') ∧ CmdV (fun b => w.heap.size ≤ b) w' C' d) ∧ Below w.heap.size w w' := by
  obtain ⟨_, _, _, _, _, _, _, _, rfl, h⟩ := h
  exact (own_any _ _ _ _ d w h).mono fun e w' ⟨⟨k, f, u, p, he, hc⟩, hb⟩ => ⟨⟨_, he, CmdV.of hc⟩, hb⟩
/-- a command by value, whatever its cells -/
def Sp.cmdV (ok : Nat → Prop) (d : CmdD) : Sp :=
  ⟨fun x => ∃ C : Array Value, x = .agg C ∧ C.size = 25, .agg zC, ⟨zC, rfl, rfl⟩, fun x w => ∃ C, x = .agg C ∧ CmdV ok w C d, fun _ _ ⟨C, h, h1⟩ => ⟨C, h, h1.size⟩, fun _ _ _ hb ⟨C, h, h1⟩ => ⟨C, h, h1.below hb⟩⟩

def NextPost (d : RouteD) (n : Int) (j : JobD) (w : World) (e : Ending) (w' : World) : Prop :=
  (∃ C, e = .returned (.tuple #[.int .i64 (askJ d n j).1, .agg C]) ∧ CmdV (fun b => w.heap.size ≤ b) w' C (askJ d n j).2) ∧ Below w.heap.size w w'
theorem res_next {C : Array Value} {w : World} {g : Nat} (m : Int) (h : Blk w g 60 C) (hs : C.size = 25) : (Go.loadVar 60 ⟨g, 0, none⟩).run Try.prog w = .ok (.agg C) w := h.loadVar Try.underlying60 rfl (by rw [hs]; exact Try.infoCmd)

set_option maxRecDepth 100000 in
set_option maxHeartbeats 6400000 in
theorem nextJob_any {ok okg : Nat → Prop} (j : JobD) (d : RouteD) (a c : Value) (n : Int) (g : Nat) (asd : Bool) (gr : Int) (C : Array Value) (given : Value) (w : World) (hr : RouteR ok w a c d) (hk : Blk w g 129 (jobCs j.ph asd gr C given)) (hC : C.size = 25) (hg : RSl rPair okg w given j.given) :
    Calls Try.prog 73 #[.pointer (some ⟨g, 0, none⟩), .agg (routeCs d a c), .int .i64 n] w (NextPost d n j w) := by
  by_cases h0 : j.ph = 0
  · rw [h0] at hk
    refine (next0_any d a c n g asd gr C given w hr hk).mono ?_
    rintro e w' ⟨⟨key, fr, ut, ps, rfl, hc⟩, hb⟩
    unfold NextPost askJ
    rw [if_pos h0]
    exact ⟨⟨_, rfl, CmdV.of hc⟩, hb⟩
  obtain ⟨A, cc, rfl, hc, hbd⟩ := hr.s.form
  obtain ⟨A2, cc2, rfl, _, hbd2⟩ := hr.c.form
  obtain ⟨A9, cc9, rfl, _, _⟩ := hg.form
  have hgl := hk.lt
  have s0 : (j.ph == 0) = false := by simpa using h0
  by_cases h1 : j.ph = 1
  · have HP : Hid (askJ d n j = (n, ⟨6, 0, false, [], d.c, ownedT d.s d.m, j.given⟩)) := by unfold askJ; rw [if_neg h0, if_pos h1]; trivial
    have s1 : (j.ph == 1) = true := by simp [h1]
    obtain ⟨ph, hph⟩ : ∃ p, p = j.ph := ⟨_, rfl⟩
    rw [← hph] at hk s0 s1
    clear h0 h1 hph
    go_enter Try.func73, Try.ntmps73
    go_upto_region 1 with fail
    refine name_world (fun w1 => Below w.heap.size w w1 ∧ w.heap.size + 2 ≤ w1.heap.size ∧ Blk w1 w.heap.size 42 (routeCs d (.slice A d.s.length cc) (.slice A2 d.c.length cc2)) ∧ Blk w1 (w.heap.size + 1) 60 zC)
      ⟨((Below.refl _ _).alloc (Nat.le_refl _) _).alloc (by simp) _, by simp, (Blk.new w _ _).alloc _, Blk.new_ (by simp)⟩ ?_
    rintro w1 ⟨hB1, hz1, k1, k2⟩
    have kg := hk.below hB1 hgl
    have p0 : w1.cell? ⟨g, 0, none⟩ = some (.int .i64 ph) := (kg.cell 0).trans (job0 _ _ _ _ _).1
    obtain ⟨r0, r1, r2, r3, r4⟩ := route_cells k1
    have hr1 := hr.below hB1
    go_wp2_with fail
    refine (owned_any d _ _ d.m _ hr1).mono ?_
    unfold OwnedPost
    rintro e w2 ⟨⟨B1, n1, e1, B2, e2, lf, rfl, h1, h2⟩, hb2⟩
    have hB2 := hB1.trans (hb2.mono hB1.size)
    have hz2 : w1.heap.size ≤ w2.heap.size := hb2.size
    have k12 := k1.below hb2 k1.lt
    have k22 := k2.below hb2 k2.lt
    have kg2 := kg.below hb2 kg.lt
    have hr2 := hr1.below hb2
    clear r0 r1 r2 r3 r4 p0 k1 k2 kg hr1
    go_upto_region 6 with fail
    refine name_world (fun w3 => Below w.heap.size w w3 ∧ w.heap.size + 2 ≤ w3.heap.size ∧ Blk w3 w.heap.size 42 (routeCs d (.slice A d.s.length cc) (.slice A2 d.c.length cc2)) ∧ Blk w3 (w.heap.size + 1) 60 zC ∧ Blk w3 w2.heap.size 50 #[.slice B1 n1 e1, .slice B2 (ownedT d.s d.m).length e2] ∧ Blk w3 g 129 (jobCs ph asd gr C (.slice A9 j.given.length cc9)) ∧ RB (fun _ => True) w3 (.slice B2 (ownedT d.s d.m).length e2) (ownedT d.s d.m))
      ⟨hB2.alloc hB2.size _, by simp; omega, k12.alloc _, k22.alloc _, Blk.new_ rfl, kg2.alloc _, (h2.below ((Below.refl _ _).alloc (Nat.le_refl _) _)).mono (by decide) fun _ _ _ => trivial⟩ ?_
    clear k12 k22 kg2 hr2 h1 h2
    rintro w3 ⟨hB3, hz3, k3, m3, x3, kg3, u3⟩
    have hr3 := hr.below hB3
    have hg3 := hg.below hB3
    obtain ⟨r0, r1, r2, r3, r4⟩ := route_laters k3
    have x1 : ∀ s : Later w3, s.val.cell? ⟨w2.heap.size, 1, none⟩ = some (.slice B2 (ownedT d.s d.m).length e2) := x3.later rfl
    have l28 : ∀ s : Later w3, s.val.cell? ⟨g, 28, none⟩ = some (.slice A9 j.given.length cc9) := fun s => ((kg3.below s.below kg3.lt).cell 28).trans (job28 _ _ _ _ _ hC)
    refine wp_later_many_tail 13 [(7, Sp.val (.pointer (some ⟨g, 0, none⟩))), (11, Sp.cmdV (fun b => w.heap.size + 2 ≤ b) ⟨6, 0, false, [], d.c, ownedT d.s d.m, j.given⟩)] [7, 11] (by as_aux_lemma => kernel_rfl) (by as_aux_lemma => kernel_rfl) (by as_aux_lemma => kernel_rfl) ?_
    intro vv hv
    have e7 : vv 7 = .pointer (some ⟨g, 0, none⟩) := hv 7 (by decide)
    obtain ⟨C1, e11, hC1⟩ : ∃ C : Array Value, vv 11 = .agg C ∧ C.size = 25 := hv 11 (by decide)
    simp only [List.take_succ_cons, List.take_zero, List.drop_succ_cons, List.drop_zero]
    refine many_pre 7 (by decide) ?_
    simp only [List.take_succ_cons, List.take_zero, List.drop_succ_cons, List.drop_zero]
    repeat (go_big_quiet_step (fail))
    refine wpQuiet_nil (many_wild (by decide) rfl ?_ ?_)
    · intro s _
      unfold Gives
      go_simp
      exact ⟨rfl, Below.refl _ _⟩
    intro a' ha'
    subst ha'
    simp only [Act.put, List.setIfInBounds_toArray, List.set_cons_succ, List.set_cons_zero]
    rw [e7]
    refine many_pre 3 (by decide) ?_
    simp only [List.take_succ_cons, List.take_zero, List.drop_succ_cons, List.drop_zero]
    repeat (go_big_quiet_step (fail))
    refine wpQuiet_nil (many_wild (by decide) rfl ?_ ?_)
    · intro s _
      unfold Gives
      go_simp
      refine (ownV_any (ok := fun _ => True) (cmdCs 6 0 false nl (.slice A2 d.c.length cc2) (.slice B2 (ownedT d.s d.m).length e2) (.slice A9 j.given.length cc9)) ⟨6, 0, false, [], d.c, ownedT d.s d.m, j.given⟩ _ (CmdV.of (d := ⟨6, 0, false, [], d.c, ownedT d.s d.m, j.given⟩) (k := nl) (f := .slice A2 d.c.length cc2) (u := .slice B2 (ownedT d.s d.m).length e2) (p := .slice A9 j.given.length cc9) ⟨RSl.nil_ _ _ _, (hr3.c.below s.below).mono (by decide) fun _ _ _ => trivial, u3.below s.below, (hg3.below s.below).mono (by decide) fun _ _ _ => trivial⟩)).mono ?_
      rintro e w4 ⟨⟨C', rfl, hc4⟩, hb4⟩
      exact ⟨_, rfl, ⟨_, rfl, hc4.mono fun b hb _ => by have := s.below.size; omega⟩, hb4⟩
    intro a' ha'
    subst ha'
    simp only [Act.put, List.setIfInBounds_toArray, List.set_cons_succ, List.set_cons_zero]
    rw [e11]
    refine many_pre 1 (by decide) ?_
    simp only [List.take_succ_cons, List.take_zero, List.drop_succ_cons, List.drop_zero]
    repeat (go_big_quiet_step (fail))
    refine wpQuiet_nil (many_end ?_)
    intro s hf
    obtain ⟨_, e11', hcm⟩ : ∃ C, vv 11 = .agg C ∧ CmdV (fun b => w.heap.size + 2 ≤ b) s.val C ⟨6, 0, false, [], d.c, ownedT d.s d.m, j.given⟩ := hf 11 (by decide)
    rw [e11] at e11'
    simp only [Value.agg.injEq] at e11'
    subst e11'
    have hB4 := hB3.trans (s.below.mono hB3.size)
    have k4 := m3.below s.below m3.lt
    clear e7 e11 hv hf r0 r1 r2 r3 r4 x1 l28
    refine wpList_storeB rfl rfl C1 rfl rfl k4 hC1.symm (by rw [hC1]; exact Try.infoCmd) hcm.one ?_
    intro k5
    have lv := res_next 0 k5 hC1
    have hk4 := Kp.setCells (ok := fun b => w.heap.size + 2 ≤ b) (a := s.val) (b := w.heap.size + 1) (fun _ h => by have : w.heap.size + 2 ≤ w.heap.size + 1 := h; omega) C1.toList 0 (Kp.refl _ _)
    go_wp2
    refine bodyPost_ret (v := .tuple #[.int .i64 n, .agg C1]) ?_ rfl ?_
    · simp [results, Try.results73, Act.put, Sem.run_bind, Sem.run_pure, asAddr_ok, lv]
    · unfold NextPost
      rw [HP.out]
      exact ⟨⟨_, rfl, (hcm.kp hk4).mono fun b h _ => by omega⟩, below_setCells (by omega) _ _ hB4⟩
  have s1 : (j.ph == 1) = false := by simpa using h1
  by_cases h2 : j.ph = 2
  · have HP : Hid (askJ d n j = (0, (⟨19, n, false, [], [], [], []⟩ : CmdD))) := by unfold askJ; rw [if_neg h0, if_neg h1, if_pos h2]; trivial
    have s2 : (j.ph == 2) = true := by simpa using h2
    obtain ⟨ph, hph⟩ : ∃ p, p = j.ph := ⟨_, rfl⟩
    rw [← hph] at hk s0 s1 s2
    clear h0 h1 h2 hph
    go_enter Try.func73, Try.ntmps73
    go_upto_region 1 with fail
    refine name_world (fun w1 => Below w.heap.size w w1 ∧ w.heap.size + 2 ≤ w1.heap.size ∧ Blk w1 (w.heap.size + 1) 60 zC)
      ⟨((Below.refl _ _).alloc (Nat.le_refl _) _).alloc (by simp) _, by simp, Blk.new_ (by simp)⟩ ?_
    rintro w1 ⟨hB1, hz1, k2⟩
    have kg := hk.below hB1 hgl
    have p0 : w1.cell? ⟨g, 0, none⟩ = some (.int .i64 ph) := (kg.cell 0).trans (job0 _ _ _ _ _).1
    go_upto_region 8 with fail
    refine wp_region_split 3 ?_
    simp only [List.take_succ_cons, List.take_zero, List.drop_succ_cons, List.drop_zero]
    go_wp2
    show wpList _ _ _ _ _ _
    refine wpList_storeB rfl rfl (cmdCs 19 n false nl nl nl nl) rfl rfl k2 rfl Try.infoCmd (cmdCs_one rfl rfl rfl rfl) ?_
    intro k3
    have lv := res_next 0 k3 rfl
    have hB3 := below_setCells (B := w.heap.size) (b := w.heap.size + 1) (by omega) (cmdCs 19 n false nl nl nl nl).toList 0 hB1
    go_wp2
    refine bodyPost_ret (v := .tuple #[.int .i64 0, .agg (cmdCs 19 n false nl nl nl nl)]) ?_ rfl ?_
    · simp [results, Try.results73, Act.put, Sem.run_bind, Sem.run_pure, asAddr_ok, lv]
    · unfold NextPost
      rw [HP.out]
      exact ⟨⟨_, rfl, CmdV.of (d := ⟨19, n, false, [], [], [], []⟩) (k := nl) (f := nl) (u := nl) (p := nl) ⟨RSl.nil_ _ _ _, RSl.nil_ _ _ _, RSl.nil_ _ _ _, RSl.nil_ _ _ _⟩⟩, hB3⟩
  · have HP : Hid (askJ d n j = (0, (⟨19, 0, true, [], [], [], []⟩ : CmdD))) := by unfold askJ; rw [if_neg h0, if_neg h1, if_neg h2]; trivial
    have s2 : (j.ph == 2) = false := by simpa using h2
    obtain ⟨ph, hph⟩ : ∃ p, p = j.ph := ⟨_, rfl⟩
    rw [← hph] at hk s0 s1 s2
    clear h0 h1 h2 hph
    go_enter Try.func73, Try.ntmps73
    go_upto_region 1 with fail
    refine name_world (fun w1 => Below w.heap.size w w1 ∧ w.heap.size + 2 ≤ w1.heap.size ∧ Blk w1 (w.heap.size + 1) 60 zC)
      ⟨((Below.refl _ _).alloc (Nat.le_refl _) _).alloc (by simp) _, by simp, Blk.new_ (by simp)⟩ ?_
    rintro w1 ⟨hB1, hz1, k2⟩
    have kg := hk.below hB1 hgl
    have p0 : w1.cell? ⟨g, 0, none⟩ = some (.int .i64 ph) := (kg.cell 0).trans (job0 _ _ _ _ _).1
    go_upto_region 9 with fail
    refine wp_region_split 2 ?_
    simp only [List.take_succ_cons, List.take_zero, List.drop_succ_cons, List.drop_zero]
    go_wp2
    show wpList _ _ _ _ _ _
    refine wpList_storeB rfl rfl (cmdCs 19 0 true nl nl nl nl) rfl rfl k2 rfl Try.infoCmd (cmdCs_one rfl rfl rfl rfl) ?_
    intro k3
    have lv := res_next 0 k3 rfl
    have hB3 := below_setCells (B := w.heap.size) (b := w.heap.size + 1) (by omega) (cmdCs 19 0 true nl nl nl nl).toList 0 hB1
    go_wp2
    refine bodyPost_ret (v := .tuple #[.int .i64 0, .agg (cmdCs 19 0 true nl nl nl nl)]) ?_ rfl ?_
    · simp [results, Try.results73, Act.put, Sem.run_bind, Sem.run_pure, asAddr_ok, lv]
    · unfold NextPost
      rw [HP.out]
      exact ⟨⟨_, rfl, CmdV.of (d := ⟨19, 0, true, [], [], [], []⟩) (k := nl) (f := nl) (u := nl) (p := nl) ⟨RSl.nil_ _ _ _, RSl.nil_ _ _ _, RSl.nil_ _ _ _, RSl.nil_ _ _ _⟩⟩, hB3⟩
end Go.Proofs.Ytikkknaofiafhaa

namespace Go.Proofs.Ytikkknaofiafhaa
open Go.RowKit

def nx (d : RouteD) (s : Int) : Int := nextG d.s d.b 1 (min s 4).toNat
/-- a job asked -/
def stepJ (d : RouteD) (s : Int) (j : JobD) : JobD × Bool :=
  if j.asd = true then (j, true) else if d.m = 0 ∨ nx d s = 0 then (zJob, false) else (⟨j.ph, true, (askJ d (nx d s) j).1, (askJ d (nx d s) j).2, j.given⟩, true)
/-- the program's job in memory -/
def PJob (ok : Nat → Prop) (w : World) (g : Nat) (j : JobD) : Prop := ∃ C given, Blk w g 129 (jobCs j.ph j.asd j.gr C given) ∧ CmdV ok w C j.c ∧ RSl rPair ok w given j.given
theorem PJob.kp {ok : Nat → Prop} {w w' : World} {g : Nat} {j : JobD} (h : PJob ok w g j) (hk : Kp ok w w') (hg : w'.heap[g]? = w.heap[g]?) : PJob ok w' g j := by
  obtain ⟨C, v, h1, h2, h3⟩ := h
  exact ⟨C, v, hg.trans h1, h2.kp hk, h3.kp hk⟩
theorem PJob.lt {ok : Nat → Prop} {w : World} {g : Nat} {j : JobD} (h : PJob ok w g j) : g < w.heap.size := by obtain ⟨C, v, h1, _⟩ := h; exact h1.lt
def AskPost (ok : Nat → Prop) (g : Nat) (j' : JobD) (b : Bool) (w : World) (e : Ending) (w' : World) : Prop :=
  (∃ C, e = .returned (.tuple #[.int .i64 j'.gr, .agg C, .bool b]) ∧ CmdV ok w' C j'.c) ∧ PJob ok w' g j' ∧ Kp (fun b => b ≠ g) w w'
theorem zjob_one : (jobCs 0 false 0 zC nl).all (·.oneCell') = true := by simp [jobCs, zC, cmdCs, Value.oneCell']
theorem Try.infoJob : (Try.prog.info? 129).map (·.size) = some 29 := by kernel_rfl

set_option maxRecDepth 100000 in
set_option maxHeartbeats 12800000 in
theorem jobNext_any {ok okr : Nat → Prop} (j : JobD) (d : RouteD) (a c : Value) (s : Int) (g : Nat) (w : World) (hr : RouteR okr w a c d) (hb0 : 0 ≤ d.b ∧ d.b ≤ 1000) (hj : PJob ok w g j) (hok : ∀ b, ok b → b ≠ g) (hokr : ∀ b, okr b → b ≠ g) (hnew : ∀ b, w.heap.size ≤ b → ok b) :
    Calls Try.prog 32 #[.pointer (some ⟨g, 0, none⟩), .agg (routeCs d a c), .int .i64 s] w (AskPost ok g (stepJ d s j).1 (stepJ d s j).2 w) := by
  obtain ⟨C, given, hk, hc, hgv⟩ := hj
  obtain ⟨A, cc, rfl, hcc, hbd⟩ := hr.s.form
  obtain ⟨A2, cc2, rfl, _, hbd2⟩ := hr.c.form
  obtain ⟨A9, cc9, rfl, _, _⟩ := hgv.form
  have hgl := hk.lt
  have hC := hc.size
  have hC1 := hc.one
  obtain ⟨ph, asd, gr, cd, gl⟩ := j
  simp only at hk hc hgv
  go_enter Try.func32, Try.ntmps32
  go_upto_region 1 with fail
  refine name_world (fun w1 => Below w.heap.size w w1 ∧ w.heap.size + 2 ≤ w1.heap.size ∧ Blk w1 w.heap.size 42 (routeCs d (.slice A d.s.length cc) (.slice A2 d.c.length cc2)) ∧ Blk w1 (w.heap.size + 1) 60 zC)
    ⟨((Below.refl _ _).alloc (Nat.le_refl _) _).alloc (by simp) _, by simp, (Blk.new w _ _).alloc _, Blk.new_ (by simp)⟩ ?_
  rintro w1 ⟨hB1, hz1, k1, k2⟩
  have kg := hk.below hB1 hgl
  have hr1 := hr.below hB1
  have hne0 : w.heap.size ≠ g := by omega
  have hne1 : w.heap.size + 1 ≠ g := by omega
  have hK1 : Kp (fun b => b ≠ g) w w1 := (Kp.of_below hB1).mono fun _ _ => trivial
  have hKo1 : Kp ok w w1 := (Kp.of_below hB1).mono fun _ _ => trivial
  have p1 : w1.cell? ⟨g, 1, none⟩ = some (.bool asd) := (kg.cell 1).trans (job0 _ _ _ _ _).2.1
  cases asd
  case true =>
    have HS : Hid (stepJ d s ⟨ph, true, gr, cd, gl⟩ = (⟨ph, true, gr, cd, gl⟩, true)) := rfl
    have hcx := (hc.mono (ok' := fun b => ok b ∧ b ≠ w.heap.size + 1) fun b h hlt => ⟨h, by omega⟩).below hB1
    have hgx := (hgv.mono (ok' := fun b => ok b ∧ b ≠ w.heap.size + 1) (by decide) fun b h hlt => ⟨h, by omega⟩).below hB1
    go_upto_region 10 with fail
    have l2 : ∀ s : Later w1, s.val.cell? ⟨g, 2, none⟩ = some (.int .i64 gr) := fun s => ((kg.below s.below kg.lt).cell 2).trans (job0 _ _ _ _ _).2.2
    refine wp_later_many_tail 9 [(1, Sp.val (.pointer (some ⟨g, 0, none⟩))), (5, Sp.val (.pointer (some ⟨g, 0, none⟩))), (7, Sp.val (.agg C)), (8, Sp.cmdV (fun b => w.heap.size + 2 ≤ b) cd)] [1, 5, 7, 8] (by as_aux_lemma => kernel_rfl) (by as_aux_lemma => kernel_rfl) (by as_aux_lemma => kernel_rfl) ?_
    intro vv hv
    have e1 : vv 1 = .pointer (some ⟨g, 0, none⟩) := hv 1 (by decide)
    have e5 : vv 5 = .pointer (some ⟨g, 0, none⟩) := hv 5 (by decide)
    have e7 : vv 7 = .agg C := hv 7 (by decide)
    obtain ⟨C8, e8, hC8⟩ : ∃ C : Array Value, vv 8 = .agg C ∧ C.size = 25 := hv 8 (by decide)
    simp only [List.take_succ_cons, List.take_zero, List.drop_succ_cons, List.drop_zero]
    refine many_pre 1 (by decide) ?_
    simp only [List.take_succ_cons, List.take_zero, List.drop_succ_cons, List.drop_zero]
    repeat (go_big_quiet_step (fail))
    refine wpQuiet_nil (many_wild (by decide) rfl ?_ ?_)
    · intro s _
      unfold Gives
      go_simp
      exact ⟨rfl, Below.refl _ _⟩
    intro a' ha'
    subst ha'
    simp only [Act.put, List.setIfInBounds_toArray, List.set_cons_succ, List.set_cons_zero]
    rw [e1]
    refine many_pre 3 (by decide) ?_
    simp only [List.take_succ_cons, List.take_zero, List.drop_succ_cons, List.drop_zero]
    repeat (go_big_quiet_step (fail))
    refine wpQuiet_nil (many_wild (by decide) rfl ?_ ?_)
    · intro s _
      unfold Gives
      go_simp
      exact ⟨rfl, Below.refl _ _⟩
    intro a' ha'
    subst ha'
    simp only [Act.put, List.setIfInBounds_toArray, List.set_cons_succ, List.set_cons_zero]
    rw [e5]
    refine many_pre 1 (by decide) ?_
    simp only [List.take_succ_cons, List.take_zero, List.drop_succ_cons, List.drop_zero]
    repeat (go_big_quiet_step (fail))
    refine wpQuiet_nil (many_wild (by decide) rfl ?_ ?_)
    · intro s _
      exact gives_loadC rfl rfl (kg.below s.below kg.lt) Try.underlying60 rfl (by rw [hC]; exact Try.infoCmd) ⟨rfl, Below.refl _ _⟩
    intro a' ha'
    subst ha'
    simp only [Act.put, List.setIfInBounds_toArray, List.set_cons_succ, List.set_cons_zero]
    rw [e7]
    refine many_wild (by decide) rfl ?_ ?_
    · intro s _
      unfold Gives
      go_simp
      refine (ownV_any C cd _ (hcx.below s.below)).mono ?_
      rintro e w7 ⟨⟨C', rfl, hc7⟩, hb7⟩
      exact ⟨_, rfl, ⟨_, rfl, hc7.mono fun b hb _ => by have h1 := s.below.size; have h2 := hz1; have h3 : s.val.heap.size ≤ b := hb; omega⟩, hb7⟩
    intro a' ha'
    subst ha'
    simp only [Act.put, List.setIfInBounds_toArray, List.set_cons_succ, List.set_cons_zero]
    rw [e8]
    refine many_end ?_
    intro s hf
    obtain ⟨_, e8', hcm⟩ : ∃ C, vv 8 = .agg C ∧ CmdV (fun b => w.heap.size + 2 ≤ b) s.val C cd := hf 8 (by decide)
    rw [e8] at e8'
    simp only [Value.agg.injEq] at e8'
    subst e8'
    have k7 := k2.below s.below k2.lt
    have kg7 := kg.below s.below kg.lt
    have hc7 := hcx.below s.below
    have hg7 := hgx.below s.below
    have hK7 := hK1.trans ((Kp.of_below s.below).mono (ok' := fun b => b ≠ g) fun _ _ => trivial)
    clear e1 e5 e7 e8 hv hf l2
    refine wpList_split 1 ?_
    simp only [List.take_succ_cons, List.take_zero, List.drop_succ_cons, List.drop_zero]
    go_wp2
    show wpList _ _ _ _ _ _
    refine wpList_storeB' rfl rfl C8 rfl rfl k7 hC8.symm (by rw [hC8]; exact Try.infoCmd) hcm.one ?_ rfl
    intro k8
    have lv := res_next 0 k8 hC8
    have hzs : w.heap.size + 2 ≤ s.val.heap.size := by have h1 := s.below.size; have h2 := hz1; omega
    have hk8 := Kp.setCells (ok := fun b => b ≠ w.heap.size + 1) (a := s.val) (b := w.heap.size + 1) (fun _ h => h rfl) C8.toList 0 (Kp.refl _ _)
    have hk9 := Kp.setCells (ok := fun b => b ≠ g) (a := w) (b := w.heap.size + 1) (fun h => by omega) C8.toList 0 hK7
    have kg8 := far_setCells (fun h => hne1 h.symm) C8.toList 0 kg7
    go_wp2
    refine bodyPost_ret (v := .tuple #[.int .i64 gr, .agg C8, .bool true]) ?_ rfl ?_
    · simp [results, Try.results32, Act.put, Sem.run_bind, Sem.run_pure, asAddr_ok, lv]
    · unfold AskPost; rw [HS.out]; exact ⟨⟨_, rfl, (hcm.kp (hk8.mono fun b h => by omega)).mono fun b h _ => hnew b (by omega)⟩, ⟨_, _, kg8, (hc7.kp (hk8.mono fun b h => h.2)).mono fun b h _ => h.1, (hg7.kp (hk8.mono fun b h => h.2)).mono (by decide) fun b h _ => h.1⟩, hk9⟩
  case false =>
    obtain ⟨r0, r1, r2, r3, r4⟩ := route_cells k1
    obtain ⟨n, hn⟩ : ∃ n, n = nx d s := ⟨_, rfl⟩
    have HN := Lib.hid hn
    clear hn
    go_wp2_with fail
    refine (routeNext_any d _ _ s _ hr1 hb0).mono ?_
    rintro e w2 ⟨he, hb2⟩
    rw [show nextG d.s d.b 1 (min s 4).toNat = n from HN.out.symm] at he
    subst he
    have hB2 := hB1.trans (hb2.mono hB1.size)
    have hz2 : w.heap.size + 2 ≤ w2.heap.size := Nat.le_trans hz1 hb2.size
    have k12 := k1.below hb2 k1.lt
    have k22 := k2.below hb2 k2.lt
    have kg2 := kg.below hb2 kg.lt
    have hr2 := hr1.below hb2
    have hK2 : Kp (fun b => b ≠ g) w w2 := (Kp.of_below hB2).mono fun _ _ => trivial
    clear r0 r1 r2 r3 r4 p1 k1 k2 kg hr1 hK1 hKo1
    obtain ⟨r0, r1, r2, r3, r4⟩ := route_cells k12
    by_cases hq : d.m = 0 ∨ n = 0
    · have HS : Hid (stepJ d s ⟨ph, false, gr, cd, gl⟩ = (zJob, false)) := by
        unfold stepJ
        rw [if_neg (by simp), if_pos (by rw [← HN.out]; exact hq)]
        trivial
      cases q1 : (d.m == 0) <;> cases q2 : (n == 0)
      case false.false => exact absurd hq (by simp at q1 q2; simp [q1, q2])
      all_goals
        clear hq
        go_upto_region 6 with fail
        refine wp_region_split 3 ?_
        simp only [List.take_succ_cons, List.take_zero, List.drop_succ_cons, List.drop_zero]
        go_wp2
        show wpList _ _ _ _ _ _
        refine wpList_storeB' rfl rfl (jobCs 0 false 0 zC nl) rfl rfl kg2 (by rw [jobCs_size hC]; rfl) (by rw [jobCs_size rfl]; exact Try.infoJob) zjob_one ?_ rfl
        intro kg3
        have k23 := far_setCells hne1 (jobCs 0 false 0 zC nl).toList 0 k22
        have hK3 := Kp.setCells (ok := fun b => b ≠ g) (a := w) (b := g) (fun _ h => h rfl) (jobCs 0 false 0 zC nl).toList 0 hK2
        clear r0 r1 r2 r3 r4
        go_upto_region 7 with fail
        refine name_world (fun w3 => Kp (fun b => b ≠ g) w w3 ∧ Blk w3 g 129 (jobCs 0 false 0 zC nl) ∧ Blk w3 (w.heap.size + 1) 60 zC) ⟨hK3, kg3, k23⟩ ?_
        clear hK3 kg3 k23
        rintro w3 ⟨hK3, kg3, k23⟩
        refine wp_region_split 2 ?_
        simp only [List.take_succ_cons, List.take_zero, List.drop_succ_cons, List.drop_zero]
        go_wp2
        show wpList _ _ _ _ _ _
        refine wpList_storeB' rfl rfl zC rfl rfl k23 rfl Try.infoCmd (cmdCs_one rfl rfl rfl rfl) ?_ rfl
        intro k24
        have lv := res_next 0 k24 rfl
        have hk9 := Kp.setCells (ok := fun b => b ≠ g) (a := w) (b := w.heap.size + 1) (fun h => by omega) zC.toList 0 hK3
        have kg4 := far_setCells (fun h => hne1 h.symm) zC.toList 0 kg3
        go_wp2
        refine bodyPost_ret (v := .tuple #[.int .i64 0, .agg zC, .bool false]) ?_ rfl ?_
        · simp [results, Try.results32, Act.put, Sem.run_bind, Sem.run_pure, asAddr_ok, lv]
        · unfold AskPost
          rw [HS.out]
          exact ⟨⟨_, rfl, CmdV.of (d := zCmd) (k := nl) (f := nl) (u := nl) (p := nl) ⟨RSl.nil_ _ _ _, RSl.nil_ _ _ _, RSl.nil_ _ _ _, RSl.nil_ _ _ _⟩⟩, ⟨_, _, kg4, CmdV.of (d := zCmd) (k := nl) (f := nl) (u := nl) (p := nl) ⟨RSl.nil_ _ _ _, RSl.nil_ _ _ _, RSl.nil_ _ _ _, RSl.nil_ _ _ _⟩, RSl.nil_ _ _ _⟩, hk9⟩
    · have hq1 : (d.m == 0) = false := by simp; exact fun h => hq (.inl h)
      have hq2 : (n == 0) = false := by simp; exact fun h => hq (.inr h)
      obtain ⟨gr2, cd2, hask⟩ : ∃ gr2 cd2, askJ d n ⟨ph, false, gr, cd, gl⟩ = (gr2, cd2) := ⟨_, _, rfl⟩
      have hask2 : askJ d n ⟨ph, true, gr, cd, gl⟩ = (gr2, cd2) := hask
      have HS : Hid (stepJ d s ⟨ph, false, gr, cd, gl⟩ = (⟨ph, true, gr2, cd2, gl⟩, true)) := by
        unfold stepJ
        rw [if_neg (by simp), if_neg (by rw [← HN.out]; exact hq), ← HN.out, hask]
        trivial
      have HA := Lib.hid hask2
      clear hq hask hask2
      have fz := fun i => kg2.frozen i
      have p1' : w2.cell? ⟨g, 1, none⟩ = some (.bool false) := (kg2.cell 1).trans (job0 _ _ _ _ _).2.1
      go_upto_region 9 with fail
      refine name_world (fun w3 => Kp (fun b => b ≠ g) w w3 ∧ w.heap.size + 2 ≤ w3.heap.size ∧ Blk w3 w.heap.size 42 (routeCs d (.slice A d.s.length cc) (.slice A2 d.c.length cc2)) ∧ Blk w3 (w.heap.size + 1) 60 zC ∧ Blk w3 g 129 (jobCs ph true gr C (.slice A9 gl.length cc9)) ∧ RouteR okr w3 (.slice A d.s.length cc) (.slice A2 d.c.length cc2) d)
        ⟨hK2.setCell (fun _ h => h rfl) _, by simp; omega, k12.far hne0 _, k22.far hne1 _, ?_, hr2.kp ((Kp.refl _ _).setCell (fun _ h => hokr _ h rfl) _)⟩ ?_
      · have := kg2.set_ 1 (.bool true)
        rwa [job_set1] at this
      clear r0 r1 r2 r3 r4 p1' fz k12 k22 kg2 hr2
      rintro w3 ⟨hK3, hz3, k13, k23, kg3, hr3⟩
      obtain ⟨r0, r1, r2, r3, r4⟩ := route_cells k13
      have hg3 := (hgv.mono (ok' := fun b => ok b ∧ b ≠ w.heap.size + 1 ∧ b ≠ g) (by decide) fun b h hlt => ⟨h, by omega, hok b h⟩).kp (hK3.mono fun b h => h.2.2)
      refine wp_region_split 14 ?_
      simp only [List.take_succ_cons, List.take_zero, List.drop_succ_cons, List.drop_zero]
      go_wp2_with fail
      refine (nextJob_any ⟨ph, true, gr, cd, gl⟩ d _ _ n g true gr C _ _ hr3 kg3 hC hg3).mono ?_
      unfold NextPost
      rw [HA.out]
      rintro e w4 ⟨⟨C4, rfl, hc4⟩, hb4⟩
      have hC4 := hc4.size
      have hK4 := hK3.trans (Kp.of_below hb4 |>.mono (ok' := fun b => b ≠ g) fun _ _ => trivial)
      have hz4 : w3.heap.size ≤ w4.heap.size := hb4.size
      have k24 := k23.below hb4 k23.lt
      have kg4 := kg3.below hb4 kg3.lt
      have hg4 := hg3.below hb4
      have fz := fun i => kg4.frozen i
      have p2 : w4.cell? ⟨g, 2, none⟩ = some (.int .i64 gr) := (kg4.cell 2).trans (job0 _ _ _ _ _).2.2
      clear r0 r1 r2 r3 r4 k13 k23 kg3 hr3
      simp only
      go_wp2
      show wpList _ _ _ _ _ _
      have kg5 := kg4.set_ 2 (.int .i64 gr2)
      rw [job_set2] at kg5
      refine wpList_storeC rfl rfl C4 rfl rfl kg5 hC hC4 Try.infoCmd hc4.one ?_ rfl
      intro kg6
      have hkp : Kp (fun b => b ≠ g) w4 ((w4.setCell ⟨g, 2, none⟩ (.int .i64 gr2)).setCells g 3 C4.toList) := Kp.setCells (fun _ h => h rfl) _ _ ((Kp.refl _ _).setCell (fun _ h => h rfl) _)
      have k25 := far_setCells hne1 C4.toList 3 (k24.far (p := ⟨g, 2, none⟩) hne1 (.int .i64 gr2))
      have hc6 := (hc4.mono (ok' := fun b => ok b ∧ b ≠ w.heap.size + 1 ∧ b ≠ g) fun b h _ => by have : w3.heap.size ≤ b := h; exact ⟨hnew b (by omega), by omega, by omega⟩).kp (hkp.mono fun b h => h.2.2)
      have hg6 := hg4.kp (hkp.mono fun b h => h.2.2)
      have hK6 := hK4.trans hkp
      clear fz p2 k24 kg4 kg5 hc4 hg4
      go_upto_region 10 with fail
      refine name_world (fun w6 => Kp (fun b => b ≠ g) w w6 ∧ w.heap.size + 2 ≤ w6.heap.size ∧ Blk w6 (w.heap.size + 1) 60 zC ∧ Blk w6 g 129 (jobCs ph true gr2 C4 (.slice A9 gl.length cc9)) ∧ CmdV (fun b => ok b ∧ b ≠ w.heap.size + 1) w6 C4 cd2 ∧ RSl rPair (fun b => ok b ∧ b ≠ w.heap.size + 1) w6 (.slice A9 gl.length cc9) gl)
        ⟨hK6, by simp; omega, k25, kg6, hc6.mono fun b h _ => ⟨h.1, h.2.1⟩, hg6.mono (by decide) fun b h _ => ⟨h.1, h.2.1⟩⟩ ?_
      clear hK6 k25 kg6 hc6 hkp hg6
      rintro w6 ⟨hK6, hz6, k26, kg6, hcx, hgx⟩
      have l2 : ∀ s : Later w6, s.val.cell? ⟨g, 2, none⟩ = some (.int .i64 gr2) := fun s => ((kg6.below s.below kg6.lt).cell 2).trans (job0 _ _ _ _ _).2.2
      refine wp_later_many_tail 9 [(1, Sp.val (.pointer (some ⟨g, 0, none⟩))), (5, Sp.val (.pointer (some ⟨g, 0, none⟩))), (7, Sp.val (.agg C4)), (8, Sp.cmdV (fun b => w.heap.size + 2 ≤ b) cd2)] [1, 5, 7, 8] (by as_aux_lemma => kernel_rfl) (by as_aux_lemma => kernel_rfl) (by as_aux_lemma => kernel_rfl) ?_
      intro vv hv
      have e1 : vv 1 = .pointer (some ⟨g, 0, none⟩) := hv 1 (by decide)
      have e5 : vv 5 = .pointer (some ⟨g, 0, none⟩) := hv 5 (by decide)
      have e7 : vv 7 = .agg C4 := hv 7 (by decide)
      obtain ⟨C8, e8, hC8⟩ : ∃ C : Array Value, vv 8 = .agg C ∧ C.size = 25 := hv 8 (by decide)
      simp only [List.take_succ_cons, List.take_zero, List.drop_succ_cons, List.drop_zero]
      refine many_pre 1 (by decide) ?_
      simp only [List.take_succ_cons, List.take_zero, List.drop_succ_cons, List.drop_zero]
      repeat (go_big_quiet_step (fail))
      refine wpQuiet_nil (many_wild (by decide) rfl ?_ ?_)
      · intro s _
        unfold Gives
        go_simp
        exact ⟨rfl, Below.refl _ _⟩
      intro a' ha'
      subst ha'
      simp only [Act.put, List.setIfInBounds_toArray, List.set_cons_succ, List.set_cons_zero]
      rw [e1]
      refine many_pre 3 (by decide) ?_
      simp only [List.take_succ_cons, List.take_zero, List.drop_succ_cons, List.drop_zero]
      repeat (go_big_quiet_step (fail))
      refine wpQuiet_nil (many_wild (by decide) rfl ?_ ?_)
      · intro s _
        unfold Gives
        go_simp
        exact ⟨rfl, Below.refl _ _⟩
      intro a' ha'
      subst ha'
      simp only [Act.put, List.setIfInBounds_toArray, List.set_cons_succ, List.set_cons_zero]
      rw [e5]
      refine many_pre 1 (by decide) ?_
      simp only [List.take_succ_cons, List.take_zero, List.drop_succ_cons, List.drop_zero]
      repeat (go_big_quiet_step (fail))
      refine wpQuiet_nil (many_wild (by decide) rfl ?_ ?_)
      · intro s _
        exact gives_loadC rfl rfl (kg6.below s.below kg6.lt) Try.underlying60 rfl (by rw [hC4]; exact Try.infoCmd) ⟨rfl, Below.refl _ _⟩
      intro a' ha'
      subst ha'
      simp only [Act.put, List.setIfInBounds_toArray, List.set_cons_succ, List.set_cons_zero]
      rw [e7]
      refine many_wild (by decide) rfl ?_ ?_
      · intro s _
        unfold Gives
        go_simp
        refine (ownV_any C4 cd2 _ (hcx.below s.below)).mono ?_
        rintro e w7 ⟨⟨C', rfl, hc7⟩, hb7⟩
        exact ⟨_, rfl, ⟨_, rfl, hc7.mono fun b hb _ => by have h1 := s.below.size; have h2 := hz6; have h3 : s.val.heap.size ≤ b := hb; omega⟩, hb7⟩
      intro a' ha'
      subst ha'
      simp only [Act.put, List.setIfInBounds_toArray, List.set_cons_succ, List.set_cons_zero]
      rw [e8]
      refine many_end ?_
      intro s hf
      obtain ⟨_, e8', hcm⟩ : ∃ C, vv 8 = .agg C ∧ CmdV (fun b => w.heap.size + 2 ≤ b) s.val C cd2 := hf 8 (by decide)
      rw [e8] at e8'
      simp only [Value.agg.injEq] at e8'
      subst e8'
      have k7 := k26.below s.below k26.lt
      have kg7 := kg6.below s.below kg6.lt
      have hc7 := hcx.below s.below
      have hg7 := hgx.below s.below
      have hK7 := hK6.trans ((Kp.of_below s.below).mono (ok' := fun b => b ≠ g) fun _ _ => trivial)
      clear e1 e5 e7 e8 hv hf l2
      refine wpList_split 1 ?_
      simp only [List.take_succ_cons, List.take_zero, List.drop_succ_cons, List.drop_zero]
      go_wp2
      show wpList _ _ _ _ _ _
      refine wpList_storeB' rfl rfl C8 rfl rfl k7 hC8.symm (by rw [hC8]; exact Try.infoCmd) hcm.one ?_ rfl
      intro k8
      have lv := res_next 0 k8 hC8
      have hzs : w.heap.size + 2 ≤ s.val.heap.size := by have h1 := s.below.size; have h2 := hz6; omega
      have hk8 := Kp.setCells (ok := fun b => b ≠ w.heap.size + 1) (a := s.val) (b := w.heap.size + 1) (fun _ h => h rfl) C8.toList 0 (Kp.refl _ _)
      have hk9 := Kp.setCells (ok := fun b => b ≠ g) (a := w) (b := w.heap.size + 1) (fun h => by omega) C8.toList 0 hK7
      have kg8 := far_setCells (fun h => hne1 h.symm) C8.toList 0 kg7
      go_wp2
      refine bodyPost_ret (v := .tuple #[.int .i64 gr2, .agg C8, .bool true]) ?_ rfl ?_
      · simp [results, Try.results32, Act.put, Sem.run_bind, Sem.run_pure, asAddr_ok, lv]
      · unfold AskPost; rw [HS.out]; exact ⟨⟨_, rfl, (hcm.kp (hk8.mono fun b h => by omega)).mono fun b h _ => hnew b (by omega)⟩, ⟨_, _, kg8, (hc7.kp (hk8.mono fun b h => h.2)).mono fun b h _ => h.1, (hg7.kp (hk8.mono fun b h => h.2)).mono (by decide) fun b h _ => h.1⟩, hk9⟩
end Go.Proofs.Ytikkknaofiafhaa
