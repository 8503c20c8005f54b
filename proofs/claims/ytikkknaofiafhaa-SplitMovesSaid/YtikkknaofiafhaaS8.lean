/- Contract: the document's Cut, as awake calls it.
Contracts: split.New; (*Job).next at the beginning.
The operations of a plain region walked in two parts. No program in sight.
A job's block: its cells, one and many stored. No program in sight.
Contract: (*Job).Next, as awake calls it.
Contract: law 22's awake. -/
import Derived.Test.YtikkknaofiafhaaS2
import Derived.Test.YtikkknaofiafhaaCmd
namespace Go.Proofs.Ytikkknaofiafhaa
open Go.RowKit

def kb2 : List UInt8 := [120, 1]
def rdM : RouteD := ⟨0, 1, [⟨2, [120]⟩], 2, [120, 1]⟩
set_option maxRecDepth 100000 in
set_option maxHeartbeats 6400000 in
theorem cut_any {ok ok2 : Nat → Prop} (a c k : Value) (w : World) (hr : RouteR ok w a c rd0) (hk : RB ok2 w k [120, 1]) :
    Calls Try.prog 66 #[.agg (routeCs rd0 a c), .int .i64 2, k] w fun e w' => (∃ a' c', e = .returned (.tuple #[.agg (routeCs rd1 a' c'), .int .i64 0]) ∧ RouteR (fun b => w.heap.size ≤ b) w' a' c' rd1) ∧ Below w.heap.size w w' := by
  obtain ⟨A, cc, rfl, hc, hbd⟩ := hr.s.form
  obtain ⟨A2, cc2, rfl, _, hbd2⟩ := hr.c.form
  obtain ⟨A3, c3, rfl, _, _⟩ := hk.form
  simp only [show rd0.s.length = 1 from rfl, show rd0.c.length = 0 from rfl, show ([120, 1] : List UInt8).length = 2 from rfl] at *
  go_enter Try.func66, Try.ntmps66
  go_upto_region 1 with fail
  refine name_world (fun w1 => Below w.heap.size w w1 ∧ w.heap.size + 2 ≤ w1.heap.size ∧ Blk w1 w.heap.size 42 (routeCs rd0 (.slice A 1 cc) (.slice A2 0 cc2)) ∧ Blk w1 (w.heap.size + 1) 42 (routeCs rdZ nl nl))
    ⟨((Below.refl _ _).alloc (Nat.le_refl _) _).alloc (by simp) _, by simp, (Blk.new w _ _).alloc _, Blk.new_ (by simp)⟩ ?_
  rintro w1 ⟨hB1, hz1, k1, k2⟩
  obtain ⟨r0, r1, r2, r3, r4⟩ := route_cells k1
  simp only [rd0] at r0 r1 r3
  go_wp2_with fail
  refine (refAt_any rd0 _ _ 2 _ (hr.below hB1)).mono ?_
  rintro e w2 ⟨rfl, hb2⟩
  rw [show atG rd0.s 2 0 = 0 from rfl]
  have hB2 := hB1.trans (hb2.mono hB1.size)
  have k12 := k1.below hb2 k1.lt
  have k22 := k2.below hb2 k2.lt
  clear r0 r1 r2 r3 r4 k1 k2
  obtain ⟨r0, r1, r2, r3, r4⟩ := route_cells k12
  simp only [rd0] at r0 r1 r3
  go_upto_region 6 with fail
  clear r0 r1 r2 r3 r4
  obtain ⟨r0, r1, r2, r3, r4⟩ := route_laters k12
  simp only [rd0] at r0 r1 r3
  obtain ⟨b1, off1, c1', cs1, hv1, _, ⟨a1, rfl, ha1, hg64⟩, hcell1⟩ := ((hr.below hB2).s).at_ (i := 0) (by decide)
  simp only [Value.slice.injEq, true_and] at hv1
  obtain ⟨rfl, hx1, rfl⟩ := hv1
  clear hx1
  have q1 := hcell1 1 _ rfl
  simp only [Nat.add_zero, Nat.zero_mul] at q1
  clear hcell1
  obtain ⟨A1, n1, rfl, _, _⟩ := ha1.form
  have l1 : ∀ s : Later w2, s.val.cell? ⟨b1, off1 + 1, none⟩ = some (.slice A1 1 n1) := Later.cell q1
  clear q1
  have f1 : RB ok w2 (.slice A1 1 n1) [120] := ha1
  have v1 : ∀ s : Later w2, (convert 27 9 (.slice A1 1 n1)).run Try.prog s.val = .ok (.string (str [120])) s.val := fun s => rb_str (f1.below s.below)
  have v2 : ∀ s : Later w2, (convert 27 9 (.slice A3 2 c3)).run Try.prog s.val = .ok (.string (str [120, 1])) s.val := fun s => rb_str (hk.below (hB2.trans (s.below.mono hB2.size)))
  have t1 : Op.bytesLess (str [120, 1]).toList (str [120]).toList = false := by rw [str_toList, str_toList]; decide
  have t2 : Op.bytesLess (str [120]).toList (str [120, 1]).toList = true := by rw [str_toList, str_toList]; decide
  have t3 : ((str [120, 1]).toList == (str [120]).toList) = false := by rw [str_toList, str_toList]; decide
  clear ha1
  refine wp_later_many [(1, Sp.val (.int .i64 2)), (18, Sp.span (fun _ => True) [120] [121]), (20, Sp.val (.bool true))] [1, 18, 20] (by as_aux_lemma => kernel_rfl) (by as_aux_lemma => kernel_rfl) ?_
  intro vv hv
  have e1 : vv 1 = .int .i64 2 := hv 1 (by decide)
  obtain ⟨A5, c5, A6, c6, e18⟩ : ∃ A c A2 c2, vv 18 = .agg #[.slice A 1 c, .slice A2 1 c2] := hv 18 (by decide)
  have e20 : vv 20 = .bool true := hv 20 (by decide)
  refine many_pre 1 (by decide) ?_
  simp only [List.take_succ_cons, List.take_zero, List.drop_succ_cons, List.drop_zero]
  repeat (go_big_quiet_step (fail))
  refine wpQuiet_nil (many_wild (by decide) rfl ?_ ?_)
  · intro s _
    unfold Gives
    go_simp
    exact ⟨rfl, Below.refl _ _⟩
  intro a' ha'
  subst ha'
  simp only [Act.put, List.setIfInBounds_toArray, List.set_cons_succ, List.set_cons_zero]
  rw [e1]
  refine many_pre 16 (by decide) ?_
  simp only [List.take_succ_cons, List.take_zero, List.drop_succ_cons, List.drop_zero]
  repeat (go_big_quiet_step (fail))
  refine wpQuiet_nil (many_wild (by decide) rfl ?_ ?_)
  · intro s _
    unfold Gives
    go_simp
    have hbs := hB2.trans (s.below.mono hB2.size)
    refine (span_any rd0 _ _ 0 (by decide) _ (hr.below hbs)).mono ?_
    rintro e w3 ⟨⟨fr, ut, rfl, h1, h2⟩, hb3⟩
    obtain ⟨Af, cf, rfl, _, _⟩ := h1.form
    obtain ⟨Au, cu, rfl, _, _⟩ := h2.form
    exact ⟨_, rfl, ⟨_, _, _, _, rfl, h1.mono (by decide) fun _ _ _ => trivial, h2.mono (by decide) fun _ _ _ => trivial⟩, hb3⟩
  intro a' ha'
  subst ha'
  simp only [Act.put, List.setIfInBounds_toArray, List.set_cons_succ, List.set_cons_zero]
  rw [e18]
  refine many_pre 1 (by decide) ?_
  simp only [List.take_succ_cons, List.take_zero, List.drop_succ_cons, List.drop_zero]
  repeat (go_big_quiet_step (fail))
  refine wpQuiet_nil (many_wild (by decide) rfl ?_ ?_)
  · intro s hf
    obtain ⟨_, _, _, _, e18', g1, g2⟩ : ∃ A c A2 c2, vv 18 = .agg #[.slice A 1 c, .slice A2 1 c2] ∧ RB (fun _ => True) s.val (.slice A 1 c) [120] ∧ RB (fun _ => True) s.val (.slice A2 1 c2) [121] := hf 18 (by decide) (by kernel_rfl)
    rw [e18] at e18'
    simp only [Value.agg.injEq, Array.mk.injEq, List.cons.injEq, Value.slice.injEq, true_and, and_true] at e18'
    obtain ⟨⟨rfl, rfl⟩, rfl, rfl⟩ := e18'
    unfold Gives
    go_simp
    refine (within_any _ _ _ [120] [121] [120, 1] _ g1 g2 (hk.below (hB2.trans (s.below.mono hB2.size)))).mono ?_
    rintro e w3 ⟨rfl, hb3⟩
    exact ⟨_, rfl, rfl, hb3⟩
  intro a' ha'
  subst ha'
  simp only [Act.put, List.setIfInBounds_toArray, List.set_cons_succ, List.set_cons_zero]
  rw [e20]
  refine many_pre 3 (by decide) ?_
  simp only [List.take_succ_cons, List.take_zero, List.drop_succ_cons, List.drop_zero]
  repeat (go_big_quiet_step (fail))
  refine wpQuiet_nil (many_end ?_)
  intro s _
  have hB3 := hB2.trans (s.below.mono hB2.size)
  have k13 := k12.below s.below k12.lt
  have k23 := k22.below s.below k22.lt
  clear e1 e18 e20 hv l1 v1 v2 t1 t2 t3 r0 r1 r2 r3 r4 k12 k22 f1
  obtain ⟨r0, r1, r2, r3, r4⟩ := route_cells k13
  simp only [rd0] at r0 r1 r3
  go_wp2_with fail
  refine (copied_any rd0 _ _ _ (hr.below hB3)).mono ?_
  rintro e w4 ⟨⟨a4, x4, rfl, hr4⟩, hb4⟩
  obtain ⟨B1, d1, rfl, _, _⟩ := hr4.s.form
  obtain ⟨B2, d2, rfl, _, _⟩ := hr4.c.form
  simp only [show rd0.s.length = 1 from rfl, show rd0.c.length = 0 from rfl] at *
  have hB4 := hB3.trans (hb4.mono hB3.size)
  have k24 := k23.below hb4 k23.lt
  have hz34 : s.val.heap.size ≤ w4.heap.size := hb4.size
  have hz3 : w.heap.size + 2 ≤ s.val.heap.size := k23.lt
  clear r0 r1 r2 r3 r4 k13 k23
  unfold routeCs
  go_upto_region 9 with fail
  refine name_world (fun w5 => Below w.heap.size w w5 ∧ w4.heap.size < w5.heap.size ∧ Blk w5 (w.heap.size + 1) 42 (routeCs rdZ nl nl) ∧ Blk w5 w4.heap.size 42 (routeCs rd0 (.slice B1 1 d1) (.slice B2 0 d2)) ∧ RouteR (fun b => w.heap.size + 2 ≤ b ∧ b ≠ w4.heap.size) w5 (.slice B1 1 d1) (.slice B2 0 d2) rd0)
    ⟨hB4.alloc hB4.size _, by simp, k24.alloc _, Blk.new_ rfl, ?_⟩ ?_
  · exact (hr4.mono fun b h hlt => ⟨by omega, by omega⟩).below ((Below.refl _ _).alloc (Nat.le_refl _) _)
  rintro w5 ⟨hB5, hz5, k25, k5, hr5⟩
  go_wp2_with fail
  refine (copy_rb _ [120, 1] _ (hk.below hB5)).mono ?_
  rintro e w6 ⟨⟨y, rfl, hy⟩, hb6⟩
  obtain ⟨B3, d3, rfl, _, _⟩ := hy.form
  simp only [show ([120, 1] : List UInt8).length = 2 from rfl] at *
  have hB6 := hB5.trans (hb6.mono hB5.size)
  have k6 := k5.below hb6 k5.lt
  have k26 := k25.below hb6 k25.lt
  have hr6 := hr5.below hb6
  have hy6 := hy.mono (ok' := fun b => w.heap.size + 2 ≤ b ∧ b ≠ w4.heap.size) (by decide) fun b h _ => ⟨by omega, by omega⟩
  obtain ⟨r0, r1, r2, r3, r4⟩ := route_cells k6
  simp only [rd0] at r0 r1 r3
  have fz := fun i => k6.frozen i
  clear k5 k25 hr5 hy
  go_upto_region 11 with fail
  have hkp : Kp (fun b => w.heap.size + 2 ≤ b ∧ b ≠ w4.heap.size) w6 (((w6.setCell ⟨w4.heap.size, 3, none⟩ (.int .i64 2)).setCell ⟨w4.heap.size, 4, none⟩ (.slice B3 2 d3)).setCell ⟨w4.heap.size, 0, none⟩ (.int .i64 1)) :=
    (((Kp.refl _ _).setCell (fun _ h => h.2 rfl) _).setCell (fun _ h => h.2 rfl) _).setCell (fun _ h => h.2 rfl) _
  refine name_world (fun w7 => Below w.heap.size w w7 ∧ Blk w7 (w.heap.size + 1) 42 (routeCs rdZ nl nl) ∧ Blk w7 w4.heap.size 42 (routeCs rd1 (.slice B1 1 d1) (.slice B3 2 d3)) ∧ RSl rOwner (fun b => w.heap.size + 2 ≤ b) w7 (.slice B1 1 d1) rd1.s ∧ RB (fun b => w.heap.size + 2 ≤ b) w7 (.slice B3 2 d3) [120, 1])
    ⟨((hB6.setCell (by simp; omega) _).setCell (by simp; omega) _).setCell (by simp; omega) _, ((k26.far (by simp; omega) _).far (by simp; omega) _).far (by simp; omega) _, ?_, (hr6.s.kp hkp).mono (by decide) fun b h _ => h.1, (hy6.kp hkp).mono (by decide) fun b h _ => h.1⟩ ?_
  · have := ((k6.set_ 3 (.int .i64 2)).set_ 4 (.slice B3 2 d3)).set_ 0 (.int .i64 1)
    simpa [routeCs, rd0, rd1] using this
  rintro w7 ⟨hB7, k27, k7, o7, y7⟩
  refine wp_region_list ?_
  refine wpList_loadB rfl rfl rfl k7 Try.underlying42 rfl Try.infoRoutes ?_
  refine wpList_storeB rfl rfl (routeCs rd1 (.slice B1 1 d1) (.slice B3 2 d3)) rfl rfl k27 rfl Try.infoRoutes routeCs_one ?_
  intro k8
  have lv := route_res k8
  have hk8 := Kp.setCells (ok := fun b => w.heap.size + 2 ≤ b) (a := w7) (b := w.heap.size + 1) (fun _ h => by have : w.heap.size + 2 ≤ w.heap.size + 1 := h; omega) (routeCs rd1 (.slice B1 1 d1) (.slice B3 2 d3)).toList 0 (Kp.refl _ _)
  go_wp2
  refine bodyPost_ret (v := .tuple #[.agg (routeCs rd1 (.slice B1 1 d1) (.slice B3 2 d3)), .int .i64 0]) ?_ rfl ⟨⟨_, _, rfl, (o7.kp hk8).mono (by decide) fun b h _ => by omega, (y7.kp hk8).mono (by decide) fun b h _ => by omega, ⟨by decide, by decide⟩, ⟨by decide, by decide⟩, ⟨by decide, by decide⟩⟩, below_setCells (by omega) _ _ hB7⟩
  simp [results, Try.results66, Act.put, Sem.run_bind, Sem.run_pure, asAddr_ok, lv]
end Go.Proofs.Ytikkknaofiafhaa

namespace Go.Proofs.Ytikkknaofiafhaa
open Go.RowKit

def jobCs (ph : Int) (asd : Bool) (g : Int) (C : Array Value) (given : Value) : Array Value := #[.int .i64 ph, .bool asd, .int .i64 g] ++ C ++ #[given]
theorem jobCs_size {ph : Int} {asd : Bool} {g : Int} {C : Array Value} {given : Value} (h : C.size = 25) : (jobCs ph asd g C given).size = 29 := by simp [jobCs, h]
theorem job0 (ph : Int) (asd : Bool) (g : Int) (C : Array Value) (given : Value) : (jobCs ph asd g C given)[0]? = some (.int .i64 ph) ∧ (jobCs ph asd g C given)[1]? = some (.bool asd) ∧ (jobCs ph asd g C given)[2]? = some (.int .i64 g) := by
  unfold jobCs
  rw [Array.append_assoc]
  refine ⟨?_, ?_, ?_⟩ <;> (rw [Array.getElem?_append_left (by simp)]; rfl)
theorem job3 (ph : Int) (asd : Bool) (g : Int) (C : Array Value) (given : Value) (j : Nat) (h : j < C.size) : (jobCs ph asd g C given)[3 + j]? = C[j]? := by
  unfold jobCs
  rw [Array.append_assoc, Array.getElem?_append_right (by simp), Array.getElem?_append_left (by simp; omega)]
  simp
theorem job28 (ph : Int) (asd : Bool) (g : Int) (C : Array Value) (given : Value) (h : C.size = 25) : (jobCs ph asd g C given)[28]? = some given := by
  unfold jobCs
  rw [Array.getElem?_append_right (by simp [h])]
  simp [h]
def zC : Array Value := cmdCs 0 0 false nl nl nl nl

theorem RB.sl {ok : Nat → Prop} {w : World} {v : Value} {l : List UInt8} (h : RB ok w v l) : ∃ A c, v = .slice A l.length c ∧ l.length ≤ c := by obtain ⟨A, c, h, h2, _⟩ := h.form; exact ⟨A, c, h, h2⟩
/-- a command by value -/
def Sp.cmd (ok : Nat → Prop) (kind n : Int) (flag : Bool) (d : CmdD) : Sp :=
  ⟨fun x => ∃ A1 c1 A2 c2 A3 c3 A4 c4, x = .agg (cmdCs kind n flag (.slice A1 d.key.length c1) (.slice A2 d.from_.length c2) (.slice A3 d.upto.length c3) (.slice A4 d.pairs.length c4)), .agg (cmdCs kind n flag (.slice none d.key.length 0) (.slice none d.from_.length 0) (.slice none d.upto.length 0) (.slice none d.pairs.length 0)), ⟨none, 0, none, 0, none, 0, none, 0, rfl⟩,
    fun x w => ∃ A1 c1 A2 c2 A3 c3 A4 c4, x = .agg (cmdCs kind n flag (.slice A1 d.key.length c1) (.slice A2 d.from_.length c2) (.slice A3 d.upto.length c3) (.slice A4 d.pairs.length c4)) ∧ CmdR ok w (.slice A1 d.key.length c1) (.slice A2 d.from_.length c2) (.slice A3 d.upto.length c3) (.slice A4 d.pairs.length c4) d,
    fun _ _ ⟨A1, c1, A2, c2, A3, c3, A4, c4, h, _⟩ => ⟨A1, c1, A2, c2, A3, c3, A4, c4, h⟩, fun _ _ _ hb ⟨A1, c1, A2, c2, A3, c3, A4, c4, h, h1⟩ => ⟨A1, c1, A2, c2, A3, c3, A4, c4, h, h1.below hb⟩⟩

set_option maxRecDepth 100000 in
set_option maxHeartbeats 3200000 in
theorem splitNew_any (w : World) :
    Calls Try.prog 27 #[] w fun e w' => e = .returned (.pointer (some ⟨w.heap.size, 0, none⟩)) ∧ Blk w' w.heap.size 129 (jobCs 0 false 0 zC nl) ∧ Below w.heap.size w w' := by
  go_enter Try.func27, Try.ntmps27
  go_wp2
  go_ret
  exact ⟨rfl, Blk.new w _ _, (Below.refl _ _).alloc (Nat.le_refl _) _⟩

set_option maxRecDepth 100000 in
set_option maxHeartbeats 3200000 in
theorem next0_any {ok : Nat → Prop} (d : RouteD) (a c : Value) (n : Int) (g : Nat) (asd : Bool) (gr : Int) (C : Array Value) (given : Value) (w : World) (hr : RouteR ok w a c d) (hk : Blk w g 129 (jobCs 0 asd gr C given)) :
    Calls Try.prog 73 #[.pointer (some ⟨g, 0, none⟩), .agg (routeCs d a c), .int .i64 n] w fun e w' => (∃ key fr ut ps, e = .returned (.tuple #[.int .i64 d.m, .agg (cmdCs 5 0 false key fr ut ps)]) ∧ CmdR (fun b => w.heap.size ≤ b) w' key fr ut ps ⟨5, 0, false, d.c, [], [], []⟩) ∧ Below w.heap.size w w' := by
  obtain ⟨A, cc, rfl, hc, hbd⟩ := hr.s.form
  obtain ⟨A2, cc2, rfl, _, hbd2⟩ := hr.c.form
  have hgl := hk.lt
  go_enter Try.func73, Try.ntmps73
  go_upto_region 1 with fail
  refine name_world (fun w1 => Below w.heap.size w w1 ∧ w.heap.size + 2 ≤ w1.heap.size ∧ Blk w1 w.heap.size 42 (routeCs d (.slice A d.s.length cc) (.slice A2 d.c.length cc2)) ∧ Blk w1 (w.heap.size + 1) 60 zC)
    ⟨((Below.refl _ _).alloc (Nat.le_refl _) _).alloc (by simp) _, by simp, (Blk.new w _ _).alloc _, Blk.new_ (by simp)⟩ ?_
  rintro w1 ⟨hB1, hz1, k1, k2⟩
  have kg := hk.below hB1 hgl
  have p0 : w1.cell? ⟨g, 0, none⟩ = some (.int .i64 0) := (kg.cell 0).trans (job0 _ _ _ _ _).1
  go_upto_region 3 with fail
  clear p0
  obtain ⟨r0, r1, r2, r3, r4⟩ := route_laters k1
  have hr1 := hr.below hB1
  refine wp_later_many_tail 7 [(5, Sp.cmd (fun b => w.heap.size + 2 ≤ b) 5 0 false ⟨5, 0, false, d.c, [], [], []⟩)] [5] (by as_aux_lemma => kernel_rfl) (by as_aux_lemma => kernel_rfl) (by as_aux_lemma => kernel_rfl) ?_
  intro vv hv
  obtain ⟨B1, d1, B2, d2, B3, d3, B4, d4, e5⟩ : ∃ A1 c1 A2 c2 A3 c3 A4 c4, vv 5 = .agg (cmdCs 5 0 false (.slice A1 d.c.length c1) (.slice A2 0 c2) (.slice A3 0 c3) (.slice A4 0 c4)) := hv 5 (by decide)
  simp only [List.take_succ_cons, List.take_zero, List.drop_succ_cons, List.drop_zero]
  refine many_pre 5 (by decide) ?_
  simp only [List.take_succ_cons, List.take_zero, List.drop_succ_cons, List.drop_zero]
  repeat (go_big_quiet_step (fail))
  refine wpQuiet_nil (many_wild (by decide) rfl ?_ ?_)
  · intro s _
    unfold Gives
    go_simp
    refine (own_any (ok := ok) (.slice A2 d.c.length cc2) nl nl nl ⟨5, 0, false, d.c, [], [], []⟩ _ ⟨hr1.c.below s.below, RSl.nil_ _ _ _, RSl.nil_ _ _ _, RSl.nil_ _ _ _⟩).mono ?_
    rintro e w3 ⟨⟨key, fr, ut, ps, rfl, hc3⟩, hb3⟩
    obtain ⟨_, _, rfl, _⟩ := hc3.key.form
    obtain ⟨_, _, rfl, _⟩ := hc3.fr.form
    obtain ⟨_, _, rfl, _⟩ := hc3.upto.form
    obtain ⟨_, _, rfl, _⟩ := hc3.pairs.form
    exact ⟨_, rfl, ⟨_, _, _, _, _, _, _, _, rfl, hc3.mono fun b hb _ => by have := s.below.size; omega⟩, hb3⟩
  intro a' ha'
  subst ha'
  simp only [Act.put, List.setIfInBounds_toArray, List.set_cons_succ, List.set_cons_zero]
  rw [e5]
  refine many_pre 1 (by decide) ?_
  simp only [List.take_succ_cons, List.take_zero, List.drop_succ_cons, List.drop_zero]
  repeat (go_big_quiet_step (fail))
  refine wpQuiet_nil (many_end ?_)
  intro s hf
  obtain ⟨_, _, _, _, _, _, _, _, e5', hcm⟩ : ∃ A1 c1 A2 c2 A3 c3 A4 c4, vv 5 = .agg (cmdCs 5 0 false (.slice A1 d.c.length c1) (.slice A2 0 c2) (.slice A3 0 c3) (.slice A4 0 c4)) ∧ CmdR (fun b => w.heap.size + 2 ≤ b) s.val (.slice A1 d.c.length c1) (.slice A2 0 c2) (.slice A3 0 c3) (.slice A4 0 c4) ⟨5, 0, false, d.c, [], [], []⟩ := hf 5 (by decide)
  rw [e5] at e5'
  simp only [cmdCs, Value.agg.injEq, Array.mk.injEq, List.cons.injEq, Value.slice.injEq, true_and, and_true] at e5'
  obtain ⟨⟨rfl, rfl⟩, ⟨rfl, rfl⟩, ⟨rfl, rfl⟩, rfl, rfl⟩ := e5'
  have hB3 := hB1.trans (s.below.mono hB1.size)
  have k3 := k2.below s.below k2.lt
  clear e5 hv hf r0 r1 r2 r3 r4
  refine wpList_storeB rfl rfl (cmdCs 5 0 false (.slice B1 d.c.length d1) (.slice B2 0 d2) (.slice B3 0 d3) (.slice B4 0 d4)) rfl rfl k3 rfl Try.infoCmd (cmdCs_one rfl rfl rfl rfl) ?_
  intro k4
  have lv := k4.loadVar (P := Try.prog) Try.underlying60 rfl Try.infoCmd
  have hk4 := Kp.setCells (ok := fun b => w.heap.size + 2 ≤ b) (a := s.val) (b := w.heap.size + 1) (fun _ h => by have : w.heap.size + 2 ≤ w.heap.size + 1 := h; omega) (cmdCs 5 0 false (.slice B1 d.c.length d1) (.slice B2 0 d2) (.slice B3 0 d3) (.slice B4 0 d4)).toList 0 (Kp.refl _ _)
  go_wp2
  refine bodyPost_ret (v := .tuple #[.int .i64 d.m, .agg (cmdCs 5 0 false (.slice B1 d.c.length d1) (.slice B2 0 d2) (.slice B3 0 d3) (.slice B4 0 d4))]) ?_ rfl ⟨⟨_, _, _, _, rfl, (hcm.kp hk4).mono fun b h _ => by omega⟩, below_setCells (by omega) _ _ hB3⟩
  simp [results, Try.results73, Act.put, Sem.run_bind, Sem.run_pure, asAddr_ok, lv]
end Go.Proofs.Ytikkknaofiafhaa

namespace Go.Proofs.Ytikkknaofiafhaa
open Go.RowKit

section
variable {P : Program} {ops : Array Oper} {Q : Exit → Act → World → Prop}
/-- behind the first part the second one -/
def thenL (P : Program) (ops : Array Oper) (Q : Exit → Act → World → Prop) (r : List Oper) : Exit → Act → World → Prop
  | .normal, a, w => wpList P ops Q r a w
  | x, a, w => Q x a w
theorem upon_thenL {o : Oper} {a : Act} {r : List Oper} {K K' : Act → World → Prop} (h : ∀ a w, K' a w → K a w) : ∀ {y : Result Next}, o.upon P a K' (thenL P ops Q r) y → o.upon P a K Q y := by
  intro y hy
  unfold Oper.upon at hy ⊢
  split at hy
  · exact h _ _ hy
  · exact h _ _ hy
  · exact h _ _ hy
  · refine Calls.mono hy fun e w' he => ?_
    cases e with
    | returned v => exact h _ _ he
    | panicked chain => exact he
    | outgrown => exact he
  · refine Rows.mono hy fun v w' he => h _ _ he
  · exact hy
  · exact hy.elim
theorem wpList_app : ∀ (l r : List Oper) {a : Act} {w : World}, wpList P ops (thenL P ops Q r) l a w → wpList P ops Q (l ++ r) a w
  | [], _, _, _, h => h
  | o :: l, r, a, w, h => by
    rw [List.cons_append]
    unfold wpList at h ⊢
    split at h
    · rename_i hw
      rw [if_pos hw]
      rcases h with h | ⟨h1, h2⟩
      · exact .inl (upon_thenL (fun a' w' => wpList_app l r) h)
      · exact .inr ⟨h1, h2⟩
    · rename_i hw
      rw [if_neg hw]
      exact wpList_app l r h
theorem wpList_split (n : Nat) {l : List Oper} {a : Act} {w : World} (h : wpList P ops (thenL P ops Q (l.drop n)) (l.take n) a w) : wpList P ops Q l a w := by
  have := wpList_app (l.take n) (l.drop n) h
  rwa [List.take_append_drop] at this
theorem wp_region_split (n : Nat) {id : Nat} {l : List Oper} {a : Act} {w : World} (h : wpList P l.toArray (thenL P l.toArray Q (l.drop n)) (l.take n) a w) : (Code.region id l.toArray false).wp P Q a w := wp_region_lit (wpList_split n h)
end
end Go.Proofs.Ytikkknaofiafhaa

namespace Go.Proofs.Ytikkknaofiafhaa
open Go.RowKit

theorem foldl_set_at (vs : List Value) (o : Nat) : ∀ (n : Nat) (C : Array Value), n ≤ vs.length → o + vs.length ≤ C.size → ((List.range n).foldl (fun a i => a.setIfInBounds (o + i) (vs.getD i undef)) C).toList = C.toList.take o ++ vs.take n ++ C.toList.drop (o + n)
  | 0, C, _, hs => by simp
  | n + 1, C, hn, hs => by
    have h1 := foldl_set_at vs o n C (by omega) hs
    rw [List.range_succ, List.foldl_append, List.foldl_cons, List.foldl_nil, Array.toList_setIfInBounds, h1]
    have hl : (C.toList.take o ++ vs.take n).length = o + n := by simp; omega
    have hlt : o + n < C.toList.length := by simp; omega
    have hd : C.toList.drop (o + n) = C.toList[o + n] :: C.toList.drop (o + n + 1) := List.drop_eq_getElem_cons hlt
    rw [hd, List.set_append_right _ _ (by omega), hl, Nat.sub_self, List.set_cons_zero, List.take_succ_eq_append_getElem (by omega)]
    have e : vs.getD n undef = vs[n] := by simp [List.getD, List.getElem?_eq_getElem (show n < vs.length by omega)]
    rw [e]
    simp only [List.append_assoc, List.cons_append, List.nil_append, Nat.add_assoc]
section
variable {w : World} {g : Nat} {T : TypeId}
theorem Blk.there_at {C : Array Value} (h : Blk w g T C) (o n : Nat) (hn : o + n ≤ C.size) : w.there g o n := fun j hj => by
  exact ⟨by rw [h.cell (o + j), Array.getElem?_eq_getElem (by omega)]; rfl, h.frozen (o + j)⟩
theorem Blk.setCells_mid {A C B : Array Value} (h : Blk w g T (A ++ C ++ B)) (cs : Array Value) (hs : cs.size = C.size) : Blk (w.setCells g A.size cs.toList) g T (A ++ cs ++ B) := by
  have h1 := h.setCells_at cs.toList A.size
  have h2 := foldl_set_at cs.toList A.size cs.toList.length (A ++ C ++ B) (Nat.le_refl _) (by simp; omega)
  have h3 : (List.range cs.toList.length).foldl (fun a i => a.setIfInBounds (A.size + i) (cs.toList.getD i undef)) (A ++ C ++ B) = A ++ cs ++ B := by
    refine Array.ext' ?_
    rw [h2, List.take_length]
    simp only [Array.toList_append, Array.length_toList]
    have e1 : (A.toList ++ C.toList ++ B.toList).take A.size = A.toList := by rw [List.append_assoc]; exact List.take_left' (by simp)
    have e2 : (A.toList ++ C.toList ++ B.toList).drop (A.size + cs.size) = B.toList := List.drop_left' (by simp [hs])
    rw [e1, e2]
  rwa [h3] at h1
theorem job_set1 (ph : Int) (asd b : Bool) (gr : Int) (C : Array Value) (given : Value) : (jobCs ph asd gr C given).setIfInBounds 1 (.bool b) = jobCs ph b gr C given := by
  refine Array.ext' ?_
  rw [Array.toList_setIfInBounds]
  simp [jobCs]
theorem job_set2 (ph : Int) (asd : Bool) (gr gr2 : Int) (C : Array Value) (given : Value) : (jobCs ph asd gr C given).setIfInBounds 2 (.int .i64 gr2) = jobCs ph asd gr2 C given := by
  refine Array.ext' ?_
  rw [Array.toList_setIfInBounds]
  simp [jobCs]
theorem Blk.setC {ph : Int} {asd : Bool} {gr : Int} {C : Array Value} {given : Value} (h : Blk w g T (jobCs ph asd gr C given)) (cs : Array Value) (hs : cs.size = C.size) : Blk (w.setCells g 3 cs.toList) g T (jobCs ph asd gr cs given) := Blk.setCells_mid (A := #[.int .i64 ph, .bool asd, .int .i64 gr]) (B := #[given]) h cs hs
theorem Blk.rangeC {ph : Int} {asd : Bool} {gr : Int} {C : Array Value} {given : Value} (h : Blk w g T (jobCs ph asd gr C given)) : w.rangeAt g 3 C.toList := fun j v hv => by
  have hj : j < C.size := by have := (List.getElem?_eq_some_iff.1 hv).1; simpa using this
  rw [h.cell (3 + j), job3 _ _ _ _ _ _ hj]
  simpa using hv
end
/-- a command stored into a job, at the list of a plain region -/
theorem wpList_storeC {P : Program} {ops : Array Oper} {rest : List Oper} {o : Oper} {a : Act} {w : World} {Q : Exit → Act → World → Prop} {g : Nat} {T : TypeId} {ph : Int} {asd : Bool} {gr : Int} {C : Array Value} {given : Value} (hgd : o.guard = none) {ty : TypeId} {x y : Operand} (ho : o.op = .store ty x y) (cs : Array Value)
    (hx : a.eval x = .pointer (some ⟨g, 3, none⟩)) (hy : a.eval y = .agg cs) (hk : Blk w g T (jobCs ph asd gr C given)) (hC : C.size = 25) (hs : cs.size = 25) (hi : (P.info? ty).map (·.size) = some 25) (h1 : cs.all (·.oneCell') = true)
    (h : Blk (w.setCells g 3 cs.toList) g T (jobCs ph asd gr cs given) → wpList P ops Q rest a (w.setCells g 3 cs.toList)) (hdst : o.dst = none) : wpList P ops Q (o :: rest) a w :=
  wpList_store_mid hgd ty x y ho g 3 cs hx hy (hk.there_at 3 cs.size (by rw [jobCs_size hC]; omega)) (by rw [hs]; exact hi) h1 (by rw [hdst]; exact h (hk.setC cs (by omega)))
/-- a command read out of a job -/
theorem gives_loadC {P : Program} {o : Oper} {a : Act} {w : World} {g : Nat} {T : TypeId} {ph : Int} {asd : Bool} {gr : Int} {C : Array Value} {given : Value} {ty : TypeId} {x : Operand} {d : TypeDesc} (ho : o.op = .load ty x)
    (hx : a.eval x = .pointer (some ⟨g, 3, none⟩)) (hk : Blk w g T (jobCs ph asd gr C given)) (hu : P.underlying ty = some d) (hd : d.isRow = true) (hi : (P.info? ty).map (·.size) = some C.size) {Φ : Value → World → Prop} (h : Φ (.agg C) w) : Gives P o a w Φ := by
  have hr := run_loadVar_mid (P := P) w g 3 ty C.toList d hk.rangeC hu hd (by simpa using hi)
  unfold Gives execOp
  simp only [ho, hx, Instr.loadAt, Instr.sureAddr, Sem.run_bind, Sem.run_pure, Result.andThen_ok, hr, giv]
  simpa using h
end Go.Proofs.Ytikkknaofiafhaa

namespace Go.Proofs.Ytikkknaofiafhaa
open Go.RowKit

theorem next3 : nextG rd1.s rd1.b 1 (min (2 : Int) 4).toNat = 3 := by decide

set_option maxRecDepth 100000 in
set_option maxHeartbeats 6400000 in
theorem jobNext_awake {ok : Nat → Prop} (a c : Value) (g : Nat) (w : World) (hr : RouteR ok w a c rd1) (hok : ∀ b, ok b → b ≠ g) (hk : Blk w g 129 (jobCs 0 false 0 zC nl)) :
    Calls Try.prog 32 #[.pointer (some ⟨g, 0, none⟩), .agg (routeCs rd1 a c), .int .i64 2] w fun e w' => (∃ key fr ut ps, e = .returned (.tuple #[.int .i64 2, .agg (cmdCs 5 0 false key fr ut ps), .bool true]) ∧ CmdR (fun b => b ≠ g) w' key fr ut ps ⟨5, 0, false, [120, 1], [], [], []⟩) ∧ Kp (fun b => b ≠ g) w w' := by
  obtain ⟨A, cc, rfl, hc, hbd⟩ := hr.s.form
  obtain ⟨A2, cc2, rfl, _, hbd2⟩ := hr.c.form
  have hgl := hk.lt
  simp only [show rd1.s.length = 1 from rfl, show rd1.c.length = 2 from rfl] at *
  go_enter Try.func32, Try.ntmps32
  go_upto_region 1 with fail
  refine name_world (fun w1 => Below w.heap.size w w1 ∧ w.heap.size + 2 ≤ w1.heap.size ∧ Blk w1 w.heap.size 42 (routeCs rd1 (.slice A 1 cc) (.slice A2 2 cc2)) ∧ Blk w1 (w.heap.size + 1) 60 zC)
    ⟨((Below.refl _ _).alloc (Nat.le_refl _) _).alloc (by simp) _, by simp, (Blk.new w _ _).alloc _, Blk.new_ (by simp)⟩ ?_
  rintro w1 ⟨hB1, hz1, k1, k2⟩
  have kg := hk.below hB1 hgl
  have hr1 := hr.below hB1
  obtain ⟨j0, j1, j2⟩ := job0 0 false 0 zC nl
  have p1 : w1.cell? ⟨g, 1, none⟩ = some (.bool false) := (kg.cell 1).trans j1
  obtain ⟨r0, r1, r2, r3, r4⟩ := route_cells k1
  simp only [rd1] at r0 r1 r3
  go_wp2_with fail
  refine (routeNext_any rd1 _ _ 2 _ hr1 (by decide)).mono ?_
  rw [next3]
  rintro e w2 ⟨rfl, hb2⟩
  have hB2 := hB1.trans (hb2.mono hB1.size)
  have hz2 : w.heap.size + 2 ≤ w2.heap.size := Nat.le_trans hz1 hb2.size
  have k12 := k1.below hb2 k1.lt
  have k22 := k2.below hb2 k2.lt
  have kg2 := kg.below hb2 kg.lt
  have hr2 := hr1.below hb2
  have fz := fun i => kg2.frozen i
  have p1' : w2.cell? ⟨g, 1, none⟩ = some (.bool false) := (kg2.cell 1).trans j1
  clear r0 r1 r2 r3 r4 p1 k1 k2 kg hr1
  obtain ⟨r0, r1, r2, r3, r4⟩ := route_cells k12
  simp only [rd1] at r0 r1 r3
  go_upto_region 9 with fail
  have hne0 : w.heap.size ≠ g := by omega
  have hne1 : w.heap.size + 1 ≠ g := by omega
  refine name_world (fun w3 => Kp (fun b => b ≠ g) w w3 ∧ w.heap.size + 2 ≤ w3.heap.size ∧ Blk w3 w.heap.size 42 (routeCs rd1 (.slice A 1 cc) (.slice A2 2 cc2)) ∧ Blk w3 (w.heap.size + 1) 60 zC ∧ Blk w3 g 129 (jobCs 0 true 0 zC nl) ∧ RouteR ok w3 (.slice A 1 cc) (.slice A2 2 cc2) rd1)
    ⟨(Kp.of_below hB2).setCell (fun _ h => h rfl) _, by simp; omega, k12.far hne0 _, k22.far hne1 _, ?_, hr2.kp ((Kp.refl _ _).setCell (fun _ h => hok _ h rfl) _)⟩ ?_
  · have := kg2.set_ 1 (.bool true)
    rwa [job_set1] at this
  clear r0 r1 r2 r3 r4 p1' fz k12 k22 kg2 hr2
  rintro w3 ⟨hK3, hz3, k13, k23, kg3, hr3⟩
  obtain ⟨r0, r1, r2, r3, r4⟩ := route_cells k13
  simp only [rd1] at r0 r1 r3
  refine wp_region_split 14 ?_
  simp only [List.take_succ_cons, List.take_zero, List.drop_succ_cons, List.drop_zero]
  go_wp2_with fail
  refine (next0_any rd1 _ _ 3 g true 0 zC nl _ hr3 kg3).mono ?_
  rintro e w4 ⟨⟨key, fr, ut, ps, rfl, hc4⟩, hb4⟩
  obtain ⟨A5, c5, rfl, _⟩ := hc4.key.form
  obtain ⟨A6, c6, rfl, _⟩ := hc4.fr.form
  obtain ⟨A7, c7, rfl, _⟩ := hc4.upto.form
  obtain ⟨A8, c8, rfl, _⟩ := hc4.pairs.form
  simp only [show rd1.m = 2 from rfl, show rd1.c.length = 2 from rfl, show ([] : List UInt8).length = 0 from rfl, show ([] : List PairD).length = 0 from rfl] at *
  have hK4 := hK3.trans (Kp.of_below hb4 |>.mono (ok' := fun b => b ≠ g) fun _ _ => trivial)
  have hz4 : w3.heap.size ≤ w4.heap.size := hb4.size
  have k14 := k13.below hb4 k13.lt
  have k24 := k23.below hb4 k23.lt
  have kg4 := kg3.below hb4 kg3.lt
  have fz := fun i => kg4.frozen i
  obtain ⟨_, _, j2'⟩ := job0 0 true 0 zC nl
  have p2 : w4.cell? ⟨g, 2, none⟩ = some (.int .i64 0) := (kg4.cell 2).trans j2'
  clear r0 r1 r2 r3 r4 k13 k23 kg3 hr3
  go_wp2
  show wpList _ _ _ _ _ _
  have kg5 := kg4.set_ 2 (.int .i64 2)
  rw [job_set2] at kg5
  refine wpList_storeC rfl rfl (cmdCs 5 0 false (.slice A5 2 c5) (.slice A6 0 c6) (.slice A7 0 c7) (.slice A8 0 c8)) rfl rfl kg5 rfl rfl Try.infoCmd (cmdCs_one rfl rfl rfl rfl) ?_ rfl
  intro kg6
  have hkp : Kp (fun b => b ≠ g) w4 ((w4.setCell ⟨g, 2, none⟩ (.int .i64 2)).setCells g 3 (cmdCs 5 0 false (.slice A5 2 c5) (.slice A6 0 c6) (.slice A7 0 c7) (.slice A8 0 c8)).toList) := Kp.setCells (fun _ h => h rfl) _ _ ((Kp.refl _ _).setCell (fun _ h => h rfl) _)
  have k25 := far_setCells hne1 (cmdCs 5 0 false (.slice A5 2 c5) (.slice A6 0 c6) (.slice A7 0 c7) (.slice A8 0 c8)).toList 3 (k24.far (p := ⟨g, 2, none⟩) hne1 (.int .i64 2))
  have hc6 := (hc4.mono (ok' := fun b => b ≠ g) fun b h _ => by have : w3.heap.size ≤ b := h; omega).kp hkp
  have hK6 := hK4.trans hkp
  clear fz p2 k14 k24 kg4 kg5 hc4
  go_upto_region 10 with fail
  refine name_world (fun w6 => Kp (fun b => b ≠ g) w w6 ∧ w.heap.size + 2 ≤ w6.heap.size ∧ Blk w6 (w.heap.size + 1) 60 zC ∧ Blk w6 g 129 (jobCs 0 true 2 (cmdCs 5 0 false (.slice A5 2 c5) (.slice A6 0 c6) (.slice A7 0 c7) (.slice A8 0 c8)) nl) ∧ CmdR (fun b => b ≠ g) w6 (.slice A5 2 c5) (.slice A6 0 c6) (.slice A7 0 c7) (.slice A8 0 c8) ⟨5, 0, false, [120, 1], [], [], []⟩)
    ⟨hK6, by simp; omega, k25, kg6, hc6⟩ ?_
  clear hK6 k25 kg6 hc6 hkp
  rintro w6 ⟨hK6, hz6, k26, kg6, hc6⟩
  have l2 : ∀ s : Later w6, s.val.cell? ⟨g, 2, none⟩ = some (.int .i64 2) := fun s => ((kg6.below s.below kg6.lt).cell 2).trans (job0 _ _ _ _ _).2.2
  refine wp_later_many_tail 9 [(1, Sp.val (.pointer (some ⟨g, 0, none⟩))), (5, Sp.val (.pointer (some ⟨g, 0, none⟩))), (7, Sp.val (.agg (cmdCs 5 0 false (.slice A5 2 c5) (.slice A6 0 c6) (.slice A7 0 c7) (.slice A8 0 c8)))), (8, Sp.cmd (fun b => b ≠ g ∧ b ≠ w.heap.size + 1) 5 0 false ⟨5, 0, false, [120, 1], [], [], []⟩)] [1, 5, 7, 8] (by as_aux_lemma => kernel_rfl) (by as_aux_lemma => kernel_rfl) (by as_aux_lemma => kernel_rfl) ?_
  intro vv hv
  have e1 : vv 1 = .pointer (some ⟨g, 0, none⟩) := hv 1 (by decide)
  have e5 : vv 5 = .pointer (some ⟨g, 0, none⟩) := hv 5 (by decide)
  have e7 : vv 7 = .agg (cmdCs 5 0 false (.slice A5 2 c5) (.slice A6 0 c6) (.slice A7 0 c7) (.slice A8 0 c8)) := hv 7 (by decide)
  obtain ⟨B1, d1, B2, d2, B3, d3, B4, d4, e8⟩ : ∃ A1 c1 A2 c2 A3 c3 A4 c4, vv 8 = .agg (cmdCs 5 0 false (.slice A1 2 c1) (.slice A2 0 c2) (.slice A3 0 c3) (.slice A4 0 c4)) := hv 8 (by decide)
  simp only [List.take_succ_cons, List.take_zero, List.drop_succ_cons, List.drop_zero]
  refine many_pre 1 (by decide) ?_
  simp only [List.take_succ_cons, List.take_zero, List.drop_succ_cons, List.drop_zero]
  repeat (go_big_quiet_step (fail))
  refine wpQuiet_nil (many_wild (by decide) rfl ?_ ?_)
  · intro s _
    unfold Gives
    go_simp
    exact ⟨rfl, Below.refl _ _⟩
  intro a' ha'
  subst ha'
  simp only [Act.put, List.setIfInBounds_toArray, List.set_cons_succ, List.set_cons_zero]
  rw [e1]
  refine many_pre 3 (by decide) ?_
  simp only [List.take_succ_cons, List.take_zero, List.drop_succ_cons, List.drop_zero]
  repeat (go_big_quiet_step (fail))
  refine wpQuiet_nil (many_wild (by decide) rfl ?_ ?_)
  · intro s _
    unfold Gives
    go_simp
    exact ⟨rfl, Below.refl _ _⟩
  intro a' ha'
  subst ha'
  simp only [Act.put, List.setIfInBounds_toArray, List.set_cons_succ, List.set_cons_zero]
  rw [e5]
  refine many_pre 1 (by decide) ?_
  simp only [List.take_succ_cons, List.take_zero, List.drop_succ_cons, List.drop_zero]
  repeat (go_big_quiet_step (fail))
  refine wpQuiet_nil (many_wild (by decide) rfl ?_ ?_)
  · intro s _
    exact gives_loadC rfl rfl (kg6.below s.below kg6.lt) Try.underlying60 rfl Try.infoCmd ⟨rfl, Below.refl _ _⟩
  intro a' ha'
  subst ha'
  simp only [Act.put, List.setIfInBounds_toArray, List.set_cons_succ, List.set_cons_zero]
  rw [e7]
  refine many_wild (by decide) rfl ?_ ?_
  · intro s _
    unfold Gives
    go_simp
    refine (own_any (ok := fun b => b ≠ g) (.slice A5 2 c5) (.slice A6 0 c6) (.slice A7 0 c7) (.slice A8 0 c8) ⟨5, 0, false, [120, 1], [], [], []⟩ _ (hc6.below s.below)).mono ?_
    rintro e w7 ⟨⟨key, fr, ut, ps, rfl, hc7⟩, hb7⟩
    obtain ⟨_, _, rfl, _⟩ := hc7.key.form
    obtain ⟨_, _, rfl, _⟩ := hc7.fr.form
    obtain ⟨_, _, rfl, _⟩ := hc7.upto.form
    obtain ⟨_, _, rfl, _⟩ := hc7.pairs.form
    have hzs : w6.heap.size ≤ s.val.heap.size := s.below.size
    exact ⟨_, rfl, ⟨_, _, _, _, _, _, _, _, rfl, hc7.mono fun b hb _ => ⟨by have : s.val.heap.size ≤ b := hb; omega, by have : s.val.heap.size ≤ b := hb; omega⟩⟩, hb7⟩
  intro a' ha'
  subst ha'
  simp only [Act.put, List.setIfInBounds_toArray, List.set_cons_succ, List.set_cons_zero]
  rw [e8]
  refine many_end ?_
  intro s hf
  obtain ⟨_, _, _, _, _, _, _, _, e8', hcm⟩ : ∃ A1 c1 A2 c2 A3 c3 A4 c4, vv 8 = .agg (cmdCs 5 0 false (.slice A1 2 c1) (.slice A2 0 c2) (.slice A3 0 c3) (.slice A4 0 c4)) ∧ CmdR (fun b => b ≠ g ∧ b ≠ w.heap.size + 1) s.val (.slice A1 2 c1) (.slice A2 0 c2) (.slice A3 0 c3) (.slice A4 0 c4) ⟨5, 0, false, [120, 1], [], [], []⟩ := hf 8 (by decide)
  rw [e8] at e8'
  simp only [cmdCs, Value.agg.injEq, Array.mk.injEq, List.cons.injEq, Value.slice.injEq, true_and, and_true] at e8'
  obtain ⟨⟨rfl, rfl⟩, ⟨rfl, rfl⟩, ⟨rfl, rfl⟩, rfl, rfl⟩ := e8'
  have hK7 := hK6.trans ((Kp.of_below s.below).mono (ok' := fun b => b ≠ g) fun _ _ => trivial)
  have k7 := k26.below s.below k26.lt
  clear e1 e5 e7 e8 hv hf l2
  refine wpList_split 1 ?_
  simp only [List.take_succ_cons, List.take_zero, List.drop_succ_cons, List.drop_zero]
  go_wp2
  show wpList _ _ _ _ _ _
  refine wpList_storeB rfl rfl (cmdCs 5 0 false (.slice B1 2 d1) (.slice B2 0 d2) (.slice B3 0 d3) (.slice B4 0 d4)) rfl rfl k7 rfl Try.infoCmd (cmdCs_one rfl rfl rfl rfl) ?_
  intro k8
  have lv := k8.loadVar (P := Try.prog) Try.underlying60 rfl Try.infoCmd
  have hk8 := Kp.setCells (ok := fun b => b ≠ g ∧ b ≠ w.heap.size + 1) (a := s.val) (b := w.heap.size + 1) (fun _ h => h.2 rfl) (cmdCs 5 0 false (.slice B1 2 d1) (.slice B2 0 d2) (.slice B3 0 d3) (.slice B4 0 d4)).toList 0 (Kp.refl _ _)
  have hk9 := Kp.setCells (ok := fun b => b ≠ g) (a := w) (b := w.heap.size + 1) (fun h => by omega) (cmdCs 5 0 false (.slice B1 2 d1) (.slice B2 0 d2) (.slice B3 0 d3) (.slice B4 0 d4)).toList 0 hK7
  go_wp2
  refine bodyPost_ret (v := .tuple #[.int .i64 2, .agg (cmdCs 5 0 false (.slice B1 2 d1) (.slice B2 0 d2) (.slice B3 0 d3) (.slice B4 0 d4)), .bool true]) ?_ rfl ⟨⟨_, _, _, _, rfl, (hcm.kp hk8).mono fun b h _ => h.1⟩, hk9⟩
  simp [results, Try.results32, Act.put, Sem.run_bind, Sem.run_pure, asAddr_ok, lv]
end Go.Proofs.Ytikkknaofiafhaa

namespace Go.Proofs.Ytikkknaofiafhaa
open Go.RowKit

theorem wpList_storeB' {P : Program} {ops : Array Oper} {rest : List Oper} {o : Oper} {a : Act} {w : World} {Q : Exit → Act → World → Prop} {g : Nat} {T : TypeId} {C : Array Value} (hgd : o.guard = none) {ty : TypeId} {x y : Operand} (ho : o.op = .store ty x y) (cs : Array Value) (hx : a.eval x = .pointer (some ⟨g, 0, none⟩)) (hy : a.eval y = .agg cs) (hk : Blk w g T C) (hs : C.size = cs.size) (hi : (P.info? ty).map (·.size) = some cs.size) (h1 : cs.all (·.oneCell') = true)
    (h : Blk (w.setCells g 0 cs.toList) g T cs → wpList P ops Q rest a (w.setCells g 0 cs.toList)) (hdst : o.dst = none) : wpList P ops Q (o :: rest) a w :=
  wpList_storeB hgd ho cs hx hy hk hs hi h1 (by rw [hdst]; exact h)

set_option maxRecDepth 100000 in
set_option maxHeartbeats 6400000 in
theorem awakeSplit_any (w : World) :
    Calls Try.prog 28 #[] w fun e w' => e = .returned (.bool true) ∧ Below w.heap.size w w' := by
  go_enter Try.func28, Try.ntmps28
  go_wp2_with fail
  refine (refNew_any _).mono ?_
  rintro e w1 ⟨⟨a1, x1, rfl, hr1⟩, hb1⟩
  obtain ⟨A1, c1, rfl, _, _⟩ := hr1.s.form
  obtain ⟨A2, c2, rfl, _, _⟩ := hr1.c.form
  simp only [show rd0.s.length = 1 from rfl, show rd0.c.length = 0 from rfl] at *
  unfold routeCs
  go_upto_region 2 with fail
  refine name_world (fun w2 => Below w.heap.size w w2 ∧ w1.heap.size < w2.heap.size ∧ Blk w2 w1.heap.size 42 (routeCs rd0 (.slice A1 1 c1) (.slice A2 0 c2)) ∧ RouteR (fun b => w.heap.size ≤ b) w2 (.slice A1 1 c1) (.slice A2 0 c2) rd0)
    ⟨hb1.alloc hb1.size _, by simp, Blk.new_ rfl, hr1.below ((Below.refl _ _).alloc (Nat.le_refl _) _)⟩ ?_
  rintro w2 ⟨hB2, hz2, k2, hr2⟩
  obtain ⟨r0, r1, r2, r3, r4⟩ := route_cells k2
  simp only [rd0] at r0 r1 r3
  go_wp2_with fail
  have hal : ∀ o, Below w2.heap.size w2 (w2.alloc o) := fun o => (Below.refl _ _).alloc (Nat.le_refl _) _
  refine (cut_any (ok2 := fun _ => True) (.slice A1 1 c1) (.slice A2 0 c2) (.slice (some ⟨w2.heap.size, 0, none⟩) 2 2) _ (hr2.below (hal _)) ?_).mono ?_
  · exact RB.mk_ (by have := Rd.new w2 5 1 2 #[.int .u8 120, .int .u8 1] rfl; simpa [bs] using this) (Nat.le_refl _) (by omega) (fun _ _ _ => trivial)
  rintro e w3 ⟨⟨a3, x3, rfl, hr3⟩, hb3⟩
  obtain ⟨A3, c3, rfl, _, _⟩ := hr3.s.form
  obtain ⟨A4, c4, rfl, _, _⟩ := hr3.c.form
  simp only [show rd1.s.length = 1 from rfl, show rd1.c.length = 2 from rfl] at *
  have hB3 := hB2.trans ((hal (.cells #[.int .u8 120, .int .u8 1] 5)).trans (hb3.mono (by simp)) |>.mono hB2.size)
  unfold routeCs
  clear r0 r1 r2 r3 r4
  go_upto_region 3 with fail
  refine name_world (fun w4 => Below w.heap.size w w4 ∧ w3.heap.size < w4.heap.size ∧ Blk w4 w3.heap.size 42 (routeCs rd1 (.slice A3 1 c3) (.slice A4 2 c4)) ∧ RouteR (fun b => b < w4.heap.size) w4 (.slice A3 1 c3) (.slice A4 2 c4) rd1)
    ⟨hB3.alloc hB3.size _, by simp, Blk.new_ rfl, (hr3.below ((Below.refl _ _).alloc (Nat.le_refl _) _)).mono fun b _ h => h⟩ ?_
  rintro w4 ⟨hB4, hz4, k4, hr4⟩
  go_wp2_with fail
  refine (splitNew_any _).mono ?_
  rintro e w5 ⟨rfl, kg, hb5⟩
  have hB5 := hB4.trans (hb5.mono hB4.size)
  have hw0 : w.heap.size ≤ w4.heap.size := hB4.size
  have k5 := k4.below hb5 k4.lt
  have hr5 := (hr4.below hb5).mono (ok' := fun b => b ≠ w4.heap.size) fun b h _ => by omega
  obtain ⟨r0, r1, r2, r3, r4⟩ := route_cells k5
  simp only [rd1] at r0 r1 r3
  go_upto_region 6 with fail
  refine wp_region_split 9 ?_
  simp only [List.take_succ_cons, List.take_zero, List.drop_succ_cons, List.drop_zero]
  go_wp2_with fail
  refine (jobNext_awake (ok := fun b => b ≠ w4.heap.size) (.slice A3 1 c3) (.slice A4 2 c4) w4.heap.size _ hr5 (fun _ h => h) kg).mono ?_
  rintro e w6 ⟨⟨key, fr, ut, ps, rfl, hc6⟩, hK6⟩
  obtain ⟨A5, c5, rfl, _⟩ := hc6.key.form
  obtain ⟨A6, c6, rfl, _⟩ := hc6.fr.form
  obtain ⟨A7, c7, rfl, _⟩ := hc6.upto.form
  obtain ⟨A8, c8, rfl, _⟩ := hc6.pairs.form
  simp only [show ([120, 1] : List UInt8).length = 2 from rfl, show ([] : List UInt8).length = 0 from rfl, show ([] : List PairD).length = 0 from rfl] at *
  have hB6 : Below w.heap.size w w6 := hB5.trans (hK6.below (Nat.le_trans hw0 hb5.size) fun b hb => by omega)
  go_wp2
  show wpList _ _ _ _ _ _
  refine wpList_storeB' (C := zC) rfl rfl (cmdCs 5 0 false (.slice A5 2 c5) (.slice A6 0 c6) (.slice A7 0 c7) (.slice A8 0 c8)) rfl rfl (Blk.new_ rfl) rfl Try.infoCmd (cmdCs_one rfl rfl rfl rfl) ?_ rfl
  intro k7
  have hB7 := below_setCells (B := w.heap.size) (a := w) (b := w6.heap.size) hB6.size (cmdCs 5 0 false (.slice A5 2 c5) (.slice A6 0 c6) (.slice A7 0 c7) (.slice A8 0 c8)).toList 0 (hB6.alloc hB6.size (.cells zC 60))
  go_upto_region 7 with fail
  refine name_world (fun w8 => Below w.heap.size w w8 ∧ w8.cell? ⟨w6.heap.size, 0, none⟩ = some (.int .i64 5) ∧ w8.cell? ⟨w6.heap.size, 7, none⟩ = some (.slice A5 2 c5)) ⟨hB7, k7.cell 0, k7.cell 7⟩ ?_
  clear hB7 k7
  rintro w8 ⟨hB8, q0, q7⟩
  go_wp2
  go_ret
  exact ⟨rfl, hB8⟩
end Go.Proofs.Ytikkknaofiafhaa
