/- Contracts: split.New; (*Job).next at the beginning. -/
import Derived.Test.YtikkknaofiafhaaS8
namespace Go.Proofs.Ytikkknaofiafhaa
open Go.RowKit

def jobCs (ph : Int) (asd : Bool) (g : Int) (C : Array Value) (given : Value) : Array Value := #[.int .i64 ph, .bool asd, .int .i64 g] ++ C ++ #[given]
theorem jobCs_size {ph : Int} {asd : Bool} {g : Int} {C : Array Value} {given : Value} (h : C.size = 25) : (jobCs ph asd g C given).size = 29 := by simp [jobCs, h]
theorem job0 (ph : Int) (asd : Bool) (g : Int) (C : Array Value) (given : Value) : (jobCs ph asd g C given)[0]? = some (.int .i64 ph) ∧ (jobCs ph asd g C given)[1]? = some (.bool asd) ∧ (jobCs ph asd g C given)[2]? = some (.int .i64 g) := by
  unfold jobCs
  rw [Array.append_assoc]
  refine ⟨?_, ?_, ?_⟩ <;> (rw [Array.getElem?_append_left (by simp)]; rfl)
theorem job3 (ph : Int) (asd : Bool) (g : Int) (C : Array Value) (given : Value) (j : Nat) (h : j < C.size) : (jobCs ph asd g C given)[3 + j]? = C[j]? := by
  unfold jobCs
  rw [Array.append_assoc, Array.getElem?_append_right (by simp), Array.getElem?_append_left (by simp; omega)]
  simp
theorem job28 (ph : Int) (asd : Bool) (g : Int) (C : Array Value) (given : Value) (h : C.size = 25) : (jobCs ph asd g C given)[28]? = some given := by
  unfold jobCs
  rw [Array.getElem?_append_right (by simp [h])]
  simp [h]
def zC : Array Value := cmdCs 0 0 false nl nl nl nl

theorem RB.sl {ok : Nat → Prop} {w : World} {v : Value} {l : List UInt8} (h : RB ok w v l) : ∃ A c, v = .slice A l.length c ∧ l.length ≤ c := by obtain ⟨A, c, h, h2, _⟩ := h.form; exact ⟨A, c, h, h2⟩
/-- a command by value -/
def Sp.cmd (ok : Nat → Prop) (kind n : Int) (flag : Bool) (d : CmdD) : Sp :=
  ⟨fun x => ∃ A1 c1 A2 c2 A3 c3 A4 c4, x = .agg (cmdCs kind n flag (.slice A1 d.key.length c1) (.slice A2 d.from_.length c2) (.slice A3 d.upto.length c3) (.slice A4 d.pairs.length c4)), .agg (cmdCs kind n flag (.slice none d.key.length 0) (.slice none d.from_.length 0) (.slice none d.upto.length 0) (.slice none d.pairs.length 0)), ⟨none, 0, none, 0, none, 0, none, 0, rfl⟩,
    fun x w => ∃ A1 c1 A2 c2 A3 c3 A4 c4, x = .agg (cmdCs kind n flag (.slice A1 d.key.length c1) (.slice A2 d.from_.length c2) (.slice A3 d.upto.length c3) (.slice A4 d.pairs.length c4)) ∧ CmdR ok w (.slice A1 d.key.length c1) (.slice A2 d.from_.length c2) (.slice A3 d.upto.length c3) (.slice A4 d.pairs.length c4) d,
    fun _ _ ⟨A1, c1, A2, c2, A3, c3, A4, c4, h, _⟩ => ⟨A1, c1, A2, c2, A3, c3, A4, c4, h⟩, fun _ _ _ hb ⟨A1, c1, A2, c2, A3, c3, A4, c4, h, h1⟩ => ⟨A1, c1, A2, c2, A3, c3, A4, c4, h, h1.below hb⟩⟩

set_option maxRecDepth 100000 in
set_option maxHeartbeats 3200000 in
theorem splitNew_any (w : World) :
    Calls Try.prog 27 #[] w fun e w' => e = .returned (.pointer (some ⟨w.heap.size, 0, none⟩)) ∧ Blk w' w.heap.size 129 (jobCs 0 false 0 zC nl) ∧ Below w.heap.size w w' := by
  go_enter Try.func27, Try.ntmps27
  go_wp2
  go_ret
  exact ⟨rfl, Blk.new w _ _, (Below.refl _ _).alloc (Nat.le_refl _) _⟩

set_option maxRecDepth 100000 in
set_option maxHeartbeats 3200000 in
theorem next0_any {ok : Nat → Prop} (d : RouteD) (a c : Value) (n : Int) (g : Nat) (asd : Bool) (gr : Int) (C : Array Value) (given : Value) (w : World) (hr : RouteR ok w a c d) (hk : Blk w g 129 (jobCs 0 asd gr C given)) :
    Calls Try.prog 73 #[.pointer (some ⟨g, 0, none⟩), .agg (routeCs d a c), .int .i64 n] w fun e w' => (∃ key fr ut ps, e = .returned (.tuple #[.int .i64 d.m, .agg (cmdCs 5 0 false key fr ut ps)]) ∧ CmdR (fun b => w.heap.size ≤ b) w' key fr ut ps ⟨5, 0, false, d.c, [], [], []⟩) ∧ Below w.heap.size w w' := by
  obtain ⟨A, cc, rfl, hc, hbd⟩ := hr.s.form
  obtain ⟨A2, cc2, rfl, _, hbd2⟩ := hr.c.form
  have hgl := hk.lt
  go_enter Try.func73, Try.ntmps73
  go_upto_region 1 with fail
  refine name_world (fun w1 => Below w.heap.size w w1 ∧ w.heap.size + 2 ≤ w1.heap.size ∧ Blk w1 w.heap.size 42 (routeCs d (.slice A d.s.length cc) (.slice A2 d.c.length cc2)) ∧ Blk w1 (w.heap.size + 1) 60 zC)
    ⟨((Below.refl _ _).alloc (Nat.le_refl _) _).alloc (by simp) _, by simp, (Blk.new w _ _).alloc _, Blk.new_ (by simp)⟩ ?_
  rintro w1 ⟨hB1, hz1, k1, k2⟩
  have kg := hk.below hB1 hgl
  have p0 : w1.cell? ⟨g, 0, none⟩ = some (.int .i64 0) := (kg.cell 0).trans (job0 _ _ _ _ _).1
  go_upto_region 3 with fail
  clear p0
  obtain ⟨r0, r1, r2, r3, r4⟩ := route_laters k1
  have hr1 := hr.below hB1
  refine wp_later_many_tail 7 [(5, Sp.cmd (fun b => w.heap.size + 2 ≤ b) 5 0 false ⟨5, 0, false, d.c, [], [], []⟩)] [5] (by as_aux_lemma => kernel_rfl) (by as_aux_lemma => kernel_rfl) (by as_aux_lemma => kernel_rfl) ?_
  intro vv hv
  obtain ⟨B1, d1, B2, d2, B3, d3, B4, d4, e5⟩ : ∃ A1 c1 A2 c2 A3 c3 A4 c4, vv 5 = .agg (cmdCs 5 0 false (.slice A1 d.c.length c1) (.slice A2 0 c2) (.slice A3 0 c3) (.slice A4 0 c4)) := hv 5 (by decide)
  simp only [List.take_succ_cons, List.take_zero, List.drop_succ_cons, List.drop_zero]
  refine many_pre 5 (by decide) ?_
  simp only [List.take_succ_cons, List.take_zero, List.drop_succ_cons, List.drop_zero]
  repeat (go_big_quiet_step (fail))
  refine wpQuiet_nil (many_wild (by decide) rfl ?_ ?_)
  · intro s _
    unfold Gives
    go_simp
    refine (own_any (ok := ok) (.slice A2 d.c.length cc2) nl nl nl ⟨5, 0, false, d.c, [], [], []⟩ _ ⟨hr1.c.below s.below, RSl.nil_ _ _ _, RSl.nil_ _ _ _, RSl.nil_ _ _ _⟩).mono ?_
    rintro e w3 ⟨⟨key, fr, ut, ps, rfl, hc3⟩, hb3⟩
    obtain ⟨_, _, rfl, _⟩ := hc3.key.form
    obtain ⟨_, _, rfl, _⟩ := hc3.fr.form
    obtain ⟨_, _, rfl, _⟩ := hc3.upto.form
    obtain ⟨_, _, rfl, _⟩ := hc3.pairs.form
    exact ⟨_, rfl, ⟨_, _, _, _, _, _, _, _, rfl, hc3.mono fun b hb _ => by have := s.below.size; omega⟩, hb3⟩
  intro a' ha'
  subst ha'
  simp only [Act.put, List.setIfInBounds_toArray, List.set_cons_succ, List.set_cons_zero]
  rw [e5]
  refine many_pre 1 (by decide) ?_
  simp only [List.take_succ_cons, List.take_zero, List.drop_succ_cons, List.drop_zero]
  repeat (go_big_quiet_step (fail))
  refine wpQuiet_nil (many_end ?_)
  intro s hf
  obtain ⟨_, _, _, _, _, _, _, _, e5', hcm⟩ : ∃ A1 c1 A2 c2 A3 c3 A4 c4, vv 5 = .agg (cmdCs 5 0 false (.slice A1 d.c.length c1) (.slice A2 0 c2) (.slice A3 0 c3) (.slice A4 0 c4)) ∧ CmdR (fun b => w.heap.size + 2 ≤ b) s.val (.slice A1 d.c.length c1) (.slice A2 0 c2) (.slice A3 0 c3) (.slice A4 0 c4) ⟨5, 0, false, d.c, [], [], []⟩ := hf 5 (by decide)
  rw [e5] at e5'
  simp only [cmdCs, Value.agg.injEq, Array.mk.injEq, List.cons.injEq, Value.slice.injEq, true_and, and_true] at e5'
  obtain ⟨⟨rfl, rfl⟩, ⟨rfl, rfl⟩, ⟨rfl, rfl⟩, rfl, rfl⟩ := e5'
  have hB3 := hB1.trans (s.below.mono hB1.size)
  have k3 := k2.below s.below k2.lt
  clear e5 hv hf r0 r1 r2 r3 r4
  refine wpList_storeB rfl rfl (cmdCs 5 0 false (.slice B1 d.c.length d1) (.slice B2 0 d2) (.slice B3 0 d3) (.slice B4 0 d4)) rfl rfl k3 rfl Try.infoCmd (cmdCs_one rfl rfl rfl rfl) ?_
  intro k4
  have lv := k4.loadVar (P := Try.prog) Try.underlying60 rfl Try.infoCmd
  have hk4 := Kp.setCells (ok := fun b => w.heap.size + 2 ≤ b) (a := s.val) (b := w.heap.size + 1) (fun _ h => by have : w.heap.size + 2 ≤ w.heap.size + 1 := h; omega) (cmdCs 5 0 false (.slice B1 d.c.length d1) (.slice B2 0 d2) (.slice B3 0 d3) (.slice B4 0 d4)).toList 0 (Kp.refl _ _)
  go_wp2
  refine bodyPost_ret (v := .tuple #[.int .i64 d.m, .agg (cmdCs 5 0 false (.slice B1 d.c.length d1) (.slice B2 0 d2) (.slice B3 0 d3) (.slice B4 0 d4))]) ?_ rfl ⟨⟨_, _, _, _, rfl, (hcm.kp hk4).mono fun b h _ => by omega⟩, below_setCells (by omega) _ _ hB3⟩
  simp [results, Try.results73, Act.put, Sem.run_bind, Sem.run_pure, asAddr_ok, lv]
end Go.Proofs.Ytikkknaofiafhaa
