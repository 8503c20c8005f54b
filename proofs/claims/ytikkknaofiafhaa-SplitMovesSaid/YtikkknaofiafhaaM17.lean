/- Contract: (*Root).Run at RtRoute, as law 22 asks for it. -/
import Derived.Test.YtikkknaofiafhaaM16
import Derived.Test.YtikkknaofiafhaaS12
namespace Go.Proofs.Ytikkknaofiafhaa
open Go.RowKit

def repRt (err n : Int) (d : RouteD) (a c : Value) : Array Value := #[.int .i64 err, .int .u64 0, .int .i64 n, .bool false, nl, nl, .int .i64 0, .int .i64 0, nl, nl, .int .i64 d.e, .int .i64 d.b, a, .int .i64 d.m, c]
theorem repRt_one {err n : Int} {d : RouteD} {a c : Value} (h1 : a.oneCell' = true) (h2 : c.oneCell' = true) : (repRt err n d a c).all (·.oneCell') = true := by
  simp only [repRt, List.all_toArray, List.all_cons, List.all_nil, h1, h2, Bool.true_and, Bool.and_true]
  rfl
theorem rt_cells {w : World} {g : Nat} {T : TypeId} {all a c : Value} {d : RouteD} {sp : Int} (h : Blk w g T (rtCs all d a c sp)) : w.cell? ⟨g, 1, none⟩ = some (.int .i64 d.e) ∧ w.cell? ⟨g, 2, none⟩ = some (.int .i64 d.b) ∧ w.cell? ⟨g, 3, none⟩ = some a ∧ w.cell? ⟨g, 4, none⟩ = some (.int .i64 d.m) ∧ w.cell? ⟨g, 5, none⟩ = some c ∧ w.cell? ⟨g, 6, none⟩ = some (.int .i64 sp) :=
  ⟨h.cell 1, h.cell 2, h.cell 3, h.cell 4, h.cell 5, h.cell 6⟩
theorem gives_storeB {P : Program} {o : Oper} {a : Act} {w : World} {g : Nat} {T : TypeId} {C : Array Value} {Φ : Value → World → Prop} {ty : TypeId} {x y : Operand} (ho : o.op = .store ty x y) (cs : Array Value) (hx : a.eval x = .pointer (some ⟨g, 0, none⟩)) (hy : a.eval y = .agg cs) (hk : Blk w g T C) (hs : C.size = cs.size) (hi : (P.info? ty).map (·.size) = some cs.size) (h1 : cs.all (·.oneCell') = true)
    (h : Φ undef (w.setCells g 0 cs.toList)) : Gives P o a w Φ := by
  unfold Gives execOp
  simp only [ho, hx, hy, Sem.run_bind, Sem.run_pure, hk.storeAt cs hs hi h1, Result.andThen_ok, giv]
  exact h
def n0 (sp : Int) : Int := if sp = 1 then 0 else 3
theorem next_rd0 (sp : Int) (h1 : 1 ≤ sp) (h4 : sp ≤ 4) : nextG rd0.s rd0.b 1 (min sp 4).toNat = n0 sp := by
  rcases (show sp = 1 ∨ sp = 2 ∨ sp = 3 ∨ sp = 4 by omega) with rfl | rfl | rfl | rfl <;> rfl
theorem next_rdc (k : List UInt8) (sp : Int) (h1 : 1 ≤ sp) (h4 : sp ≤ 4) : nextG (rdc k).s (rdc k).b 1 (min sp 4).toNat = n0 sp := by
  rcases (show sp = 1 ∨ sp = 2 ∨ sp = 3 ∨ sp = 4 by omega) with rfl | rfl | rfl | rfl <;> rfl
def routeE (sp : Int) (k : List UInt8) : Int := if sp = 1 then 4 else cutE k
def RtPost (g : Nat) (sp : Int) (k : List UInt8) (E : Int) (w : World) (e : Ending) (w' : World) : Prop :=
  (∃ R, e = .returned (.agg R) ∧ R.size = 15 ∧ (∀ w, (Instr.field 70 (.agg R) 0).run Try.prog w = .ok (.int .i64 E) w)) ∧ Kp (fun b => b ≠ g) w w' ∧ (E = 0 → RootR (fun b => w.heap.size ≤ b ∧ b ≠ g) w' g (rdc k) sp)

set_option maxRecDepth 100000 in
set_option maxHeartbeats 12800000 in
theorem runRoute_any {ok ok2 : Nat → Prop} (g : Nat) (sp : Int) (h1 : 1 ≤ sp) (h4 : sp ≤ 4) (kv : Value) (k : List UInt8) (C : Array Value) (w : World) (hg : RootR ok w g rd0 sp) (hC : C.size = 25) (c0 : C[0]? = some (.int .i64 18)) (c3 : C[3]? = some (.int .i64 2)) (c7 : C[7]? = some kv) (hk : RB ok2 w kv k) :
    Calls Try.prog 38 #[.pointer (some ⟨g, 0, none⟩), .agg C] w (RtPost g sp k (routeE sp k) w) := by
  obtain ⟨all, a, c, hg, hr⟩ := hg
  obtain ⟨A, cc, rfl, hc, hbd⟩ := hr.s.form
  obtain ⟨A2, cc2, rfl, _, hbd2⟩ := hr.c.form
  obtain ⟨A7, a7, rfl, _, _⟩ := hk.form
  simp only [show rd0.s.length = 1 from rfl, show rd0.c.length = 0 from rfl] at *
  have hgl := hg.lt
  go_enter Try.func38, Try.ntmps38
  go_upto_region 1 with fail
  refine name_world (fun w1 => Below w.heap.size w w1 ∧ w.heap.size + 2 ≤ w1.heap.size ∧ Blk w1 w.heap.size 60 C ∧ Blk w1 (w.heap.size + 1) 70 (repCs 0 nl))
    ⟨((Below.refl _ _).alloc (Nat.le_refl _) _).alloc (by simp) _, by simp, (Blk.new w _ _).alloc _, Blk.new_ (by simp)⟩ ?_
  rintro w1 ⟨hB1, hz1, k1, k4⟩
  have kg := hg.below hB1 hgl
  have q0 : w1.cell? ⟨w.heap.size, 0, none⟩ = some (.int .i64 18) := (k1.cell 0).trans c0
  go_upto_region 28 with fail
  clear q0
  obtain ⟨y1, y2, y3, y4, y5, y6⟩ := rt_cells kg
  simp only [rd0] at y1 y2 y4
  have l1 := Later.cell y1
  have l2 := Later.cell y2
  have l3 := Later.cell y3
  have l4 := Later.cell y4
  have l5 := Later.cell y5
  have l6 := Later.cell y6
  clear y1 y2 y3 y4 y5 y6
  refine wp_seqL [8] (by as_aux_lemma => kernel_rfl) (by as_aux_lemma => kernel_rfl) fun w2 hb2 => ?_
  refine seqL_pre 8 (by kernel_rfl) ?_
  simp only [List.take_succ_cons, List.take_zero, List.drop_succ_cons, List.drop_zero]
  repeat (go_big_quiet_step (fail))
  refine wpQuiet_nil ?_
  refine seqL_wild hb2 rfl rfl fun K hK => ?_
  unfold Gives
  go_simp
  refine (refNext_any rd0 _ _ sp _ ((hr.below hB1).below hb2) ⟨by decide, by decide⟩ ⟨by omega, by omega⟩).mono ?_
  rw [next_rd0 sp h1 h4]
  rintro e w3 ⟨rfl, hb3⟩
  refine ⟨_, rfl, hK _ _ (hb3) fun hb3' => ?_⟩
  clear hK
  clear K
  simp only [Act.put, List.setIfInBounds_toArray, List.set_cons_succ, List.set_cons_zero]
  refine seqL_pre 1 (by kernel_rfl) ?_
  simp only [List.take_succ_cons, List.take_zero, List.drop_succ_cons, List.drop_zero]
  repeat (go_big_quiet_step (fail))
  refine wpQuiet_nil ?_
  refine seqL_nil ?_
  have hB3 := hB1.trans (hb3'.mono hB1.size)
  have k13 := k1.below hb3' k1.lt
  have k43 := k4.below hb3' k4.lt
  have kg3 := kg.below hb3' kg.lt
  clear l1 l2 l3 l4 l5 l6
  by_cases hs1 : sp = 1
  · have HE : Hid (routeE sp k = 4) := by
      have : routeE sp k = 4 := by unfold routeE; rw [if_pos hs1]
      exact Lib.hid this
    have hn : n0 sp = 0 := by unfold n0; rw [if_pos hs1]
    rw [hn]
    clear hn hs1
    go_upto_region 30 with fail
    refine wp_region_split 1 ?_
    simp only [List.take_succ_cons, List.take_zero, List.drop_succ_cons, List.drop_zero]
    go_wp2
    show wpList _ _ _ _ _ _
    refine wpList_storeB rfl rfl (repCs 4 nl) rfl rfl k43 rfl Try.infoRep (repCs_one rfl) ?_
    intro k4r
    have lv := Blk.loadVar k4r Try.underlying70 rfl Try.infoRep
    have hBr := below_setCells (B := w.heap.size) (a := w) (b := w.heap.size + 1) (by omega) (repCs 4 nl).toList 0 hB3
    generalize hwr : World.setCells w3 (w.heap.size + 1) 0 (repCs 4 nl).toList = wr at k4r lv hBr ⊢
    clear hwr
    go_wp2
    refine bodyPost_ret (v := .agg (repCs 4 nl)) ?_ rfl ?_
    · simp [results, Try.results38, Act.put, Sem.run_bind, Sem.run_pure, asAddr_ok, lv]
    · unfold RtPost
      rw [HE.out]
      exact ⟨⟨_, rfl, rfl, fun _ => by kernel_rfl⟩, Kp.of_below hBr, fun h => by cases h⟩
  have hn : n0 sp = 3 := by unfold n0; rw [if_neg hs1]
  rw [hn]
  have HS : Hid (routeE sp k = cutE k) := by
    have : routeE sp k = cutE k := by unfold routeE; rw [if_neg hs1]
    exact Lib.hid this
  clear hn hs1
  obtain ⟨y1, y2, y3, y4, y5, y6⟩ := rt_cells kg3
  simp only [rd0] at y1 y2 y4
  have l1 := cellF y1
  have l2 := cellF y2
  have l3 := cellF y3
  have l4 := cellF y4
  have l5 := cellF y5
  have m3 := cellF ((k13.cell 3).trans c3)
  have m7 := cellF ((k13.cell 7).trans c7)
  clear y1 y2 y3 y4 y5 y6
  go_wp2
  refine wp_seqV (fun _ => False) 13 [8, 13] [12] (by as_aux_lemma => kernel_rfl) (by as_aux_lemma => kernel_rfl) fun w4 hb4 => ?_
  refine seqV_pre 8 (by kernel_rfl) ?_
  simp only [List.take_succ_cons, List.take_zero, List.drop_succ_cons, List.drop_zero]
  repeat (go_big_quiet_step (fail))
  refine wpQuiet_nil ?_
  refine seqV_new hb4 rfl rfl fun w5 hb5 hB5 K hK => ?_
  unfold Gives
  go_simp
  refine (cutK_any _ _ _ k _ ((hr.below hB3).below hB5) ((hk.below hB3).below hB5)).mono ?_
  unfold CutPost
  have hz3 : w.heap.size + 2 ≤ w3.heap.size := k43.lt
  rintro e w6 ⟨⟨hE, a', c', rfl, hr'⟩ | ⟨hE, rfl⟩, hb6⟩
  · have HE : Hid (routeE sp k = 0) := by
      have : routeE sp k = 0 := by rw [HS.out, hE]
      exact Lib.hid this
    clear hE
    obtain ⟨B1, d1, rfl, _, _⟩ := hr'.s.form
    obtain ⟨B2, d2, rfl, _, _⟩ := hr'.c.form
    simp only [show (rdc k).s.length = 1 from rfl, show (rdc k).c.length = k.length from rfl] at *
    refine ⟨_, rfl, hK _ _ (hb6) fun hB6 => ?_⟩
    clear hK
    clear K
    simp only [Act.put, List.setIfInBounds_toArray, List.set_cons_succ, List.set_cons_zero]
    refine seqV_pre 3 (by kernel_rfl) ?_
    simp only [List.take_succ_cons, List.take_zero, List.drop_succ_cons, List.drop_zero]
    repeat (go_big_quiet_step (fail))
    refine wpQuiet_nil ?_
    refine seqV_lay (fun g => .pointer (some ⟨g, 0, none⟩)) 42 (routeCs rdZ nl nl) rfl rfl (fun s => by go_simp <;> rfl) fun gb w7 hg7 hM7 k7 hb7 => ?_
    simp only [Act.put, List.setIfInBounds_toArray, List.set_cons_succ, List.set_cons_zero]
    have hB7 := hB6.trans (hb7.mono hB6.size)
    refine seqV_chg (Kp.ofBelow hB7) rfl rfl fun K hK => ?_
    refine gives_storeB rfl (routeCs (rdc k) (.slice B1 1 d1) (.slice B2 k.length d2)) rfl rfl k7 rfl Try.infoRoutes routeCs_one ?_
    obtain ⟨M, hM⟩ : ∃ M, M = fun b => mineV (fun _ => False) w5 w6 b ∨ b = gb := ⟨_, rfl⟩
    have nk : ¬ keepB w3 (fun _ => False) M gb := by rw [hM]; exact keep_not hg7 (.inr rfl)
    rw [← hM] at hK
    have hkp := Kp.setCells (ok := keepB w3 (fun _ => False) M) (a := w7) (b := gb) (fun _ => nk) (routeCs (rdc k) (.slice B1 1 d1) (.slice B2 k.length d2)).toList 0 (Kp.refl _ _)
    refine hK _ _ (hkp) fun hK8 => ?_
    clear hK
    clear K
    simp only [Act.put, List.setIfInBounds_toArray, List.set_cons_succ, List.set_cons_zero]
    refine seqV_pre 1 (by kernel_rfl) ?_
    simp only [List.take_succ_cons, List.take_zero, List.drop_succ_cons, List.drop_zero]
    repeat (go_big_quiet_step (fail))
    refine wpQuiet_nil ?_
    refine seqV_nil ?_
    have kb8 := k7.setCells (routeCs (rdc k) (.slice B1 1 d1) (.slice B2 k.length d2)) rfl
    have hB8 := hB3.trans (hK8.toBelow.mono hB3.size)
    have k48 := k43.below hK8.toBelow k43.lt
    have kg8 := kg3.below hK8.toBelow kg3.lt
    have hzb : w.heap.size + 2 ≤ gb := by have := k43.lt; omega
    have hMy : ∀ b, (w5.heap.size ≤ b ∧ b < w6.heap.size) → b ≠ gb := fun b h e => hM7 (.inr (by subst e; exact h))
    have hr8 := ((hr'.mono (ok' := fun b => w5.heap.size ≤ b ∧ b < w6.heap.size) fun b h1 h2 => ⟨h1, h2⟩).below hb7).kp ((Kp.setCells (ok := fun b => b ≠ gb) (a := w7) (b := gb) (fun _ h => h rfl) (routeCs (rdc k) (.slice B1 1 d1) (.slice B2 k.length d2)).toList 0 (Kp.refl _ _)).mono hMy)
    have hr9 := hr8.mono (ok' := fun b => w.heap.size + 2 ≤ b) fun b h _ => by have := hB5.size; omega
    clear l1 l2 l3 l4 l5 m3 m7 hkp nk hM hM7 hr8 hMy
    generalize hwr : World.setCells w7 gb 0 (routeCs (rdc k) (.slice B1 1 d1) (.slice B2 k.length d2)).toList = w7s at hB8 kb8 k48 kg8 hr9 hK8 ⊢
    clear hwr
    go_upto_region 34 with fail
    refine name_world (fun w8 => Below w.heap.size w w8 ∧ Blk w8 gb 42 (routeCs (rdc k) (.slice B1 1 d1) (.slice B2 k.length d2)) ∧ Blk w8 (w.heap.size + 1) 70 (repCs 0 nl) ∧ Blk w8 g 95 (rtCs all rd0 (.slice A 1 cc) (.slice A2 0 cc2) sp) ∧ RouteR (fun b => w.heap.size + 2 ≤ b) w8 (.slice B1 1 d1) (.slice B2 k.length d2) (rdc k)) ⟨hB8, kb8, k48, kg8, hr9⟩ ?_
    clear hB8 kb8 k48 kg8 hr9 hK8 hB7 hb7 k7 hB6 hb6 hB5 hb5 hb4 kg3 k43 k13 hB3
    rintro w8 ⟨hB8, kb8, k48, kg8, hr9⟩
    obtain ⟨x0, x1, x2, x3, x4⟩ := route_cells kb8
    obtain ⟨y1, y2, y3, y4, y5, y6⟩ := rt_cells kg8
    have fg := fun i => kg8.frozen i
    have hgg : gb ≠ g := by omega
    have hkg : Kp (fun b => b ≠ g) w8 (((((w8.setCell ⟨g, 1, none⟩ (.int .i64 (rdc k).e)).setCell ⟨g, 2, none⟩ (.int .i64 (rdc k).b)).setCell ⟨g, 3, none⟩ (.slice B1 1 d1)).setCell ⟨g, 4, none⟩ (.int .i64 (rdc k).m)).setCell ⟨g, 5, none⟩ (.slice B2 k.length d2)) :=
      (((((Kp.refl _ _).setCell (fun _ h => h rfl) _).setCell (fun _ h => h rfl) _).setCell (fun _ h => h rfl) _).setCell (fun _ h => h rfl) _).setCell (fun _ h => h rfl) _
    have kg9 := ((((kg8.set_ 1 (.int .i64 (rdc k).e)).set_ 2 (.int .i64 (rdc k).b)).set_ 3 (.slice B1 1 d1)).set_ 4 (.int .i64 (rdc k).m)).set_ 5 (.slice B2 k.length d2)
    have kb9 := kb8.kp hkg hgg
    have k49 := k48.kp hkg (show w.heap.size + 1 ≠ g by omega)
    have hr10 := hr9.kp (hkg.mono fun b h => by intro e; omega)
    have hK9 := (Kp.of_below hB8 (ok := fun b => b ≠ g)).trans hkg
    go_upto_region 35 with fail
    refine name_world (fun w9 => Kp (fun b => b ≠ g) w w9 ∧ Blk w9 gb 42 (routeCs (rdc k) (.slice B1 1 d1) (.slice B2 k.length d2)) ∧ Blk w9 (w.heap.size + 1) 70 (repCs 0 nl) ∧ Blk w9 g 95 (rtCs all (rdc k) (.slice B1 1 d1) (.slice B2 k.length d2) sp) ∧ RouteR (fun b => w.heap.size + 2 ≤ b) w9 (.slice B1 1 d1) (.slice B2 k.length d2) (rdc k)) ⟨hK9, kb9, k49, by simpa [rtCs] using kg9, hr10⟩ ?_
    clear hK9 kb9 k49 kg9 hr10 hkg x0 x1 x2 x3 x4 y1 y2 y3 y4 y5 y6 fg
    rintro w9 ⟨hK9, kb9, k49, kg9, hr10⟩
    obtain ⟨x0, x1, x2, x3, x4⟩ := route_cells kb9
    refine wp_region_split 3 ?_
    simp only [List.take_succ_cons, List.take_zero, List.drop_succ_cons, List.drop_zero]
    go_wp2
    show wpList _ _ _ _ _ _
    refine wpList_storeB rfl rfl (repRt 0 3 (rdc k) (.slice B1 1 d1) (.slice B2 k.length d2)) rfl rfl k49 rfl Try.infoRep (repRt_one rfl rfl) ?_
    intro k4r
    have lv := Blk.loadVar k4r Try.underlying70 rfl Try.infoRep
    have hKr := Kp.setCells (ok := fun b => b ≠ g) (a := w) (b := w.heap.size + 1) (fun h => by omega) (repRt 0 3 (rdc k) (.slice B1 1 d1) (.slice B2 k.length d2)).toList 0 hK9
    have hKz := Kp.setCells (ok := fun b => b ≠ w.heap.size + 1) (a := w9) (b := w.heap.size + 1) (fun _ h => h rfl) (repRt 0 3 (rdc k) (.slice B1 1 d1) (.slice B2 k.length d2)).toList 0 (Kp.refl _ _)
    generalize hwr : World.setCells w9 (w.heap.size + 1) 0 (repRt 0 3 (rdc k) (.slice B1 1 d1) (.slice B2 k.length d2)).toList = wr at k4r lv hKr hKz ⊢
    clear hwr x0 x1 x2 x3 x4
    have kgz := kg9.kp hKz (show g ≠ w.heap.size + 1 by omega)
    have hrz := hr10.kp (hKz.mono fun b h => by intro e; omega)
    go_wp2
    refine bodyPost_ret (v := .agg (repRt 0 3 (rdc k) (.slice B1 1 d1) (.slice B2 k.length d2))) ?_ rfl ?_
    · simp [results, Try.results38, Act.put, Sem.run_bind, Sem.run_pure, asAddr_ok, lv]
    · unfold RtPost
      rw [HE.out]
      exact ⟨⟨_, rfl, rfl, fun _ => by kernel_rfl⟩, hKr, fun _ => ⟨_, _, _, kgz, hrz.mono fun b h _ => ⟨by omega, by omega⟩⟩⟩
  · have HE : Hid (routeE sp k = 1) := by
      have : routeE sp k = 1 := by rw [HS.out, hE]
      exact Lib.hid this
    clear hE
    refine ⟨_, rfl, hK _ _ (hb6) fun hB6 => ?_⟩
    clear hK
    clear K
    simp only [Act.put, List.setIfInBounds_toArray, List.set_cons_succ, List.set_cons_zero]
    refine seqV_pre 3 (by kernel_rfl) ?_
    simp only [List.take_succ_cons, List.take_zero, List.drop_succ_cons, List.drop_zero]
    repeat (go_big_quiet_step (fail))
    refine wpQuiet_nil ?_
    refine seqV_lay (fun g => .pointer (some ⟨g, 0, none⟩)) 42 (routeCs rdZ nl nl) rfl rfl (fun s => by go_simp <;> rfl) fun gb w7 hg7 hM7 k7 hb7 => ?_
    simp only [Act.put, List.setIfInBounds_toArray, List.set_cons_succ, List.set_cons_zero]
    have hB7 := hB6.trans (hb7.mono hB6.size)
    refine seqV_chg (Kp.ofBelow hB7) rfl rfl fun K hK => ?_
    refine gives_storeB rfl (routeCs rd0 (.slice A 1 cc) (.slice A2 0 cc2)) rfl rfl k7 rfl Try.infoRoutes routeCs_one ?_
    obtain ⟨M, hM⟩ : ∃ M, M = fun b => mineV (fun _ => False) w5 w6 b ∨ b = gb := ⟨_, rfl⟩
    have nk : ¬ keepB w3 (fun _ => False) M gb := by rw [hM]; exact keep_not hg7 (.inr rfl)
    rw [← hM] at hK
    have hkp := Kp.setCells (ok := keepB w3 (fun _ => False) M) (a := w7) (b := gb) (fun _ => nk) (routeCs rd0 (.slice A 1 cc) (.slice A2 0 cc2)).toList 0 (Kp.refl _ _)
    refine hK _ _ (hkp) fun hK8 => ?_
    clear hK
    clear K
    simp only [Act.put, List.setIfInBounds_toArray, List.set_cons_succ, List.set_cons_zero]
    refine seqV_pre 1 (by kernel_rfl) ?_
    simp only [List.take_succ_cons, List.take_zero, List.drop_succ_cons, List.drop_zero]
    repeat (go_big_quiet_step (fail))
    refine wpQuiet_nil ?_
    refine seqV_nil ?_
    have kb8 := k7.setCells (routeCs rd0 (.slice A 1 cc) (.slice A2 0 cc2)) rfl
    have hB8 := hB3.trans (hK8.toBelow.mono hB3.size)
    have k48 := k43.below hK8.toBelow k43.lt
    have kg8 := kg3.below hK8.toBelow kg3.lt
    have hzb : w.heap.size + 2 ≤ gb := by have := k43.lt; omega
    clear l1 l2 l3 l4 l5 m3 m7 hkp nk hM hM7
    generalize hwr : World.setCells w7 gb 0 (routeCs rd0 (.slice A 1 cc) (.slice A2 0 cc2)).toList = w7s at hB8 kb8 k48 kg8 hK8 ⊢
    clear hwr
    go_upto_region 33 with fail
    refine name_world (fun w8 => Below w.heap.size w w8 ∧ Blk w8 (w.heap.size + 1) 70 (repCs 0 nl)) ⟨hB8, k48⟩ ?_
    rintro w8 ⟨hB9, k49⟩
    refine wp_region_split 2 ?_
    simp only [List.take_succ_cons, List.take_zero, List.drop_succ_cons, List.drop_zero]
    go_wp2
    show wpList _ _ _ _ _ _
    refine wpList_storeB rfl rfl (repCs 1 nl) rfl rfl k49 rfl Try.infoRep (repCs_one rfl) ?_
    intro k4r
    have lv := Blk.loadVar k4r Try.underlying70 rfl Try.infoRep
    have hBr := below_setCells (B := w.heap.size) (a := w) (b := w.heap.size + 1) (by omega) (repCs 1 nl).toList 0 hB9
    generalize hwr : World.setCells w8 (w.heap.size + 1) 0 (repCs 1 nl).toList = wr at k4r lv hBr ⊢
    clear hwr
    go_wp2
    refine bodyPost_ret (v := .agg (repCs 1 nl)) ?_ rfl ?_
    · simp [results, Try.results38, Act.put, Sem.run_bind, Sem.run_pure, asAddr_ok, lv]
    · unfold RtPost
      rw [HE.out]
      exact ⟨⟨_, rfl, rfl, fun _ => by kernel_rfl⟩, Kp.of_below hBr, fun h => by cases h⟩
end Go.Proofs.Ytikkknaofiafhaa
