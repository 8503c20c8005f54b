/- Contract: (*Root).moved, as law 22 asks for it.
Contracts: (*Root).Run at RtMoved; ref14's Entry, Group. -/
import Derived.Test.YtikkknaofiafhaaM17
import Derived.Test.YtikkknaofiafhaaP12
namespace Go.Proofs.Ytikkknaofiafhaa
open Go.RowKit

def rdS : RouteD := ⟨2, 1, [⟨2, [120]⟩], 0, []⟩
def MvPost (g : Nat) (sp : Int) (d : RouteD) (ok : Nat → Prop) (w : World) (e : Ending) (w' : World) : Prop :=
  (∃ R, e = .returned (.agg R) ∧ R.all (·.oneCell') = true ∧ RepR (fun _ => False) w' R 0 []) ∧ Kp (fun b => b ≠ g) w w' ∧ RootR (fun b => ok b ∨ w.heap.size ≤ b) w' g d sp
theorem repRt_rep {w : World} {n : Int} {d : RouteD} {a c : Value} : RepR (fun _ => False) w (repRt 0 n d a c) 0 [] := ⟨rfl, rfl, nl, rfl, RSl.nil_ _ _ _⟩

set_option maxRecDepth 100000 in
set_option maxHeartbeats 12800000 in
theorem movedStop_any {ok : Nat → Prop} (g : Nat) (sp : Int) (k : List UInt8) (C : Array Value) (w : World) (hg : RootR ok w g (rdc k) sp) (hok : ∀ b, ok b → b ≠ g) (hC : C.size = 25) (c6 : C[6]? = some (.bool true)) :
    Calls Try.prog 102 #[.pointer (some ⟨g, 0, none⟩), .agg C] w (MvPost g sp rdS ok w) := by
  obtain ⟨all, a, c, hg, hr⟩ := hg
  obtain ⟨A, cc, rfl, hc, hbd⟩ := hr.s.form
  obtain ⟨A2, cc2, rfl, _, hbd2⟩ := hr.c.form
  simp only [show (rdc k).s.length = 1 from rfl, show (rdc k).c.length = k.length from rfl] at *
  have hgl := hg.lt
  go_enter Try.func102, Try.ntmps102
  go_upto_region 1 with fail
  refine name_world (fun w1 => Below w.heap.size w w1 ∧ w.heap.size + 2 ≤ w1.heap.size ∧ Blk w1 w.heap.size 60 C ∧ Blk w1 (w.heap.size + 1) 70 (repCs 0 nl))
    ⟨((Below.refl _ _).alloc (Nat.le_refl _) _).alloc (by simp) _, by simp, (Blk.new w _ _).alloc _, Blk.new_ (by simp)⟩ ?_
  rintro w1 ⟨hB1, hz1, k1, k4⟩
  have kg := hg.below hB1 hgl
  have q6 : w1.cell? ⟨w.heap.size, 6, none⟩ = some (.bool true) := (k1.cell 6).trans c6
  obtain ⟨y1, y2, y3, y4, y5, y6⟩ := rt_cells kg
  simp only [rdc] at y1 y2 y4
  have fg := fun i => kg.frozen i
  have hgne : w.heap.size ≠ g := by omega
  go_upto_region 6 with fail
  have hkg : Kp (fun b => b ≠ g) w1 (((w1.setCell ⟨g, 4, none⟩ (.int .i64 0)).setCell ⟨g, 5, none⟩ nl).setCell ⟨g, 1, none⟩ (.int .i64 2)) :=
    (((Kp.refl _ _).setCell (fun _ h => h rfl) _).setCell (fun _ h => h rfl) _).setCell (fun _ h => h rfl) _
  have kg2 := ((kg.set_ 4 (.int .i64 0)).set_ 5 nl).set_ 1 (.int .i64 2)
  refine name_world (fun w2 => Kp (fun b => b ≠ g) w1 w2 ∧ Blk w2 g 95 (rtCs all rdS (.slice A 1 cc) nl sp)) ⟨hkg, by simpa [rtCs, rdS, rdc] using kg2⟩ ?_
  clear hkg kg2 y1 y2 y3 y4 y5 y6 fg q6 kg
  rintro w2 ⟨hk2, kg2⟩
  have hK2 := (Kp.of_below hB1 (ok := fun b => b ≠ g)).trans hk2
  have k42 := k4.kp hk2 (show w.heap.size + 1 ≠ g by omega)
  have hr2 : RSl rOwner (fun b => ok b ∧ b < w.heap.size) w2 (.slice A 1 cc) rdS.s := ((hr.s.mono (ok' := fun b => ok b ∧ b < w.heap.size) (by decide) fun b h h2 => ⟨h, h2⟩).below hB1).kp (hk2.mono fun b h => hok b h.1)
  obtain ⟨y1, y2, y3, y4, y5, y6⟩ := rt_cells kg2
  simp only [rdS] at y1 y2 y4
  refine wp_region_split 5 ?_
  simp only [List.take_succ_cons, List.take_zero, List.drop_succ_cons, List.drop_zero]
  go_wp2
  show wpList _ _ _ _ _ _
  refine wpList_storeB rfl rfl (repRt 0 0 rdS (.slice A 1 cc) nl) rfl rfl k42 rfl Try.infoRep (repRt_one rfl rfl) ?_
  intro k4r
  have lv := Blk.loadVar k4r Try.underlying70 rfl Try.infoRep
  have hKr := Kp.setCells (ok := fun b => b ≠ g) (a := w) (b := w.heap.size + 1) (fun h => by omega) (repRt 0 0 rdS (.slice A 1 cc) nl).toList 0 hK2
  have hKz := Kp.setCells (ok := fun b => b ≠ w.heap.size + 1) (a := w2) (b := w.heap.size + 1) (fun _ h => h rfl) (repRt 0 0 rdS (.slice A 1 cc) nl).toList 0 (Kp.refl _ _)
  generalize hwr : World.setCells w2 (w.heap.size + 1) 0 (repRt 0 0 rdS (.slice A 1 cc) nl).toList = wr at k4r lv hKr hKz ⊢
  clear hwr y1 y2 y3 y4 y5 y6
  have kgz := kg2.kp hKz (show g ≠ w.heap.size + 1 by omega)
  have hrz := (hr2.kp (hKz.mono fun b h => by intro e; have := h.2; omega)).mono (ok' := fun b => ok b ∨ w.heap.size ≤ b) (by decide) fun b h _ => .inl h.1
  go_wp2
  refine bodyPost_ret (v := .agg (repRt 0 0 rdS (.slice A 1 cc) nl)) ?_ rfl ⟨⟨_, rfl, repRt_one rfl rfl, repRt_rep⟩, hKr, _, _, _, kgz, hrz, RSl.nil_ _ _ _, (show I64 2 from ⟨by decide, by decide⟩), (show I64 1 from ⟨by decide, by decide⟩), (show I64 0 from ⟨by decide, by decide⟩)⟩
  simp [results, Try.results102, Act.put, Sem.run_bind, Sem.run_pure, asAddr_ok, lv]

set_option maxRecDepth 100000 in
set_option maxHeartbeats 12800000 in
theorem movedOn_any {ok : Nat → Prop} (g : Nat) (sp : Int) (h2 : 2 ≤ sp) (h4 : sp ≤ 4) (k : List UInt8) (C : Array Value) (w : World) (hg : RootR ok w g (rdc k) sp) (hok : ∀ b, ok b → b ≠ g) (hC : C.size = 25) (c3 : C[3]? = some (.int .i64 3)) (c6 : C[6]? = some (.bool false)) :
    Calls Try.prog 102 #[.pointer (some ⟨g, 0, none⟩), .agg C] w (MvPost g sp (rdm k) ok w) := by
  obtain ⟨all, a, c, hg, hr⟩ := hg
  obtain ⟨A, cc, rfl, hc, hbd⟩ := hr.s.form
  obtain ⟨A2, cc2, rfl, _, hbd2⟩ := hr.c.form
  simp only [show (rdc k).s.length = 1 from rfl, show (rdc k).c.length = k.length from rfl] at *
  have hgl := hg.lt
  go_enter Try.func102, Try.ntmps102
  go_upto_region 1 with fail
  refine name_world (fun w1 => Below w.heap.size w w1 ∧ w.heap.size + 2 ≤ w1.heap.size ∧ Blk w1 w.heap.size 60 C ∧ Blk w1 (w.heap.size + 1) 70 (repCs 0 nl))
    ⟨((Below.refl _ _).alloc (Nat.le_refl _) _).alloc (by simp) _, by simp, (Blk.new w _ _).alloc _, Blk.new_ (by simp)⟩ ?_
  rintro w1 ⟨hB1, hz1, k1, k4⟩
  have kg := hg.below hB1 hgl
  have q6 : w1.cell? ⟨w.heap.size, 6, none⟩ = some (.bool false) := (k1.cell 6).trans c6
  go_upto_region 7 with fail
  clear q6
  obtain ⟨y1, y2, y3, y4, y5, y6⟩ := rt_cells kg
  simp only [rdc] at y1 y2 y4
  have l1 := Later.cell y1
  have l2 := Later.cell y2
  have l3 := Later.cell y3
  have l4 := Later.cell y4
  have l5 := Later.cell y5
  have l6 := Later.cell y6
  clear y1 y2 y3 y4 y5 y6
  refine wp_seqL [8] (by as_aux_lemma => kernel_rfl) (by as_aux_lemma => kernel_rfl) fun w2 hb2 => ?_
  refine seqL_pre 8 (by kernel_rfl) ?_
  simp only [List.take_succ_cons, List.take_zero, List.drop_succ_cons, List.drop_zero]
  repeat (go_big_quiet_step (fail))
  refine wpQuiet_nil ?_
  refine seqL_wild hb2 rfl rfl fun K hK => ?_
  unfold Gives
  go_simp
  refine (refNext_any (rdc k) _ _ sp _ ((hr.below hB1).below hb2) (show (0:Int) ≤ 1 ∧ (1:Int) ≤ 1000 from ⟨by decide, by decide⟩) ⟨by omega, by omega⟩).mono ?_
  rw [next_rdc k sp (by omega) h4, show n0 sp = 3 by unfold n0; rw [if_neg (by omega)]]
  rintro e w3 ⟨rfl, hb3⟩
  refine ⟨_, rfl, hK _ _ (hb3) fun hb3' => ?_⟩
  clear hK
  clear K
  simp only [Act.put, List.setIfInBounds_toArray, List.set_cons_succ, List.set_cons_zero]
  refine seqL_pre 1 (by kernel_rfl) ?_
  simp only [List.take_succ_cons, List.take_zero, List.drop_succ_cons, List.drop_zero]
  repeat (go_big_quiet_step (fail))
  refine wpQuiet_nil ?_
  refine seqL_nil ?_
  have hB3 := hB1.trans (hb3'.mono hB1.size)
  have k13 := k1.below hb3' k1.lt
  have k43 := k4.below hb3' k4.lt
  have kg3 := kg.below hb3' kg.lt
  clear l1 l2 l3 l4 l5 l6
  obtain ⟨y1, y2, y3, y4, y5, y6⟩ := rt_cells kg3
  simp only [rdc] at y1 y2 y4
  have l1 := cellF y1
  have l2 := cellF y2
  have l3 := cellF y3
  have l4 := cellF y4
  have l5 := cellF y5
  have q3 : w3.cell? ⟨w.heap.size, 3, none⟩ = some (.int .i64 3) := (k13.cell 3).trans c3
  have m3 := cellF q3
  clear y1 y2 y3 y4 y5 y6
  go_wp2
  refine wp_seqV (fun _ => False) 11 [6, 11] [10] (by as_aux_lemma => kernel_rfl) (by as_aux_lemma => kernel_rfl) fun w4 hb4 => ?_
  refine seqV_pre 6 (by kernel_rfl) ?_
  simp only [List.take_succ_cons, List.take_zero, List.drop_succ_cons, List.drop_zero]
  repeat (go_big_quiet_step (fail))
  refine wpQuiet_nil ?_
  refine seqV_new hb4 rfl rfl fun w5 hb5 hB5 K hK => ?_
  unfold Gives
  go_simp
  refine (moved_any _ _ k _ ((hr.below hB3).below hB5)).mono ?_
  have hz3 : w.heap.size + 2 ≤ w3.heap.size := k43.lt
  rintro e w6 ⟨⟨a', c', rfl, hr'⟩, hb6⟩
  obtain ⟨B1, d1, rfl, _, _⟩ := hr'.s.form
  obtain ⟨B2, d2, rfl, _, _⟩ := hr'.c.form
  simp only [show (rdm k).s.length = 2 from rfl, show (rdm k).c.length = 0 from rfl] at *
  refine ⟨_, rfl, hK _ _ (hb6) fun hB6 => ?_⟩
  clear hK
  clear K
  simp only [Act.put, List.setIfInBounds_toArray, List.set_cons_succ, List.set_cons_zero]
  refine seqV_pre 3 (by kernel_rfl) ?_
  simp only [List.take_succ_cons, List.take_zero, List.drop_succ_cons, List.drop_zero]
  repeat (go_big_quiet_step (fail))
  refine wpQuiet_nil ?_
  refine seqV_lay (fun g => .pointer (some ⟨g, 0, none⟩)) 42 (routeCs rdZ nl nl) rfl rfl (fun s => by go_simp <;> rfl) fun gb w7 hg7 hM7 k7 hb7 => ?_
  simp only [Act.put, List.setIfInBounds_toArray, List.set_cons_succ, List.set_cons_zero]
  have hB7 := hB6.trans (hb7.mono hB6.size)
  refine seqV_chg (Kp.ofBelow hB7) rfl rfl fun K hK => ?_
  refine gives_storeB rfl (routeCs (rdm k) (.slice B1 2 d1) (.slice B2 0 d2)) rfl rfl k7 rfl Try.infoRoutes routeCs_one ?_
  obtain ⟨M, hM⟩ : ∃ M, M = fun b => mineV (fun _ => False) w5 w6 b ∨ b = gb := ⟨_, rfl⟩
  have nk : ¬ keepB w3 (fun _ => False) M gb := by rw [hM]; exact keep_not hg7 (.inr rfl)
  rw [← hM] at hK
  have hkp := Kp.setCells (ok := keepB w3 (fun _ => False) M) (a := w7) (b := gb) (fun _ => nk) (routeCs (rdm k) (.slice B1 2 d1) (.slice B2 0 d2)).toList 0 (Kp.refl _ _)
  refine hK _ _ (hkp) fun hK8 => ?_
  clear hK
  clear K
  simp only [Act.put, List.setIfInBounds_toArray, List.set_cons_succ, List.set_cons_zero]
  refine seqV_pre 1 (by kernel_rfl) ?_
  simp only [List.take_succ_cons, List.take_zero, List.drop_succ_cons, List.drop_zero]
  repeat (go_big_quiet_step (fail))
  refine wpQuiet_nil ?_
  refine seqV_nil ?_
  have kb8 := k7.setCells (routeCs (rdm k) (.slice B1 2 d1) (.slice B2 0 d2)) rfl
  have hB8 := hB3.trans (hK8.toBelow.mono hB3.size)
  have k48 := k43.below hK8.toBelow k43.lt
  have kg8 := kg3.below hK8.toBelow kg3.lt
  have hzb : w.heap.size + 2 ≤ gb := by have := k43.lt; omega
  have hMy : ∀ b, (w5.heap.size ≤ b ∧ b < w6.heap.size) → b ≠ gb := fun b h e => hM7 (.inr (by subst e; exact h))
  have hr8 := ((hr'.mono (ok' := fun b => w5.heap.size ≤ b ∧ b < w6.heap.size) fun b h1 h2 => ⟨h1, h2⟩).below hb7).kp ((Kp.setCells (ok := fun b => b ≠ gb) (a := w7) (b := gb) (fun _ h => h rfl) (routeCs (rdm k) (.slice B1 2 d1) (.slice B2 0 d2)).toList 0 (Kp.refl _ _)).mono hMy)
  have hr9 := hr8.mono (ok' := fun b => w.heap.size + 2 ≤ b) fun b h _ => by have := hB5.size; omega
  clear l1 l2 l3 l4 l5 m3 q3 hkp nk hM hM7 hr8 hMy
  generalize hwr : World.setCells w7 gb 0 (routeCs (rdm k) (.slice B1 2 d1) (.slice B2 0 d2)).toList = w7s at hB8 kb8 k48 kg8 hr9 hK8 ⊢
  clear hwr
  go_upto_region 13 with fail
  refine name_world (fun w8 => Below w.heap.size w w8 ∧ Blk w8 gb 42 (routeCs (rdm k) (.slice B1 2 d1) (.slice B2 0 d2)) ∧ Blk w8 (w.heap.size + 1) 70 (repCs 0 nl) ∧ Blk w8 g 95 (rtCs all (rdc k) (.slice A 1 cc) (.slice A2 k.length cc2) sp) ∧ RouteR (fun b => w.heap.size + 2 ≤ b) w8 (.slice B1 2 d1) (.slice B2 0 d2) (rdm k)) ⟨hB8, kb8, k48, kg8, hr9⟩ ?_
  clear hB8 kb8 k48 kg8 hr9 hK8 hB7 hb7 k7 hB6 hb6 hB5 hb5 hb4 kg3 k43 k13 hB3
  rintro w8 ⟨hB8, kb8, k48, kg8, hr9⟩
  obtain ⟨x0, x1, x2, x3, x4⟩ := route_cells kb8
  obtain ⟨y1, y2, y3, y4, y5, y6⟩ := rt_cells kg8
  have fg := fun i => kg8.frozen i
  have hgg : gb ≠ g := by omega
  have hkg : Kp (fun b => b ≠ g) w8 (((((w8.setCell ⟨g, 1, none⟩ (.int .i64 (rdm k).e)).setCell ⟨g, 2, none⟩ (.int .i64 (rdm k).b)).setCell ⟨g, 3, none⟩ (.slice B1 2 d1)).setCell ⟨g, 4, none⟩ (.int .i64 (rdm k).m)).setCell ⟨g, 5, none⟩ (.slice B2 0 d2)) :=
    (((((Kp.refl _ _).setCell (fun _ h => h rfl) _).setCell (fun _ h => h rfl) _).setCell (fun _ h => h rfl) _).setCell (fun _ h => h rfl) _).setCell (fun _ h => h rfl) _
  have kg9 := ((((kg8.set_ 1 (.int .i64 (rdm k).e)).set_ 2 (.int .i64 (rdm k).b)).set_ 3 (.slice B1 2 d1)).set_ 4 (.int .i64 (rdm k).m)).set_ 5 (.slice B2 0 d2)
  have kb9 := kb8.kp hkg hgg
  have k49 := k48.kp hkg (show w.heap.size + 1 ≠ g by omega)
  have hr10 := hr9.kp (hkg.mono fun b h => by intro e; omega)
  have hK9 := (Kp.of_below hB8 (ok := fun b => b ≠ g)).trans hkg
  go_upto_region 14 with fail
  refine name_world (fun w9 => Kp (fun b => b ≠ g) w w9 ∧ Blk w9 gb 42 (routeCs (rdm k) (.slice B1 2 d1) (.slice B2 0 d2)) ∧ Blk w9 (w.heap.size + 1) 70 (repCs 0 nl) ∧ Blk w9 g 95 (rtCs all (rdm k) (.slice B1 2 d1) (.slice B2 0 d2) sp) ∧ RouteR (fun b => w.heap.size + 2 ≤ b) w9 (.slice B1 2 d1) (.slice B2 0 d2) (rdm k)) ⟨hK9, kb9, k49, by simpa [rtCs] using kg9, hr10⟩ ?_
  clear hK9 kb9 k49 kg9 hr10 hkg x0 x1 x2 x3 x4 y1 y2 y3 y4 y5 y6 fg
  rintro w9 ⟨hK9, kb9, k49, kg9, hr10⟩
  obtain ⟨x0, x1, x2, x3, x4⟩ := route_cells kb9
  refine wp_region_split 2 ?_
  simp only [List.take_succ_cons, List.take_zero, List.drop_succ_cons, List.drop_zero]
  go_wp2
  show wpList _ _ _ _ _ _
  refine wpList_storeB rfl rfl (repRt 0 0 (rdm k) (.slice B1 2 d1) (.slice B2 0 d2)) rfl rfl k49 rfl Try.infoRep (repRt_one rfl rfl) ?_
  intro k4r
  clear x0 x1 x2 x3 x4
  have lv := Blk.loadVar k4r Try.underlying70 rfl Try.infoRep
  have hKr := Kp.setCells (ok := fun b => b ≠ g) (a := w) (b := w.heap.size + 1) (fun h => by omega) (repRt 0 0 (rdm k) (.slice B1 2 d1) (.slice B2 0 d2)).toList 0 hK9
  have hKz := Kp.setCells (ok := fun b => b ≠ w.heap.size + 1) (a := w9) (b := w.heap.size + 1) (fun _ h => h rfl) (repRt 0 0 (rdm k) (.slice B1 2 d1) (.slice B2 0 d2)).toList 0 (Kp.refl _ _)
  generalize hwr : World.setCells w9 (w.heap.size + 1) 0 (repRt 0 0 (rdm k) (.slice B1 2 d1) (.slice B2 0 d2)).toList = wr at k4r lv hKr hKz ⊢
  clear hwr
  have kgz := kg9.kp hKz (show g ≠ w.heap.size + 1 by omega)
  have hrz := (hr10.kp (hKz.mono fun b h => by intro e; omega)).mono (ok' := fun b => ok b ∨ w.heap.size ≤ b) fun b h _ => .inr (by omega)
  go_wp2
  refine bodyPost_ret (v := .agg (repRt 0 0 (rdm k) (.slice B1 2 d1) (.slice B2 0 d2))) ?_ rfl ⟨⟨_, rfl, repRt_one rfl rfl, repRt_rep⟩, hKr, _, _, _, kgz, hrz⟩
  simp [results, Try.results102, Act.put, Sem.run_bind, Sem.run_pure, asAddr_ok, lv]
end Go.Proofs.Ytikkknaofiafhaa

namespace Go.Proofs.Ytikkknaofiafhaa
open Go.RowKit

set_option maxRecDepth 100000 in
set_option maxHeartbeats 12800000 in
theorem runMoved_any {ok : Nat → Prop} (g : Nat) (sp : Int) (d : RouteD) (C : Array Value) (w : World) (hgl : g < w.heap.size) (hcall : ∀ w1, Below w.heap.size w w1 → Calls Try.prog 102 #[.pointer (some ⟨g, 0, none⟩), .agg C] w1 (MvPost g sp d (fun b => ok b ∧ b < w.heap.size) w1)) (hC : C.size = 25) (c0 : C[0]? = some (.int .i64 19)) :
    Calls Try.prog 38 #[.pointer (some ⟨g, 0, none⟩), .agg C] w (MvPost g sp d ok w) := by
  have HC := Lib.hid hcall
  clear hcall
  go_enter Try.func38, Try.ntmps38
  go_upto_region 1 with fail
  refine name_world (fun w1 => Below w.heap.size w w1 ∧ w.heap.size + 2 ≤ w1.heap.size ∧ Blk w1 w.heap.size 60 C ∧ Blk w1 (w.heap.size + 1) 70 (repCs 0 nl))
    ⟨((Below.refl _ _).alloc (Nat.le_refl _) _).alloc (by simp) _, by simp, (Blk.new w _ _).alloc _, Blk.new_ (by simp)⟩ ?_
  rintro w1 ⟨hB1, hz1, k1, k4⟩
  have q0 : w1.cell? ⟨w.heap.size, 0, none⟩ = some (.int .i64 19) := (k1.cell 0).trans c0
  go_upto_region 37 with fail
  clear q0
  refine wp_region_split 1 ?_
  simp only [List.take_succ_cons, List.take_zero, List.drop_succ_cons, List.drop_zero]
  go_wp2
  show wpList _ _ _ _ _ _
  refine wpList_loadG rfl rfl rfl k1 Try.underlying60 rfl (by rw [hC]; exact Try.infoCmd) ?_
  simp only [Act.put, List.setIfInBounds_toArray, List.set_cons_succ, List.set_cons_zero]
  refine wpList_split 1 ?_
  simp only [List.take_succ_cons, List.take_zero, List.drop_succ_cons, List.drop_zero]
  go_wp2_with fail
  refine (HC.out _ hB1).mono ?_
  rintro e w2 ⟨⟨R, rfl, hR1, hR⟩, hk2, hroot⟩
  have k4r := k4.kp hk2 (show w.heap.size + 1 ≠ g by omega)
  have hz2 := Nat.le_trans hz1 hk2.size
  have hK2 := (Kp.of_below hB1 (ok := fun b => b ≠ g)).trans hk2
  go_wp2
  show wpList _ _ _ _ _ _
  refine wpList_storeB rfl rfl R rfl rfl k4r (by rw [hR.size]; rfl) (by rw [hR.size]; exact Try.infoRep) hR1 ?_
  intro k4s
  have lv := Blk.loadVar k4s Try.underlying70 rfl (by rw [hR.size]; exact Try.infoRep)
  have hKr := Kp.setCells (ok := fun b => b ≠ g) (a := w) (b := w.heap.size + 1) (fun h => by omega) R.toList 0 hK2
  have hKz := Kp.setCells (ok := fun b => b ≠ w.heap.size + 1) (a := w2) (b := w.heap.size + 1) (fun _ h => h rfl) R.toList 0 (Kp.refl _ _)
  generalize hwr : World.setCells w2 (w.heap.size + 1) 0 R.toList = wz at k4s lv hKr hKz ⊢
  clear hwr
  have hrz := ((hroot.mono (ok2 := fun b => (ok b ∧ b < w.heap.size) ∨ w.heap.size + 2 ≤ b) fun b h _ => h.elim .inl fun h => .inr (Nat.le_trans hz1 h)).kp hKz (show g ≠ w.heap.size + 1 by omega) fun b h => by intro e; exact h.elim (fun h => by have := h.2; omega) fun h => by omega).mono (ok2 := fun b => ok b ∨ w.heap.size ≤ b) fun b h _ => h.elim (fun h => .inl h.1) fun h => .inr (by omega)
  go_wp2
  refine bodyPost_ret (v := .agg R) ?_ rfl ⟨⟨_, rfl, hR1, ⟨hR.size, hR.err, hR.ps.imp fun v h => ⟨h.1, h.2.kp (hKz.mono fun b h => h.elim)⟩⟩⟩, hKr, hrz⟩
  simp [results, Try.results38, Act.put, Sem.run_bind, Sem.run_pure, asAddr_ok, lv]

/-! ### groups -/
def leB (f k : List UInt8) : Bool := Op.bytesLess f k || f == k
def entryG (key : List UInt8) : List OwnerD → Int → Int
  | [], g => g
  | o :: l, g => entryG key l (if leB o.f key = true then o.g else g)
theorem entryG_app (key : List UInt8) : ∀ (l : List OwnerD) (o : OwnerD) (g : Int), entryG key (l ++ [o]) g = if leB o.f key = true then o.g else entryG key l g
  | [], o, g => rfl
  | p :: l, o, g => entryG_app key l o _
theorem within_120 {k : List UInt8} (h : withinB [120] [121] k = true) : ∃ r, k = 120 :: r := by
  unfold withinB at h
  cases k with
  | nil => simp [Op.bytesLess] at h
  | cons b r =>
    simp only [bl_cons, Bool.and_eq_true, Bool.not_eq_true', Bool.or_eq_false_iff, decide_eq_false_iff_not, bl_nil_r, Bool.and_false, Bool.or_false, List.isEmpty_cons, Bool.false_or, decide_eq_true_eq] at h
    obtain ⟨h1, h2⟩ := h
    refine ⟨r, ?_⟩
    have h3 : b = 120 := by
      have a1 : ¬ b.toNat < 120 := fun hh => h1 (UInt8.lt_iff_toNat_lt.2 hh)
      have a2 : b.toNat < 121 := UInt8.lt_iff_toNat_lt.1 h2
      exact UInt8.toNat_inj.1 (by show b.toNat = 120; omega)
    rw [h3]

set_option maxRecDepth 100000 in
set_option maxHeartbeats 6400000 in
theorem entry_any' {ok ok2 : Nat → Prop} (d : RouteD) (a c kv : Value) (key : List UInt8) (w : World) (hr : RouteR ok w a c d) (h0 : 0 < d.s.length) (hk : RB ok2 w kv key) :
    Calls Try.prog 104 #[.agg (routeCs d a c), kv] w fun e w' => e = .returned (.int .i64 (entryG key d.s (d.s[0]'h0).g)) ∧ Below w.heap.size w w' := by
  obtain ⟨A, cc, rfl, hc, hbd⟩ := hr.s.form
  obtain ⟨A2, cc2, rfl, _, hbd2⟩ := hr.c.form
  obtain ⟨A3, c3, rfl, _, _⟩ := hk.form
  have hbd' : d.s.length * 32 ≤ 140737488351232 := hbd
  obtain ⟨g0, hg0⟩ : ∃ g, g = (d.s[0]'h0).g := ⟨_, rfl⟩
  have HG0 := Lib.hid hg0
  rw [← hg0]
  clear hg0
  go_enter Try.func104, Try.ntmps104
  go_upto_region 1 with fail
  refine name_world (fun w1 => Below w.heap.size w w1 ∧ Blk w1 w.heap.size 42 (routeCs d (.slice A d.s.length cc) (.slice A2 d.c.length cc2))) ⟨(Below.refl _ _).alloc (Nat.le_refl _) _, Blk.new _ _ _⟩ ?_
  rintro w1 ⟨hB1, k1⟩
  obtain ⟨r0, r1, r2, r3, r4⟩ := route_cells k1
  obtain ⟨b1, off1, c1', cs1, hv1, _, ⟨a1, rfl, ha1, hg64⟩, hcell1⟩ := ((hr.below hB1).s).at_ (i := 0) h0
  simp only [Value.slice.injEq, true_and] at hv1
  obtain ⟨rfl, rfl⟩ := hv1
  have q0 := hcell1 0 _ rfl
  simp only [Nat.add_zero, Nat.zero_mul] at q0
  clear hcell1
  rw [← HG0.out] at q0
  clear hg64 ha1
  go_wp2
  go_loopw [5, 6] (fun gv j wr => ∃ (i : Nat) (gi : Int), i ≤ d.s.length ∧ gv = .int .i64 gi ∧ j = .int .i64 (i : Int) ∧ Below w1.heap.size w1 wr ∧ gi = entryG key (d.s.take i) g0) (fun _ j _ => d.s.length - (intOf j).toNat)
  case atStart => exact ⟨0, g0, by omega, rfl, rfl, Below.refl _ _, rfl⟩
  case round =>
    obtain ⟨i, gi, hi, rfl, rfl, hb, hgi⟩ := hrel
    have HG := Lib.hid hgi
    clear hgi
    have kr := k1.below hb k1.lt
    clear r0 r1 r2 r3 r4
    obtain ⟨r0, r1, r2, r3, r4⟩ := route_cells kr
    by_cases hlt : i < d.s.length
    · obtain ⟨b2, off2, c2', cs2, hv2, _, ⟨a2, rfl, ha2, hg64⟩, hcell2⟩ := (((hr.below hB1).below hb).s).at_ hlt
      simp only [Value.slice.injEq, Option.some.injEq, Addr.mk.injEq, true_and, and_true] at hv2
      obtain ⟨⟨rfl, rfl⟩, rfl⟩ := hv2
      have x0 := hcell2 0 _ rfl
      have x1 := hcell2 1 _ rfl
      simp only [Nat.add_zero, show rOwner.sz = 2 from rfl] at x0 x1
      clear hcell2
      obtain ⟨B1, d1, rfl, _, _⟩ := ha2.form
      have HT : Hid (entryG key (d.s.take (i + 1)) g0 = if leB d.s[i].f key = true then d.s[i].g else gi) := by
        have : entryG key (d.s.take (i + 1)) g0 = if leB d.s[i].f key = true then d.s[i].g else gi := by
          rw [List.take_succ_eq_append_getElem hlt, entryG_app, HG.out]
        exact Lib.hid this
      obtain ⟨o, ho⟩ : ∃ o, o = d.s[i] := ⟨_, rfl⟩
      rw [← ho] at x0 x1 ha2 HT
      clear ho hg64
      have v1 : ∀ s : Later wr, (convert 27 9 (.slice B1 o.f.length d1)).run Try.prog s.val = .ok (.string (str o.f)) s.val := fun s => rb_str (ha2.below s.below)
      have v2 : ∀ s : Later wr, (convert 27 9 (.slice A3 key.length c3)).run Try.prog s.val = .ok (.string (str key)) s.val := fun s => rb_str (hk.below (hB1.trans ((hb.trans (s.below.mono hb.size)).mono hB1.size)))
      have l2 := Later.cell r2
      have l1 := Later.cell x1
      cases hL : leB o.f key
      case true =>
        have HL := Lib.hid hL
        have t1 : (Op.bytesLess (str o.f).toList (str key).toList || (str o.f).toList == (str key).toList) = true := by rw [str_toList, str_toList]; exact hL
        clear hL
        go_wp2
        refine wp_seqL [] (by as_aux_lemma => kernel_rfl) (by as_aux_lemma => kernel_rfl) fun wx hbx => ?_
        refine seqL_pre 10 (by kernel_rfl) ?_
        simp only [List.take_succ_cons, List.take_zero, List.drop_succ_cons, List.drop_zero]
        repeat (go_big_quiet_step (fail))
        refine wpQuiet_nil ?_
        refine seqL_nil ?_
        have x0' := (hbx.cell (p := ⟨b1, off1 + i * 2, none⟩) (World.block_lt_of_cell? _ _ x0)).trans x0
        have krx := kr.below hbx kr.lt
        clear r0 r1 r2 r3 r4 l1 l2 v1 v2 t1 x0 x1
        obtain ⟨r0, r1, r2, r3, r4⟩ := route_cells krx
        go_wp2
        go_roundw
        case rel => exact ⟨i + 1, o.g, by omega, rfl, by go_num, hb.trans (hbx.mono hb.size), by rw [HT.out, HL.out, if_pos rfl]⟩
        case measure => simp [intOf]; omega
      have HL := Lib.hid hL
      have t1 : (Op.bytesLess (str o.f).toList (str key).toList || (str o.f).toList == (str key).toList) = false := by rw [str_toList, str_toList]; exact hL
      have t2 : Op.bytesLess (str o.f).toList (str key).toList = false := (Bool.or_eq_false_iff.1 t1).1
      have t3 : ((str o.f).toList == (str key).toList) = false := (Bool.or_eq_false_iff.1 t1).2
      clear hL t1
      go_wp2
      refine wp_seqL [] (by as_aux_lemma => kernel_rfl) (by as_aux_lemma => kernel_rfl) fun wx hbx => ?_
      refine seqL_pre 10 (by kernel_rfl) ?_
      simp only [List.take_succ_cons, List.take_zero, List.drop_succ_cons, List.drop_zero]
      repeat (go_big_quiet_step (fail))
      refine wpQuiet_nil ?_
      refine seqL_nil ?_
      have krx := kr.below hbx kr.lt
      clear r0 r1 r2 r3 r4 l1 l2 v1 v2 t2 t3 x0 x1
      obtain ⟨r0, r1, r2, r3, r4⟩ := route_cells krx
      go_wp2
      go_roundw
      case rel => exact ⟨i + 1, gi, by omega, rfl, by go_num, hb.trans (hbx.mono hb.size), by rw [HT.out, HL.out, if_neg (by decide)]⟩
      case measure => simp [intOf]; omega
    · rw [List.take_of_length_le (by omega)] at HG
      have HR := HG.out
      clear HG
      have HG := Lib.hid HR
      clear HR
      go_wp2
      go_ret
      exact ⟨by rw [← HG.out]; rfl, hB1.trans (hb.mono hB1.size)⟩

set_option maxRecDepth 100000 in
set_option maxHeartbeats 6400000 in
theorem group_any {ok ok2 : Nat → Prop} (d : RouteD) (a c kv : Value) (key : List UInt8) (w : World) (hr : RouteR ok w a c d) (h0 : 0 < d.s.length) (hk : RB ok2 w kv key) (h120 : ∃ r, key = 120 :: r) :
    Calls Try.prog 39 #[.agg (routeCs d a c), kv] w fun e w' => e = .returned (.int .i64 (entryG key d.s (d.s[0]'h0).g)) ∧ Below w.heap.size w w' := by
  obtain ⟨A, cc, rfl, hc, hbd⟩ := hr.s.form
  obtain ⟨A2, cc2, rfl, _, hbd2⟩ := hr.c.form
  obtain ⟨r, rfl⟩ := h120
  obtain ⟨A3, c3, rfl, hc3, _, hrd, _⟩ := hk.open_
  obtain ⟨b1, off1, u, rfl, hu, hcell⟩ := hrd.at1 (k := 0) (by simp)
  have hu2 : u = .int .u8 120 := by
    have : (bs (120 :: r))[0]? = some (.int .u8 120) := rfl
    rw [this] at hu
    cases hu; rfl
  subst hu2
  clear hu
  have HE := Lib.hid (entry_any' d _ _ _ (120 :: r) (w.alloc (.cells (routeCs d (.slice A d.s.length cc) (.slice A2 d.c.length cc2)) 42)) (hr.below ((Below.refl _ _).alloc (Nat.le_refl _) _)) h0 (hk.below ((Below.refl _ _).alloc (Nat.le_refl _) _)))
  obtain ⟨E, hE⟩ : ∃ E, E = entryG (120 :: r) d.s (d.s[0]'h0).g := ⟨_, rfl⟩
  rw [← hE] at HE ⊢
  clear hE
  simp only [Nat.add_zero] at hcell
  obtain ⟨n, hn⟩ : ∃ n, n = (120 :: r).length := ⟨_, rfl⟩
  have hn0 : 0 < n := by rw [hn]; simp
  rw [← hn] at HE ⊢
  clear hn hrd hk
  go_enter Try.func39, Try.ntmps39
  have k1 := Blk.new w 42 (routeCs d (.slice A d.s.length cc) (.slice A2 d.c.length cc2))
  have hal : Below w.heap.size w (w.alloc (.cells (routeCs d (.slice A d.s.length cc) (.slice A2 d.c.length cc2)) 42)) := (Below.refl _ _).alloc (Nat.le_refl _) _
  obtain ⟨r0, r1, r2, r3, r4⟩ := route_cells k1
  have q := alloc1 hcell (.cells (routeCs d (.slice A d.s.length cc) (.slice A2 d.c.length cc2)) 42)
  have p1 : decide ((0 : Int) < (n : Int)) = true := decide_eq_true (by omega)
  go_wp2_with fail
  refine (HE.out).mono ?_
  rintro e w2 ⟨rfl, hb2⟩
  go_wp2
  go_ret
  exact ⟨rfl, hal.trans (hb2.mono hal.size)⟩
end Go.Proofs.Ytikkknaofiafhaa
