/- Contract: the document's copied. -/
import Derived.Test.YtikkknaofiafhaaS4
namespace Go.Proofs.Ytikkknaofiafhaa
open Go.RowKit

theorem Try.rowOwner : RowTy Try.prog 40 104 2 32 := rowTy_mk Try.underlying40 (by kernel_rfl)
theorem routeCs_one {d : RouteD} {A A2 : Option Addr} {n c n2 c2 : Nat} : (routeCs d (.slice A n c) (.slice A2 n2 c2)).all (·.oneCell') = true := by simp [routeCs, Value.oneCell']
theorem route_set2 (d : RouteD) (a c v : Value) : (routeCs d a c).setIfInBounds 2 v = routeCs d v c := by simp [routeCs]
theorem route_set4 (d : RouteD) (a c v : Value) : (routeCs d a c).setIfInBounds 4 v = routeCs d a v := by simp [routeCs]
theorem route_laters {w : World} {g : Nat} {T : TypeId} {d : RouteD} {a c : Value} (h : Blk w g T (routeCs d a c)) : (∀ s : Later w, s.val.cell? ⟨g, 0, none⟩ = some (.int .i64 d.e)) ∧ (∀ s : Later w, s.val.cell? ⟨g, 1, none⟩ = some (.int .i64 d.b)) ∧ (∀ s : Later w, s.val.cell? ⟨g, 2, none⟩ = some a) ∧ (∀ s : Later w, s.val.cell? ⟨g, 3, none⟩ = some (.int .i64 d.m)) ∧ ∀ s : Later w, s.val.cell? ⟨g, 4, none⟩ = some c := ⟨h.later rfl, h.later rfl, h.later rfl, h.later rfl, h.later rfl⟩
def rdZ : RouteD := ⟨0, 0, [], 0, []⟩

set_option maxRecDepth 100000 in
set_option maxHeartbeats 3200000 in
theorem copied_any {ok : Nat → Prop} (d : RouteD) (a c : Value) (w : World) (hr : RouteR ok w a c d) :
    Calls Try.prog 124 #[.agg (routeCs d a c)] w fun e w' => (∃ a' c', e = .returned (.agg (routeCs d a' c')) ∧ RouteR (fun b => w.heap.size ≤ b) w' a' c' d) ∧ Below w.heap.size w w' := by
  obtain ⟨A, cc, rfl, hc, hbd⟩ := hr.s.form
  obtain ⟨A2, cc2, rfl, _, hbd2⟩ := hr.c.form
  have hbd' : d.s.length * 32 ≤ 140737488351232 := hbd
  go_enter Try.func124, Try.ntmps124
  go_upto_region 1 with fail
  refine name_world (fun w1 => Below w.heap.size w w1 ∧ w.heap.size + 2 ≤ w1.heap.size ∧ Blk w1 w.heap.size 42 (routeCs d (.slice A d.s.length cc) (.slice A2 d.c.length cc2)) ∧ Blk w1 (w.heap.size + 1) 42 (routeCs rdZ nl nl))
    ⟨((Below.refl _ _).alloc (Nat.le_refl _) _).alloc (by simp) _, by simp, (Blk.new w _ _).alloc _, Blk.new_ (by simp)⟩ ?_
  rintro w1 ⟨hB1, hz1, k1, k2⟩
  have hr1 := hr.below hB1
  go_wp2
  go_loopw [3, 4] (fun v j wr => ∃ k : Nat, k ≤ d.s.length ∧ j = .int .i64 (k : Int) ∧ Below w1.heap.size w1 wr ∧ OwnL rOwner (fun b => w1.heap.size ≤ b) w1.heap.size 104 wr v (d.s.take k)) (fun _ j _ => d.s.length - (intOf j).toNat)
  case atStart => exact ⟨0, by omega, rfl, Below.refl _ _, OwnL.nil_ _ _ _ _ _⟩
  case round =>
    obtain ⟨k, hk, rfl, hb, hown⟩ := hrel
    have kw := k1.below hb k1.lt
    have b2 : wr.cell? ⟨w.heap.size, 2, none⟩ = some (.slice A d.s.length cc) := kw.cell 2
    by_cases hlt : k < d.s.length
    · obtain ⟨b1, off1, c1', cs1, hv1, _, ⟨a1, rfl, ha1, hg64⟩, hcell1⟩ := (hr1.s.below hb).at_ hlt
      simp only [Value.slice.injEq, true_and] at hv1
      obtain ⟨rfl, rfl⟩ := hv1
      have q0 := hcell1 0 _ rfl
      have q1 := hcell1 1 _ rfl
      simp only [Nat.add_zero, show rOwner.sz = 2 from rfl] at q0 q1
      clear hcell1
      obtain ⟨A1, n1, rfl, _, _⟩ := ha1.form
      obtain ⟨p, hp⟩ : ∃ p, p = d.s[k] := ⟨_, rfl⟩
      rw [← hp] at q0 q1 ha1 hg64
      have HP := Lib.hid hp
      clear hp
      have l0 := Later.cell q0
      have l1 := Later.cell q1
      have l2 := Later.cell b2
      go_wp2
      refine wp_later_many_tail 16 [(13, Sp.rb (fun b => wr.heap.size ≤ b) p.f), (15, Sp.rsl rOwner (fun b => wr.heap.size ≤ b) [p])] [13, 15] (by as_aux_lemma => kernel_rfl) (by as_aux_lemma => kernel_rfl) (by as_aux_lemma => kernel_rfl) ?_
      intro vv hv
      obtain ⟨B1, d1, e13, _⟩ : ∃ A c, vv 13 = .slice A p.f.length c ∧ p.f.length ≤ c := hv 13 (by decide)
      obtain ⟨B3, d3, e15, _⟩ : ∃ A c, vv 15 = .slice A 1 c ∧ 1 ≤ c := hv 15 (by decide)
      simp only [List.take_succ_cons, List.take_zero, List.drop_succ_cons, List.drop_zero]
      refine many_pre 13 (by decide) ?_
      simp only [List.take_succ_cons, List.take_zero, List.drop_succ_cons, List.drop_zero]
      repeat (go_big_quiet_step (fail))
      refine wpQuiet_nil (many_wild (by decide) rfl ?_ ?_)
      · intro s _
        unfold Gives
        go_simp
        refine (copy_rb _ p.f _ (ha1.below s.below)).mono ?_
        rintro e w2 ⟨⟨x, rfl, hx⟩, hb2⟩
        exact ⟨x, rfl, hx.mono (by decide) (fun b hb _ => by have := s.below.size; omega), hb2⟩
      intro a' ha'
      subst ha'
      simp only [Act.put, List.setIfInBounds_toArray, List.set_cons_succ, List.set_cons_zero]
      rw [e13]
      refine many_pre 1 (by decide) ?_
      simp only [List.take_succ_cons, List.take_zero, List.drop_succ_cons, List.drop_zero]
      repeat (go_big_quiet_step (fail))
      refine wpQuiet_nil (many_wild (by decide) rfl ?_ ?_)
      · intro s hf
        have f3 : RB _ s.val (vv 13) p.f := hf 13 (by decide) (by kernel_rfl)
        rw [e13] at f3
        unfold Gives
        go_simp
        refine ⟨RSl.one_new (E := rOwner) _ ⟨_, rfl, f3, hg64⟩ (by have := s.below.size; omega) (by decide), (Below.refl _ _).alloc (Nat.le_refl _) _⟩
      intro a' ha'
      subst ha'
      simp only [Act.put, List.setIfInBounds_toArray, List.set_cons_succ, List.set_cons_zero]
      rw [e15]
      refine many_end ?_
      intro s hf
      have f10 : RSl rOwner _ s.val (vv 15) [p] := hf 15 (by decide)
      rw [e15] at f10
      have hbs : Below wr.heap.size wr s.val := s.below
      have hown2 := hown.below hbs
      have hsz : (d.s.take k).length = k := by rw [List.length_take]; omega
      have HSZ := Lib.hid hsz; clear hsz
      refine wp_appR (E := rOwner) Try.rowOwner (by decide) rfl _ _ rfl _ (d.s.take k) _ rfl hown2 _ [p] rfl (f10.mono (by decide) fun b hb2 _ => ⟨Nat.le_trans hb.size hb2, fun e => by have := (hown.lt b e.symm).2; omega⟩) (by rw [HSZ.out]; show (k + 1) * 32 ≤ _; omega) (by rw [HSZ.out]; show k + 1 ≤ _; omega) (Nat.le_trans hb.size hbs.size) ?_
      intro v' w' hown3 hk3 _
      go_wp2
      go_roundw
      case rel => exact ⟨k + 1, by omega, by go_num, hb.trans (hbs.mono hb.size) |>.trans (hown2.bel hk3 (Nat.le_trans hb.size hbs.size)), by rw [List.take_succ_eq_append_getElem hlt, ← HP.out]; exact hown3⟩
      case measure => simp [intOf]; omega
    · have hfin : d.s.take k = d.s := List.take_of_length_le (by omega)
      rw [hfin] at hown
      clear hfin
      obtain ⟨A3, c3, rfl, _⟩ := hown.form
      have b4 : wr.cell? ⟨w.heap.size, 4, none⟩ = some (.slice A2 d.c.length cc2) := kw.cell 4
      have kz := k2.below hb k2.lt
      go_wp2_with fail
      refine (copy_rb _ d.c _ (hr1.c.below hb)).mono ?_
      rintro e w2 ⟨⟨x, rfl, hx⟩, hb2⟩
      obtain ⟨A4, c4, rfl, _, _⟩ := hx.form
      have kw2 := kw.below hb2 kw.lt
      have kz2 := kz.below hb2 kz.lt
      have hown2 := (hown.below hb2).rsl (ok := fun b => w.heap.size + 2 ≤ b) (by decide) hbd (fun b h => by omega) (fun b h => by have : w1.heap.size ≤ b := h; omega)
      have hB2 := hB1.trans (hb.mono hB1.size) |>.trans (hb2.mono (Nat.le_trans hB1.size hb.size))
      have fz := fun i => kw2.frozen i
      have r2 : w2.cell? ⟨w.heap.size, 2, none⟩ = some (.slice A d.s.length cc) := kw2.cell 2
      have r4 : w2.cell? ⟨w.heap.size, 4, none⟩ = some (.slice A2 d.c.length cc2) := kw2.cell 4
      clear kw kz b2 b4
      go_upto_region 7 with fail
      have hkp : Kp (fun b => w.heap.size + 2 ≤ b) w2 ((w2.setCell ⟨w.heap.size, 2, none⟩ (.slice A3 d.s.length c3)).setCell ⟨w.heap.size, 4, none⟩ (.slice A4 d.c.length c4)) :=
        ((Kp.refl _ _).setCell (fun _ h => by have : w.heap.size + 2 ≤ w.heap.size := h; omega) _).setCell (fun _ h => by have : w.heap.size + 2 ≤ w.heap.size := h; omega) _
      refine name_world (fun w3 => Below w.heap.size w w3 ∧ Blk w3 w.heap.size 42 (routeCs d (.slice A3 d.s.length c3) (.slice A4 d.c.length c4)) ∧ Blk w3 (w.heap.size + 1) 42 (routeCs rdZ nl nl) ∧ RSl rOwner (fun b => w.heap.size + 2 ≤ b) w3 (.slice A3 d.s.length c3) d.s ∧ RB (fun b => w.heap.size + 2 ≤ b) w3 (.slice A4 d.c.length c4) d.c)
        ⟨(hB2.setCell (Nat.le_refl _) _).setCell (Nat.le_refl _) _, ?_, (kz2.far (by simp) _).far (by simp) _, hown2.kp hkp, (hx.mono (by decide) fun b h _ => by have h1 := hb.size; omega).kp hkp⟩ ?_
      · have := (kw2.set_ 2 (.slice A3 d.s.length c3)).set_ 4 (.slice A4 d.c.length c4)
        rwa [route_set2, route_set4] at this
      rintro w3 ⟨hB3, k3, k4, o3, x3⟩
      refine wp_region_list ?_
      refine wpList_loadB rfl rfl rfl k3 Try.underlying42 rfl Try.infoRoutes ?_
      refine wpList_storeB rfl rfl (routeCs d (.slice A3 d.s.length c3) (.slice A4 d.c.length c4)) rfl rfl k4 rfl Try.infoRoutes routeCs_one ?_
      intro k5
      have lv := route_res k5
      have hk3 := Kp.setCells (ok := fun b => w.heap.size + 2 ≤ b) (a := w3) (b := w.heap.size + 1) (fun _ h => by have : w.heap.size + 2 ≤ w.heap.size + 1 := h; omega) (routeCs d (.slice A3 d.s.length c3) (.slice A4 d.c.length c4)).toList 0 (Kp.refl _ _)
      go_wp2
      refine bodyPost_ret (v := .agg (routeCs d (.slice A3 d.s.length c3) (.slice A4 d.c.length c4))) ?_ rfl ⟨⟨_, _, rfl, (o3.kp hk3).mono (by decide) fun b h _ => by omega, (x3.kp hk3).mono (by decide) fun b h _ => by omega, hr.e, hr.b, hr.m⟩, below_setCells (by omega) _ _ hB3⟩
      simp [results, Try.results124, Act.put, Sem.run_bind, Sem.run_pure]
      rw [asAddr_ok, Result.andThen_ok]
      exact lv
end Go.Proofs.Ytikkknaofiafhaa
