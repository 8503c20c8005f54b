/- RowsBack's walk. -/
import Derived.Test.YtikkknaofiafhaaR12
import Derived.Test.YtikkknaofiafhaaR11
import Derived.Test.YtikkknaofiafhaaC4
import Derived.Test.YtikkknaofiafhaaReg3
namespace Go.Proofs.Ytikkknaofiafhaa
open Go.RowKit

/-- a block's cells of a table -/
theorem tab_cells {w : World} {g : Nat} {T : TypeId} {t : TabD} {a b : Value} (h : Blk w g T (tabCs t a b)) : w.cell? ⟨g, 0, none⟩ = some (.int .i64 t.id) ∧ w.cell? ⟨g, 1, none⟩ = some (.string t.name) ∧ w.cell? ⟨g, 2, none⟩ = some a ∧ w.cell? ⟨g, 3, none⟩ = some b := ⟨h.cell 0, h.cell 1, h.cell 2, h.cell 3⟩
theorem idx_cells {w : World} {g : Nat} {T : TypeId} {x : IdxD} {a : Value} (h : Blk w g T (idxCs x a)) : w.cell? ⟨g, 0, none⟩ = some (.int .i64 x.id) ∧ w.cell? ⟨g, 1, none⟩ = some (.int .i64 x.table) ∧ w.cell? ⟨g, 2, none⟩ = some (.string x.name) ∧ w.cell? ⟨g, 3, none⟩ = some a ∧ w.cell? ⟨g, 4, none⟩ = some (.bool x.uniq) ∧ w.cell? ⟨g, 5, none⟩ = some (.int .i64 x.state) ∧ w.cell? ⟨g, 6, none⟩ = some (.bool x.bad) := ⟨h.cell 0, h.cell 1, h.cell 2, h.cell 3, h.cell 4, h.cell 5, h.cell 6⟩
theorem tab_laters {w : World} {g : Nat} {T : TypeId} {t : TabD} {a b : Value} (h : Blk w g T (tabCs t a b)) : (∀ s : Later w, s.val.cell? ⟨g, 0, none⟩ = some (.int .i64 t.id)) ∧ (∀ s : Later w, s.val.cell? ⟨g, 1, none⟩ = some (.string t.name)) ∧ (∀ s : Later w, s.val.cell? ⟨g, 2, none⟩ = some a) ∧ ∀ s : Later w, s.val.cell? ⟨g, 3, none⟩ = some b := ⟨h.later rfl, h.later rfl, h.later rfl, h.later rfl⟩
theorem idx_laters {w : World} {g : Nat} {T : TypeId} {x : IdxD} {a : Value} (h : Blk w g T (idxCs x a)) : (∀ s : Later w, s.val.cell? ⟨g, 0, none⟩ = some (.int .i64 x.id)) ∧ (∀ s : Later w, s.val.cell? ⟨g, 1, none⟩ = some (.int .i64 x.table)) ∧ (∀ s : Later w, s.val.cell? ⟨g, 2, none⟩ = some (.string x.name)) ∧ (∀ s : Later w, s.val.cell? ⟨g, 3, none⟩ = some a) ∧ (∀ s : Later w, s.val.cell? ⟨g, 4, none⟩ = some (.bool x.uniq)) ∧ (∀ s : Later w, s.val.cell? ⟨g, 5, none⟩ = some (.int .i64 x.state)) ∧ ∀ s : Later w, s.val.cell? ⟨g, 6, none⟩ = some (.bool x.bad) := ⟨h.later rfl, h.later rfl, h.later rfl, h.later rfl, h.later rfl, h.later rfl, h.later rfl⟩

/-- a pair by value -/
def Sp.pair (ok : Nat → Prop) (p : List UInt8 × List UInt8) : Sp :=
  ⟨fun x => ∃ A c A2 c2, x = .agg #[.slice A p.1.length c, .slice A2 p.2.length c2, .int .i64 0], .agg #[.slice none p.1.length 0, .slice none p.2.length 0, .int .i64 0], ⟨none, 0, none, 0, rfl⟩,
    fun x w => ∃ A c A2 c2, x = .agg #[.slice A p.1.length c, .slice A2 p.2.length c2, .int .i64 0] ∧ RB ok w (.slice A p.1.length c) p.1 ∧ RB ok w (.slice A2 p.2.length c2) p.2,
    fun _ _ ⟨A, c, A2, c2, h, _⟩ => ⟨A, c, A2, c2, h⟩, fun _ _ _ hb ⟨A, c, A2, c2, h, h1, h2⟩ => ⟨A, c, A2, c2, h, h1.below hb, h2.below hb⟩⟩

/-- bytes that are read lie in no block of a pair -/
theorem rb_apart {ok : Nat → Prop} {w : World} {v : Value} {l : List UInt8} {g : Nat} {T : TypeId} {cs : Array Value} (h : RB ok w v l) (hk : Blk w g T cs) (hcs : ∀ (i : Nat) (z : Int), cs[i]? ≠ some (Value.int .u8 z)) : RB (fun b => ok b ∧ b ≠ g) w v l := by
  obtain ⟨A, c, rfl, hc, hm, hr, ho⟩ := h.open_
  refine RB.mk_ hr hc hm fun h0 a ha => ⟨ho h0 a ha, fun hb => ?_⟩
  obtain ⟨b, off, rfl, hcell⟩ := hr.2 h0
  obtain rfl := Option.some.inj ha
  simp only at hb
  subst hb
  have h1 := hcell 0 _ (bs_get l 0 h0)
  have h2 := hk.cell off
  rw [Nat.add_zero] at h1
  rw [h1] at h2
  exact hcs off _ h2.symm
theorem pair_no (a b : Value) (n : Int) (ha : ∀ z : Int, a ≠ Value.int .u8 z) (hb : ∀ z : Int, b ≠ Value.int .u8 z) : ∀ (i : Nat) (z : Int), (#[a, b, .int .i64 n] : Array Value)[i]? ≠ some (Value.int .u8 z)
  | 0, z => by simpa using ha z
  | 1, z => by simpa using hb z
  | 2, z => by simp
  | _ + 3, z => by simp

set_option maxRecDepth 100000 in
set_option maxHeartbeats 12800000 in
theorem lawBack {ok ok3 ok4 ok5 : Nat → Prop} (t : TabD) (x : IdxD) (a b xa v1 v2 : Value) (row other : List Val) (w : World) (ht : TabR ok w a b t) (hx : IdxR ok3 w xa x) (hr : RV ok4 w v1 row) (ho : RV ok5 w v2 other) :
    Calls Try.prog 13 #[.agg (tabCs t a b), .agg (idxCs x xa), v1, v2] w fun e w' => e = .returned (.bool true) ∧ Below w.heap.size w w' := by
  obtain ⟨A, c, rfl, _, _⟩ := ht.cols.form
  obtain ⟨A3, c3, rfl, _, _⟩ := ht.key.form
  obtain ⟨A4, c4, rfl, _, hxl⟩ := hx.cols.form
  obtain ⟨A1, c1, rfl, _, _, _, okr, _⟩ := hr.open_
  obtain ⟨A2, c2, rfl, _, _, _, oko, _⟩ := ho.open_
  have OK := Lib.hid (And.intro okr oko)
  clear okr oko
  go_enter Try.func13, Try.ntmps13
  unfold tabCs idxCs
  go_upto_region 1 with fail
  refine name_world (fun w1 => Below w.heap.size w w1 ∧ w.heap.size + 2 ≤ w1.heap.size ∧ Blk w1 w.heap.size 56 (tabCs t (.slice A t.cols.length c) (.slice A3 t.key.length c3)) ∧ Blk w1 (w.heap.size + 1) 58 (idxCs x (.slice A4 x.cols.length c4)))
    ⟨((Below.refl _ _).alloc (Nat.le_refl _) _).alloc (by simp) _, by simp, (Blk.new w _ _).alloc _, Blk.new_ (by simp)⟩ ?_
  rintro w1 ⟨hB1, hz1, kt1, kx1⟩
  go_wp2_with fail
  refine (awakeRow_any _).mono ?_
  rintro e w2 ⟨rfl, hb2⟩
  have hB2 := hB1.trans (hb2.mono hB1.size)
  have kt2 := kt1.below hb2 kt1.lt
  have kx2 := kx1.below hb2 kx1.lt
  clear kt1 kx1
  obtain ⟨a0, a1, a2, a3⟩ := tab_cells kt2
  obtain ⟨i0, i1, i2, i3, i4, i5, i6⟩ := idx_cells kx2
  go_wp2_with fail
  refine (mayLaw_any t x _ _ _ _ (ht.below hB2) (hx.below hB2)).mono ?_
  rintro e w3 ⟨⟨bm, rfl, hbm⟩, hb3⟩
  have hB3 := hB2.trans (hb3.mono hB2.size)
  have kt3 := kt2.below hb3 kt2.lt
  have kx3 := kx2.below hb3 kx2.lt
  clear a0 a1 a2 a3 i0 i1 i2 i3 i4 i5 i6 kt2 kx2
  obtain ⟨a0, a1, a2, a3⟩ := tab_cells kt3
  cases bm
  · clear hbm
    go_wp2_with fail
    refine (awakeRow_any _).mono ?_
    rintro e w4 ⟨rfl, hb4⟩
    have hB4 := hB3.trans (hb4.mono hB3.size)
    go_wp2
    go_ret
    exact ⟨rfl, hB4⟩
  · have KN := Lib.hid (known_of (hbm.1 rfl))
    clear hbm
    go_wp2_with fail
    refine (refRowRight_any t _ _ _ row _ (ht.below hB3) (hr.below hB3)).mono ?_
    rintro e w4 ⟨rfl, hb4⟩
    have hB4 := hB3.trans (hb4.mono hB3.size)
    have kt4 := kt3.below hb4 kt3.lt
    have kx4 := kx3.below hb4 kx3.lt
    clear a0 a1 a2 a3 kt3 kx3
    obtain ⟨a0, a1, a2, a3⟩ := tab_cells kt4
    cases hM : mayAll t.cols row
    · clear hM
      go_wp2_with fail
      refine (awakeRow_any _).mono ?_
      rintro e w5 ⟨rfl, hb5⟩
      have hB5 := hB4.trans (hb5.mono hB4.size)
      go_wp2
      go_ret
      exact ⟨rfl, hB5⟩
    · have HM := Lib.hid hM
      clear hM
      go_wp2_with fail
      refine (refRowRight_any t _ _ _ other _ (ht.below hB4) (ho.below hB4)).mono ?_
      rintro e w5 ⟨rfl, hb5⟩
      have hB5 := hB4.trans (hb5.mono hB4.size)
      have kt5 := kt4.below hb5 kt4.lt
      have kx5 := kx4.below hb5 kx4.lt
      clear a0 a1 a2 a3 kt4 kx4
      cases hM2 : mayAll t.cols other
      · clear hM2
        go_wp2_with fail
        refine (awakeRow_any _).mono ?_
        rintro e w6 ⟨rfl, hb6⟩
        have hB6 := hB5.trans (hb6.mono hB5.size)
        go_wp2
        go_ret
        exact ⟨rfl, hB6⟩
      · have HM2 := Lib.hid hM2
        clear hM2
        obtain ⟨a0, a1, a2, a3⟩ := tab_laters kt5
        obtain ⟨i0, i1, i2, i3, i4, i5, i6⟩ := idx_laters kx5
        go_upto_region 3 with fail
        have hkn : t.key.length ≤ 1000000 := by have := KN.out.keyn; omega
        have hxn : x.cols.length ≤ 1000000 := by have := KN.out.xcn; omega
        have hz5 : w.heap.size + 2 ≤ w5.heap.size := by have := kx5.lt; omega
        refine wp_boxes_tail 10 [(3, Sp.pair (fun b => w.heap.size + 2 ≤ b) (entryV t x row)), (7, Sp.pair (fun b => w.heap.size + 2 ≤ b) (entryV t x other)), (8, Sp.box (w.heap.size + 2) 98 #[.slice none 0 0, .slice none 0 0, .int .i64 0]), (9, Sp.box (w.heap.size + 2) 98 #[.slice none 0 0, .slice none 0 0, .int .i64 0])] [3, 7, 8, 9] [8, 9] (by as_aux_lemma => kernel_rfl) (by as_aux_lemma => kernel_rfl) (by as_aux_lemma => kernel_rfl) ?_
        intro vv hv
        obtain ⟨B1, d1, E1, g1, e3⟩ : ∃ A c A2 c2, vv 3 = .agg #[.slice A (entryV t x row).1.length c, .slice A2 (entryV t x row).2.length c2, .int .i64 0] := hv 3 (by decide)
        obtain ⟨B2, d2, E2, g2, e7⟩ : ∃ A c A2 c2, vv 7 = .agg #[.slice A (entryV t x other).1.length c, .slice A2 (entryV t x other).2.length c2, .int .i64 0] := hv 7 (by decide)
        obtain ⟨gp, e8⟩ : ∃ g, vv 8 = .pointer (some ⟨g, 0, none⟩) := hv 8 (by decide)
        obtain ⟨gq, e9⟩ : ∃ g, vv 9 = .pointer (some ⟨g, 0, none⟩) := hv 9 (by decide)
        simp only [List.take_succ_cons, List.take_zero, List.drop_succ_cons, List.drop_zero]
        refine manyx_pre 3 (by decide) ?_
        simp only [List.take_succ_cons, List.take_zero, List.drop_succ_cons, List.drop_zero]
        repeat (go_big_quiet_step (fail))
        refine wpQuiet_nil (manyx_wild (by decide) rfl ?_ ?_)
        · intro s _
          unfold Gives
          go_simp
          have hbs := hB5.trans (s.below.mono hB5.size)
          refine (entry_any t x _ _ _ _ row _ (ht.below hbs) (hx.below hbs) (hr.below hbs) hkn hxn).mono ?_
          rintro e w6 ⟨⟨k, y, rfl, hk, hy⟩, hb6⟩
          obtain ⟨Ak, ck, rfl, _, _⟩ := hk.form
          obtain ⟨Ay, cy, rfl, _, _⟩ := hy.form
          have hzs : w.heap.size + 2 ≤ s.val.heap.size := by have h1 := kx5.lt; have h2 := s.below.size; omega
          exact ⟨_, rfl, ⟨_, _, _, _, rfl, hk.mono (by decide) fun b hb _ => Nat.le_trans hzs hb, hy.mono (by decide) fun b hb _ => Nat.le_trans hzs hb⟩, hb6⟩
        intro a' ha'
        subst ha'
        simp only [Act.put, List.setIfInBounds_toArray, List.set_cons_succ, List.set_cons_zero]
        rw [e3]
        refine manyx_pre 3 (by decide) ?_
        simp only [List.take_succ_cons, List.take_zero, List.drop_succ_cons, List.drop_zero]
        repeat (go_big_quiet_step (fail))
        refine wpQuiet_nil (manyx_wild (by decide) rfl ?_ ?_)
        · intro s _
          unfold Gives
          go_simp
          have hbs := hB5.trans (s.below.mono hB5.size)
          refine (entry_any t x _ _ _ _ other _ (ht.below hbs) (hx.below hbs) (ho.below hbs) hkn hxn).mono ?_
          rintro e w6 ⟨⟨k, y, rfl, hk, hy⟩, hb6⟩
          obtain ⟨Ak, ck, rfl, _, _⟩ := hk.form
          obtain ⟨Ay, cy, rfl, _, _⟩ := hy.form
          have hzs : w.heap.size + 2 ≤ s.val.heap.size := by have h1 := kx5.lt; have h2 := s.below.size; omega
          exact ⟨_, rfl, ⟨_, _, _, _, rfl, hk.mono (by decide) fun b hb _ => Nat.le_trans hzs hb, hy.mono (by decide) fun b hb _ => Nat.le_trans hzs hb⟩, hb6⟩
        intro a' ha'
        subst ha'
        simp only [Act.put, List.setIfInBounds_toArray, List.set_cons_succ, List.set_cons_zero]
        rw [e7]
        refine manyx_box (w.heap.size + 2) 98 #[.slice none 0 0, .slice none 0 0, .int .i64 0] (by decide) rfl rfl (by intro j hj; simp at hj; rcases hj with rfl | rfl <;> exact ⟨_, _, _, rfl⟩) hz5 (fun s => by unfold Gives; go_simp) ?_
        intro a' ha'
        subst ha'
        simp only [Act.put, List.setIfInBounds_toArray, List.set_cons_succ, List.set_cons_zero]
        rw [e8]
        refine manyx_box (w.heap.size + 2) 98 #[.slice none 0 0, .slice none 0 0, .int .i64 0] (by decide) rfl rfl (by intro j hj; simp at hj; rcases hj with rfl | rfl <;> exact ⟨_, _, _, rfl⟩) hz5 (fun s => by unfold Gives; go_simp) ?_
        intro a' ha'
        subst ha'
        simp only [Act.put, List.setIfInBounds_toArray, List.set_cons_succ, List.set_cons_zero]
        rw [e9]
        refine manyx_end ?_
        intro s hf hd
        obtain ⟨_, _, _, _, e3', hp1, hp2⟩ := hf 3 (by decide)
        obtain ⟨_, _, _, _, e7', hq1, hq2⟩ := hf 7 (by decide)
        obtain ⟨_, e8', hgp, kp6⟩ := hf 8 (by decide)
        obtain ⟨_, e9', hgq, kq6⟩ := hf 9 (by decide)
        have hne := hd 8 (by decide) 9 (by decide) (by decide) (by decide) (by decide)
        rw [e8, e9] at hne
        have hgg : gp ≠ gq := fun h => hne (by rw [h])
        rw [e3] at e3'
        rw [e7] at e7'
        rw [e8] at e8'
        rw [e9] at e9'
        simp only [Value.agg.injEq, Array.mk.injEq, List.cons.injEq, Value.slice.injEq, Value.pointer.injEq, Option.some.injEq, Addr.mk.injEq, true_and, and_true] at e3' e7' e8' e9'
        obtain ⟨⟨rfl, rfl⟩, rfl, rfl⟩ := e3'
        obtain ⟨⟨rfl, rfl⟩, rfl, rfl⟩ := e7'
        subst e8' e9'
        clear hne hd e3 e7 e8 e9 hv hf a0 a1 a2 a3 i0 i1 i2 i3 i4 i5 i6
        have hB6 := hB5.trans (s.below.mono hB5.size)
        have kt6 := kt5.below s.below kt5.lt
        have kx6 := kx5.below s.below kx5.lt
        clear kt5 kx5
        have hgg' : gq ≠ gp := fun h => hgg h.symm
        obtain ⟨z0, z1, z2⟩ := set3_cells kp6
        obtain ⟨y0, y1, y2⟩ := set3_cells kq6
        have fz := fun i => kp6.frozen i
        have fy := fun i => kq6.frozen i
        go_upto_region 4 with fail
        have ap1 := rb_apart (rb_apart hp1 kp6 (pair_no _ _ _ (by simp) (by simp))) kq6 (pair_no _ _ _ (by simp) (by simp))
        have ap2 := rb_apart (rb_apart hp2 kp6 (pair_no _ _ _ (by simp) (by simp))) kq6 (pair_no _ _ _ (by simp) (by simp))
        have aq1 := rb_apart (rb_apart hq1 kp6 (pair_no _ _ _ (by simp) (by simp))) kq6 (pair_no _ _ _ (by simp) (by simp))
        have aq2 := rb_apart (rb_apart hq2 kp6 (pair_no _ _ _ (by simp) (by simp))) kq6 (pair_no _ _ _ (by simp) (by simp))
        have hkp := (kp_set3 (ok := fun b => (w.heap.size + 2 ≤ b ∧ b ≠ gp) ∧ b ≠ gq) (w := s.val) (g := gp) (fun h => h.1.2 rfl) (.slice B1 (entryV t x row).1.length d1) (.slice E1 (entryV t x row).2.length g1) (.int .i64 0)).trans
          (kp_set3 (g := gq) (fun h => h.2 rfl) (.slice B2 (entryV t x other).1.length d2) (.slice E2 (entryV t x other).2.length g2) (.int .i64 0))
        refine name_world (fun w7 => Below w.heap.size w w7 ∧ w.heap.size + 2 ≤ w7.heap.size ∧ Blk w7 w.heap.size 56 (tabCs t (.slice A t.cols.length c) (.slice A3 t.key.length c3)) ∧ Blk w7 (w.heap.size + 1) 58 (idxCs x (.slice A4 x.cols.length c4)) ∧
            Blk w7 gp 98 #[.slice B1 (entryV t x row).1.length d1, .slice E1 (entryV t x row).2.length g1, .int .i64 0] ∧ Blk w7 gq 98 #[.slice B2 (entryV t x other).1.length d2, .slice E2 (entryV t x other).2.length g2, .int .i64 0] ∧
            RB (fun _ => True) w7 (.slice B1 (entryV t x row).1.length d1) (entryV t x row).1 ∧ RB (fun _ => True) w7 (.slice E1 (entryV t x row).2.length g1) (entryV t x row).2 ∧ RB (fun _ => True) w7 (.slice B2 (entryV t x other).1.length d2) (entryV t x other).1)
          ⟨below_set3 (below_set3 hB6 (by omega) _ _ _) (by omega) _ _ _, by have := kx6.lt; simp; omega, ?_, ?_, ?_, (((kq6.far hgg' _).far hgg' _).far hgg' _).set3 _ _ _, (ap1.kp hkp).mono (by decide) fun _ _ _ => trivial, (ap2.kp hkp).mono (by decide) fun _ _ _ => trivial, (aq1.kp hkp).mono (by decide) fun _ _ _ => trivial⟩ ?_
        · exact (((((kt6.far (by simp; omega) _).far (by simp; omega) _).far (by simp; omega) _).far (by simp; omega) _).far (by simp; omega) _).far (by simp; omega) _
        · exact (((((kx6.far (by simp; omega) _).far (by simp; omega) _).far (by simp; omega) _).far (by simp; omega) _).far (by simp; omega) _).far (by simp; omega) _
        · exact (((kp6.set3 _ _ _).far hgg _).far hgg _).far hgg _
        clear ap1 ap2 aq1 aq2 hkp kt6 kx6 kp6 kq6 hp1 hp2 hq1 hq2 hB6 z0 z1 z2 y0 y1 y2 fz fy hz5
        rintro w7 ⟨hB7, hz7, kt7, kx7, kp7, kq7, rp1, rp2, rq1⟩
        obtain ⟨a0, a1, a2, a3⟩ := tab_cells kt7
        obtain ⟨i0, i1, i2, i3, i4, i5, i6⟩ := idx_cells kx7
        obtain ⟨z0, z1, z2⟩ := set3_cells kp7
        go_wp2_with fail
        refine (owner_ok t x _ _ _ _ _ 0 (entryV t x row).1 (entryV t x row).2 _ (ht.below hB7) (hx.below hB7) rp1 rp2 (entryV_len t x row).1 (entryV_len t x row).2 (pickV row x.cols) (keyV t row) (parts_back KN.out HM.out OK.out.1) (fit_key KN.out HM.out) (own_cols KN.out HM.out)).mono ?_
        rintro e w8 ⟨⟨vn, rfl, hvn⟩, hb8⟩
        obtain ⟨An, cn, rfl, _, _⟩ := hvn.form
        have hB8 := hB7.trans (hb8.mono hB7.size)
        have kt8 := kt7.below hb8 kt7.lt
        have kx8 := kx7.below hb8 kx7.lt
        have kp8 := kp7.below hb8 kp7.lt
        have kq8 := kq7.below hb8 kq7.lt
        have rp8 := rp1.below hb8
        have rq8 := rq1.below hb8
        clear a0 a1 a2 a3 i0 i1 i2 i3 i4 i5 i6 z0 z1 z2 kt7 kx7 kp7 kq7 rp1 rp2 rq1
        obtain ⟨a0, a1, a2, a3⟩ := tab_laters kt8
        go_upto_region 5 with fail
        refine wp_later_many [(3, Sp.rsl rVal (fun _ => True) (keyV t row)), (4, Sp.rb (fun _ => True) (nameB t (keyV t row)))] [3, 4] (by as_aux_lemma => kernel_rfl) (by as_aux_lemma => kernel_rfl) ?_
        intro vv hv
        obtain ⟨B3, d3, e3, _⟩ : ∃ A c, vv 3 = .slice A (keyV t row).length c ∧ (keyV t row).length ≤ c := hv 3 (by decide)
        obtain ⟨B4, d4, e4, _⟩ : ∃ A c, vv 4 = .slice A (nameB t (keyV t row)).length c ∧ (nameB t (keyV t row)).length ≤ c := hv 4 (by decide)
        refine many_pre 3 (by decide) ?_
        simp only [List.take_succ_cons, List.take_zero, List.drop_succ_cons, List.drop_zero]
        repeat (go_big_quiet_step (fail))
        refine wpQuiet_nil (many_wild (by decide) rfl ?_ ?_)
        · intro s _
          unfold Gives
          go_simp
          have hbs := hB8.trans (s.below.mono hB8.size)
          refine (key_any t _ _ _ row _ (ht.below hbs) (hr.below hbs) hkn).mono ?_
          rintro e w3 ⟨⟨y, rfl, hy⟩, hb3⟩
          exact ⟨y, rfl, hy.mono (by decide) (fun _ _ _ => trivial), hb3⟩
        intro a' ha'
        subst ha'
        simp only [Act.put, List.setIfInBounds_toArray, List.set_cons_succ, List.set_cons_zero]
        rw [e3]
        refine many_wild (by decide) rfl ?_ ?_
        · intro s hf
          have f3 : RV _ s.val (vv 3) (keyV t row) := hf 3 (by decide) (by kernel_rfl)
          rw [e3] at f3
          unfold Gives
          go_simp
          have hbs := hB8.trans (s.below.mono hB8.size)
          refine (name_any t _ _ _ (keyV t row) _ (ht.below hbs) f3).mono ?_
          rintro e w3 ⟨⟨y, rfl, hy⟩, hb3⟩
          exact ⟨y, rfl, hy.mono (by decide) (fun _ _ _ => trivial), hb3⟩
        intro a' ha'
        subst ha'
        simp only [Act.put, List.setIfInBounds_toArray, List.set_cons_succ, List.set_cons_zero]
        rw [e4]
        refine many_pre 1 (by decide) ?_
        simp only [List.take_succ_cons, List.take_zero, List.drop_succ_cons, List.drop_zero]
        repeat (go_big_quiet_step (fail))
        refine wpQuiet_nil (many_end ?_)
        intro s9 hf
        have r4 : RB (fun _ => True) s9.val (vv 4) (nameB t (keyV t row)) := hf 4 (by decide)
        rw [e4] at r4
        clear e3 e4 hv hf a0 a1 a2 a3
        have hB9 := hB8.trans (s9.below.mono hB8.size)
        have kt9 := kt8.below s9.below kt8.lt
        have kx9 := kx8.below s9.below kx8.lt
        have kp9 := kp8.below s9.below kp8.lt
        have kq9 := kq8.below s9.below kq8.lt
        have rp9 := rp8.below s9.below
        have rq9 := rq8.below s9.below
        have hvn9 := hvn.below s9.below
        clear kt8 kx8 kp8 kq8 rp8 rq8 hvn
        go_wp2_with fail
        refine (bytes_rb _ _ (nameB t (keyV t row)) (nameB t (keyV t row)) _ hvn9 r4).mono ?_
        rintro e w10 ⟨rfl, hww⟩
        subst hww
        rw [decide_eq_true (show nameB t (keyV t row) = nameB t (keyV t row) from rfl)]
        obtain ⟨a0, a1, a2, a3⟩ := tab_cells kt9
        go_wp2_with fail
        refine (rowPair_any t _ _ _ row _ (ht.below hB9) (hr.below hB9) hkn).mono ?_
        rintro e w11 ⟨⟨pk, px, rfl, hpk, hpx⟩, hb11⟩
        rw [pairV_is (x := x) HM.out KN.out.cols] at hpk
        obtain ⟨A11, c11, rfl, _, _⟩ := hpk.form
        obtain ⟨Ax, cx, rfl, _, _⟩ := hpx.form
        clear hpx
        have hfd : ∀ (b c : Value) (w : World), (Instr.field 98 (.agg #[.slice A11 (nameB t (keyV t row)).length c11, b, c]) 0).run Try.prog w = .ok (.slice A11 (nameB t (keyV t row)).length c11) w := fun _ _ _ => by kernel_rfl
        have hB11 := hB9.trans (hb11.mono hB9.size)
        have kt11 := kt9.below hb11 kt9.lt
        have kx11 := kx9.below hb11 kx9.lt
        have kp11 := kp9.below hb11 kp9.lt
        have kq11 := kq9.below hb11 kq9.lt
        have rp11 := rp9.below hb11
        have rq11 := rq9.below hb11
        have r11 := r4.below hb11
        clear a0 a1 a2 a3 kt9 kx9 kp9 kq9 rp9 rq9 r4 hvn9
        go_wp2_with fail
        refine (bytes_rb _ _ (nameB t (keyV t row)) (nameB t (keyV t row)) _ hpk r11).mono ?_
        rintro e w12 ⟨rfl, hww⟩
        subst hww
        rw [decide_eq_true (show nameB t (keyV t row) = nameB t (keyV t row) from rfl)]
        obtain ⟨a0, a1, a2, a3⟩ := tab_laters kt11
        go_upto_region 8 with fail
        have hkey : ∀ q ∈ t.key, 0 ≤ q ∧ q < (t.cols.length : Int) := KN.out.key
        have HKEY := Lib.hid hkey
        clear hkey
        refine wp_later_many [(2, Sp.rsl rVal (fun _ => True) (keyV t row)), (5, Sp.rsl rVal (fun _ => True) (keyV t other)), (6, Sp.val (.bool (leq (keyV t row) (keyV t other))))] [2, 5, 6] (by as_aux_lemma => kernel_rfl) (by as_aux_lemma => kernel_rfl) ?_
        intro vv hv
        obtain ⟨B5, d5, e2, _⟩ : ∃ A c, vv 2 = .slice A (keyV t row).length c ∧ (keyV t row).length ≤ c := hv 2 (by decide)
        obtain ⟨B6, d6, e5, _⟩ : ∃ A c, vv 5 = .slice A (keyV t other).length c ∧ (keyV t other).length ≤ c := hv 5 (by decide)
        have e6 : vv 6 = .bool (leq (keyV t row) (keyV t other)) := hv 6 (by decide)
        refine many_pre 2 (by decide) ?_
        simp only [List.take_succ_cons, List.take_zero, List.drop_succ_cons, List.drop_zero]
        repeat (go_big_quiet_step (fail))
        refine wpQuiet_nil (many_wild (by decide) rfl ?_ ?_)
        · intro s _
          unfold Gives
          go_simp
          have hbs := hB11.trans (s.below.mono hB11.size)
          refine (refKey_any t _ _ _ row _ (ht.below hbs) (hr.below hbs) hkn HKEY.out).mono ?_
          rintro e w3 ⟨⟨y, rfl, hy⟩, hb3⟩
          exact ⟨y, rfl, hy.mono (by decide) (fun _ _ _ => trivial), hb3⟩
        intro a' ha'
        subst ha'
        simp only [Act.put, List.setIfInBounds_toArray, List.set_cons_succ, List.set_cons_zero]
        rw [e2]
        refine many_pre 2 (by decide) ?_
        simp only [List.take_succ_cons, List.take_zero, List.drop_succ_cons, List.drop_zero]
        repeat (go_big_quiet_step (fail))
        refine wpQuiet_nil (many_wild (by decide) rfl ?_ ?_)
        · intro s _
          unfold Gives
          go_simp
          have hbs := hB11.trans (s.below.mono hB11.size)
          refine (refKey_any t _ _ _ other _ (ht.below hbs) (ho.below hbs) hkn HKEY.out).mono ?_
          rintro e w3 ⟨⟨y, rfl, hy⟩, hb3⟩
          exact ⟨y, rfl, hy.mono (by decide) (fun _ _ _ => trivial), hb3⟩
        intro a' ha'
        subst ha'
        simp only [Act.put, List.setIfInBounds_toArray, List.set_cons_succ, List.set_cons_zero]
        rw [e5]
        refine many_wild (by decide) rfl ?_ ?_
        · intro s hf
          have f2 : RV _ s.val (vv 2) (keyV t row) := hf 2 (by decide) (by kernel_rfl)
          have f5 : RV _ s.val (vv 5) (keyV t other) := hf 5 (by decide) (by kernel_rfl)
          rw [e2] at f2
          rw [e5] at f5
          unfold Gives
          go_simp
          obtain ⟨_, _, hv1, _, hm1, hd1, _, _⟩ := f2.open_
          obtain ⟨_, _, hv2, _, hm2, hd2, _, _⟩ := f5.open_
          simp only [Value.slice.injEq, true_and] at hv1 hv2
          obtain ⟨rfl, rfl⟩ := hv1
          obtain ⟨rfl, rfl⟩ := hv2
          exact (plainVal_any _ _ _ _ _ _ _ _ _ hd1 hd2 (by omega) (by omega)).mono fun e w3 ⟨he, hb3⟩ => ⟨_, he, rfl, hb3⟩
        intro a' ha'
        subst ha'
        simp only [Act.put, List.setIfInBounds_toArray, List.set_cons_succ, List.set_cons_zero]
        rw [e6]
        refine many_pre 1 (by decide) ?_
        simp only [List.take_succ_cons, List.take_zero, List.drop_succ_cons, List.drop_zero]
        repeat (go_big_quiet_step (fail))
        refine wpQuiet_nil (many_end ?_)
        intro s13 _
        clear e2 e5 e6 hv a0 a1 a2 a3
        have hB13 := hB11.trans (s13.below.mono hB11.size)
        have kt13 := kt11.below s13.below kt11.lt
        have kx13 := kx11.below s13.below kx11.lt
        have kp13 := kp11.below s13.below kp11.lt
        have kq13 := kq11.below s13.below kq11.lt
        have rp13 := rp11.below s13.below
        have rq13 := rq11.below s13.below
        have r13 := r11.below s13.below
        clear kt11 kx11 kp11 kq11 rp11 rq11 r11 hpk
        clear hfd
        obtain ⟨i0, i1, i2, i3, i4, i5, i6⟩ := idx_cells kx13
        go_wp2
        go_loopw [15, 16, 17] (fun f c j wr => ∃ k : Nat, k ≤ x.cols.length ∧ j = .int .i64 (k : Int) ∧ f = .bool (x.uniq && !hasNull ((pickV row x.cols).take k)) ∧ c = .bool (decide ((pickV row x.cols).take k = (pickV other x.cols).take k)) ∧ Below s13.val.heap.size s13.val wr) (fun _ _ j _ => x.cols.length - (intOf j).toNat)
        case atStart => exact ⟨0, by omega, rfl, by simp [hasNull], by simp, Below.refl _ _⟩
        case round =>
          obtain ⟨k, hk, rfl, rfl, rfl, hb⟩ := hrel
          have hBw := hB13.trans (hb.mono hB13.size)
          have kxw := kx13.below hb kx13.lt
          clear i0 i1 i2 i3 i4 i5 i6
          by_cases hlt : k < x.cols.length
          · obtain ⟨g0, g1⟩ := KN.out.xc _ (List.getElem_mem hlt)
            obtain ⟨q, hq⟩ := Int.eq_ofNat_of_zero_le g0
            have hqc : q < t.cols.length := by omega
            have hqr : q < row.length := by rw [mayAll_length HM.out]; omega
            have hqo : q < other.length := by rw [mayAll_length HM2.out]; omega
            have FS := Lib.hid (full_succ KN.out HM.out hlt hq hqr)
            have CS := Lib.hid (cols_succ KN.out HM.out HM2.out hlt hq hqr hqo)
            clear g0 g1
            obtain ⟨b0, off0, c0', cs0, hv0, _, ⟨rfl, _⟩, hcell0⟩ := (hx.cols.below hBw).at_ hlt
            simp only [Value.slice.injEq, true_and] at hv0
            obtain ⟨rfl, rfl⟩ := hv0
            obtain ⟨b1, off1, c1', cs1, hv1, _, ⟨rfl, _⟩, hcell1⟩ := (hr.below hBw).at_ hqr
            simp only [Value.slice.injEq, true_and] at hv1
            obtain ⟨rfl, rfl⟩ := hv1
            obtain ⟨b2, off2, c2', cs2, hv2, _, ⟨rfl, _⟩, hcell2⟩ := (ho.below hBw).at_ hqo
            simp only [Value.slice.injEq, true_and] at hv2
            obtain ⟨rfl, rfl⟩ := hv2
            have r0 := hcell0 0 _ rfl
            have p0 := hcell1 0 _ rfl
            have p1 := hcell1 1 _ rfl
            have p2 := hcell1 2 _ rfl
            have q0 := hcell2 0 _ rfl
            have q1 := hcell2 1 _ rfl
            have q2 := hcell2 2 _ rfl
            simp only [Nat.add_zero, show rVal.sz = 3 from rfl, show rInt.sz = 1 from rfl, Nat.mul_one] at p0 p1 p2 q0 q1 q2 r0
            rw [hq] at r0
            clear hcell0 hcell1 hcell2 hq
            obtain ⟨y, hy⟩ : ∃ y, y = row[q] := ⟨_, rfl⟩
            obtain ⟨z, hz⟩ : ∃ z, z = other[q] := ⟨_, rfl⟩
            rw [← hy] at p0 p1 p2 FS CS
            rw [← hz] at q0 q1 q2 CS
            clear hy hz
            have i3 : wr.cell? ⟨w.heap.size + 1, 3, none⟩ = some (.slice (some ⟨b0, off0, none⟩) x.cols.length c4) := kxw.cell 3
            have mr := Lib.hid (rfl : (1 : Nat) = 1)
            obtain ⟨F, hF⟩ : ∃ F, F = (x.uniq && !hasNull ((pickV row x.cols).take k)) := ⟨_, rfl⟩
            obtain ⟨C, hC⟩ : ∃ C, C = decide ((pickV row x.cols).take k = (pickV other x.cols).take k) := ⟨_, rfl⟩
            rw [← hF] at FS ⊢
            rw [← hC] at CS ⊢
            clear hF hC mr
            have l0 := Later.cell p0
            have l1 := Later.cell p1
            have l2 := Later.cell p2
            have m0 := Later.cell q0
            have m1 := Later.cell q1
            have m2 := Later.cell q2
            have fin : ∀ f c, f = (x.uniq && !hasNull ((pickV row x.cols).take (k + 1))) → c = decide ((pickV row x.cols).take (k + 1) = (pickV other x.cols).take (k + 1)) → ∀ wz, Below wr.heap.size wr wz →
              ∃ k' : Nat, k' ≤ x.cols.length ∧ (Value.int .i64 ((k : Int) + 1)) = .int .i64 (k' : Int) ∧ Value.bool f = .bool (x.uniq && !hasNull ((pickV row x.cols).take k')) ∧ Value.bool c = .bool (decide ((pickV row x.cols).take k' = (pickV other x.cols).take k')) ∧ Below s13.val.heap.size s13.val wz :=
              fun f c hf hc wz hbz => ⟨k + 1, by omega, by go_num, by rw [hf], by rw [hc], hb.trans (hbz.mono hb.size)⟩
            have FIN := Lib.hid fin
            clear fin
            cases F <;> cases C
            · have e0 : True := trivial
              have e1 : True := trivial
              go_wp2
              refine wp_region_later (by as_aux_lemma => kernel_rfl) (by as_aux_lemma => kernel_rfl) ?_
              repeat (go_big_quiet_step (fail))
              refine wpQuiet_nil ?_
              intro sx
              go_wp2
              go_roundw
              case rel => exact FIN.out _ _ (by rw [FS.out]; first | rfl | (rw [e0]; rfl)) (by rw [CS.out]; first | rfl | (unfold veq; rw [e1, e2, e3]; rfl)) _ sx.below
              case measure => simp [intOf]; omega
            · have e0 : True := trivial
              cases e1 : (y.k == z.k) <;> cases e2 : (y.i == z.i) <;> cases e3 : (y.s.toList == z.s.toList)
              all_goals
                go_wp2
                refine wp_region_later (by as_aux_lemma => kernel_rfl) (by as_aux_lemma => kernel_rfl) ?_
                repeat (go_big_quiet_step (fail))
                refine wpQuiet_nil ?_
                intro sx
                go_wp2
                go_roundw
                case rel => exact FIN.out _ _ (by rw [FS.out]; first | rfl | (rw [e0]; rfl)) (by rw [CS.out]; first | rfl | (unfold veq; rw [e1, e2, e3]; rfl)) _ sx.below
                case measure => simp [intOf]; omega
            · have e1 : True := trivial
              cases e0 : (y.k != 0)
              all_goals
                go_wp2
                refine wp_region_later (by as_aux_lemma => kernel_rfl) (by as_aux_lemma => kernel_rfl) ?_
                repeat (go_big_quiet_step (fail))
                refine wpQuiet_nil ?_
                intro sx
                go_wp2
                go_roundw
                case rel => exact FIN.out _ _ (by rw [FS.out]; first | rfl | (rw [e0]; rfl)) (by rw [CS.out]; first | rfl | (unfold veq; rw [e1, e2, e3]; rfl)) _ sx.below
                case measure => simp [intOf]; omega
            · cases e0 : (y.k != 0) <;> cases e1 : (y.k == z.k) <;> cases e2 : (y.i == z.i) <;> cases e3 : (y.s.toList == z.s.toList)
              all_goals
                go_wp2
                refine wp_region_later (by as_aux_lemma => kernel_rfl) (by as_aux_lemma => kernel_rfl) ?_
                repeat (go_big_quiet_step (fail))
                refine wpQuiet_nil ?_
                intro sx
                go_wp2
                go_roundw
                case rel => exact FIN.out _ _ (by rw [FS.out]; first | rfl | (rw [e0]; rfl)) (by rw [CS.out]; first | rfl | (unfold veq; rw [e1, e2, e3]; rfl)) _ sx.below
                case measure => simp [intOf]; omega
          · have hfk : (pickV row x.cols).take k = pickV row x.cols := List.take_of_length_le (by rw [len_cols KN.out HM.out]; omega)
            have hfo : (pickV other x.cols).take k = pickV other x.cols := List.take_of_length_le (by rw [len_cols KN.out HM2.out]; omega)
            rw [hfk, hfo]
            clear hfk hfo
            obtain ⟨b6, hb6⟩ : ∃ b, b = decide (nameB t (keyV t other) = nameB t (keyV t row)) := ⟨_, rfl⟩
            obtain ⟨b14, hb14⟩ : ∃ b, b = decide ((entryV t x row).1 = (entryV t x other).1) := ⟨_, rfl⟩
            obtain ⟨F, hF⟩ : ∃ F, F = (x.uniq && !hasNull (pickV row x.cols)) := ⟨_, rfl⟩
            obtain ⟨C, hC⟩ : ∃ C, C = decide (pickV row x.cols = pickV other x.cols) := ⟨_, rfl⟩
            obtain ⟨AL, hAL⟩ : ∃ AL, AL = leq (keyV t row) (keyV t other) := ⟨_, rfl⟩
            have E6 : b6 = AL := by
              rw [hb6, hAL, leq, decide_eq_decide]
              exact ⟨fun h => (names_alike KN.out HM.out OK.out.1 HM2.out OK.out.2).1 h.symm, fun h => by rw [h]⟩
            have E14 : b14 = (C && (F || AL)) := by
              have h := entries_alike KN.out HM.out OK.out.1 HM2.out OK.out.2
              rw [hb14, hF, hC, hAL, leq, ← Bool.decide_coe (x.uniq && !hasNull (pickV row x.cols)), ← Bool.decide_or, ← Bool.decide_and, decide_eq_decide, h]
              simp
            rw [← hF, ← hC, ← hAL]
            have HB6 := Lib.hid hb6
            have HB14 := Lib.hid hb14
            have BK : Hid (b6 = AL ∧ b14 = (C && (F || AL))) := ⟨E6, E14⟩
            clear hb6 hb14 hF hC hAL E6 E14
            have ktw := kt13.below hb kt13.lt
            have kpw := kp13.below hb kp13.lt
            have kqw := kq13.below hb kq13.lt
            have rpw := rp13.below hb
            have rqw := rq13.below hb
            have rnw := r13.below hb
            have i3 : wr.cell? ⟨w.heap.size + 1, 3, none⟩ = some (.slice A4 x.cols.length c4) := kxw.cell 3
            obtain ⟨a0, a1, a2, a3⟩ := tab_laters ktw
            have z0 : ∀ s : Later wr, s.val.cell? ⟨gp, 0, none⟩ = some (.slice B1 (entryV t x row).1.length d1) := kpw.later rfl
            have y0 : ∀ s : Later wr, s.val.cell? ⟨gq, 0, none⟩ = some (.slice B2 (entryV t x other).1.length d2) := kqw.later rfl
            clear kt13 kp13 kq13 rp13 rq13 r13 kx13 kxw
            go_upto_region 16 with fail
            clear i3
            obtain ⟨rfl, BE⟩ := BK.out
            have HBE := Lib.hid BE
            clear BE BK
            refine wp_later_many [(3, Sp.rsl rVal (fun _ => True) (keyV t other)), (4, Sp.rb (fun _ => True) (nameB t (keyV t other))), (6, Sp.val (.bool b6)), (14, Sp.val (.bool b14))] [3, 4, 6, 14] (by as_aux_lemma => kernel_rfl) (by as_aux_lemma => kernel_rfl) ?_
            intro vv hv
            obtain ⟨B7, d7, e3, _⟩ : ∃ A c, vv 3 = .slice A (keyV t other).length c ∧ (keyV t other).length ≤ c := hv 3 (by decide)
            obtain ⟨B8, d8, e4, _⟩ : ∃ A c, vv 4 = .slice A (nameB t (keyV t other)).length c ∧ (nameB t (keyV t other)).length ≤ c := hv 4 (by decide)
            have e6 : vv 6 = .bool b6 := hv 6 (by decide)
            have e14 : vv 14 = .bool b14 := hv 14 (by decide)
            refine many_pre 3 (by decide) ?_
            simp only [List.take_succ_cons, List.take_zero, List.drop_succ_cons, List.drop_zero]
            repeat (go_big_quiet_step (fail))
            refine wpQuiet_nil (many_wild (by decide) rfl ?_ ?_)
            · intro s _
              unfold Gives
              go_simp
              have hbs := hBw.trans (s.below.mono hBw.size)
              refine (key_any t _ _ _ other _ (ht.below hbs) (ho.below hbs) hkn).mono ?_
              rintro e w3 ⟨⟨y, rfl, hy⟩, hb3⟩
              exact ⟨y, rfl, hy.mono (by decide) (fun _ _ _ => trivial), hb3⟩
            intro a' ha'
            subst ha'
            simp only [Act.put, List.setIfInBounds_toArray, List.set_cons_succ, List.set_cons_zero]
            rw [e3]
            refine many_wild (by decide) rfl ?_ ?_
            · intro s hf
              have f3 : RV _ s.val (vv 3) (keyV t other) := hf 3 (by decide) (by kernel_rfl)
              rw [e3] at f3
              unfold Gives
              go_simp
              have hbs := hBw.trans (s.below.mono hBw.size)
              refine (name_any t _ _ _ (keyV t other) _ (ht.below hbs) f3).mono ?_
              rintro e w3 ⟨⟨y, rfl, hy⟩, hb3⟩
              exact ⟨y, rfl, hy.mono (by decide) (fun _ _ _ => trivial), hb3⟩
            intro a' ha'
            subst ha'
            simp only [Act.put, List.setIfInBounds_toArray, List.set_cons_succ, List.set_cons_zero]
            rw [e4]
            refine many_pre 1 (by decide) ?_
            simp only [List.take_succ_cons, List.take_zero, List.drop_succ_cons, List.drop_zero]
            repeat (go_big_quiet_step (fail))
            refine wpQuiet_nil (many_wild (by decide) rfl ?_ ?_)
            · intro s hf
              have f4 : RB _ s.val (vv 4) (nameB t (keyV t other)) := hf 4 (by decide) (by kernel_rfl)
              rw [e4] at f4
              unfold Gives
              go_simp
              refine (bytes_rb _ _ _ _ _ f4 (rnw.below s.below)).mono ?_
              rintro e w3 ⟨he, rfl⟩
              exact ⟨_, he, by show _ = _; rw [HB6.out], Below.refl _ _⟩
            intro a' ha'
            subst ha'
            simp only [Act.put, List.setIfInBounds_toArray, List.set_cons_succ, List.set_cons_zero]
            rw [e6]
            cases F <;> cases C <;> cases b6 <;> cases b14 <;> try exact absurd HBE.out (by decide)
            all_goals
              refine many_pre 7 (by decide) ?_
              simp only [List.take_succ_cons, List.take_zero, List.drop_succ_cons, List.drop_zero]
              repeat (go_big_quiet_step (fail))
              refine wpQuiet_nil (many_wild (by decide) rfl ?_ ?_)
              · intro s _
                unfold Gives
                go_simp
                refine (bytes_rb _ _ _ _ _ (rpw.below s.below) (rqw.below s.below)).mono ?_
                rintro e w3 ⟨he, rfl⟩
                exact ⟨_, he, by show _ = _; rw [HB14.out], Below.refl _ _⟩
              intro a' ha'
              subst ha'
              simp only [Act.put, List.setIfInBounds_toArray, List.set_cons_succ, List.set_cons_zero]
              rw [e14]
              refine many_pre 10 (by decide) ?_
              simp only [List.take_succ_cons, List.take_zero, List.drop_succ_cons, List.drop_zero]
              repeat (go_big_quiet_step (fail))
              refine wpQuiet_nil (many_end ?_)
              intro s _
              have hBs := hBw.trans (s.below.mono hBw.size)
              go_wp2
              go_ret
              exact ⟨rfl, hBs⟩
end Go.Proofs.Ytikkknaofiafhaa
