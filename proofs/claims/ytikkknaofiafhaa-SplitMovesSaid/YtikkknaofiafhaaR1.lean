/- Contracts: rows.May, Right, pick, Fits; the document's may, Right, pick.
Contracts: the document's Right; rows.pick and the document's. -/
import Derived.Test.YtikkknaofiafhaaRelT
namespace Go.Proofs.Ytikkknaofiafhaa
open Go.RowKit

set_option maxRecDepth 100000 in
set_option maxHeartbeats 1600000 in
theorem may_any (c : ColD) (x : Val) (w : World) :
    Calls Try.prog 120 #[.agg #[.string c.name, .int .i64 c.kind, .bool c.null], .agg #[.int .i64 x.k, .int .i64 x.i, .string x.s]] w fun e w' => e = .returned (.bool (mayC c x)) ∧ Below w.heap.size w w' := by
  obtain ⟨cn, ck, cb⟩ := c
  obtain ⟨xk, xi, xs⟩ := x
  simp only [mayC]
  obtain ⟨R, hR⟩ : ∃ R, R = rightB xk xi xs := ⟨_, rfl⟩
  rw [← hR]
  have HR := Lib.hid hR; clear hR
  cases hq : R <;> cases h1 : (xk == ck) <;> cases h2 : (xk == 0) <;> cases cb
  all_goals
    all_goals
      have H1 := Lib.hid hq
      clear hq
      go_enter Try.func120, Try.ntmps120
      go_wp2_with fail
      refine (right_any _ _ _ _).mono ?_
      rintro e w1 ⟨rfl, hb1⟩
      have hb0 : Below w.heap.size w w1 := (((Below.refl _ _).alloc (Nat.le_refl _) _).alloc (by simp) _).trans (hb1.mono (by simp; omega))
      rw [← HR.out, H1.out]
      have c0 : w1.cell? ⟨w.heap.size, 1, none⟩ = some (.int .i64 ck) := (hb1.cell (p := ⟨w.heap.size, 1, none⟩) (by simp; omega)).trans (by simp [World.cell?_alloc_past])
      have c1 := (hb1.cell (p := ⟨w.heap.size, 2, none⟩) (by simp; omega))
      have c2 : w1.cell? ⟨w.heap.size + 1, 0, none⟩ = some (.int .i64 xk) := (hb1.cell (p := ⟨w.heap.size + 1, 0, none⟩) (by simp)).trans (by simp)
      simp [World.cell?_alloc_past] at c1
      go_wp2
      go_ret
      exact ⟨rfl, hb0⟩
set_option maxRecDepth 100000 in
set_option maxHeartbeats 1600000 in
theorem refMay_any (c : ColD) (x : Val) (w : World) :
    Calls Try.prog 113 #[.agg #[.string c.name, .int .i64 c.kind, .bool c.null], .agg #[.int .i64 x.k, .int .i64 x.i, .string x.s]] w fun e w' => e = .returned (.bool (mayC c x)) ∧ Below w.heap.size w w' := by
  obtain ⟨cn, ck, cb⟩ := c
  obtain ⟨xk, xi, xs⟩ := x
  simp only [mayC]
  obtain ⟨R, hR⟩ : ∃ R, R = rightB xk xi xs := ⟨_, rfl⟩
  rw [← hR]
  have HR := Lib.hid hR; clear hR
  cases hq : R <;> cases h1 : (xk == ck) <;> cases h2 : (xk == 0) <;> cases cb
  all_goals
    all_goals
      have H1 := Lib.hid hq
      clear hq
      go_enter Try.func113, Try.ntmps113
      go_wp2_with fail
      refine (refRight_any _ _ _ _).mono ?_
      rintro e w1 ⟨rfl, hb1⟩
      have hb0 : Below w.heap.size w w1 := (((Below.refl _ _).alloc (Nat.le_refl _) _).alloc (by simp) _).trans (hb1.mono (by simp; omega))
      rw [← HR.out, H1.out]
      have c0 : w1.cell? ⟨w.heap.size, 1, none⟩ = some (.int .i64 ck) := (hb1.cell (p := ⟨w.heap.size, 1, none⟩) (by simp; omega)).trans (by simp [World.cell?_alloc_past])
      have c1 := (hb1.cell (p := ⟨w.heap.size, 2, none⟩) (by simp; omega))
      have c2 : w1.cell? ⟨w.heap.size + 1, 0, none⟩ = some (.int .i64 xk) := (hb1.cell (p := ⟨w.heap.size + 1, 0, none⟩) (by simp)).trans (by simp)
      simp [World.cell?_alloc_past] at c1
      go_wp2
      go_ret
      exact ⟨rfl, hb0⟩

/-- where a box's cell is, later -/
theorem box_at {w wr : World} {cs : Array Value} {T : TypeId} {i : Nat} {u : Value} (hb : Below (w.heap.size + 1) (w.alloc (.cells cs T)) wr) (h : cs[i]? = some u) : wr.cell? ⟨w.heap.size, i, none⟩ = some u :=
  (hb.cell (p := ⟨w.heap.size, i, none⟩) (by simp)).trans (by simpa using h)
theorem box_below {w wr : World} {o : Obj} (hb : Below (w.heap.size + 1) (w.alloc o) wr) : Below w.heap.size w wr := ((Below.refl _ _).alloc (Nat.le_refl _) _).trans (hb.mono (by omega))

set_option maxRecDepth 100000 in
set_option maxHeartbeats 1600000 in
theorem rowRight_any {ok ok2 : Nat → Prop} (t : TabD) (a b v : Value) (row : List Val) (w : World) (ht : TabR ok w a b t) (hr : RV ok2 w v row) :
    Calls Try.prog 111 #[.agg (tabCs t a b), v] w fun e w' => e = .returned (.bool (mayAll t.cols row)) ∧ Below w.heap.size w w' := by
  obtain ⟨A, c, rfl, hc, hbd⟩ := ht.cols.form
  obtain ⟨A2, c2, rfl, hc2, hbd2⟩ := hr.form
  have hbd' : t.cols.length * 32 ≤ 140737488351232 := hbd
  have hbd2' : row.length * 32 ≤ 140737488351232 := hbd2
  clear hbd hbd2
  by_cases hl : row.length = t.cols.length
  · have HL := Lib.hid hl
    have hle : row.length ≤ t.cols.length := by omega
    have hge : t.cols.length ≤ row.length := by omega
    have ht1 : ((row.length : Int) != (t.cols.length : Int)) = false := by rw [hl]; simp
    clear hl
    go_enter Try.func111, Try.ntmps111
    unfold tabCs
    go_wp2
    go_loopw [15] (fun j wr => ∃ k : Nat, k ≤ row.length ∧ j = .int .i64 (k : Int) ∧ Below (w.heap.size + 1) (w.alloc (.cells #[.int .i64 t.id, .string t.name, .slice A t.cols.length c, b] 56)) wr ∧ w.heap.size + 1 ≤ wr.heap.size ∧
      Hid (∀ q (h1 : q < t.cols.length) (h2 : q < row.length), q < k → mayC t.cols[q] row[q] = true)) (fun j _ => row.length - (intOf j).toNat)
    case atStart => exact ⟨0, by omega, rfl, Below.refl _ _, by simp, fun q _ _ h => absurd h (by omega)⟩
    case round =>
      obtain ⟨k, hk, rfl, hb, hz, HA⟩ := hrel
      have hbw := box_below hb
      by_cases hlt : k < row.length
      · have hlt2 : k < t.cols.length := by omega
        obtain ⟨b1, off1, c1', cs1, hv1, _, ⟨rfl, hok⟩, hcell1⟩ := (hr.below hbw).at_ hlt
        simp only [Value.slice.injEq, true_and] at hv1
        obtain ⟨rfl, rfl⟩ := hv1
        obtain ⟨b2, off2, c2', cs2, hv2, _, ⟨rfl, _⟩, hcell2⟩ := (ht.cols.below hbw).at_ hlt2
        simp only [Value.slice.injEq, true_and] at hv2
        obtain ⟨rfl, rfl⟩ := hv2
        have p0 := hcell1 0 _ rfl
        have p1 := hcell1 1 _ rfl
        have p2 := hcell1 2 _ rfl
        have q0 := hcell2 0 _ rfl
        have q1 := hcell2 1 _ rfl
        have q2 := hcell2 2 _ rfl
        simp only [Nat.add_zero, show rVal.sz = 3 from rfl, show rCol.sz = 3 from rfl] at p0 p1 p2 q0 q1 q2
        clear hcell1 hcell2
        have bx := box_at (i := 2) hb rfl
        obtain ⟨cD, hcD⟩ : ∃ c, c = t.cols[k] := ⟨_, rfl⟩
        obtain ⟨x, hx⟩ : ∃ x, x = row[k] := ⟨_, rfl⟩
        have HM0 : Hid (mayC cD x = mayC t.cols[k] row[k]) := by rw [hcD, hx]; rfl
        rw [← hcD] at q0 q1 q2
        rw [← hx] at p0 p1 p2
        clear hcD hx
        have l0 := Later.cell (alloc1 q0 (.cells #[.int .i64 x.k, .int .i64 x.i, .string x.s] 24))
        have l1 := Later.cell (alloc1 q1 (.cells #[.int .i64 x.k, .int .i64 x.i, .string x.s] 24))
        have l2 := Later.cell (alloc1 q2 (.cells #[.int .i64 x.k, .int .i64 x.i, .string x.s] 24))
        have l3 := Later.cell (alloc1 bx (.cells #[.int .i64 x.k, .int .i64 x.i, .string x.s] 24))
        have m0 : ∀ s : Later (wr.alloc (.cells #[.int .i64 x.k, .int .i64 x.i, .string x.s] 24)), s.val.cell? ⟨wr.heap.size, 0, none⟩ = some (.int .i64 x.k) := Later.cell (by simp)
        have m1 : ∀ s : Later (wr.alloc (.cells #[.int .i64 x.k, .int .i64 x.i, .string x.s] 24)), s.val.cell? ⟨wr.heap.size, 1, none⟩ = some (.int .i64 x.i) := Later.cell (by simp)
        have m2 : ∀ s : Later (wr.alloc (.cells #[.int .i64 x.k, .int .i64 x.i, .string x.s] 24)), s.val.cell? ⟨wr.heap.size, 2, none⟩ = some (.string x.s) := Later.cell (by simp)
        go_wp2
        refine wp_region_later (by kernel_rfl) (by kernel_rfl) ?_
        repeat (go_big_quiet_step ((go_at_call 120; exact Later.call (may_any cD x _))))
        refine wpQuiet_nil ?_
        intro s1
        have hbx : Below (w.heap.size + 1) (w.alloc (.cells #[.int .i64 t.id, .string t.name, .slice (some ⟨b2, off2, none⟩) t.cols.length c, b] 56)) s1.val := (hb.alloc (by omega) _).trans (s1.below.mono (by simp; omega))
        have hz1 : w.heap.size + 1 ≤ s1.val.heap.size := by have := s1.below.size; simp at this; omega
        clear p0 p1 p2 q0 q1 q2 l0 l1 l2 l3 m0 m1 m2 bx
        rw [HM0.out]
        cases hM : mayC t.cols[k] row[k]
        · have HM := Lib.hid (mayAll_no k hlt2 hlt hM)
          go_wp2
          go_ret
          exact ⟨ret_bool HM.out.symm, box_below hbx⟩
        · have HM := Lib.hid hM
          go_wp2
          go_roundw
          case rel => exact ⟨k + 1, by omega, by go_num, hbx, by omega, fun q h1 h2 hq => by
            rcases Nat.lt_or_ge q k with h | h
            · exact HA.out q h1 h2 h
            · obtain rfl : q = k := by omega
              exact HM.out⟩
          case measure => simp [intOf]; omega
      · go_wp2
        go_ret
        refine ⟨ret_bool ?_, hbw⟩
        rw [mayAll_yes HL.out fun q h1 h2 => HA.out q h1 h2 (by omega)]
  · have ht1 : ((row.length : Int) != (t.cols.length : Int)) = true := by rw [bne_iff_ne]; omega
    have HM := Lib.hid (mayAll_len_no hl)
    clear hl
    go_enter Try.func111, Try.ntmps111
    unfold tabCs
    go_wp2
    go_ret
    exact ⟨ret_bool HM.out.symm, (Below.refl _ _).alloc (Nat.le_refl _) _⟩
end Go.Proofs.Ytikkknaofiafhaa

namespace Go.Proofs.Ytikkknaofiafhaa
open Go.RowKit

theorem Try.rowVal : RowTy Try.prog 22 24 3 32 := rowTy_mk Try.underlying22 (by kernel_rfl)

set_option maxRecDepth 100000 in
set_option maxHeartbeats 1600000 in
theorem refRowRight_any {ok ok2 : Nat → Prop} (t : TabD) (a b v : Value) (row : List Val) (w : World) (ht : TabR ok w a b t) (hr : RV ok2 w v row) :
    Calls Try.prog 53 #[.agg (tabCs t a b), v] w fun e w' => e = .returned (.bool (mayAll t.cols row)) ∧ Below w.heap.size w w' := by
  obtain ⟨A, c, rfl, hc, hbd⟩ := ht.cols.form
  obtain ⟨A2, c2, rfl, hc2, hbd2⟩ := hr.form
  have hbd' : t.cols.length * 32 ≤ 140737488351232 := hbd
  have hbd2' : row.length * 32 ≤ 140737488351232 := hbd2
  clear hbd hbd2
  by_cases hl : row.length = t.cols.length
  · have HL := Lib.hid hl
    have hle : row.length ≤ t.cols.length := by omega
    have hge : t.cols.length ≤ row.length := by omega
    have ht1 : ((row.length : Int) != (t.cols.length : Int)) = false := by rw [hl]; simp
    clear hl
    go_enter Try.func53, Try.ntmps53
    unfold tabCs
    go_wp2
    go_loopw [5] (fun j wr => ∃ k : Nat, k ≤ row.length ∧ j = .int .i64 (k : Int) ∧ Below (w.heap.size + 1) (w.alloc (.cells #[.int .i64 t.id, .string t.name, .slice A t.cols.length c, b] 56)) wr ∧ w.heap.size + 1 ≤ wr.heap.size ∧
      Hid (∀ q (h1 : q < t.cols.length) (h2 : q < row.length), q < k → mayC t.cols[q] row[q] = true)) (fun j _ => row.length - (intOf j).toNat)
    case atStart => exact ⟨0, by omega, rfl, Below.refl _ _, by simp, fun q _ _ h => absurd h (by omega)⟩
    case round =>
      obtain ⟨k, hk, rfl, hb, hz, HA⟩ := hrel
      have hbw := box_below hb
      by_cases hlt : k < row.length
      · have hlt2 : k < t.cols.length := by omega
        obtain ⟨b1, off1, c1', cs1, hv1, _, ⟨rfl, hok⟩, hcell1⟩ := (hr.below hbw).at_ hlt
        simp only [Value.slice.injEq, true_and] at hv1
        obtain ⟨rfl, rfl⟩ := hv1
        obtain ⟨b2, off2, c2', cs2, hv2, _, ⟨rfl, _⟩, hcell2⟩ := (ht.cols.below hbw).at_ hlt2
        simp only [Value.slice.injEq, true_and] at hv2
        obtain ⟨rfl, rfl⟩ := hv2
        have p0 := hcell1 0 _ rfl
        have p1 := hcell1 1 _ rfl
        have p2 := hcell1 2 _ rfl
        have q0 := hcell2 0 _ rfl
        have q1 := hcell2 1 _ rfl
        have q2 := hcell2 2 _ rfl
        simp only [Nat.add_zero, show rVal.sz = 3 from rfl, show rCol.sz = 3 from rfl] at p0 p1 p2 q0 q1 q2
        clear hcell1 hcell2
        have bx := box_at (i := 2) hb rfl
        obtain ⟨cD, hcD⟩ : ∃ c, c = t.cols[k] := ⟨_, rfl⟩
        obtain ⟨x, hx⟩ : ∃ x, x = row[k] := ⟨_, rfl⟩
        have HM0 : Hid (mayC cD x = mayC t.cols[k] row[k]) := by rw [hcD, hx]; rfl
        rw [← hcD] at q0 q1 q2
        rw [← hx] at p0 p1 p2
        clear hcD hx
        have l0 := Later.cell q0
        have l1 := Later.cell q1
        have l2 := Later.cell q2
        have l3 := Later.cell bx
        have m0 := Later.cell p0
        have m1 := Later.cell p1
        have m2 := Later.cell p2
        go_wp2
        refine wp_region_later (by kernel_rfl) (by kernel_rfl) ?_
        repeat (go_big_quiet_step ((go_at_call 113; exact Later.call (refMay_any cD x _))))
        refine wpQuiet_nil ?_
        intro s1
        have hbx : Below (w.heap.size + 1) (w.alloc (.cells #[.int .i64 t.id, .string t.name, .slice (some ⟨b2, off2, none⟩) t.cols.length c, b] 56)) s1.val := hb.trans (s1.below.mono (by omega))
        have hz1 : w.heap.size + 1 ≤ s1.val.heap.size := by have := s1.below.size; omega
        clear p0 p1 p2 q0 q1 q2 l0 l1 l2 l3 m0 m1 m2 bx
        rw [HM0.out]
        cases hM : mayC t.cols[k] row[k]
        · have HM := Lib.hid (mayAll_no k hlt2 hlt hM)
          go_wp2
          go_ret
          exact ⟨ret_bool HM.out.symm, box_below hbx⟩
        · have HM := Lib.hid hM
          go_wp2
          go_roundw
          case rel => exact ⟨k + 1, by omega, by go_num, hbx, by omega, fun q h1 h2 hq => by
            rcases Nat.lt_or_ge q k with h | h
            · exact HA.out q h1 h2 h
            · obtain rfl : q = k := by omega
              exact HM.out⟩
          case measure => simp [intOf]; omega
      · go_wp2
        go_ret
        refine ⟨ret_bool ?_, hbw⟩
        rw [mayAll_yes HL.out fun q h1 h2 => HA.out q h1 h2 (by omega)]
  · have ht1 : ((row.length : Int) != (t.cols.length : Int)) = true := by rw [bne_iff_ne]; omega
    have HM := Lib.hid (mayAll_len_no hl)
    clear hl
    go_enter Try.func53, Try.ntmps53
    unfold tabCs
    go_wp2
    go_ret
    exact ⟨ret_bool HM.out.symm, (Below.refl _ _).alloc (Nat.le_refl _) _⟩

/-- a list of one's own, of values, read -/
theorem OwnL.rv {okd : Nat → Prop} {base : Nat} {T : TypeId} {w : World} {v : Value} {l : List Val} (h : OwnL rVal okd base T w v l) (hb : l.length ≤ 4398046510976) (hd : ∀ b, okd b → base ≤ b) : RV (fun b => base ≤ b) w v l :=
  h.rsl (by decide) (by show l.length * 32 ≤ _; omega) (fun _ h => h) hd

set_option maxRecDepth 100000 in
set_option maxHeartbeats 1600000 in
theorem pick_any {ok ok2 : Nat → Prop} (v p : Value) (row : List Val) (places : List Int) (w : World) (hr : RV ok w v row) (hp : RSl rInt ok2 w p places) (hn : places.length ≤ 1000000) :
    Calls Try.prog 114 #[v, p] w fun e w' => (∃ v', e = .returned v' ∧ RV (fun b => w.heap.size ≤ b) w' v' (pickV row places)) ∧ Below w.heap.size w w' := by
  obtain ⟨A, c, rfl, hc, hbd⟩ := hp.form
  obtain ⟨A2, c2, rfl, hc2, hbd2⟩ := hr.form
  have hbd2' : row.length * 32 ≤ 140737488351232 := hbd2
  clear hbd hbd2
  go_enter Try.func114, Try.ntmps114
  go_wp2
  go_loopw [5, 10] (fun v j wr => ∃ k : Nat, k ≤ places.length ∧ j = .int .i64 (k : Int) ∧ Below w.heap.size w wr ∧ OwnL rVal (fun b => w.heap.size ≤ b) w.heap.size 24 wr v (pickV row (places.take k))) (fun _ j _ => places.length - (intOf j).toNat)
  case atStart => exact ⟨0, by omega, rfl, Below.refl _ _, OwnL.nil_ _ _ _ _ _⟩
  case round =>
    obtain ⟨k, hk, rfl, hb, hown⟩ := hrel
    by_cases hlt : k < places.length
    · obtain ⟨b1, off1, c1', cs1, hv1, _, ⟨rfl, _⟩, hcell1⟩ := (hp.below hb).at_ hlt
      simp only [Value.slice.injEq, true_and] at hv1
      obtain ⟨rfl, rfl⟩ := hv1
      have p0 := hcell1 0 _ rfl
      simp only [Nat.add_zero, show rInt.sz = 1 from rfl, Nat.mul_one] at p0
      clear hcell1
      have HS := Lib.hid (pickV_take_succ row places k hlt)
      have hpl := pickV_length_le row (places.take k)
      have htl : (places.take k).length ≤ k := List.length_take_le _ _
      obtain ⟨q, hq⟩ : ∃ q, q = places[k] := ⟨_, rfl⟩
      rw [← hq] at p0 HS
      clear hq
      by_cases h0 : 0 ≤ q
      · obtain ⟨q, rfl⟩ := Int.eq_ofNat_of_zero_le h0
        by_cases h1 : q < row.length
        · obtain ⟨_, hat⟩ := at_some (row := row) (k := (q : Int)) (by omega) (by omega)
          simp only [Int.toNat_natCast] at hat
          obtain ⟨b2, off2, c2', cs2, hv2, _, ⟨rfl, hok⟩, hcell2⟩ := (hr.below hb).at_ h1
          simp only [Value.slice.injEq, true_and] at hv2
          obtain ⟨rfl, rfl⟩ := hv2
          have q0 := hcell2 0 _ rfl
          have q1 := hcell2 1 _ rfl
          have q2 := hcell2 2 _ rfl
          simp only [Nat.add_zero, show rVal.sz = 3 from rfl] at q0 q1 q2
          clear hcell2
          obtain ⟨x, hx⟩ : ∃ x, x = row[q] := ⟨_, rfl⟩
          rw [← hx] at q0 q1 q2 hok hat
          have HAT := Lib.hid hat
          clear hx hat
          go_wp2_with (at_builtin; go_loud (refine wp_app1 (E := rVal) (okd := fun b => w.heap.size ≤ b) Try.rowVal (by decide) rfl _ _ rfl _ (pickV row (places.take k)) wr _ x rfl hown rfl ⟨rfl, hok⟩ (by show (_ + 1) * 32 ≤ _; omega) (by omega) hb.size ?_); intro v' w' hown2 hk2 _)
          go_roundw
          case rel => exact ⟨k + 1, by omega, by go_num, hb.trans (hown.bel hk2 hb.size), by rw [HS.out, HAT.out]; exact hown2⟩
          case measure => simp [intOf]; omega
        · have HAT := Lib.hid (at_none (row := row) (k := (q : Int)) (by omega))
          have hge : ¬ ((q : Int) < (row.length : Int)) := by omega
          go_wp2
          go_roundw
          case rel => exact ⟨k + 1, by omega, by go_num, hb, by rw [HS.out, HAT.out]; simpa using hown⟩
          case measure => simp [intOf]; omega
      · have HAT := Lib.hid (at_none (row := row) (k := q) (by omega))
        have hd : decide ((0 : Int) ≤ q) = false := by simpa using h0
        go_wp2
        go_roundw
        case rel => exact ⟨k + 1, by omega, by go_num, hb, by rw [HS.out, HAT.out]; simpa using hown⟩
        case measure => simp [intOf]; omega
    · have hfin : places.take k = places := List.take_of_length_le (by omega)
      have HF := Lib.hid hfin
      clear hfin
      go_wp2
      go_ret
      rw [HF.out] at hown
      exact ⟨⟨_, rfl, hown.rv (by have := pickV_length_le row places; omega) (fun _ h => h)⟩, hb⟩
end Go.Proofs.Ytikkknaofiafhaa
