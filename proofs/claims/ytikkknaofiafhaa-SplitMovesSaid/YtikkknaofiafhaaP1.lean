/- Contracts: route.Owned, the document's Owned and Next.
Contract: the document's Next. -/
import Derived.Test.YtikkknaofiafhaaS2
namespace Go.Proofs.Ytikkknaofiafhaa
open Go.RowKit

set_option maxRecDepth 100000 in
set_option maxHeartbeats 3200000 in
theorem owned_in {ok : Nat → Prop} (d : RouteD) (a c : Value) (gr : Int) (k : Nat) (hat : atG d.s gr 0 = (k : Int)) (hk : k < d.s.length) (w : World) (hr : RouteR ok w a c d) :
    Calls Try.prog 127 #[.agg (routeCs d a c), .int .i64 gr] w fun e w' => (∃ fr ut, e = .returned (.agg #[fr, ut]) ∧ RB (fun b => w.heap.size ≤ b) w' fr d.s[k].f ∧ RB (fun b => w.heap.size ≤ b) w' ut (spanTo d.s k)) ∧ Below w.heap.size w w' := by
  obtain ⟨A, cc, rfl, hc, hbd⟩ := hr.s.form
  obtain ⟨A2, cc2, rfl, _, hbd2⟩ := hr.c.form
  have hbd' : d.s.length * 32 ≤ 140737488351232 := hbd
  go_enter Try.func127, Try.ntmps127
  go_upto_region 1 with fail
  refine name_world (fun w1 => Below w.heap.size w w1 ∧ w.heap.size + 2 ≤ w1.heap.size ∧ Blk w1 w.heap.size 42 (routeCs d (.slice A d.s.length cc) (.slice A2 d.c.length cc2)) ∧ Blk w1 (w.heap.size + 1) 50 #[nl, nl])
    ⟨((Below.refl _ _).alloc (Nat.le_refl _) _).alloc (by simp) _, by simp, (Blk.new w _ _).alloc _, Blk.new_ (by simp)⟩ ?_
  rintro w0 ⟨hB0, hz0, k10, k20⟩
  obtain ⟨r0, r1, r2, r3, r4⟩ := route_cells k10
  go_wp2_with fail
  refine (place_any d _ _ gr _ (hr.below hB0)).mono ?_
  rw [hat]
  rintro e w1 ⟨rfl, hb1⟩
  have hB1 := hB0.trans (hb1.mono hB0.size)
  have hz1 : w.heap.size + 2 ≤ w1.heap.size := Nat.le_trans hz0 hb1.size
  have k1 := k10.below hb1 k10.lt
  have k2 := k20.below hb1 k20.lt
  clear r0 r1 r2 r3 r4 k10 k20 hb1 hB0 hz0 hat
  have hr1 := hr.below hB1
  obtain ⟨b1, off1, c1', cs1, hv1, _, ⟨a1, rfl, ha1, hg64⟩, hcell1⟩ := hr1.s.at_ hk
  simp only [Value.slice.injEq, true_and] at hv1
  obtain ⟨rfl, rfl⟩ := hv1
  have q1 := hcell1 1 _ rfl
  simp only [Nat.add_zero, show rOwner.sz = 2 from rfl] at q1
  clear hcell1
  obtain ⟨A1, n1, rfl, _, _⟩ := ha1.form
  obtain ⟨p, hp⟩ : ∃ p, p = d.s[k] := ⟨_, rfl⟩
  rw [← hp] at q1 ha1
  have HP := Lib.hid hp
  clear hp hg64
  have knn : decide ((k : Int) < 0) = false := decide_eq_false (by omega)
  have r2 : w1.cell? ⟨w.heap.size, 2, none⟩ = some (.slice (some ⟨b1, off1, none⟩) d.s.length cc) := k1.cell 2
  go_wp2_with fail
  refine (clone_rb _ p.f _ ha1).mono ?_
  rintro e w2 ⟨⟨x, rfl, hx⟩, hb2⟩
  obtain ⟨A4, c4, rfl, _, _⟩ := hx.form
  have kw2 := k1.below hb2 k1.lt
  have kz2 := k2.below hb2 k2.lt
  have hB2 := hB1.trans (hb2.mono hB1.size)
  have hz2 : w1.heap.size ≤ w2.heap.size := hb2.size
  clear r2 q1 k1 k2
  go_upto_region 5 with fail
  refine name_world (fun w3 => Below w.heap.size w w3 ∧ w2.heap.size + 2 ≤ w3.heap.size ∧ Blk w3 w.heap.size 42 (routeCs d (.slice (some ⟨b1, off1, none⟩) d.s.length cc) (.slice A2 d.c.length cc2)) ∧ Blk w3 (w.heap.size + 1) 50 #[nl, nl] ∧ Blk w3 (w2.heap.size + 1) 50 #[.slice A4 p.f.length c4, .slice (some ⟨w2.heap.size, 0, none⟩) 1 1] ∧
      RB (fun b => w1.heap.size ≤ b ∧ b ≠ w2.heap.size + 1) w3 (.slice A4 p.f.length c4) p.f ∧ RB (fun b => w1.heap.size ≤ b ∧ b ≠ w2.heap.size + 1) w3 (.slice (some ⟨w2.heap.size, 0, none⟩) 1 1) [121])
    ⟨(hB2.alloc hB2.size _).alloc (by simp; have := hB2.size; omega) _, by simp, (kw2.alloc _).alloc _, (kz2.alloc _).alloc _, Blk.new_ (by simp), ?_, ?_⟩ ?_
  · exact ((hx.mono (ok' := fun b => w1.heap.size ≤ b ∧ b ≠ w2.heap.size + 1) (by decide) fun b h hlt => ⟨h, by omega⟩).below ((Below.refl _ _).alloc (Nat.le_refl _) _)).below ((Below.refl _ _).alloc (Nat.le_refl _) _)
  · exact (RSl.one_new (ok := fun b => w1.heap.size ≤ b ∧ b ≠ w2.heap.size + 1) (E := rU8) (w := w2) (cs := #[.int .u8 121]) (d := 121) 5 rfl ⟨hz2, by omega⟩ (by decide)).below ((Below.refl _ _).alloc (Nat.le_refl _) _)
  rintro w3 ⟨hB3, hz3, k3, k4, k5, x3, u3⟩
  have r2 : w3.cell? ⟨w.heap.size, 2, none⟩ = some (.slice (some ⟨b1, off1, none⟩) d.s.length cc) := k3.cell 2
  by_cases hlt : k + 1 < d.s.length
  · have HT := Lib.hid (spanTo_in hlt)
    have ht : decide ((k : Int) + 1 < (d.s.length : Int)) = true := decide_eq_true (by omega)
    obtain ⟨b2, off2, c2', cs2, hv2, _, ⟨a2, rfl, ha2, _⟩, hcell2⟩ := (hr.s.below hB3).at_ hlt
    simp only [Value.slice.injEq, Option.some.injEq, Addr.mk.injEq, true_and, and_true] at hv2
    obtain ⟨⟨rfl, rfl⟩, rfl⟩ := hv2
    have q1 := hcell2 1 _ rfl
    simp only [Nat.add_zero, show rOwner.sz = 2 from rfl] at q1
    clear hcell2
    obtain ⟨A5, n5, rfl, _, _⟩ := ha2.form
    obtain ⟨o, ho⟩ : ∃ o, o = d.s[k + 1] := ⟨_, rfl⟩
    rw [← ho] at q1 ha2 HT
    clear ho
    go_wp2_with fail
    refine (clone_rb _ o.f _ ha2).mono ?_
    rintro e w4 ⟨⟨y, rfl, hy⟩, hb4⟩
    obtain ⟨A6, c6, rfl, _, _⟩ := hy.form
    have k6 := k5.below hb4 k5.lt
    have k7 := k4.below hb4 k4.lt
    have hB4 := hB3.trans (hb4.mono hB3.size)
    have x4 := x3.below hb4
    clear r2 q1 k3 k4 k5 u3
    have fz := fun i => k6.frozen i
    have g1 : w4.cell? ⟨w2.heap.size + 1, 1, none⟩ = some (.slice (some ⟨w2.heap.size, 0, none⟩) 1 1) := k6.cell 1
    go_upto_region 7 with fail
    have hkp : Kp (fun b => w1.heap.size ≤ b ∧ b ≠ w2.heap.size + 1) w4 (w4.setCell ⟨w2.heap.size + 1, 1, none⟩ (.slice A6 o.f.length c6)) := (Kp.refl _ _).setCell (fun _ h => h.2 rfl) _
    have hzz : w.heap.size + 2 ≤ w2.heap.size := by omega
    refine name_world (fun w5 => Below w.heap.size w w5 ∧ Blk w5 (w.heap.size + 1) 50 #[nl, nl] ∧ Blk w5 (w2.heap.size + 1) 50 #[.slice A4 p.f.length c4, .slice A6 o.f.length c6] ∧
        RB (fun b => w.heap.size + 2 ≤ b) w5 (.slice A4 p.f.length c4) p.f ∧ RB (fun b => w.heap.size + 2 ≤ b) w5 (.slice A6 o.f.length c6) o.f)
      ⟨hB4.setCell (by simp; omega) _, k7.far (by simp; omega) _, ?_, (x4.kp hkp).mono (by decide) fun b h _ => by omega, ((hy.mono (ok' := fun b => w1.heap.size ≤ b ∧ b ≠ w2.heap.size + 1) (by decide) fun b h _ => by omega).kp hkp).mono (by decide) fun b h _ => by omega⟩ ?_
    · have := k6.set_ 1 (.slice A6 o.f.length c6)
      simpa using this
    rintro w5 ⟨hB5, kz, ks, x5, y5⟩
    obtain ⟨i0, i1⟩ : w5.cell? ⟨w2.heap.size + 1, 0, none⟩ = some (.slice A4 p.f.length c4) ∧ w5.cell? ⟨w2.heap.size + 1, 1, none⟩ = some (.slice A6 o.f.length c6) := ⟨ks.cell 0, ks.cell 1⟩
    obtain ⟨j0, j1⟩ : w5.cell? ⟨w.heap.size + 1, 0, none⟩ = some nl ∧ w5.cell? ⟨w.heap.size + 1, 1, none⟩ = some nl := ⟨kz.cell 0, kz.cell 1⟩
    have fy := fun i => kz.frozen i
    go_wp2
    have hk6 : Kp (fun b => w.heap.size + 2 ≤ b) w5 ((w5.setCell ⟨w.heap.size + 1, 0, none⟩ (.slice A4 p.f.length c4)).setCell ⟨w.heap.size + 1, 1, none⟩ (.slice A6 o.f.length c6)) :=
      ((Kp.refl _ _).setCell (fun _ h => by have : w.heap.size + 2 ≤ w.heap.size + 1 := h; omega) _).setCell (fun _ h => by have : w.heap.size + 2 ≤ w.heap.size + 1 := h; omega) _
    have kz2 := (kz.set_ 0 (.slice A4 p.f.length c4)).set_ 1 (.slice A6 o.f.length c6)
    obtain ⟨d0, d1⟩ := And.intro (kz2.cell 0) (kz2.cell 1)
    simp at d0 d1
    refine bodyPost_ret (v := .agg #[.slice A4 p.f.length c4, .slice A6 o.f.length c6]) (by simp [results, Try.results127, go_sem, d0, d1]) rfl ?_
    exact ⟨⟨_, _, rfl, by rw [← HP.out]; exact (x5.kp hk6).mono (by decide) fun b h _ => by omega, by rw [HT.out]; exact (y5.kp hk6).mono (by decide) fun b h _ => by omega⟩, (hB5.setCell (by simp) _).setCell (by simp) _⟩
  · have HT := Lib.hid (spanTo_out hlt)
    have ht : decide ((k : Int) + 1 < (d.s.length : Int)) = false := decide_eq_false (by omega)
    obtain ⟨i0, i1⟩ : w3.cell? ⟨w2.heap.size + 1, 0, none⟩ = some (.slice A4 p.f.length c4) ∧ w3.cell? ⟨w2.heap.size + 1, 1, none⟩ = some (.slice (some ⟨w2.heap.size, 0, none⟩) 1 1) := ⟨k5.cell 0, k5.cell 1⟩
    obtain ⟨j0, j1⟩ : w3.cell? ⟨w.heap.size + 1, 0, none⟩ = some nl ∧ w3.cell? ⟨w.heap.size + 1, 1, none⟩ = some nl := ⟨k4.cell 0, k4.cell 1⟩
    have fy := fun i => k4.frozen i
    have x5 := x3.mono (ok' := fun b => w.heap.size + 2 ≤ b) (by decide) fun b h _ => by omega
    have y5 := u3.mono (ok' := fun b => w.heap.size + 2 ≤ b) (by decide) fun b h _ => by omega
    clear x3 u3
    go_wp2
    have hk6 : Kp (fun b => w.heap.size + 2 ≤ b) w3 ((w3.setCell ⟨w.heap.size + 1, 0, none⟩ (.slice A4 p.f.length c4)).setCell ⟨w.heap.size + 1, 1, none⟩ (.slice (some ⟨w2.heap.size, 0, none⟩) 1 1)) :=
      ((Kp.refl _ _).setCell (fun _ h => by have : w.heap.size + 2 ≤ w.heap.size + 1 := h; omega) _).setCell (fun _ h => by have : w.heap.size + 2 ≤ w.heap.size + 1 := h; omega) _
    have kz2 := (k4.set_ 0 (.slice A4 p.f.length c4)).set_ 1 (.slice (some ⟨w2.heap.size, 0, none⟩) 1 1)
    obtain ⟨d0, d1⟩ := And.intro (kz2.cell 0) (kz2.cell 1)
    simp at d0 d1
    refine bodyPost_ret (v := .agg #[.slice A4 p.f.length c4, .slice (some ⟨w2.heap.size, 0, none⟩) 1 1]) (by simp [results, Try.results127, go_sem, d0, d1]) rfl ?_
    exact ⟨⟨_, _, rfl, by rw [← HP.out]; exact (x5.kp hk6).mono (by decide) fun b h _ => by omega, by rw [HT.out]; exact (y5.kp hk6).mono (by decide) fun b h _ => by omega⟩, (hB3.setCell (by simp) _).setCell (by simp) _⟩

/-- what a group has: its end -/
def ownedT (l : List OwnerD) (gr : Int) : List UInt8 := if atG l gr 0 < 0 then [] else spanTo l (atG l gr 0).toNat
def OwnedPost (d : RouteD) (gr : Int) (w : World) (e : Ending) (w' : World) : Prop := (∃ A1 n1 c1 A2 c2 lf, e = .returned (.agg #[.slice A1 n1 c1, .slice A2 (ownedT d.s gr).length c2]) ∧ RB (fun b => w.heap.size ≤ b) w' (.slice A1 n1 c1) lf ∧ RB (fun b => w.heap.size ≤ b) w' (.slice A2 (ownedT d.s gr).length c2) (ownedT d.s gr)) ∧ Below w.heap.size w w'

set_option maxRecDepth 100000 in
set_option maxHeartbeats 3200000 in
theorem owned_any {ok : Nat → Prop} (d : RouteD) (a c : Value) (gr : Int) (w : World) (hr : RouteR ok w a c d) :
    Calls Try.prog 127 #[.agg (routeCs d a c), .int .i64 gr] w (OwnedPost d gr w) := by
  rcases atG_ge d.s gr with h | ⟨k, h, hk, _⟩
  · have hT : ownedT d.s gr = [] := by unfold ownedT; rw [h]; rfl
    have HT := Lib.hid hT
    obtain ⟨A, cc, rfl, _, _⟩ := hr.s.form
    obtain ⟨A2, cc2, rfl, _, _⟩ := hr.c.form
    have HP : Hid (∀ w', Below w.heap.size w w' → OwnedPost d gr w (.returned (.agg #[nl, nl])) w') := fun w' hb => by
      unfold OwnedPost
      rw [HT.out]
      exact ⟨⟨none, 0, 0, none, 0, [], rfl, RSl.nil_ _ _ _, RSl.nil_ _ _ _⟩, hb⟩
    clear hT
    have H := Lib.hid h
    clear h
    go_enter Try.func127, Try.ntmps127
    go_upto_region 1 with fail
    refine name_world (fun w1 => Below w.heap.size w w1 ∧ w.heap.size + 2 ≤ w1.heap.size ∧ Blk w1 w.heap.size 42 (routeCs d (.slice A d.s.length cc) (.slice A2 d.c.length cc2)) ∧ Blk w1 (w.heap.size + 1) 50 #[nl, nl])
      ⟨((Below.refl _ _).alloc (Nat.le_refl _) _).alloc (by simp) _, by simp, (Blk.new w _ _).alloc _, Blk.new_ (by simp)⟩ ?_
    rintro w0 ⟨hB0, hz0, k10, k20⟩
    obtain ⟨r0, r1, r2, r3, r4⟩ := route_cells k10
    go_wp2_with fail
    refine (place_any d _ _ gr _ (hr.below hB0)).mono ?_
    rw [H.out]
    rintro e w1 ⟨rfl, hb1⟩
    have hB1 := hB0.trans (hb1.mono hB0.size)
    have k2 := k20.below hb1 k20.lt
    obtain ⟨j0, j1⟩ : w1.cell? ⟨w.heap.size + 1, 0, none⟩ = some nl ∧ w1.cell? ⟨w.heap.size + 1, 1, none⟩ = some nl := ⟨k2.cell 0, k2.cell 1⟩
    have fy := fun i => k2.frozen i
    clear r0 r1 r2 r3 r4 k10 k20
    go_wp2
    have kz2 := (k2.set_ 0 nl).set_ 1 nl
    obtain ⟨d0, d1⟩ := And.intro (kz2.cell 0) (kz2.cell 1)
    simp at d0 d1
    refine bodyPost_ret (v := .agg #[nl, nl]) (by simp [results, Try.results127, go_sem, d0, d1]) rfl ?_
    exact HP.out _ ((hB1.setCell (by simp) _).setCell (by simp) _)
  · have hT : ownedT d.s gr = spanTo d.s k := by unfold ownedT; rw [h, if_neg (by omega)]; rfl
    refine (owned_in d a c gr k h hk w hr).mono ?_
    rintro e w' ⟨⟨fr, ut, rfl, h1, h2⟩, hb⟩
    obtain ⟨A1, c1, rfl, _, _⟩ := h1.form
    obtain ⟨A2, c2, rfl, _, _⟩ := h2.form
    unfold OwnedPost
    rw [hT]
    exact ⟨⟨_, _, _, _, _, _, rfl, h1, h2⟩, hb⟩

set_option maxRecDepth 100000 in
set_option maxHeartbeats 3200000 in
theorem refOwned_any {ok : Nat → Prop} (d : RouteD) (a c : Value) (gr : Int) (w : World) (hr : RouteR ok w a c d) :
    Calls Try.prog 76 #[.agg (routeCs d a c), .int .i64 gr] w (OwnedPost d gr w) := by
  obtain ⟨A, cc, rfl, _, _⟩ := hr.s.form
  obtain ⟨A2, cc2, rfl, _, _⟩ := hr.c.form
  have H : Hid (atG d.s gr 0 = -1 ∨ ∃ j : Nat, atG d.s gr 0 = j ∧ ∃ h : j < d.s.length, d.s[j].g = gr) := atG_ge d.s gr
  obtain ⟨z, hz⟩ : ∃ z, z = atG d.s gr 0 := ⟨_, rfl⟩
  have HZ := Lib.hid hz
  clear hz
  go_enter Try.func76, Try.ntmps76
  go_upto_region 1 with fail
  refine name_world (fun w1 => Below w.heap.size w w1 ∧ w.heap.size + 2 ≤ w1.heap.size ∧ Blk w1 w.heap.size 42 (routeCs d (.slice A d.s.length cc) (.slice A2 d.c.length cc2)) ∧ Blk w1 (w.heap.size + 1) 50 #[nl, nl])
    ⟨((Below.refl _ _).alloc (Nat.le_refl _) _).alloc (by simp) _, by simp, (Blk.new w _ _).alloc _, Blk.new_ (by simp)⟩ ?_
  rintro w0 ⟨hB0, hz0, k10, k20⟩
  obtain ⟨r0, r1, r2, r3, r4⟩ := route_cells k10
  go_wp2_with fail
  refine (refAt_any d _ _ gr _ (hr.below hB0)).mono ?_
  rw [← HZ.out]
  rintro e w1 ⟨rfl, hb1⟩
  have hB1 := hB0.trans (hb1.mono hB0.size)
  have hz1 : w.heap.size + 2 ≤ w1.heap.size := Nat.le_trans hz0 hb1.size
  have k1 := k10.below hb1 k10.lt
  have k2 := k20.below hb1 k20.lt
  clear r0 r1 r2 r3 r4 k10 k20
  rcases H.out with h | ⟨k, h, hk, _⟩
  · obtain rfl : z = -1 := HZ.out.trans h
    have hT : ownedT d.s gr = [] := by unfold ownedT; rw [h]; rfl
    have HT := Lib.hid hT
    have HP : Hid (∀ w', Below w.heap.size w w' → OwnedPost d gr w (.returned (.agg #[nl, nl])) w') := fun w' hb => by
      unfold OwnedPost
      rw [HT.out]
      exact ⟨⟨none, 0, 0, none, 0, [], rfl, RSl.nil_ _ _ _, RSl.nil_ _ _ _⟩, hb⟩
    clear hT h
    obtain ⟨j0, j1⟩ : w1.cell? ⟨w.heap.size + 1, 0, none⟩ = some nl ∧ w1.cell? ⟨w.heap.size + 1, 1, none⟩ = some nl := ⟨k2.cell 0, k2.cell 1⟩
    have fy := fun i => k2.frozen i
    go_wp2
    have kz2 := (k2.set_ 0 nl).set_ 1 nl
    obtain ⟨d0, d1⟩ := And.intro (kz2.cell 0) (kz2.cell 1)
    simp at d0 d1
    refine bodyPost_ret (v := .agg #[nl, nl]) (by simp [results, Try.results76, go_sem, d0, d1]) rfl ?_
    exact HP.out _ ((hB1.setCell (by simp) _).setCell (by simp) _)
  · obtain rfl : z = (k : Int) := HZ.out.trans h
    have hT : ownedT d.s gr = spanTo d.s k := by unfold ownedT; rw [h, if_neg (by omega)]; rfl
    have HT := Lib.hid hT
    clear hT h
    have knn : decide ((k : Int) < 0) = false := decide_eq_false (by omega)
    obtain ⟨r0, r1, r2, r3, r4⟩ := route_cells k1
    go_wp2_with fail
    refine (span_any d _ _ k hk _ (hr.below hB1)).mono ?_
    rintro e w2 ⟨⟨fr, ut, rfl, h1, h2⟩, hb2⟩
    obtain ⟨A5, c5, rfl, _, _⟩ := h1.form
    obtain ⟨A6, c6, rfl, _, _⟩ := h2.form
    have hB2 := hB1.trans (hb2.mono hB1.size)
    have k22 := k2.below hb2 k2.lt
    obtain ⟨j0, j1⟩ : w2.cell? ⟨w.heap.size + 1, 0, none⟩ = some nl ∧ w2.cell? ⟨w.heap.size + 1, 1, none⟩ = some nl := ⟨k22.cell 0, k22.cell 1⟩
    have fy := fun i => k22.frozen i
    clear r0 r1 r2 r3 r4
    go_wp2
    have hk6 : Kp (fun b => w.heap.size + 2 ≤ b) w2 ((w2.setCell ⟨w.heap.size + 1, 0, none⟩ (.slice A5 d.s[k].f.length c5)).setCell ⟨w.heap.size + 1, 1, none⟩ (.slice A6 (spanTo d.s k).length c6)) :=
      ((Kp.refl _ _).setCell (fun _ h => by have : w.heap.size + 2 ≤ w.heap.size + 1 := h; omega) _).setCell (fun _ h => by have : w.heap.size + 2 ≤ w.heap.size + 1 := h; omega) _
    have kz2 := (k22.set_ 0 (.slice A5 d.s[k].f.length c5)).set_ 1 (.slice A6 (spanTo d.s k).length c6)
    obtain ⟨d0, d1⟩ := And.intro (kz2.cell 0) (kz2.cell 1)
    simp at d0 d1
    refine bodyPost_ret (v := .agg #[.slice A5 d.s[k].f.length c5, .slice A6 (spanTo d.s k).length c6]) (by simp [results, Try.results76, go_sem, d0, d1]) rfl ?_
    unfold OwnedPost
    rw [HT.out]
    exact ⟨⟨_, _, _, _, _, _, rfl, ((h1.mono (ok' := fun b => w.heap.size + 2 ≤ b) (by decide) fun b h _ => by omega).kp hk6).mono (by decide) fun b h _ => by omega, ((h2.mono (ok' := fun b => w.heap.size + 2 ≤ b) (by decide) fun b h _ => by omega).kp hk6).mono (by decide) fun b h _ => by omega⟩, (hB2.setCell (by simp) _).setCell (by simp) _⟩
end Go.Proofs.Ytikkknaofiafhaa

namespace Go.Proofs.Ytikkknaofiafhaa
open Go.RowKit

set_option maxRecDepth 100000 in
set_option maxHeartbeats 3200000 in
theorem refNext_any {ok : Nat → Prop} (d : RouteD) (a c : Value) (s : Int) (w : World) (hr : RouteR ok w a c d) (hb0 : 0 ≤ d.b ∧ d.b ≤ 1000) (hs : I64 s) :
    Calls Try.prog 75 #[.agg (routeCs d a c), .int .i64 s] w fun e w' => e = .returned (.int .i64 (nextG d.s d.b 1 (min s 4).toNat)) ∧ Below w.heap.size w w' := by
  obtain ⟨A, cc, rfl, hc, hbd⟩ := hr.s.form
  obtain ⟨A2, cc2, rfl, _, _⟩ := hr.c.form
  obtain ⟨z, hz⟩ : ∃ z, z = min s 4 := ⟨_, rfl⟩
  have hz4 : z ≤ 4 := by omega
  obtain ⟨hs1, hs2⟩ := hs
  obtain ⟨hb1, hb2⟩ := hb0
  have HZ := Lib.hid hz
  rw [← hz]
  go_enter Try.func75, Try.ntmps75
  unfold routeCs
  go_wp2
  go_loopw [5] (fun j wr => ∃ k : Nat, 1 ≤ k ∧ k ≤ z.toNat + 1 ∧ j = .int .i64 (d.b + (k : Int)) ∧ Below (w.heap.size + 1) (w.alloc (.cells #[.int .i64 d.e, .int .i64 d.b, .slice A d.s.length cc, .int .i64 d.m, .slice A2 d.c.length cc2] 42)) wr ∧ w.heap.size + 1 ≤ wr.heap.size ∧ Hid (nextG d.s d.b 1 z.toNat = nextG d.s d.b k (z.toNat + 1 - k))) (fun j _ => (d.b + z.toNat + 1 - intOf j).toNat)
  case atStart => exact ⟨1, by omega, by omega, rfl, Below.refl _ _, by simp, rfl⟩
  case round =>
    obtain ⟨k, hk1, hk, rfl, hb, hz1, HE⟩ := hrel
    have hbw := box_below hb
    have hr2 : RouteR ok wr (.slice A d.s.length cc) (.slice A2 d.c.length cc2) d := hr.below hbw
    have p0 : wr.cell? ⟨w.heap.size, 0, none⟩ = some (.int .i64 d.e) := box_at (i := 0) hb rfl
    have p1 : wr.cell? ⟨w.heap.size, 1, none⟩ = some (.int .i64 d.b) := box_at (i := 1) hb rfl
    have p2 : wr.cell? ⟨w.heap.size, 2, none⟩ = some (.slice A d.s.length cc) := box_at (i := 2) hb rfl
    have p3 : wr.cell? ⟨w.heap.size, 3, none⟩ = some (.int .i64 d.m) := box_at (i := 3) hb rfl
    have p4 : wr.cell? ⟨w.heap.size, 4, none⟩ = some (.slice A2 d.c.length cc2) := box_at (i := 4) hb rfl
    by_cases hlt : (k : Int) ≤ z
    · have hin := nextG_in d.s d.b k (z.toNat + 1 - k) (by omega)
      rw [show z.toNat + 1 - k - 1 = z.toNat + 1 - (k + 1) by omega] at hin
      have HI := Lib.hid hin
      clear hin
      have hk4 : k ≤ 4 := by omega
      by_cases h4 : 4 < s
      all_goals
        have t4 : decide (4 < s) = _ := (by first | exact decide_eq_true h4 | exact decide_eq_false h4)
        have t1 : decide (d.b + (k : Int) ≤ d.b + 4) = true := decide_eq_true (by omega)
        have t3 : decide (d.b + (k : Int) ≤ d.b + s) = true := decide_eq_true (by omega)
        have t5 : (k : Int) ≤ s := by omega
        have t6 : (k : Int) ≤ 4 := by omega
        clear hlt hz
        go_wp2_with fail
        refine (refAt_any d _ _ (d.b + k) _ hr2).mono ?_
        rintro e w1 ⟨rfl, hb1'⟩
        have hbn : Below (w.heap.size + 1) (w.alloc (.cells #[.int .i64 d.e, .int .i64 d.b, .slice A d.s.length cc, .int .i64 d.m, .slice A2 d.c.length cc2] 42)) w1 := hb.trans (hb1'.mono hz1)
        have hzn : w.heap.size + 1 ≤ w1.heap.size := Nat.le_trans hz1 hb1'.size
        have hbnw := box_below hbn
        by_cases hneg : atG d.s (d.b + k) 0 < 0
        · have ht : decide (atG d.s (d.b + k) 0 < 0) = true := decide_eq_true hneg
          have HF : Hid (nextG d.s d.b 1 z.toNat = d.b + k) := by rw [HE.out, HI.out, if_pos hneg]; trivial
          clear hneg
          go_wp2
          go_ret
          exact ⟨ret_int HF.out.symm, hbnw⟩
        · have ht : decide (atG d.s (d.b + k) 0 < 0) = false := decide_eq_false hneg
          have HF : Hid (nextG d.s d.b 1 z.toNat = nextG d.s d.b (k + 1) (z.toNat + 1 - (k + 1))) := by rw [HE.out, HI.out, if_neg hneg]; trivial
          clear hneg
          go_wp2
          go_roundw
          case rel => exact ⟨k + 1, by omega, by have := HZ.out; omega, by go_num, hbn, hzn, HF⟩
          case measure => have := HZ.out; simp [intOf]; omega
    · have HF : Hid (nextG d.s d.b 1 z.toNat = 0) := by rw [HE.out]; exact nextG_out _ _ _ _ (by omega)
      by_cases h4 : 4 < s
      all_goals
        have t4 : decide (4 < s) = _ := (by first | exact decide_eq_true h4 | exact decide_eq_false h4)
        first
          | have t1 : decide (d.b + (k : Int) ≤ d.b + 4) = false := decide_eq_false (by omega)
            have t3 : ¬ (k : Int) ≤ 4 := by omega
            clear hlt hz
            go_wp2
            go_ret
            exact ⟨ret_int HF.out.symm, hbw⟩
          | have t3 : decide (d.b + (k : Int) ≤ d.b + s) = false := decide_eq_false (by omega)
            have t5 : ¬ (k : Int) ≤ s := by omega
            clear hlt hz
            go_wp2
            go_ret
            exact ⟨ret_int HF.out.symm, hbw⟩
end Go.Proofs.Ytikkknaofiafhaa
