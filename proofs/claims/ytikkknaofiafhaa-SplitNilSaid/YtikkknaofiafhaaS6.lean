/- Contract: the document's span. -/
import Derived.Test.YtikkknaofiafhaaS5
namespace Go.Proofs.Ytikkknaofiafhaa
open Go.RowKit

def spanTo (l : List OwnerD) (k : Nat) : List UInt8 := match l[k + 1]? with | some o => o.f | none => [121]
theorem spanTo_in {l : List OwnerD} {k : Nat} (h : k + 1 < l.length) : spanTo l k = l[k + 1].f := by simp [spanTo, h]
theorem spanTo_out {l : List OwnerD} {k : Nat} (h : ¬ k + 1 < l.length) : spanTo l k = [121] := by simp [spanTo, List.getElem?_eq_none (Nat.le_of_not_lt h)]

set_option maxRecDepth 100000 in
set_option maxHeartbeats 3200000 in
theorem span_any {ok : Nat → Prop} (d : RouteD) (a c : Value) (k : Nat) (hk : k < d.s.length) (w : World) (hr : RouteR ok w a c d) :
    Calls Try.prog 69 #[.agg (routeCs d a c), .int .i64 (k : Int)] w fun e w' => (∃ fr ut, e = .returned (.agg #[fr, ut]) ∧ RB (fun b => w.heap.size ≤ b) w' fr d.s[k].f ∧ RB (fun b => w.heap.size ≤ b) w' ut (spanTo d.s k)) ∧ Below w.heap.size w w' := by
  obtain ⟨A, cc, rfl, hc, hbd⟩ := hr.s.form
  obtain ⟨A2, cc2, rfl, _, hbd2⟩ := hr.c.form
  have hbd' : d.s.length * 32 ≤ 140737488351232 := hbd
  go_enter Try.func69, Try.ntmps69
  go_upto_region 1 with fail
  refine name_world (fun w1 => Below w.heap.size w w1 ∧ w.heap.size + 2 ≤ w1.heap.size ∧ Blk w1 w.heap.size 42 (routeCs d (.slice A d.s.length cc) (.slice A2 d.c.length cc2)) ∧ Blk w1 (w.heap.size + 1) 50 #[nl, nl])
    ⟨((Below.refl _ _).alloc (Nat.le_refl _) _).alloc (by simp) _, by simp, (Blk.new w _ _).alloc _, Blk.new_ (by simp)⟩ ?_
  rintro w1 ⟨hB1, hz1, k1, k2⟩
  have hr1 := hr.below hB1
  obtain ⟨b1, off1, c1', cs1, hv1, _, ⟨a1, rfl, ha1, hg64⟩, hcell1⟩ := hr1.s.at_ hk
  simp only [Value.slice.injEq, true_and] at hv1
  obtain ⟨rfl, rfl⟩ := hv1
  have q1 := hcell1 1 _ rfl
  simp only [Nat.add_zero, show rOwner.sz = 2 from rfl] at q1
  clear hcell1
  obtain ⟨A1, n1, rfl, _, _⟩ := ha1.form
  obtain ⟨p, hp⟩ : ∃ p, p = d.s[k] := ⟨_, rfl⟩
  rw [← hp] at q1 ha1
  have HP := Lib.hid hp
  clear hp hg64
  have r2 : w1.cell? ⟨w.heap.size, 2, none⟩ = some (.slice (some ⟨b1, off1, none⟩) d.s.length cc) := k1.cell 2
  go_wp2_with fail
  refine (copy_rb _ p.f _ ha1).mono ?_
  rintro e w2 ⟨⟨x, rfl, hx⟩, hb2⟩
  obtain ⟨A4, c4, rfl, _, _⟩ := hx.form
  have kw2 := k1.below hb2 k1.lt
  have kz2 := k2.below hb2 k2.lt
  have hB2 := hB1.trans (hb2.mono hB1.size)
  have hz2 : w1.heap.size ≤ w2.heap.size := hb2.size
  clear r2 q1 k1 k2
  go_upto_region 2 with fail
  refine name_world (fun w3 => Below w.heap.size w w3 ∧ w2.heap.size + 2 ≤ w3.heap.size ∧ Blk w3 w.heap.size 42 (routeCs d (.slice (some ⟨b1, off1, none⟩) d.s.length cc) (.slice A2 d.c.length cc2)) ∧ Blk w3 (w.heap.size + 1) 50 #[nl, nl] ∧ Blk w3 (w2.heap.size + 1) 50 #[.slice A4 p.f.length c4, .slice (some ⟨w2.heap.size, 0, none⟩) 1 1] ∧
      RB (fun b => w1.heap.size ≤ b ∧ b ≠ w2.heap.size + 1) w3 (.slice A4 p.f.length c4) p.f ∧ RB (fun b => w1.heap.size ≤ b ∧ b ≠ w2.heap.size + 1) w3 (.slice (some ⟨w2.heap.size, 0, none⟩) 1 1) [121])
    ⟨(hB2.alloc hB2.size _).alloc (by simp; have := hB2.size; omega) _, by simp, (kw2.alloc _).alloc _, (kz2.alloc _).alloc _, Blk.new_ (by simp), ?_, ?_⟩ ?_
  · exact ((hx.mono (ok' := fun b => w1.heap.size ≤ b ∧ b ≠ w2.heap.size + 1) (by decide) fun b h hlt => ⟨h, by omega⟩).below ((Below.refl _ _).alloc (Nat.le_refl _) _)).below ((Below.refl _ _).alloc (Nat.le_refl _) _)
  · exact (RSl.one_new (ok := fun b => w1.heap.size ≤ b ∧ b ≠ w2.heap.size + 1) (E := rU8) (w := w2) (cs := #[.int .u8 121]) (d := 121) 5 rfl ⟨hz2, by omega⟩ (by decide)).below ((Below.refl _ _).alloc (Nat.le_refl _) _)
  rintro w3 ⟨hB3, hz3, k3, k4, k5, x3, u3⟩
  have r2 : w3.cell? ⟨w.heap.size, 2, none⟩ = some (.slice (some ⟨b1, off1, none⟩) d.s.length cc) := k3.cell 2
  by_cases hlt : k + 1 < d.s.length
  · have HT := Lib.hid (spanTo_in hlt)
    have ht : decide ((k : Int) + 1 < (d.s.length : Int)) = true := decide_eq_true (by omega)
    obtain ⟨b2, off2, c2', cs2, hv2, _, ⟨a2, rfl, ha2, _⟩, hcell2⟩ := (hr.s.below hB3).at_ hlt
    simp only [Value.slice.injEq, Option.some.injEq, Addr.mk.injEq, true_and, and_true] at hv2
    obtain ⟨⟨rfl, rfl⟩, rfl⟩ := hv2
    have q1 := hcell2 1 _ rfl
    simp only [Nat.add_zero, show rOwner.sz = 2 from rfl] at q1
    clear hcell2
    obtain ⟨A5, n5, rfl, _, _⟩ := ha2.form
    obtain ⟨o, ho⟩ : ∃ o, o = d.s[k + 1] := ⟨_, rfl⟩
    rw [← ho] at q1 ha2 HT
    clear ho
    go_wp2_with fail
    refine (copy_rb _ o.f _ ha2).mono ?_
    rintro e w4 ⟨⟨y, rfl, hy⟩, hb4⟩
    obtain ⟨A6, c6, rfl, _, _⟩ := hy.form
    have k6 := k5.below hb4 k5.lt
    have k7 := k4.below hb4 k4.lt
    have hB4 := hB3.trans (hb4.mono hB3.size)
    have x4 := x3.below hb4
    clear r2 q1 k3 k4 k5 u3
    have fz := fun i => k6.frozen i
    have g1 : w4.cell? ⟨w2.heap.size + 1, 1, none⟩ = some (.slice (some ⟨w2.heap.size, 0, none⟩) 1 1) := k6.cell 1
    go_upto_region 4 with fail
    have hkp : Kp (fun b => w1.heap.size ≤ b ∧ b ≠ w2.heap.size + 1) w4 (w4.setCell ⟨w2.heap.size + 1, 1, none⟩ (.slice A6 o.f.length c6)) := (Kp.refl _ _).setCell (fun _ h => h.2 rfl) _
    have hzz : w.heap.size + 2 ≤ w2.heap.size := by omega
    refine name_world (fun w5 => Below w.heap.size w w5 ∧ Blk w5 (w.heap.size + 1) 50 #[nl, nl] ∧ Blk w5 (w2.heap.size + 1) 50 #[.slice A4 p.f.length c4, .slice A6 o.f.length c6] ∧
        RB (fun b => w.heap.size + 2 ≤ b) w5 (.slice A4 p.f.length c4) p.f ∧ RB (fun b => w.heap.size + 2 ≤ b) w5 (.slice A6 o.f.length c6) o.f)
      ⟨hB4.setCell (by simp; omega) _, k7.far (by simp; omega) _, ?_, (x4.kp hkp).mono (by decide) fun b h _ => by omega, ((hy.mono (ok' := fun b => w1.heap.size ≤ b ∧ b ≠ w2.heap.size + 1) (by decide) fun b h _ => by omega).kp hkp).mono (by decide) fun b h _ => by omega⟩ ?_
    · have := k6.set_ 1 (.slice A6 o.f.length c6)
      simpa using this
    rintro w5 ⟨hB5, kz, ks, x5, y5⟩
    obtain ⟨i0, i1⟩ : w5.cell? ⟨w2.heap.size + 1, 0, none⟩ = some (.slice A4 p.f.length c4) ∧ w5.cell? ⟨w2.heap.size + 1, 1, none⟩ = some (.slice A6 o.f.length c6) := ⟨ks.cell 0, ks.cell 1⟩
    obtain ⟨j0, j1⟩ : w5.cell? ⟨w.heap.size + 1, 0, none⟩ = some nl ∧ w5.cell? ⟨w.heap.size + 1, 1, none⟩ = some nl := ⟨kz.cell 0, kz.cell 1⟩
    have fy := fun i => kz.frozen i
    go_wp2
    have hk6 : Kp (fun b => w.heap.size + 2 ≤ b) w5 ((w5.setCell ⟨w.heap.size + 1, 0, none⟩ (.slice A4 p.f.length c4)).setCell ⟨w.heap.size + 1, 1, none⟩ (.slice A6 o.f.length c6)) :=
      ((Kp.refl _ _).setCell (fun _ h => by have : w.heap.size + 2 ≤ w.heap.size + 1 := h; omega) _).setCell (fun _ h => by have : w.heap.size + 2 ≤ w.heap.size + 1 := h; omega) _
    have kz2 := (kz.set_ 0 (.slice A4 p.f.length c4)).set_ 1 (.slice A6 o.f.length c6)
    obtain ⟨d0, d1⟩ := And.intro (kz2.cell 0) (kz2.cell 1)
    simp at d0 d1
    refine bodyPost_ret (v := .agg #[.slice A4 p.f.length c4, .slice A6 o.f.length c6]) (by simp [results, Try.results69, go_sem, d0, d1]) rfl ?_
    exact ⟨⟨_, _, rfl, by rw [← HP.out]; exact (x5.kp hk6).mono (by decide) fun b h _ => by omega, by rw [HT.out]; exact (y5.kp hk6).mono (by decide) fun b h _ => by omega⟩, (hB5.setCell (by simp) _).setCell (by simp) _⟩
  · have HT := Lib.hid (spanTo_out hlt)
    have ht : decide ((k : Int) + 1 < (d.s.length : Int)) = false := decide_eq_false (by omega)
    obtain ⟨i0, i1⟩ : w3.cell? ⟨w2.heap.size + 1, 0, none⟩ = some (.slice A4 p.f.length c4) ∧ w3.cell? ⟨w2.heap.size + 1, 1, none⟩ = some (.slice (some ⟨w2.heap.size, 0, none⟩) 1 1) := ⟨k5.cell 0, k5.cell 1⟩
    obtain ⟨j0, j1⟩ : w3.cell? ⟨w.heap.size + 1, 0, none⟩ = some nl ∧ w3.cell? ⟨w.heap.size + 1, 1, none⟩ = some nl := ⟨k4.cell 0, k4.cell 1⟩
    have fy := fun i => k4.frozen i
    have x5 := x3.mono (ok' := fun b => w.heap.size + 2 ≤ b) (by decide) fun b h _ => by omega
    have y5 := u3.mono (ok' := fun b => w.heap.size + 2 ≤ b) (by decide) fun b h _ => by omega
    clear x3 u3
    go_wp2
    have hk6 : Kp (fun b => w.heap.size + 2 ≤ b) w3 ((w3.setCell ⟨w.heap.size + 1, 0, none⟩ (.slice A4 p.f.length c4)).setCell ⟨w.heap.size + 1, 1, none⟩ (.slice (some ⟨w2.heap.size, 0, none⟩) 1 1)) :=
      ((Kp.refl _ _).setCell (fun _ h => by have : w.heap.size + 2 ≤ w.heap.size + 1 := h; omega) _).setCell (fun _ h => by have : w.heap.size + 2 ≤ w.heap.size + 1 := h; omega) _
    have kz2 := (k4.set_ 0 (.slice A4 p.f.length c4)).set_ 1 (.slice (some ⟨w2.heap.size, 0, none⟩) 1 1)
    obtain ⟨d0, d1⟩ := And.intro (kz2.cell 0) (kz2.cell 1)
    simp at d0 d1
    refine bodyPost_ret (v := .agg #[.slice A4 p.f.length c4, .slice (some ⟨w2.heap.size, 0, none⟩) 1 1]) (by simp [results, Try.results69, go_sem, d0, d1]) rfl ?_
    exact ⟨⟨_, _, rfl, by rw [← HP.out]; exact (x5.kp hk6).mono (by decide) fun b h _ => by omega, by rw [HT.out]; exact (y5.kp hk6).mono (by decide) fun b h _ => by omega⟩, (hB3.setCell (by simp) _).setCell (by simp) _⟩
end Go.Proofs.Ytikkknaofiafhaa
