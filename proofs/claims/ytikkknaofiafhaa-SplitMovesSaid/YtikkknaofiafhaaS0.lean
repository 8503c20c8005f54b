/- Contracts: slices.Clone, CopyBytes over data.
Contracts: slices.Clone, CopyBytes over data; split.pairs. -/
import Derived.Test.YtikkknaofiafhaaC6
import Derived.Test.YtikkknaofiafhaaRelT
import Derived.Test.YtikkknaofiafhaaReg
import Derived.Outline
namespace Go.Proofs.Ytikkknaofiafhaa
open Go.RowKit

theorem OwnB.rb {base : Nat} {w : World} {A : Option Addr} {n c : Nat} {l : List UInt8} (h : OwnB base w A n c l) (hm : n ≤ 140737488351232) : RB (fun b => base ≤ b) w (.slice A n c) l := by
  refine RB.mk_ h.rd h.cap hm fun h0 a ha => ?_
  subst ha
  exact (World.ownsRow.lt h _ rfl).1

theorem clone_rb {ok : Nat → Prop} (v : Value) (l : List UInt8) (w : World) (hr : RB ok w v l) :
    Calls Try.prog 64 #[v] w fun e w' => (∃ v', e = .returned v' ∧ RB (fun b => w.heap.size ≤ b) w' v' l) ∧ Below w.heap.size w w' := by
  obtain ⟨A, c, rfl, hc, hm, hrd, _⟩ := hr.open_
  exact (clone_any A _ c l w hrd (by omega)).mono fun e w' ⟨⟨A', c', he, ho⟩, hb⟩ => ⟨⟨_, he, ho.rb hm⟩, hb⟩
theorem copy_rb {ok : Nat → Prop} (v : Value) (l : List UInt8) (w : World) (hr : RB ok w v l) :
    Calls Try.prog 25 #[v] w fun e w' => (∃ v', e = .returned v' ∧ RB (fun b => w.heap.size ≤ b) w' v' l) ∧ Below w.heap.size w w' := by
  obtain ⟨A, c, rfl, hc, hm, hrd, _⟩ := hr.open_
  exact (copy_any A _ c l w hrd (by omega)).mono fun e w' ⟨⟨A', c', he, ho⟩, hb⟩ => ⟨⟨_, he, ho.rb hm⟩, hb⟩

end Go.Proofs.Ytikkknaofiafhaa

namespace Go.Proofs.Ytikkknaofiafhaa
open Go.RowKit

theorem Try.rowPair : RowTy Try.prog 47 98 3 56 := rowTy_mk Try.underlying47 (by kernel_rfl)

set_option maxRecDepth 100000 in
set_option maxHeartbeats 1600000 in
theorem pairs_any {ok : Nat → Prop} (v : Value) (l : List PairD) (w : World) (hr : RSl rPair ok w v l) :
    Calls Try.prog 125 #[v] w fun e w' => (∃ v', e = .returned v' ∧ RSl rPair (fun b => w.heap.size ≤ b) w' v' l) ∧ Below w.heap.size w w' := by
  obtain ⟨A0, c0, rfl, hc0, hbd⟩ := hr.form
  have hbd' : l.length * 56 ≤ 140737488351232 := hbd
  go_enter Try.func125, Try.ntmps125
  go_wp2
  go_loopw [3, 8] (fun v j wr => ∃ k : Nat, k ≤ l.length ∧ j = .int .i64 (k : Int) ∧ Below w.heap.size w wr ∧ OwnL rPair (fun b => w.heap.size ≤ b) w.heap.size 98 wr v (l.take k)) (fun _ j _ => l.length - (intOf j).toNat)
  case atStart => exact ⟨0, by omega, rfl, Below.refl _ _, OwnL.nil_ _ _ _ _ _⟩
  case round =>
    obtain ⟨k, hk, rfl, hb, hown⟩ := hrel
    by_cases hlt : k < l.length
    · obtain ⟨b, off, c, cs, hv, _, ⟨a1, a2, rfl, ha1, ha2, hi64⟩, hcell⟩ := (hr.below hb).at_ hlt
      simp only [Value.slice.injEq, true_and] at hv
      obtain ⟨rfl, rfl⟩ := hv
      have q0 := hcell 0 _ rfl
      have q1 := hcell 1 _ rfl
      have q2 := hcell 2 _ rfl
      simp only [Nat.add_zero, show rPair.sz = 3 from rfl] at q0 q1 q2
      clear hcell
      obtain ⟨A1, c1, rfl, hc1, _⟩ := ha1.form
      obtain ⟨A2, c2, rfl, hc2, _⟩ := ha2.form
      obtain ⟨p, hp⟩ : ∃ p, p = l[k] := ⟨_, rfl⟩
      rw [← hp] at q0 q1 q2 ha1 ha2 hi64 hc1 hc2
      have HP := Lib.hid hp
      clear hp
      go_wp2
      have e0 : ∀ s : Later (wr.alloc (.cells #[.slice A1 p.k.length c1, .slice A2 p.v.length c2, .int .i64 p.n] 98)), s.val.cell? ⟨wr.heap.size, 0, none⟩ = some (.slice A1 p.k.length c1) := Later.cell (by simp)
      have e1 : ∀ s : Later (wr.alloc (.cells #[.slice A1 p.k.length c1, .slice A2 p.v.length c2, .int .i64 p.n] 98)), s.val.cell? ⟨wr.heap.size, 1, none⟩ = some (.slice A2 p.v.length c2) := Later.cell (by simp)
      have e2 : ∀ s : Later (wr.alloc (.cells #[.slice A1 p.k.length c1, .slice A2 p.v.length c2, .int .i64 p.n] 98)), s.val.cell? ⟨wr.heap.size, 2, none⟩ = some (.int .i64 p.n) := Later.cell (by simp)
      refine wp_later_many_tail 11 [(3, Sp.rb (fun b => wr.heap.size ≤ b) p.k), (6, Sp.rb (fun b => wr.heap.size ≤ b) p.v), (10, Sp.rsl rPair (fun b => wr.heap.size ≤ b) [p])] [3, 6, 10] (by kernel_rfl) (by kernel_rfl) (by kernel_rfl) ?_
      intro vv hv
      obtain ⟨B1, d1, e3, _⟩ : ∃ A c, vv 3 = .slice A p.k.length c ∧ p.k.length ≤ c := hv 3 (by decide)
      obtain ⟨B2, d2, e6, _⟩ : ∃ A c, vv 6 = .slice A p.v.length c ∧ p.v.length ≤ c := hv 6 (by decide)
      obtain ⟨B3, d3, e10, _⟩ : ∃ A c, vv 10 = .slice A 1 c ∧ 1 ≤ c := hv 10 (by decide)
      simp only [List.take_succ_cons, List.take_zero, List.drop_succ_cons, List.drop_zero]
      refine many_pre 3 (by decide) ?_
      simp only [List.take_succ_cons, List.take_zero, List.drop_succ_cons, List.drop_zero]
      repeat (go_big_quiet_step (fail))
      refine wpQuiet_nil (many_wild (by decide) rfl ?_ ?_)
      · intro s _
        unfold Gives
        go_simp
        refine (clone_rb _ p.k _ (ha1.below (((Below.refl _ _).alloc (Nat.le_refl _) _).trans (s.below.mono (by simp))))).mono ?_
        rintro e w1 ⟨⟨x, rfl, hx⟩, hb1⟩
        exact ⟨x, rfl, hx.mono (by decide) (fun b hb _ => by have := s.below.size; simp at this; omega), hb1⟩
      intro a' ha'
      subst ha'
      simp only [Act.put, List.setIfInBounds_toArray, List.set_cons_succ, List.set_cons_zero]
      rw [e3]
      refine many_pre 2 (by decide) ?_
      simp only [List.take_succ_cons, List.take_zero, List.drop_succ_cons, List.drop_zero]
      repeat (go_big_quiet_step (fail))
      refine wpQuiet_nil (many_wild (by decide) rfl ?_ ?_)
      · intro s _
        unfold Gives
        go_simp
        refine (clone_rb _ p.v _ (ha2.below (((Below.refl _ _).alloc (Nat.le_refl _) _).trans (s.below.mono (by simp))))).mono ?_
        rintro e w1 ⟨⟨x, rfl, hx⟩, hb1⟩
        exact ⟨x, rfl, hx.mono (by decide) (fun b hb _ => by have := s.below.size; simp at this; omega), hb1⟩
      intro a' ha'
      subst ha'
      simp only [Act.put, List.setIfInBounds_toArray, List.set_cons_succ, List.set_cons_zero]
      rw [e6]
      refine many_pre 3 (by decide) ?_
      simp only [List.take_succ_cons, List.take_zero, List.drop_succ_cons, List.drop_zero]
      repeat (go_big_quiet_step (fail))
      refine wpQuiet_nil (many_wild (by decide) rfl ?_ ?_)
      · intro s hf
        have f3 : RB _ s.val (vv 3) p.k := hf 3 (by decide) (by kernel_rfl)
        have f6 : RB _ s.val (vv 6) p.v := hf 6 (by decide) (by kernel_rfl)
        rw [e3] at f3
        rw [e6] at f6
        unfold Gives
        go_simp
        refine ⟨RSl.one_new (E := rPair) _ ⟨_, _, rfl, f3, f6, hi64⟩ (by have := s.below.size; simp at this; omega) (by decide), (Below.refl _ _).alloc (Nat.le_refl _) _⟩
      intro a' ha'
      subst ha'
      simp only [Act.put, List.setIfInBounds_toArray, List.set_cons_succ, List.set_cons_zero]
      rw [e10]
      refine many_end ?_
      intro s hf
      have f10 : RSl rPair _ s.val (vv 10) [p] := hf 10 (by decide)
      rw [e10] at f10
      have hbs : Below wr.heap.size wr s.val := ((Below.refl _ _).alloc (Nat.le_refl _) _).trans (s.below.mono (by simp))
      have hown2 := hown.below hbs
      have hsz : (l.take k).length = k := by rw [List.length_take]; omega
      have HSZ := Lib.hid hsz; clear hsz
      refine wp_appR (E := rPair) Try.rowPair (by decide) rfl _ _ rfl _ (l.take k) _ rfl hown2 _ [p] rfl (f10.mono (by decide) fun b hb2 _ => ⟨Nat.le_trans hb.size hb2, fun e => by have := (hown.lt b e.symm).2; omega⟩) (by rw [HSZ.out]; show (k + 1) * 56 ≤ _; omega) (by rw [HSZ.out]; show k + 1 ≤ _; omega) (Nat.le_trans hb.size hbs.size) ?_
      intro v' w' hown3 hk3 _
      go_wp2
      go_roundw
      case rel => exact ⟨k + 1, by omega, by go_num, hb.trans (hbs.mono hb.size) |>.trans (hown2.bel hk3 (Nat.le_trans hb.size hbs.size)), by rw [List.take_succ_eq_append_getElem hlt, ← HP.out]; exact hown3⟩
      case measure => simp [intOf]; omega
    · go_wp2
      go_ret
      have : l.take k = l := List.take_of_length_le (by omega)
      rw [this] at hown
      exact ⟨⟨_, rfl, hown.rsl (by decide) hbd (fun _ h => h) (fun _ h => h)⟩, hb⟩
end Go.Proofs.Ytikkknaofiafhaa
