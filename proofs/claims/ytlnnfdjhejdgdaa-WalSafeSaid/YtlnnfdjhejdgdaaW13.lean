/- Contracts: slices.Clone of lists of bytes, of numbers. -/
import Derived.Test.YtlnnfdjhejdgdaaW12
namespace Go.Proofs.Ytlnnfdjhejdgdaa
open Go.RowKit

theorem chunksNat {ok ok' : Nat → Prop} {w w' : World} : ∀ {css : List (List Value)} {l : List Nat}, Chunks rNat ok w css l → Chunks rNat ok' w' css l
  | [], [], _ => trivial
  | _ :: _, _ :: _, h => ⟨h.1, chunksNat h.2⟩
  | [], _ :: _, h => h.elim
  | _ :: _, [], h => h.elim
theorem OwnL.empty_ {α : Type} (E : Rel α) (okd : Nat → Prop) (base : Nat) (T : TypeId) (w : World) (hb : base ≤ w.heap.size) : OwnL E okd base T (w.alloc (.cells #[] T)) (.slice (some ⟨w.heap.size, 0, none⟩) 0 0) [] :=
  ⟨[], World.ownsRow_made w #[] 0 hb (by decide) (by simp), trivial⟩
set_option maxRecDepth 100000 in
set_option maxHeartbeats 3200000 in
theorem cloneNat_any {ok : Nat → Prop} (v : Value) (l : List Nat) (w : World) (h : RSl rNat ok w v l) (hl : l.length ≤ 1000000) :
    Calls Try.prog 54 #[v] w fun e w' => (∃ v', e = .returned v' ∧ OwnL rNat (fun _ => False) w.heap.size 3 w' v' l) ∧ Below w.heap.size w w' := by
  obtain ⟨A, n, c, css, rfl, hc, hn, _, hrd, hch, _⟩ := h
  subst hn
  have hE := fun (x : Option Addr) (w : World) => Lib.run_eql_slice_nil (P := Try.prog) w 22 3 x l.length c 0 0 Try.underlying22
  rcases A with _ | ad
  · have hl0 : l = [] := by
      rcases Nat.eq_zero_or_pos l.length with h0 | h0
      · exact List.eq_nil_of_length_eq_zero h0
      · obtain ⟨_, _, h, _⟩ := hrd.2 h0
        cases h
    subst hl0
    clear hE
    have hE := fun (w : World) => Lib.run_eql_slice_nil (P := Try.prog) w 22 3 none 0 c 0 0 Try.underlying22
    show Calls Try.prog _ #[.slice none 0 c] w _
    go_enter Try.func54, Try.ntmps54
    go_wp2
    go_ret
    exact ⟨⟨_, rfl, OwnL.nil_ _ _ _ _ _⟩, Below.refl _ _⟩
  · have hal : Below w.heap.size w (w.alloc (.cells #[] 3)) := (Below.refl _ _).alloc (Nat.le_refl _) _
    have ho := OwnL.empty_ rNat (fun _ => False) w.heap.size 3 w (Nat.le_refl _)
    go_enter Try.func54, Try.ntmps54
    go_wp2_with (at_builtin; go_loud (refine wp_app (E := rNat) (okd := fun _ => False) Try.rowNat (by decide) rfl _ _ rfl (.slice (some ⟨w.heap.size, 0, none⟩) 0 0) [] _ rfl ho (some ad) c l css rfl (hrd.below hal) (chunksNat hch) (by show (0 + l.length) * 8 ≤ _; omega) (by show 0 + l.length ≤ _; omega) (by simp) ?_); intro v' w5 hown5 hk5 hv5)
    go_ret
    exact ⟨⟨v', rfl, by simpa using hown5⟩, hal.trans (hk5.below (by simp) fun b hb e => by have := Option.some.inj e; simp at this; omega)⟩
set_option maxRecDepth 100000 in
set_option maxHeartbeats 3200000 in
theorem cloneBs_any {ok : Nat → Prop} (v : Value) (l : List (List UInt8)) (w : World) (h : RSl rBs ok w v l) (hl : l.length ≤ 1000000) :
    Calls Try.prog 53 #[v] w fun e w' => (∃ v', e = .returned v' ∧ OwnL rBs ok w.heap.size 33 w' v' l) ∧ Below w.heap.size w w' := by
  obtain ⟨A, n, c, css, rfl, hc, hn, _, hrd, hch, _⟩ := h
  subst hn
  have hE := fun (x : Option Addr) (w : World) => Lib.run_eql_slice_nil (P := Try.prog) w 36 33 x l.length c 0 0 Try.underlying36
  rcases A with _ | ad
  · have hl0 : l = [] := by
      rcases Nat.eq_zero_or_pos l.length with h0 | h0
      · exact List.eq_nil_of_length_eq_zero h0
      · obtain ⟨_, _, h, _⟩ := hrd.2 h0
        cases h
    subst hl0
    clear hE
    have hE := fun (w : World) => Lib.run_eql_slice_nil (P := Try.prog) w 36 33 none 0 c 0 0 Try.underlying36
    show Calls Try.prog _ #[.slice none 0 c] w _
    go_enter Try.func53, Try.ntmps53
    go_wp2
    go_ret
    exact ⟨⟨_, rfl, OwnL.nil_ _ _ _ _ _⟩, Below.refl _ _⟩
  · have hal : Below w.heap.size w (w.alloc (.cells #[] 33)) := (Below.refl _ _).alloc (Nat.le_refl _) _
    have hcc : Chunks rBs (fun b => ok b ∧ some b ≠ (Value.slice (some ⟨w.heap.size, 0, none⟩) 0 0).ownBlock) (w.alloc (.cells #[] 33)) css l := (hch.mono (ok' := fun b => (ok b ∧ some b ≠ (Value.slice (some ⟨w.heap.size, 0, none⟩) 0 0).ownBlock)) fun b hb hlt => ⟨hb, fun e => by have := Option.some.inj e; simp at this; omega⟩).kp (.of_below hal)
    have ho := OwnL.empty_ rBs ok w.heap.size 33 w (Nat.le_refl _)
    go_enter Try.func53, Try.ntmps53
    go_wp2_with (at_builtin; go_loud (refine wp_app (E := rBs) (okd := ok) Try.rowBs (by decide) rfl _ _ rfl (.slice (some ⟨w.heap.size, 0, none⟩) 0 0) [] _ rfl ho (some ad) c l css rfl (hrd.below hal) (hcc) (by show (0 + l.length) * 24 ≤ _; omega) (by show 0 + l.length ≤ _; omega) (by simp) ?_); intro v' w5 hown5 hk5 hv5)
    go_ret
    exact ⟨⟨v', rfl, by simpa using hown5⟩, hal.trans (hk5.below (by simp) fun b hb e => by have := Option.some.inj e; simp at this; omega)⟩
end Go.Proofs.Ytlnnfdjhejdgdaa
