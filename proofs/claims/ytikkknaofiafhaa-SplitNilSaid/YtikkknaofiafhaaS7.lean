/- Contract: same.Within. -/
import Derived.Test.YtikkknaofiafhaaS6
namespace Go.Proofs.Ytikkknaofiafhaa
open Go.RowKit

def withinB (lf lu lk : List UInt8) : Bool := !(Op.bytesLess lk lf) && (lu.isEmpty || Op.bytesLess lk lu)
theorem rb_str {ok : Nat → Prop} {w : World} {v : Value} {l : List UInt8} (h : RB ok w v l) : (convert 27 9 v).run Try.prog w = .ok (.string (str l)) w := by
  obtain ⟨A, c, rfl, _, _, hr, _⟩ := h.open_
  exact run_str (c := c) (P := Try.prog) 27 9 5 Try.underlying27 Try.underlying5 Try.underlying9 hr

set_option maxRecDepth 100000 in
set_option maxHeartbeats 1600000 in
theorem within_any {ok ok2 : Nat → Prop} (fr ut k : Value) (lf lu lk : List UInt8) (w : World) (h1 : RB ok w fr lf) (h2 : RB ok w ut lu) (h3 : RB ok2 w k lk) :
    Calls Try.prog 68 #[.agg #[fr, ut], k] w fun e w' => e = .returned (.bool (withinB lf lu lk)) ∧ Below w.heap.size w w' := by
  obtain ⟨A1, c1, rfl, _, _⟩ := h1.form
  obtain ⟨A2, c2, rfl, _, _⟩ := h2.form
  obtain ⟨A3, c3, rfl, _, _⟩ := h3.form
  have hal : ∀ o, Below w.heap.size w (w.alloc o) := fun o => (Below.refl _ _).alloc (Nat.le_refl _) _
  have e1 := rb_str (h1.below (hal (.cells #[.slice A1 lf.length c1, .slice A2 lu.length c2] 50)))
  have e2 := rb_str (h2.below (hal (.cells #[.slice A1 lf.length c1, .slice A2 lu.length c2] 50)))
  have e3 := rb_str (h3.below (hal (.cells #[.slice A1 lf.length c1, .slice A2 lu.length c2] 50)))
  obtain ⟨B1, hB1⟩ : ∃ b, b = Op.bytesLess lk lf := ⟨_, rfl⟩
  obtain ⟨B2, hB2⟩ : ∃ b, b = Op.bytesLess lk lu := ⟨_, rfl⟩
  obtain ⟨B3, hB3⟩ : ∃ b, b = lu.isEmpty := ⟨_, rfl⟩
  have t1 : Op.bytesLess (str lk).toList (str lf).toList = B1 := by rw [str_toList, str_toList, hB1]
  have t2 : Op.bytesLess (str lk).toList (str lu).toList = B2 := by rw [str_toList, str_toList, hB2]
  have t3 : ((lu.length : Int) == 0) = B3 := by rw [hB3]; cases lu <;> simp; omega
  have HW : Hid (withinB lf lu lk = (!B1 && (B3 || B2))) := by unfold withinB; rw [hB1, hB2, hB3]; rfl
  clear hB1 hB2 hB3
  cases B1 <;> cases B2 <;> cases B3
  all_goals
    go_enter Try.func68, Try.ntmps68
    go_wp2
    go_ret
    exact ⟨ret_bool (by rw [HW.out]; rfl), hal _⟩

/-- a span by value -/
def Sp.span (ok : Nat → Prop) (p q : List UInt8) : Sp :=
  ⟨fun x => ∃ A c A2 c2, x = .agg #[.slice A p.length c, .slice A2 q.length c2], .agg #[.slice none p.length 0, .slice none q.length 0], ⟨none, 0, none, 0, rfl⟩,
    fun x w => ∃ A c A2 c2, x = .agg #[.slice A p.length c, .slice A2 q.length c2] ∧ RB ok w (.slice A p.length c) p ∧ RB ok w (.slice A2 q.length c2) q,
    fun _ _ ⟨A, c, A2, c2, h, _⟩ => ⟨A, c, A2, c2, h⟩, fun _ _ _ hb ⟨A, c, A2, c2, h, h1, h2⟩ => ⟨A, c, A2, c2, h, h1.below hb, h2.below hb⟩⟩
end Go.Proofs.Ytikkknaofiafhaa
