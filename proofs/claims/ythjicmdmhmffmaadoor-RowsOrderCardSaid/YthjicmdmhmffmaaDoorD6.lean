/- Contract: same.Within. -/
import Derived.Test.YthjicmdmhmffmaaDoorD5
import Derived.Test.YthjicmdmhmffmaaDoorReg8
import Derived.Test.YthjicmdmhmffmaaDoorC3
import Derived.Test.YthjicmdmhmffmaaDoorR11
namespace Go.Proofs.YthjicmdmhmffmaaDoor
open Go.RowKit

theorem rb_str {ok : Nat → Prop} {w : World} {v : Value} {l : List UInt8} (h : RB ok w v l) : (convert 34 9 v).run Tryd.prog w = .ok (.string (str l)) w := by
  obtain ⟨A, c, rfl, _, _, hr, _⟩ := h.open_
  exact run_str (c := c) (P := Tryd.prog) 34 9 5 Tryd.underlying34 Tryd.underlying5 Tryd.underlying9 hr

set_option maxRecDepth 100000 in
set_option maxHeartbeats 1600000 in
theorem withinD_any {ok ok2 : Nat → Prop} (fr ut k : Value) (lf lu lk : List UInt8) (w : World) (h1 : RB ok w fr lf) (h2 : RB ok w ut lu) (h3 : RB ok2 w k lk) :
    Calls Tryd.prog 14 #[.agg #[fr, ut], k] w fun e w' => e = .returned (.bool (btwn lf lu lk)) ∧ Below w.heap.size w w' := by
  obtain ⟨A1, c1, rfl, _, _⟩ := h1.form
  obtain ⟨A2, c2, rfl, _, _⟩ := h2.form
  obtain ⟨A3, c3, rfl, _, _⟩ := h3.form
  have hal : ∀ o, Below w.heap.size w (w.alloc o) := fun o => (Below.refl _ _).alloc (Nat.le_refl _) _
  have e1 := rb_str (h1.below (hal (.cells #[.slice A1 lf.length c1, .slice A2 lu.length c2] 43)))
  have e2 := rb_str (h2.below (hal (.cells #[.slice A1 lf.length c1, .slice A2 lu.length c2] 43)))
  have e3 := rb_str (h3.below (hal (.cells #[.slice A1 lf.length c1, .slice A2 lu.length c2] 43)))
  obtain ⟨B1, hB1⟩ : ∃ b, b = Op.bytesLess lk lf := ⟨_, rfl⟩
  obtain ⟨B2, hB2⟩ : ∃ b, b = Op.bytesLess lk lu := ⟨_, rfl⟩
  obtain ⟨B3, hB3⟩ : ∃ b, b = lu.isEmpty := ⟨_, rfl⟩
  have t1 : Op.bytesLess (str lk).toList (str lf).toList = B1 := by rw [str_toList, str_toList, hB1]
  have t2 : Op.bytesLess (str lk).toList (str lu).toList = B2 := by rw [str_toList, str_toList, hB2]
  have t3 : ((lu.length : Int) == 0) = B3 := by rw [hB3]; cases lu <;> simp; omega
  have HW : Hid (btwn lf lu lk = (!B1 && (B3 || B2))) := by unfold btwn; rw [hB1, hB2, hB3]; rfl
  clear hB1 hB2 hB3
  cases B1 <;> cases B2 <;> cases B3
  all_goals
    go_enter Tryd.func14, Tryd.ntmps14
    go_wp2
    go_ret
    exact ⟨ret_bool (by rw [HW.out]; rfl), hal _⟩

/-- the keys' order, as the law asks for it -/
theorem cmp_less (a b : List Val) : decide (cmpR a b < 0) = decide (cmpL a b = -1) := by
  rw [cmpR_L]
  rcases cmpL_three a b with h | h | h <;> rw [h] <;> rfl
/-- Cmp over data -/
theorem refCmp_rv {ok ok2 : Nat → Prop} (u v : Value) (l p : List Val) (w : World) (h1 : RV ok w u l) (h2 : RV ok2 w v p) :
    Calls Tryd.prog 10 #[u, v] w fun e w' => e = .returned (.int .i64 (cmpR l p)) ∧ Below w.heap.size w w' := by
  obtain ⟨A, c, rfl, _, hm, hd, _, _⟩ := h1.open_
  obtain ⟨B, d, rfl, _, hm2, hd2, _, _⟩ := h2.open_
  exact refCmp_any _ _ _ _ _ _ _ _ _ hd hd2 (by omega) (by omega)
theorem refEnc_rv {ok : Nat → Prop} (v : Value) (vs : List Val) (w : World) (hr : RV ok w v vs) : Calls Tryd.prog 13 #[v] w (EncPost vs w) := by
  obtain ⟨A, c, rfl, _, hm, hd, hk, _⟩ := hr.open_
  exact refEnc_any _ _ _ _ _ hd (by omega) hk
end Go.Proofs.YthjicmdmhmffmaaDoor
