/- Contracts: errors.Is of two error numbers; disk.fine, up, hit, Down, Size, New. -/
import Derived.Test.YtlnnfdjhejdgdaaW1
import Derived.Stop.Asserts
import Derived.Lib.IfaceEq
import Derived.Laws.MakeOwn
namespace Go.Proofs.Ytlnnfdjhejdgdaa
open Go.RowKit Go.Extern.Stop Go.Stop Go.Extern

theorem Try.isTypeOf (v : Value) (w : World) : (Extern.ReflectliteType.typeOf #[.iface 24 v]).run Try.prog w = .ok (.iface 108 (.agg #[typeHandle Try.prog 24])) w := by kernel_rfl
theorem Try.isComparable (w : World) : (callFunc 84 #[.agg #[typeHandle Try.prog 24]]).run Try.prog w = .ok (.value (.bool true)) w := by
  rw [@run_callFunc_extern Try.prog 84 _ (Extern.ReflectliteType.method fun t => do Go.Extern.Rtype.noPackHeld "Comparable" t; pure (.bool (← typeInfo t).comparable)) Try.func84 (by kernel_rfl) (by kernel_rfl) (by kernel_rfl) (by kernel_rfl)]
  kernel_rfl
theorem Try.isMethodComparable (v : Value) (w : World) : (Go.method 250 108 v "Comparable").run Try.prog w = .ok (84, v) w := by kernel_rfl
theorem Try.isComp : (Try.prog.info? 24).map (·.comparable) = some true := by kernel_rfl
theorem Try.noIs (v : Value) (xT : TypeId) (w : World) : (Instr.typeAssert (.iface 24 v) xT 110 true).run Try.prog w = .ok (.tuple #[.nilIface, .bool false]) w := run_typeAssert_lacksB Try.underlying110 (by kernel_rfl) (by kernel_rfl) v xT w
theorem Try.noUnwrap (v : Value) (xT : TypeId) (w : World) : (Instr.typeAssert (.iface 24 v) xT 112 true).run Try.prog w = .ok (.tuple #[.nilIface, .bool false]) w := run_typeAssert_lacksB Try.underlying112 (by kernel_rfl) (by kernel_rfl) v xT w
theorem Try.noUnwraps (v : Value) (xT : TypeId) (w : World) : (Instr.typeAssert (.iface 24 v) xT 114 true).run Try.prog w = .ok (.tuple #[.nilIface, .bool false]) w := run_typeAssert_lacksB Try.underlying114 (by kernel_rfl) (by kernel_rfl) v xT w

set_option maxRecDepth 100000 in
set_option maxHeartbeats 3200000 in
theorem errIs_any (a b : Int) (w : World) :
    Calls Try.prog 57 #[.iface 24 (.int .i64 a), .iface 24 (.int .i64 b)] w fun e w' => e = .returned (.bool (a == b)) ∧ w' = w := by
  have h8 := @run_callFunc_extern Try.prog 60 _ Extern.ReflectliteType.typeOf Try.func60 (by kernel_rfl) (by kernel_rfl) (by kernel_rfl) (by kernel_rfl)
  have tT := Try.isTypeOf
  have cT := Try.isComparable
  have mR := Try.isMethodComparable
  have nE := Try.noIs
  have uE := Try.noUnwrap
  have vE := Try.noUnwraps
  have heq := Lib.run_eql_iface_int (P := Try.prog) w (k := .i64) a b Try.underlying99 Try.isComp Try.underlying24
  cases hab : (a == b) <;> rw [hab] at heq
  · go_enter Try.func57, Try.ntmps57
    go_wp2
    refine wp_loop_rounds 1 ?_
    rw [rounds_succ]
    go_wp2
    go_ret
    exact ⟨rfl, rfl⟩
  · go_enter Try.func57, Try.ntmps57
    go_wp2
    refine wp_loop_rounds 1 ?_
    rw [rounds_succ]
    go_wp2
    go_ret
    exact ⟨rfl, rfl⟩
/-- is it OK? -/
theorem fine_any (a : Int) (w : World) : Calls Try.prog 50 #[.iface 24 (.int .i64 a)] w fun e w' => e = .returned (.bool (a == 0)) ∧ w' = w := by
  go_enter Try.func50, Try.ntmps50
  go_wp2_with fail
  refine (errIs_any a 0 _).mono ?_
  rintro e w1 ⟨rfl, rfl⟩
  go_wp2
  go_ret
  exact ⟨rfl, rfl⟩
section
variable {ft : Nat → Prop} {g : Nat} {d : DskD} {w : World}
theorem up_any (h : DiskR ft w g d) : Calls Try.prog 49 #[.pointer (some ⟨g, 0, none⟩)] w fun e w' => e = .returned (.int .i64 (if d.down = true then 3 else 0)) ∧ w' = w := by
  obtain ⟨kb, vw, hb, _⟩ := h
  obtain ⟨c0, c1, c2, c3⟩ := dk_cells hb
  cases hd : d.down <;> rw [hd] at c2
  · go_enter Try.func49, Try.ntmps49
    go_wp2
    go_ret
    exact ⟨rfl, rfl⟩
  · go_enter Try.func49, Try.ntmps49
    go_wp2
    go_ret
    exact ⟨rfl, rfl⟩
theorem dDown_any (h : DiskR ft w g d) : Calls Try.prog 23 #[.pointer (some ⟨g, 0, none⟩)] w fun e w' => e = .returned (.bool d.down) ∧ w' = w := by
  obtain ⟨kb, vw, hb, _⟩ := h
  obtain ⟨c0, c1, c2, c3⟩ := dk_cells hb
  go_enter Try.func23, Try.ntmps23
  go_wp2
  go_ret
  exact ⟨rfl, rfl⟩
theorem dSize_any (h : DiskR ft w g d) : Calls Try.prog 28 #[.pointer (some ⟨g, 0, none⟩)] w fun e w' => e = .returned (.int .i64 (d.kept.length : Int)) ∧ w' = w := by
  obtain ⟨kb, vw, hb, _⟩ := h
  obtain ⟨c0, c1, c2, c3⟩ := dk_cells hb
  go_enter Try.func28, Try.ntmps28
  go_wp2
  go_ret
  exact ⟨rfl, rfl⟩
/-- a call is hit, or not -/
theorem hit_any (h : DiskR ft w g d) : Calls Try.prog 58 #[.pointer (some ⟨g, 0, none⟩)] w fun e w' => e = .returned (.bool d.hit.2) ∧ DiskR ft w' g d.hit.1 ∧ Kp (fun b => b ≠ g) w w' := by
  obtain ⟨kb, vw, h1, h2, h3, h4, h5, h6, h7, h8, h9, h10, h11, h12, h13, h14⟩ := h
  obtain ⟨c0, c1, c2, c3⟩ := dk_cells h1
  have fg := fun i => h1.frozen i
  by_cases ha : d.armed = 0
  · have t : ((d.armed : Int) == 0) = true := by rw [ha]; rfl
    have hh : d.hit = (d, false) := by unfold DskD.hit; rw [if_pos ha]
    rw [hh]
    have hR : DiskR ft w g d := ⟨kb, vw, h1, h2, h3, h4, h5, h6, h7, h8, h9, h10, h11, h12, h13, h14⟩
    clear h1 h2 h3 h9 h10
    go_enter Try.func58, Try.ntmps58
    go_wp2
    go_ret
    exact ⟨rfl, hR, Kp.refl _ _⟩
  · have t : ((d.armed : Int) == 0) = false := by simpa using ha
    have t' : decide ((d.armed : Int) = 0) = false := decide_eq_false (by omega)
    obtain ⟨k, hk⟩ : ∃ k, d.armed = k + 1 := ⟨d.armed - 1, by omega⟩
    have e1 : (d.armed : Int) - 1 = (k : Int) := by omega
    have hh : d.hit = ({ d with armed := k, down := decide (k = 0) }, decide (k = 0)) := by unfold DskD.hit; rw [if_neg ha, hk]; rfl
    rw [hh]
    have hfin : ∀ b, b = decide (k = 0) → DiskR ft ((w.setCell ⟨g, 3, none⟩ (.int .i64 (k : Int))).setCell ⟨g, 2, none⟩ (.bool b)) g { d with armed := k, down := decide (k = 0) } := fun b hb => by
      subst hb
      have hbb : Blk ((w.setCell ⟨g, 3, none⟩ (.int .i64 (k : Int))).setCell ⟨g, 2, none⟩ (.bool (decide (k = 0)))) g 62 #[.slice (some ⟨kb, 0, none⟩) d.kept.length d.kept.length, vw, .bool (decide (k = 0)), .int .i64 (k : Int)] := by simpa using (h1.set_ 3 (.int .i64 (k : Int))).set_ 2 (.bool (decide (k = 0)))
      have hK : Kp (fun b => b ≠ g) w ((w.setCell ⟨g, 3, none⟩ (.int .i64 (k : Int))).setCell ⟨g, 2, none⟩ (.bool (decide (k = 0)))) := ((Kp.refl _ _).setCell (fun _ h => h rfl) _).setCell (fun _ h => h rfl) _
      exact ⟨kb, vw, hbb, h2.kp hK h4, h3.kp hK (fun _ h => h.elim) (fun b hb e => h5 (by rw [← e]; exact hb.symm)), h4, h5, h6, h7, h8, h9, ⟨h10.kept, h10.wait⟩, h11, h12, by show k < _; omega, h14⟩
    have hK : ∀ b, Kp (fun b => b ≠ g) w ((w.setCell ⟨g, 3, none⟩ (.int .i64 (k : Int))).setCell ⟨g, 2, none⟩ (.bool b)) := fun b => ((Kp.refl _ _).setCell (fun _ h => h rfl) _).setCell (fun _ h => h rfl) _
    have HF := Lib.hid hfin
    clear hfin h1 h2 h3 h9 h10 hk ha hh
    by_cases k0 : k = 0
    · subst k0
      have u : (((0 : Nat) : Int) == 0) = true := rfl
      go_enter Try.func58, Try.ntmps58
      go_wp2
      go_ret
      simp only [e1, u]
      exact ⟨rfl, HF.out _ rfl, hK _⟩
    · have u : ((k : Int) == 0) = false := by simpa using k0
      have u' : decide ((k : Int) = 0) = false := decide_eq_false (by omega)
      have u2 : decide (k = 0) = false := decide_eq_false k0
      rw [u2]
      go_enter Try.func58, Try.ntmps58
      go_wp2
      go_ret
      simp only [e1, u]
      exact ⟨rfl, by have := HF.out _ u2.symm; rw [u2] at this; exact this, hK _⟩
end
end Go.Proofs.Ytlnnfdjhejdgdaa
