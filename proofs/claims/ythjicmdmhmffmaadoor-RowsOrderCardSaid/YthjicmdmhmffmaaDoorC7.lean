/- Contracts: cmp.Compare, cmp.Or, tuple.one, slices.CompareFunc, tuple.Cmp, armoireref03.Cmp. -/
import Derived.Test.YthjicmdmhmffmaaDoorNum
import Derived.Test.YthjicmdmhmffmaaDoorReg
namespace Go.Proofs.YthjicmdmhmffmaaDoor
open Go.RowKit

def cmpI (a b : Int) : Int := if a < b then -1 else if b < a then 1 else 0
def cmpS (a b : ByteArray) : Int := if Op.bytesLess a.toList b.toList then -1 else if a.toList == b.toList then 0 else 1

def orI (a b c : Int) : Int := if a = 0 then (if b = 0 then c else b) else a

/-- what tuple.one says of two values -/
def oneI (x y : Val) : Int := orI (cmpI x.k y.k) (cmpI x.i y.i) (cmpS x.s y.s)

/-- what tuple.Cmp says of two lists -/
def cmpA : List Val → List Val → Int
  | [], [] => 0
  | [], _ :: _ => -1
  | _ :: _, [] => 1
  | x :: a, y :: b => if oneI x y = 0 then cmpA a b else oneI x y
theorem cmpA_nil_r (x : List Val) (h : x ≠ []) : cmpA x [] = 1 := by cases x with | nil => exact absurd rfl h | cons _ _ => rfl
theorem cmpA_nil_l (x : List Val) (h : x ≠ []) : cmpA [] x = -1 := by cases x with | nil => exact absurd rfl h | cons _ _ => rfl
theorem drop_cons {α : Type} (l : List α) (k : Nat) (h : k < l.length) : l.drop k = l[k] :: l.drop (k + 1) := List.drop_eq_getElem_cons h

/-- what armoireref03.Cmp says of two unlike values -/
def rless (x y : Val) : Bool := decide (x.k < y.k) || ((decide (x.k = y.k) && decide (x.k = 1) && decide (x.i < y.i)) || (decide (x.k = y.k) && decide (x.k = 2) && Op.bytesLess x.s.toList y.s.toList))
def cmpR : List Val → List Val → Int
  | [], [] => 0
  | [], _ :: _ => -1
  | _ :: _, [] => 1
  | x :: a, y :: b => if x = y then cmpR a b else if rless x y then -1 else 1

theorem cmpR_zero : ∀ (a b : List Val), cmpR a b = 0 ↔ a = b
  | [], [] => by simp [cmpR]
  | [], _ :: _ => by simp [cmpR]
  | _ :: _, [] => by simp [cmpR]
  | x :: a, y :: b => by
    by_cases h : x = y
    · subst h; simp [cmpR, cmpR_zero a b]
    · cases hr : rless x y <;> simp [cmpR, h, hr]

set_option maxRecDepth 100000 in
set_option maxHeartbeats 3200000 in
theorem refCmp_any (A : Option Addr) (n c : Nat) (A2 : Option Addr) (n2 c2 : Nat) (vs us : List Val) (w : World) (hr : Rd w 3 A n (vcs vs)) (hr2 : Rd w 3 A2 n2 (vcs us)) (hm : n ≤ 9223372036854775807) (hm2 : n2 ≤ 9223372036854775807) :
    Calls Tryd.prog 10 #[.slice A n c, .slice A2 n2 c2] w fun e w' => e = .returned (.int .i64 (cmpR vs us)) ∧ Below w.heap.size w w' := by
  have hn : vs.length = n := by have := hr.1; rw [vcs_length] at this; omega
  have hn2 : us.length = n2 := by have := hr2.1; rw [vcs_length] at this; omega
  have HN := Lib.hid hn; clear hn
  have HN2 := Lib.hid hn2; clear hn2
  go_enter Tryd.func10, Tryd.ntmps10
  go_wp2
  go_loopw [5] (fun j wr => ∃ k : Nat, k ≤ n ∧ k ≤ n2 ∧ j = .int .i64 (k : Int) ∧ Below w.heap.size w wr ∧ cmpR vs us = cmpR (vs.drop k) (us.drop k)) (fun j _ => n - (intOf j).toNat)
  case atStart => exact ⟨0, by omega, by omega, rfl, Below.refl _ _, rfl⟩
  case round =>
    obtain ⟨k, hk, hk2, rfl, hb, hE⟩ := hrel
    have HE := Lib.hid hE; clear hE
    by_cases hlt : k < n
    · have hlv : k < vs.length := by rw [HN.out]; exact hlt
      obtain ⟨b, off, rfl, hlb, g0, g1, g2⟩ := hr.valB hlv
      obtain ⟨h0, h1, h2⟩ := val_later hb hlb g0 g1 g2
      clear g0 g1 g2
      by_cases hlt2 : k < n2
      · have hlv2 : k < us.length := by rw [HN2.out]; exact hlt2
        obtain ⟨b', off', rfl, hlb', g0', g1', g2'⟩ := hr2.valB hlv2
        obtain ⟨h0', h1', h2'⟩ := val_later hb hlb' g0' g1' g2'
        clear g0' g1' g2'
        have HEQ : Hid (vs[k] = us[k] → cmpR vs us = cmpR (vs.drop (k + 1)) (us.drop (k + 1))) := fun h => by
          rw [HE.out, drop_cons vs k hlv, drop_cons us k hlv2, cmpR, if_pos h]
        have HNE : Hid (vs[k] ≠ us[k] → cmpR vs us = if rless vs[k] us[k] then -1 else 1) := fun h => by
          rw [HE.out, drop_cons vs k hlv, drop_cons us k hlv2, cmpR, if_neg h]
        obtain ⟨⟨xk, xi, xs⟩, hx⟩ : ∃ x, x = vs[k] := ⟨_, rfl⟩
        obtain ⟨⟨yk, yi, ys⟩, hy⟩ : ∃ x, x = us[k] := ⟨_, rfl⟩
        rw [← hx] at h0 h1 h2 HEQ HNE
        rw [← hy] at h0' h1' h2' HEQ HNE
        clear hx hy
        simp only [] at h0 h1 h2 h0' h1' h2'
        have a0 := alloc1 h0
        have a1 := alloc1 h1
        have a2 := alloc1 h2
        have a0' := alloc1 h0'
        have a1' := alloc1 h1'
        have a2' := alloc1 h2'
        have d0 := alloc2 h0
        have d1 := alloc2 h1
        have d2 := alloc2 h2
        have d0' := alloc2 h0'
        have d1' := alloc2 h1'
        have d2' := alloc2 h2'
        have hbs := hb.size
        have hb2 : ∀ o o', Below w.heap.size w ((wr.alloc o).alloc o').drew := fun o o' => ((hb.alloc hb.size _).alloc (by have := hb.size; simp; omega) _).drew
        go_wp2
        go_region
        all_goals
          clear a0 a1 a2 a0' a1' a2' d0 d1 d2 d0' d1' d2' h0 h1 h2 h0' h1' h2'
          go_wp2
        all_goals first
          | (go_roundw
             case rel => exact ⟨k + 1, by omega, by omega, by go_num, hb2 _ _, HEQ.out (by
              have h3 : xs.toList = ys.toList := by assumption
              simp [toList_inj h3, *])⟩
             case measure => simp [intOf]; omega)
          | (go_ret
             refine ⟨ret_int ?_, hb2 _ _⟩
             rw [HNE.out (by
              intro h
              simp only [Val.mk.injEq] at h
              obtain ⟨h1, h2, h3⟩ := h
              subst h3
              simp_all)]
             simp_all [rless])
      · go_wp2
        go_ret
        refine ⟨ret_int ?_, hb⟩
        rw [HE.out, drop_cons vs k hlv, List.drop_of_length_le (l := us) (by rw [HN2.out]; omega), cmpR]
    · have hvd : vs.drop k = [] := List.drop_of_length_le (by rw [HN.out]; omega)
      by_cases hlt2 : n < n2
      · go_wp2
        go_ret
        refine ⟨ret_int ?_, hb⟩
        rw [HE.out, hvd]
        have hlv2 : k < us.length := by rw [HN2.out]; omega
        rw [drop_cons us k hlv2, cmpR]
      · go_wp2
        go_ret
        refine ⟨ret_int ?_, hb⟩
        rw [HE.out, hvd, List.drop_of_length_le (l := us) (by rw [HN2.out]; omega)]
        rfl
end Go.Proofs.YthjicmdmhmffmaaDoor
