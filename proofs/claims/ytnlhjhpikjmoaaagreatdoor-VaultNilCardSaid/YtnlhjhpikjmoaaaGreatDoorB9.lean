/- Contracts: (*Vault).append, on a calm disk. -/
import Derived.Test.YtnlhjhpikjmoaaaGreatDoorB8
namespace Go.Proofs.YtnlhjhpikjmoaaaGreatDoor
open Go.RowKit

theorem Kp.trans_new {f : Nat → Prop} {w w1 w2 : World} (h : Kp (fun x => ¬ f x) w w1) (h2 : Kp (fun x => ¬ (f x ∨ (w.heap.size ≤ x ∧ x < w1.heap.size))) w1 w2) : Kp (fun x => ¬ f x) w w2 :=
  ⟨h2.os.trans h.os, h2.tape.trans h.tape, h2.output.trans h.output, Nat.le_trans h.size h2.size, fun k hk hf => (h2.block k (Nat.lt_of_lt_of_le hk h.size) fun hh => hh.elim hf fun hh => by omega).trans (h.block k hk hf)⟩
theorem asNil (t : Value) (w : World) : Calls Tryz.prog 37 #[.nilIface, t] w fun e w' => e = .returned (.bool false) ∧ w' = w := by
  go_enter Tryz.func37, Tryz.ntmps37
  go_wp2
  go_ret
  exact ⟨rfl, rfl⟩
set_option maxRecDepth 100000 in
set_option maxHeartbeats 3200000 in
theorem vappend_any {ok : Nat → Prop} {f : Nat → Prop} {w : World} {gv gl gd n T first : Nat} {recs : List (List UInt8)} (hv : w.cell? ⟨gv, 0, none⟩ = some (.pointer (some ⟨gl, 0, none⟩))) (hgf : ¬ f gv) (h : LogS f w gl gd n T first recs []) (u : Value) (l : List (List UInt8)) (hr : RSl rBs ok w u l) (hok : ∀ b, ok b → ¬ f b) (hfb : ∀ x, f x → x < w.heap.size)
    (hl : l.length ≤ 1000000) (hs : ∀ r ∈ l, r.length ≤ 32768) (hfit : secSum (recs ++ l) ≤ n - 2) :
    Calls Tryz.prog 43 #[.pointer (some ⟨gv, 0, none⟩), u] w fun e w' => e = .returned .nilIface ∧ LogS (fun x => f x ∨ (w.heap.size ≤ x ∧ x < w'.heap.size)) w' gl gd n T first (recs ++ l) [] ∧ Kp (fun x => ¬ f x) w w' := by
  have hr := hr.mono (by decide) (ok' := fun b => ¬ f b ∧ b < w.heap.size) fun b h1 h2 => ⟨hok b h1, h2⟩
  obtain ⟨A, c, rfl, hc, hsl⟩ := hr.form
  obtain ⟨m, hm⟩ : ∃ m, m = l.length := ⟨_, rfl⟩
  rw [← hm] at hr hc hl hsl ⊢
  have HR := Lib.hid hr
  have HM := Lib.hid hm
  have HS := Lib.hid hs
  have HF := Lib.hid hfit
  have HN := Lib.hid (next_opU h.u)
  have HL := Lib.hid h
  have HV := Lib.hid hv
  have hlt := World.block_lt_of_cell? w _ hv
  clear hr hm hsl hs hfit h hok
  go_enter Tryz.func43, Tryz.ntmps43
  go_wp2_with fail
  refine HN.out.mono ?_
  rintro e w1 ⟨rfl, hB1⟩
  clear hv HN
  go_upto_region 4 with fail
  go_loopw [6, 17] (fun ve vi wr => ∃ i : Nat, i ≤ m ∧ vi = .int .i64 (i : Int) ∧ ve = .nilIface ∧ w.heap.size ≤ wr.heap.size ∧ Hid (LogS (fun x => f x ∨ (w.heap.size ≤ x ∧ x < wr.heap.size)) wr gl gd n T first recs (l.take i) ∧ Kp (fun x => ¬ f x) w wr)) (fun _ vi _ => m - (intOf vi).toNat)
  case atStart =>
    refine ⟨0, by omega, rfl, rfl, hB1.size, Lib.hid ⟨?_, .of_below hB1⟩⟩
    exact (HL.out.below hB1).mono fun x hx _ => .inl hx
  case round =>
    obtain ⟨i, hi, rfl, rfl, hzr, HP⟩ := hrel
    by_cases hlt2 : i < m
    · have hil : i < l.length := by rw [← HM.out]; exact hlt2
      obtain ⟨b5, off5, c5, cs5, hv5, _, ⟨v5, rfl, hr5⟩, hcell5⟩ := (HR.out.kp (HP.out.2.mono fun b hb => hb.1)).at_ hil
      rw [← HM.out] at hv5
      obtain ⟨rfl, rfl⟩ : A = some ⟨b5, off5, none⟩ ∧ c = c5 := by simpa using hv5
      obtain ⟨A5, d5, rfl, hf5⟩ := hr5.form
      obtain ⟨r, hre⟩ : ∃ r, r = l[i] := ⟨_, rfl⟩
      rw [← hre] at hcell5 hr5 hf5
      have hr3 : r.length ≤ 32768 := by rw [hre]; exact HS.out _ (List.getElem_mem _)
      have hvr : wr.cell? ⟨gv, 0, none⟩ = some (.pointer (some ⟨gl, 0, none⟩)) := (HP.out.2.cell (p := ⟨gv, 0, none⟩) hgf HV.out)
      have hfit2 : secSum (recs ++ l.take i) + secN r.length ≤ n - 2 := by
        have h1 := HF.out
        have h2 := secSum_tk l hil
        have h3 : secSum (l.take (i + 1)) ≤ secSum l := by
          conv => rhs; rw [← List.take_append_drop (i + 1) l, secSum_append]
          omega
        rw [secSum_append] at h1 ⊢
        rw [hre]
        omega
      have HAP := Lib.hid (append_opS HP.out.1 _ r (hr5.mono (by decide) fun b hb hlt h => h.elim hb.1 fun h => by omega) hr3 hfit2)
      obtain ⟨k, hk⟩ : ∃ k, k = r.length := ⟨_, rfl⟩
      rw [← hk] at hcell5 HAP
      have q5 : wr.cell? ⟨b5, off5 + i * 1, none⟩ = some (.slice A5 k d5) := hcell5 0 _ rfl
      have q6 : wr.cell? ⟨b5, off5 + i, none⟩ = some (.slice A5 k d5) := by simpa using q5
      have HRE := Lib.hid hre
      clear hcell5 hv5 hf5 hr5 hk hre hfit2
      go_wp2_with fail
      refine HAP.out.mono ?_
      rintro e w3 ⟨rfl, hL3, hK3⟩
      have hz3 := hK3.size
      have HQ := Lib.hid (show LogS (fun x => f x ∨ (w.heap.size ≤ x ∧ x < w3.heap.size)) w3 gl gd n T first recs (l.take (i + 1)) ∧ Kp (fun x => ¬ f x) w w3 by
        refine ⟨?_, HP.out.2.trans_new hK3⟩
        rw [List.take_succ_eq_append_getElem hil, ← HRE.out]
        exact hL3.mono fun x hx _ => hx.elim (fun hx => hx.imp_right fun hx => by omega) fun hx => .inr (by omega))
      clear hL3 hK3 HAP HP q5 q6 hvr
      go_wp2_with fail
      refine (faultNew_ok _ _).mono ?_
      rintro e w4 ⟨rfl, rfl⟩
      go_wp2
      go_roundw
      case rel => exact ⟨i + 1, by omega, by go_num, rfl, by omega, HQ⟩
      case measure => simp [intOf]; omega
    · obtain rfl : i = m := by omega
      have hvr : wr.cell? ⟨gv, 0, none⟩ = some (.pointer (some ⟨gl, 0, none⟩)) := (HP.out.2.cell (p := ⟨gv, 0, none⟩) hgf HV.out)
      have HSY := Lib.hid (sync_opS HP.out.1)
      go_wp2_with fail
      refine HSY.out.mono ?_
      rintro e w3 ⟨rfl, hL3, hK3⟩
      have HQ := Lib.hid (show LogS (fun x => f x ∨ (w.heap.size ≤ x ∧ x < w3.heap.size)) w3 gl gd n T first (recs ++ l) [] ∧ Kp (fun x => ¬ f x) w w3 by
        refine ⟨?_, HP.out.2.trans_new hK3⟩
        have hz3 := hK3.size
        rw [List.take_of_length_le (by rw [← HM.out]; omega)] at hL3
        exact hL3.mono fun x hx _ => hx.imp_right fun hx => by omega)
      clear hL3 hK3 HSY HP hvr
      go_wp2_with fail
      refine (faultNew_ok _ _).mono ?_
      rintro e w4 ⟨rfl, rfl⟩
      go_wp2_with fail
      refine (asNil _ _).mono ?_
      rintro e w5 ⟨rfl, rfl⟩
      go_wp2
      go_ret
      have hal : ∀ o : Obj, Below w4.heap.size w4 (w4.alloc o) := fun o => (Below.refl _ _).alloc (Nat.le_refl _) o
      exact ⟨rfl, (HQ.out.1.below (hal _)).mono fun x hx _ => hx.imp_right fun hx => by simp; omega, HQ.out.2.trans (.of_below (hal _))⟩
end Go.Proofs.YtnlhjhpikjmoaaaGreatDoor
