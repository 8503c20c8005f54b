/- Contracts: (*Vault).append on a disk that may be hit.
Contracts: (*Vault).Put on a disk that may be hit.
Contracts: armoireref07.Size.
VaultPlays: an Op as data; contracts: helper.CopyLog with its own list, changed. -/
import Derived.Test.YtnlhjhpikjmoaaaGreatDoorB29
import Derived.Test.YtnlhjhpikjmoaaaGreatDoorB25
import Derived.Test.YtnlhjhpikjmoaaaGreatDoorA9
import Derived.Lib.MinMax
import Derived.Deep.DeepCutAuto
import Derived.Deep.CutBlock
namespace Go.Proofs.YtnlhjhpikjmoaaaGreatDoor
open Go.RowKit
theorem fnew_any (c : Int) (hc : c ≠ 0) (w : World) (s) : Calls Tryz.prog 45 #[.int .i64 c, .string s] w fun e w' => (∃ v, e = .returned v ∧ ErrV 1 w' v c) ∧ Below w.heap.size w w' := by
  have z1 : (c == 0) = false := by rw [beq_eq_false_iff_ne]; exact hc
  go_enter Tryz.func45, Tryz.ntmps45
  go_wp2
  go_ret
  exact ⟨⟨_, rfl, _, _, _, rfl, Blk.new _ _ _, rfl⟩, (Below.refl _ _).alloc (Nat.le_refl _) _⟩
theorem fwrap_any {k : Nat} {v : Value} {c : Int} (w : World) (h : ErrV (k + 1) w v c) (s) : Calls Tryz.prog 34 #[v, .string s] w fun e w' => (∃ v, e = .returned v ∧ ErrV (k + 2) w' v c) ∧ Below w.heap.size w w' := by
  have HV := Lib.hid h
  obtain ⟨b1, s1, u1, rfl, _, _⟩ := h
  go_enter Tryz.func34, Tryz.ntmps34
  go_wp2
  go_ret
  have hB : Below w.heap.size w (w.alloc (.cells #[.string s, .iface 113 (.pointer (some ⟨b1, 0, none⟩))] 115)) := (Below.refl _ _).alloc (Nat.le_refl _) _
  exact ⟨⟨_, rfl, _, _, _, rfl, Blk.new _ _ _, HV.out.below hB⟩, hB⟩
def AppX (f : Nat → Prop) (w w' : World) (gl gd n T first : Nat) (recs l : List (List UInt8)) (v : Value) : Prop :=
  Kp (fun x => ¬ f x) w w' ∧ ((v = .nilIface ∧ LogX (fun x => f x ∨ (w.heap.size ≤ x ∧ x < w'.heap.size)) w' gl gd n T first first (recs ++ l) [] false) ∨ (∃ j, ErrV 1 w' v 3 ∧ j ≤ l.length ∧ LogX (fun x => f x ∨ (w.heap.size ≤ x ∧ x < w'.heap.size)) w' gl gd n T first first recs (l.take j) true))
set_option maxRecDepth 100000 in
set_option maxHeartbeats 3200000 in
theorem vappendX_any {ok : Nat → Prop} {f : Nat → Prop} {w : World} {gv gl gd n T first : Nat} {recs : List (List UInt8)} (hv : w.cell? ⟨gv, 0, none⟩ = some (.pointer (some ⟨gl, 0, none⟩))) (hgf : ¬ f gv) (h0f : ¬ f 0) (hg0 : w.cell? ⟨0, 0, none⟩ = some (.iface 149 (.agg #[.pointer (some ⟨1, 37, none⟩)]))) (h : LogX f w gl gd n T first first recs [] false) (u : Value) (l : List (List UInt8)) (hr : RSl rBs ok w u l) (hok : ∀ b, ok b → ¬ f b) (hfb : ∀ x, f x → x < w.heap.size)
    (hl : l.length ≤ 1000000) (hs : ∀ r ∈ l, r.length ≤ 32768) (hfit : secSum (recs ++ l) ≤ n - 2) :
    Calls Tryz.prog 43 #[.pointer (some ⟨gv, 0, none⟩), u] w fun e w' => ∃ v, e = .returned v ∧ AppX f w w' gl gd n T first recs l v := by
  have hr := hr.mono (by decide) (ok' := fun b => ¬ f b ∧ b < w.heap.size) fun b h1 h2 => ⟨hok b h1, h2⟩
  obtain ⟨A, c, rfl, hc, hsl⟩ := hr.form
  obtain ⟨m, hm⟩ : ∃ m, m = l.length := ⟨_, rfl⟩
  rw [← hm] at hr hc hl hsl ⊢
  have HR := Lib.hid hr
  have HM := Lib.hid hm
  have HS := Lib.hid hs
  have HF := Lib.hid hfit
  have HN := Lib.hid (next_liveX h)
  have HG := Lib.hid hg0
  have HL := Lib.hid h
  have HV := Lib.hid hv
  have hlt := World.block_lt_of_cell? w _ hv
  clear hr hm hsl hs hfit h hok hg0
  go_enter Tryz.func43, Tryz.ntmps43
  go_wp2_with fail
  refine HN.out.mono ?_
  rintro e w1 ⟨rfl, hB1⟩
  clear hv HN
  go_upto_region 4 with fail
  go_loopw [6, 17] (fun ve vi wr => ∃ i : Nat, i ≤ m ∧ vi = .int .i64 (i : Int) ∧ ve = .nilIface ∧ w.heap.size ≤ wr.heap.size ∧ Hid (LogX (fun x => f x ∨ (w.heap.size ≤ x ∧ x < wr.heap.size)) wr gl gd n T first first recs (l.take i) false ∧ Kp (fun x => ¬ f x) w wr)) (fun _ vi _ => m - (intOf vi).toNat)
  case atStart =>
    refine ⟨0, by omega, rfl, rfl, hB1.size, Lib.hid ⟨?_, .of_below hB1⟩⟩
    exact (HL.out.below hB1).mono fun x hx _ => .inl hx
  case round =>
    obtain ⟨i, hi, rfl, rfl, hzr, HP⟩ := hrel
    by_cases hlt2 : i < m
    · have hil : i < l.length := by rw [← HM.out]; exact hlt2
      obtain ⟨b5, off5, c5, cs5, hv5, _, ⟨v5, rfl, hr5⟩, hcell5⟩ := (HR.out.kp (HP.out.2.mono fun b hb => hb.1)).at_ hil
      rw [← HM.out] at hv5
      obtain ⟨rfl, rfl⟩ : A = some ⟨b5, off5, none⟩ ∧ c = c5 := by simpa using hv5
      obtain ⟨A5, d5, rfl, hf5⟩ := hr5.form
      obtain ⟨r, hre⟩ : ∃ r, r = l[i] := ⟨_, rfl⟩
      rw [← hre] at hcell5 hr5 hf5
      have hr3 : r.length ≤ 32768 := by rw [hre]; exact HS.out _ (List.getElem_mem _)
      have hvr : wr.cell? ⟨gv, 0, none⟩ = some (.pointer (some ⟨gl, 0, none⟩)) := (HP.out.2.cell (p := ⟨gv, 0, none⟩) hgf HV.out)
      have hfit2 : secSum (recs ++ l.take i) + secN r.length ≤ n - 2 := by
        have h1 := HF.out
        have h2 := secSum_tk l hil
        have h3 : secSum (l.take (i + 1)) ≤ secSum l := by
          conv => rhs; rw [← List.take_append_drop (i + 1) l, secSum_append]
          omega
        rw [secSum_append] at h1 ⊢
        rw [hre]
        omega
      have HAP := Lib.hid (append_liveX HP.out.1 _ r (hr5.mono (by decide) fun b hb hlt h => h.elim hb.1 fun h => by omega) hr3)
      have HFIT2 := Lib.hid hfit2
      obtain ⟨k, hk⟩ : ∃ k, k = r.length := ⟨_, rfl⟩
      rw [← hk] at hcell5 HAP HFIT2
      have q5 : wr.cell? ⟨b5, off5 + i * 1, none⟩ = some (.slice A5 k d5) := hcell5 0 _ rfl
      have q6 : wr.cell? ⟨b5, off5 + i, none⟩ = some (.slice A5 k d5) := by simpa using q5
      have HRE := Lib.hid hre
      clear hcell5 hv5 hf5 hr5 hk hre hfit2
      go_wp2_with fail
      refine HAP.out.mono ?_
      rintro e w3 ⟨⟨z, rfl, hcase⟩, hK3⟩
      have hz3 := hK3.size
      rcases hcase with ⟨rfl, hL3⟩ | ⟨_, _, hfull⟩ | ⟨rfl, hL3⟩
      rotate_left
      · have := HFIT2.out
        omega
      · have HQ := Lib.hid (show LogX (fun x => f x ∨ (w.heap.size ≤ x ∧ x < w3.heap.size)) w3 gl gd n T first first recs (l.take (i + 1)) true ∧ Kp (fun x => ¬ f x) w w3 by
          refine ⟨?_, HP.out.2.trans_new hK3⟩
          rw [List.take_succ_eq_append_getElem hil, ← HRE.out]
          exact hL3.mono fun x hx _ => hx.elim (fun hx => hx.imp_right fun hx => by omega) fun hx => .inr (by omega))
        clear hL3 hK3 HAP HP q5 q6 hvr
        go_wp2_with fail
        refine (fnew_any 3 (by decide) _ _).mono ?_
        rintro e w4 ⟨⟨v4, rfl, b4, s4, u4, rfl, hb4, hu4⟩, hB4⟩
        have hK4 : Kp (fun x => ¬ f x) w w4 := HQ.out.2.trans (.of_below hB4)
        have hz4 := hK4.size
        have hz34 := hB4.size
        have hL4 := HQ.out.1.below hB4
        have hlt4 := hb4.lt
        obtain ⟨ge, hge⟩ : ∃ ge, ge = w4.heap.size := ⟨_, rfl⟩
        go_upto_region 12 with fail
        refine name_world (fun w5 => Blk w5 ge 40 #[.int .i64 0] ∧ Below w4.heap.size w4 w5) ⟨by rw [hge]; exact Blk.new _ _ _, (Below.refl _ _).alloc (Nat.le_refl _) _⟩ ?_
        rintro w5 ⟨k5, hB5⟩
        rw [← hge]
        have HA := Lib.hid (asCode_any (k := 1) (v := .iface 113 (.pointer (some ⟨b4, 0, none⟩))) (c := 3) ⟨b4, s4, u4, rfl, hb4.below hB5 hlt4, hu4⟩ ge k5 ((hK4.trans (.of_below hB5)).cell (p := ⟨0, 0, none⟩) h0f HG.out))
        have HL5 := Lib.hid (hL4.below hB5)
        have HK5 := Lib.hid (hK4.trans (.of_below hB5))
        have HB5 := Lib.hid (hb4.below hB5 hlt4)
        have HU := Lib.hid hu4
        have HGE := Lib.hid hge
        have hz5 := hB5.size
        clear hK4 hL4 hB4 hB5 k5 hb4 HQ hu4 hge
        go_wp2_with fail
        refine HA.out.mono ?_
        rintro e w6 ⟨rfl, k6, hK6⟩
        have c6 : w6.cell? ⟨ge, 0, none⟩ = some (.int .i64 3) := k6.cell 0
        have HK6 := Lib.hid hK6
        clear k6 hK6 HA
        go_wp2
        go_ret
        have hge := HGE.out
        have hz6 := HK6.out.size
        refine ⟨_, rfl, HK5.out.thenW HK6.out fun b hlt _ e => by omega, .inr ⟨i + 1, ⟨b4, s4, u4, rfl, HB5.out.kp HK6.out (by omega), HU.out⟩, by omega, (HL5.out.kp HK6.out fun x hx e => ?_).mono fun x hx _ => hx.imp_right fun h => by omega⟩⟩
        rcases hx with h | h
        · have := hfb x h
          omega
        · omega
      have HQ := Lib.hid (show LogX (fun x => f x ∨ (w.heap.size ≤ x ∧ x < w3.heap.size)) w3 gl gd n T first first recs (l.take (i + 1)) false ∧ Kp (fun x => ¬ f x) w w3 by
        refine ⟨?_, HP.out.2.trans_new hK3⟩
        rw [List.take_succ_eq_append_getElem hil, ← HRE.out]
        exact hL3.mono fun x hx _ => hx.elim (fun hx => hx.imp_right fun hx => by omega) fun hx => .inr (by omega))
      clear hL3 hK3 HAP HP q5 q6 hvr
      go_wp2_with fail
      refine (faultNew_ok _ _).mono ?_
      rintro e w4 ⟨rfl, rfl⟩
      go_wp2
      go_roundw
      case rel => exact ⟨i + 1, by omega, by go_num, rfl, by omega, HQ⟩
      case measure => simp [intOf]; omega
    · obtain rfl : i = m := by omega
      have hvr : wr.cell? ⟨gv, 0, none⟩ = some (.pointer (some ⟨gl, 0, none⟩)) := (HP.out.2.cell (p := ⟨gv, 0, none⟩) hgf HV.out)
      have HSY := Lib.hid (sync_liveX HP.out.1)
      go_wp2_with fail
      refine HSY.out.mono ?_
      rintro e w3 ⟨⟨z, rfl, hcase⟩, hK3⟩
      rcases hcase with ⟨rfl, hL3⟩ | ⟨rfl, hL3⟩
      rotate_left
      · have hz3 := hK3.size
        have HQ := Lib.hid (show LogX (fun x => f x ∨ (w.heap.size ≤ x ∧ x < w3.heap.size)) w3 gl gd n T first first recs (l.take i) true ∧ Kp (fun x => ¬ f x) w w3 by
          refine ⟨?_, HP.out.2.trans_new hK3⟩
          exact hL3.mono fun x hx _ => hx.imp_right fun hx => by omega)
        clear hL3 hK3 HSY HP hvr
        go_wp2_with fail
        refine (fnew_any 3 (by decide) _ _).mono ?_
        rintro e w4 ⟨⟨v4, rfl, b4, s4, u4, rfl, hb4, hu4⟩, hB4⟩
        have hK4 : Kp (fun x => ¬ f x) w w4 := HQ.out.2.trans (.of_below hB4)
        have hz4 := hK4.size
        have hz34 := hB4.size
        have hL4 := HQ.out.1.below hB4
        have hlt4 := hb4.lt
        obtain ⟨ge, hge⟩ : ∃ ge, ge = w4.heap.size := ⟨_, rfl⟩
        go_upto_region 12 with fail
        refine name_world (fun w5 => Blk w5 ge 40 #[.int .i64 0] ∧ Below w4.heap.size w4 w5) ⟨by rw [hge]; exact Blk.new _ _ _, (Below.refl _ _).alloc (Nat.le_refl _) _⟩ ?_
        rintro w5 ⟨k5, hB5⟩
        rw [← hge]
        have HA := Lib.hid (asCode_any (k := 1) (v := .iface 113 (.pointer (some ⟨b4, 0, none⟩))) (c := 3) ⟨b4, s4, u4, rfl, hb4.below hB5 hlt4, hu4⟩ ge k5 ((hK4.trans (.of_below hB5)).cell (p := ⟨0, 0, none⟩) h0f HG.out))
        have HL5 := Lib.hid (hL4.below hB5)
        have HK5 := Lib.hid (hK4.trans (.of_below hB5))
        have HB5 := Lib.hid (hb4.below hB5 hlt4)
        have HU := Lib.hid hu4
        have HGE := Lib.hid hge
        have hz5 := hB5.size
        clear hK4 hL4 hB4 hB5 k5 hb4 HQ hu4 hge
        go_wp2_with fail
        refine HA.out.mono ?_
        rintro e w6 ⟨rfl, k6, hK6⟩
        have c6 : w6.cell? ⟨ge, 0, none⟩ = some (.int .i64 3) := k6.cell 0
        have HK6 := Lib.hid hK6
        clear k6 hK6 HA
        go_wp2
        go_ret
        have hge := HGE.out
        have hz6 := HK6.out.size
        refine ⟨_, rfl, HK5.out.thenW HK6.out fun b hlt _ e => by omega, .inr ⟨i, ⟨b4, s4, u4, rfl, HB5.out.kp HK6.out (by omega), HU.out⟩, by have := HM.out; omega, (HL5.out.kp HK6.out fun x hx e => ?_).mono fun x hx _ => hx.imp_right fun h => by omega⟩⟩
        rcases hx with h | h
        · have := hfb x h
          omega
        · omega
      have HQ := Lib.hid (show LogX (fun x => f x ∨ (w.heap.size ≤ x ∧ x < w3.heap.size)) w3 gl gd n T first first (recs ++ l) [] false ∧ Kp (fun x => ¬ f x) w w3 by
        refine ⟨?_, HP.out.2.trans_new hK3⟩
        have hz3 := hK3.size
        rw [List.take_of_length_le (by rw [← HM.out]; omega)] at hL3
        exact hL3.mono fun x hx _ => hx.imp_right fun hx => by omega)
      clear hL3 hK3 HSY HP hvr
      go_wp2_with fail
      refine (faultNew_ok _ _).mono ?_
      rintro e w4 ⟨rfl, rfl⟩
      go_wp2_with fail
      refine (asNil _ _).mono ?_
      rintro e w5 ⟨rfl, rfl⟩
      go_wp2
      go_ret
      have hal : ∀ o : Obj, Below w4.heap.size w4 (w4.alloc o) := fun o => (Below.refl _ _).alloc (Nat.le_refl _) o
      exact ⟨_, rfl, HQ.out.2.trans (.of_below (hal _)), .inl ⟨rfl, (HQ.out.1.below (hal _)).mono fun x hx _ => hx.imp_right fun hx => by simp; omega⟩⟩
end Go.Proofs.YtnlhjhpikjmoaaaGreatDoor
namespace Go.Proofs.YtnlhjhpikjmoaaaGreatDoor
open Go.RowKit
theorem shows_grp {n first i : Nat} {recs : List (List UInt8)} {l f t : VLog} {kind : Th} (hg : Grps recs l 0) (hs : secSum recs ≤ (n - 2) / 3 * 2) (hn : n ≤ 65536) (hk : (kind = .fol ∧ f = l) ∨ (kind = .beg ∧ f = VLog.zero)) (ht : fitV t) (he : Grps (recs ++ recordsV f t kind) t i) (hi : secSum ((recs ++ recordsV f t kind).drop i) ≤ (n - 2) / 3 * 2) (hsum : secSum (recs ++ recordsV f t kind) ≤ n - 2) (j : Nat) : ShowsV n first first recs ((recordsV f t kind).take j) l t := by
  intro a R h
  rcases h with ⟨rfl, m, hm, rfl⟩ | ⟨_, h, _⟩
  · have h1 := secSum_len (recs ++ recordsV f t kind)
    rw [List.take_take]
    by_cases hlt : min m j < (recordsV f t kind).length
    · refine ⟨l, recs, _, 0, .inl rfl, rfl, hg, .inr ⟨f, t, kind, min m j, hk, ht, hlt, rfl⟩, by rw [List.drop_zero]; exact hs, ?_, by omega⟩
      rw [List.length_append] at h1 ⊢
      rw [List.length_take]
      omega
    · rw [List.take_of_length_le (by omega)]
      exact ⟨t, _, [], i, .inr rfl, by rw [List.append_nil], he, .inl rfl, hi, by omega, by omega⟩
  · omega
theorem shows_cut {n first : Nat} {recs : List (List UInt8)} {l t : VLog} (hg : Grps recs l 0) (ht : fitV t) (hn : n ≤ 65536) (hw : secSum (recordsV VLog.zero t .beg) ≤ (n - 2) / 3 * 2) (hsum : secSum (recs ++ recordsV VLog.zero t .beg) ≤ n - 2) : ShowsV n first (first + recs.length) (recs ++ recordsV VLog.zero t .beg) [] l t := by
  have h1 := secSum_len (recs ++ recordsV VLog.zero t .beg)
  have hb := Grps.beg hg ht
  intro a R h
  rcases h with ⟨rfl, m, hm, rfl⟩ | ⟨rfl, _, _, rfl, _⟩
  · exact ⟨t, _, [], recs.length, .inr rfl, by rw [List.take_nil], hb, .inl rfl, by rw [List.drop_left]; exact hw, by rw [List.take_nil, List.append_nil]; omega, by omega⟩
  · have hc := hb.cut
    rw [List.drop_left] at hc
    rw [show first + recs.length - first = recs.length by omega, List.drop_left]
    rw [List.length_append] at h1
    exact ⟨t, _, [], 0, .inr rfl, by rw [List.append_nil], hc, .inl rfl, by rw [List.drop_zero]; exact hw, by omega, by omega⟩
def PutX (F : Nat → Prop) (w w' : World) (gv gd n c : Nat) (l t : VLog) (v : Value) : Prop :=
  Kp (fun x => ¬ F x) w w' ∧
    ((rightV t = false ∧ ErrV 2 w' v 9 ∧ VltX (fun x => F x ∨ (w.heap.size ≤ x ∧ x < w'.heap.size)) w' gv gd n (c + 1) l) ∨ (rightV t = true ∧ v = .nilIface ∧ VltX (fun x => F x ∨ (w.heap.size ≤ x ∧ x < w'.heap.size)) w' gv gd n (c + 1) t) ∨
     (rightV t = true ∧ ErrV 2 w' v 4 ∧ (n - 2) / 3 < secSum (recordsV VLog.zero t .beg) ∧ VltX (fun x => F x ∨ (w.heap.size ≤ x ∧ x < w'.heap.size)) w' gv gd n (c + 1) l) ∨ (rightV t = true ∧ ErrV 2 w' v 3 ∧ VltD (fun x => F x ∨ (w.heap.size ≤ x ∧ x < w'.heap.size)) w' gv gd n (c + 1) l t))
theorem PutX.of_below {F : Nat → Prop} {w w' : World} {gv gd n c : Nat} {l t : VLog} {v : Value} (h : VltX F w gv gd n c l) (hb : Below w.heap.size w w')
    (hp : (rightV t = false ∧ ErrV 2 w' v 9) ∨ (rightV t = true ∧ l = t ∧ v = .nilIface) ∨ (rightV t = true ∧ ErrV 2 w' v 4 ∧ (n - 2) / 3 < secSum (recordsV VLog.zero t .beg))) : PutX F w w' gv gd n c l t v := by
  have h2 : VltX (fun x => F x ∨ (w.heap.size ≤ x ∧ x < w'.heap.size)) w' gv gd n (c + 1) l := ((h.below hb).wide fun x hx => .inl hx).later (by omega)
  refine ⟨.of_below hb, ?_⟩
  rcases hp with hp | hp | hp
  · exact .inl ⟨hp.1, hp.2, h2⟩
  · exact .inr (.inl ⟨hp.1, hp.2.2, hp.2.1 ▸ h2⟩)
  · exact .inr (.inr (.inl ⟨hp.1, hp.2.1, hp.2.2, h2⟩))
set_option maxRecDepth 100000 in
set_option maxHeartbeats 6400000 in
theorem vputD_any {ok F : Nat → Prop} {w : World} {gv gd n c : Nat} {l t t2 : VLog} {usd ues : Value} (h : VltD F w gv gd n c l t2) (hF : ∀ x, F x → x < w.heap.size) (ht : VLm ok w usd ues t) :
    Calls Tryz.prog 16 #[.pointer (some ⟨gv, 0, none⟩), .agg (vlCs t usd ues)] w fun e w' => (∃ v, e = .returned v ∧ ((rightV t = false ∧ ErrV 2 w' v 9) ∨ (rightV t = true ∧ ErrV 2 w' v 3))) ∧ Below w.heap.size w w' := by
  obtain ⟨f, gl, T, first, cut, sf, us, C, h1, h2, h3, h4, h5, hb, hC, hL, h9⟩ := h
  obtain ⟨Bs, ds, rfl, _, _⟩ := ht.sd.form
  obtain ⟨Be, de, rfl, _, _⟩ := ht.es.form
  obtain ⟨g, hg⟩ : ∃ g, g = w.heap.size := ⟨_, rfl⟩
  have hgv : gv < g := by rw [hg]; exact hF _ h2
  obtain ⟨T1, hT1⟩ : ∃ T1 : Array Value, T1 = vlCs t (.slice Bs t.sd.length ds) (.slice Be t.es.length de) := ⟨_, rfl⟩
  have hinf : (Tryz.prog.info? 30).map (·.size) = some T1.size := by rw [hT1]; exact Tryz.infoLog
  have HL := Lib.hid hL
  have HT := Lib.hid ht
  have HB := Lib.hid hb
  have HC0 := Lib.hid hC
  have HT1 := Lib.hid hT1
  clear hL ht hb hC h9 h4 h5
  rw [← hT1]
  clear hT1
  go_enter Tryz.func16, Tryz.ntmps16
  go_upto_region 3 with fail
  refine name_world (fun w1 => Blk w1 g 30 T1 ∧ Below g w w1 ∧ w1.heap.size = g + 1) ⟨by rw [hg]; exact Blk.new _ _ _, by rw [hg]; exact (Below.refl _ _).alloc (Nat.le_refl _) _, by rw [hg]; simp⟩ ?_
  rintro w1 ⟨k1, hB1, hz1⟩
  rw [← hg]
  have HR := Lib.hid (vright_any (HT.out.below (hg ▸ hB1)))
  have HG := Lib.hid hg
  clear hg
  rw [← HT1.out] at HR
  refine wp_region_lit ?_
  refine wpList_ld (g := g) (k := 0) (cs := T1) rfl rfl rfl k1.range Tryz.underlying30 rfl hinf ?_
  go_wp2_with fail
  refine HR.out.mono ?_
  rintro e w2 ⟨rfl, hB2⟩
  have hB2' : Below g w w2 := hB1.trans (hB2.mono (by omega))
  have hz2 := hB2.size
  obtain ⟨q, hq⟩ : ∃ q, q = rightV t := ⟨_, rfl⟩
  rw [← hq]
  have HQ := Lib.hid hq
  clear hq HR k1
  cases q
  · go_wp2_with fail
    refine (as_any 9 (by decide) _).mono ?_
    rintro e w3 ⟨⟨v3, rfl, hv3⟩, hB3⟩
    have HV3 := Lib.hid hv3
    clear hv3
    go_wp2
    go_ret
    exact ⟨⟨v3, rfl, .inl ⟨HQ.out.symm, HV3.out⟩⟩, HG.out ▸ hB2'.trans (hB3.mono (by omega))⟩
  have kv := HB.out.below hB2' hgv
  have c0 : w2.cell? ⟨gv, 0, none⟩ = some (.pointer (some ⟨gl, 0, none⟩)) := (kv.cell 0).trans HC0.out
  have HD := Lib.hid (downX_any (HL.out.below (HG.out ▸ hB2')))
  clear kv
  go_wp2_with fail
  refine HD.out.mono ?_
  rintro e w2' ⟨rfl, rfl⟩
  clear HD c0
  go_wp2_with fail
  refine (as_any 3 (by decide) _).mono ?_
  rintro e w3 ⟨⟨v3, rfl, hv3⟩, hB3⟩
  have HV3 := Lib.hid hv3
  clear hv3
  go_wp2
  go_ret
  exact ⟨⟨v3, rfl, .inr ⟨HQ.out.symm, HV3.out⟩⟩, HG.out ▸ hB2'.trans (hB3.mono (by omega))⟩
set_option maxRecDepth 100000 in
set_option maxHeartbeats 6400000 in
theorem vputX_any {ok F : Nat → Prop} {w : World} {gv gd n c : Nat} {l t : VLog} {usd ues : Value} (h : VltX F w gv gd n c l) (hF : ∀ x, F x → x < w.heap.size) (ht : VLm ok w usd ues t) (hok : ∀ b, ok b → ¬ F b) (hn : n ≤ 65536) (hn3 : 3 ≤ n) (hc : c + 1 < 256) (htl : t.es.length ≤ 100000) (h0F : ¬ F 0) (hg0 : w.cell? ⟨0, 0, none⟩ = some (.iface 149 (.agg #[.pointer (some ⟨1, 37, none⟩)]))) :
    Calls Tryz.prog 16 #[.pointer (some ⟨gv, 0, none⟩), .agg (vlCs t usd ues)] w fun e w' => ∃ v, e = .returned v ∧ PutX F w w' gv gd n c l t v := by
  have HV := Lib.hid h
  have hlt0 := World.block_lt_of_cell? w _ hg0
  have HG0 := Lib.hid (fun (w' : World) (hb : Below w.heap.size w w') => (hb.cell (p := ⟨0, 0, none⟩) hlt0).trans hg0)
  clear hg0 hlt0
  obtain ⟨f, gl, T, first, recs, vsd, ves, hfF, hFv, hfv, hT, hfi, hb, hL, hM, hG, hs, hle⟩ := h
  obtain ⟨Bs, ds, rfl, _, _⟩ := ht.sd.form
  obtain ⟨Be, de, rfl, _, _⟩ := ht.es.form
  obtain ⟨As, cs, rfl, _, _⟩ := hM.sd.form
  obtain ⟨Ae, ce, rfl, _, _⟩ := hM.es.form
  obtain ⟨g, hg⟩ : ∃ g, g = w.heap.size := ⟨_, rfl⟩
  have hgv : gv < g := by rw [hg]; exact hF _ hFv
  have ht := ht.mono (ok' := fun b => b < g ∧ ¬ F b) fun b hb hlt => ⟨by omega, hok b hb⟩
  have hM := hM.mono (ok' := fun b => b < g ∧ ¬ f b ∧ b ≠ gv ∧ F b) fun b hb hlt => ⟨by omega, hb.2.1, hb.2.2, hb.1⟩
  obtain ⟨T1, hT1⟩ : ∃ T1 : Array Value, T1 = vlCs t (.slice Bs t.sd.length ds) (.slice Be t.es.length de) := ⟨_, rfl⟩
  have hsz1 : T1.size = 6 := by rw [hT1]; rfl
  have hinf : (Tryz.prog.info? 30).map (·.size) = some T1.size := by rw [hsz1]; exact Tryz.infoLog
  have HL := Lib.hid hL
  have HM := Lib.hid hM
  have HT := Lib.hid ht
  have HB := Lib.hid hb
  have HGr := Lib.hid hG
  have HS := Lib.hid hs
  have HTn := Lib.hid hT
  have HFI := Lib.hid hfi
  have HT1 := Lib.hid hT1
  have HTL := Lib.hid htl
  have HLE := Lib.hid hle
  clear hL hM ht hb hG hs hT hfi hok htl hle
  rw [← hT1]
  clear hT1
  go_enter Tryz.func16, Tryz.ntmps16
  go_upto_region 3 with fail
  refine name_world (fun w1 => Blk w1 g 30 T1 ∧ Below g w w1 ∧ w1.heap.size = g + 1) ⟨by rw [hg]; exact Blk.new _ _ _, by rw [hg]; exact (Below.refl _ _).alloc (Nat.le_refl _) _, by rw [hg]; simp⟩ ?_
  rintro w1 ⟨k1, hB1, hz1⟩
  rw [← hg]
  have HR := Lib.hid (vright_any (HT.out.below (hg ▸ hB1)))
  have HG := Lib.hid hg
  clear hg
  rw [← HT1.out] at HR
  refine wp_region_lit ?_
  refine wpList_ld (g := g) (k := 0) (cs := T1) rfl rfl rfl k1.range Tryz.underlying30 rfl hinf ?_
  go_wp2_with fail
  refine HR.out.mono ?_
  rintro e w2 ⟨rfl, hB2⟩
  have hB2' : Below g w w2 := hB1.trans (hB2.mono (by omega))
  have k2 := k1.below hB2 k1.lt
  have hz2 := hB2.size
  obtain ⟨q, hq⟩ : ∃ q, q = rightV t := ⟨_, rfl⟩
  rw [← hq]
  have HQ := Lib.hid hq
  clear hq HR k1
  cases q
  · go_wp2_with fail
    refine (as_any 9 (by decide) _).mono ?_
    rintro e w3 ⟨⟨v3, rfl, hv3⟩, hB3⟩
    have HV3 := Lib.hid hv3
    clear hv3
    go_wp2
    go_ret
    exact ⟨v3, rfl, PutX.of_below HV.out (HG.out ▸ hB2'.trans (hB3.mono (by omega))) (.inl ⟨HQ.out.symm, HV3.out⟩)⟩
  have hLk := HL.out.below (HG.out ▸ hB2')
  have kv := HB.out.below hB2' hgv
  have c0 : w2.cell? ⟨gv, 0, none⟩ = some (.pointer (some ⟨gl, 0, none⟩)) := kv.cell 0
  have HD := Lib.hid (downX_any hLk)
  have HL2 := Lib.hid hLk
  clear hLk
  go_wp2_with fail
  refine HD.out.mono ?_
  rintro e w2' ⟨rfl, rfl⟩
  clear HD
  have kv2 : Blk w2' gv 74 #[.pointer (some ⟨gl, 0, none⟩), .int .u64 (l.term : Int), .int .i64 l.vote, .int .u64 (l.si : Int), .int .u64 (l.st : Int), .slice As l.sd.length cs, .slice Ae l.es.length ce] := kv
  have hM2 : VLm (fun b => b < g ∧ ¬ f b ∧ b ≠ gv ∧ F b) w2' _ _ l := HM.out.kp (.of_belowB hB2' fun b hb _ => hb.1)
  have hT2 : VLm (fun b => b < g ∧ ¬ F b) w2' _ _ t := HT.out.kp (.of_belowB hB2' fun b hb _ => hb.1)
  obtain ⟨L1, hL1⟩ : ∃ L1 : Array Value, L1 = vlCs l (.slice As l.sd.length cs) (.slice Ae l.es.length ce) := ⟨_, rfl⟩
  have hinf2 : (Tryz.prog.info? 30).map (·.size) = some L1.size := by rw [hL1]; exact Tryz.infoLog
  have hrg : ∀ w3, Below w2'.heap.size w2' w3 → w3.rangeAt gv 1 L1.toList := fun w3 hb => (kv2.below hb kv2.lt).rangeW 1 _ fun j v hv => by
    rw [hL1] at hv
    match j, hv with
    | 0, hv => exact hv
    | 1, hv => exact hv
    | 2, hv => exact hv
    | 3, hv => exact hv
    | 4, hv => exact hv
    | 5, hv => exact hv
    | j + 6, hv => simp [vlCs] at hv
  have HSA := Lib.hid (fun (w' : World) (hb : Below w2'.heap.size w2' w') => vsame_any (hM2.below hb) (hT2.below hb))
  rw [← HT1.out, ← hL1] at HSA
  have HRG := Lib.hid hrg
  have HM2 := Lib.hid hM2
  have HT2 := Lib.hid hT2
  have HL1 := Lib.hid hL1
  clear hrg hM2 hT2 hL1 kv
  go_upto_region 7 with fail
  refine wp_seqL [5] (by as_aux_lemma => kernel_rfl) (by as_aux_lemma => kernel_rfl) fun wA hbA => ?_
  refine seqL_pre 3 (by kernel_rfl) ?_
  simp only [List.take_succ_cons, List.take_zero, List.drop_succ_cons, List.drop_zero]
  repeat (go_big_quiet_step (fail))
  refine wpQuiet_nil ?_
  refine seqL_still (.agg L1) rfl rfl (fun s => still_ld (g := gv) (k := 1) rfl rfl (HRG.out _ s.below) Tryz.underlying30 rfl hinf2) ?_
  refine seqL_still (.agg T1) rfl rfl (fun s => still_ld (g := g) (k := 0) rfl rfl (k2.below s.below k2.lt).range Tryz.underlying30 rfl hinf) ?_
  refine seqL_wild hbA rfl rfl fun K hK => ?_
  unfold Gives
  go_simp
  refine (HSA.out wA hbA).mono ?_
  rintro e wB ⟨rfl, hbB⟩
  refine ⟨_, rfl, hK _ _ (hbB) fun hbB' => ?_⟩
  clear hK
  clear K
  simp only [Act.put, List.setIfInBounds_toArray, List.set_cons_succ, List.set_cons_zero]
  refine seqL_pre 1 (by kernel_rfl) ?_
  simp only [List.take_succ_cons, List.take_zero, List.drop_succ_cons, List.drop_zero]
  repeat (go_big_quiet_step (fail))
  refine wpQuiet_nil ?_
  refine seqL_nil ?_
  obtain ⟨q, hq⟩ : ∃ q, q = sameV l t := ⟨_, rfl⟩
  rw [← hq]
  have HQ2 := Lib.hid hq
  clear hq HSA
  have hBB : Below g w wB := hB2'.trans (hbB'.mono (by omega))
  cases q
  rotate_left
  · go_wp2
    go_ret
    exact ⟨_, rfl, PutX.of_below HV.out (HG.out ▸ hBB) (.inr (.inl ⟨HQ.out.symm, (sameV_iff l t).1 HQ2.out.symm, rfl⟩))⟩
  obtain ⟨n2, hn2⟩ : ∃ n2, n2 = n - 2 := ⟨_, rfl⟩
  have hni : (n : Int) - 2 = (n2 : Int) := by omega
  have hLB := HL2.out.below hbB'
  have kB := k2.below hbB' k2.lt
  have kvB := kv2.below hbB' kv2.lt
  have cB : wB.cell? ⟨gv, 0, none⟩ = some (.pointer (some ⟨gl, 0, none⟩)) := kvB.cell 0
  have HRI := Lib.hid (ringX_any hLB)
  rw [hni, List.append_nil] at HRI
  obtain ⟨us, hus⟩ : ∃ us, us = secSum recs := ⟨_, rfl⟩
  rw [← hus] at HRI
  have HUS := Lib.hid hus
  have hn2b : n2 ≤ 65536 := by omega
  have HLB := Lib.hid hLB
  have HN2 := Lib.hid hn2
  have hB0 := hbB'.size
  clear hni hus hLB hn2 c0
  go_wp2_with fail
  refine HRI.out.mono ?_
  rintro e wC ⟨rfl, hbC⟩
  have hB2C := hbB'.trans (hbC.mono hB0)
  have kC := kB.below hbC kB.lt
  have kvC := kvB.below hbC kvB.lt
  have hBC : Below g w wC := hB2'.trans (hB2C.mono (by omega))
  have hzC := hB2C.size
  have HRW := Lib.hid (show Calls Tryz.prog 41 #[.agg #[.int .u64 0, .int .i64 0, .int .u64 0, .int .u64 0, .slice none 0 0, .slice none 0 0], .agg T1, .int .u64 1] wC _ from HT1.out ▸ vrecs_any (vm_zero _ wC) (HT2.out.below hB2C) 1 (.inl rfl) HQ.out.symm (by decide) HTL.out)
  clear HRI cB
  go_upto_region 10 with fail
  refine wp_region_split 1 ?_
  simp only [List.take_succ_cons, List.take_zero, List.drop_succ_cons, List.drop_zero]
  go_wp2
  show wpList _ _ _ _ _ _
  refine wpList_ld (g := g) (k := 0) (cs := T1) rfl rfl rfl kC.range Tryz.underlying30 rfl hinf ?_
  go_wp2_with fail
  refine HRW.out.mono ?_
  rintro e wD ⟨⟨vw, rfl, hvw⟩, hbD⟩
  have hvw : RSl rBs (fun b => wC.heap.size ≤ b) wD vw (recordsV VLog.zero t .beg) := hvw
  have hWl := recordsV_length VLog.zero t .beg
  have hWs : ∀ r ∈ recordsV VLog.zero t .beg, r.length ≤ 32768 := recordsV_le (.inl rfl) HQ.out.symm
  have htl := HTL.out
  obtain ⟨W1, hW1⟩ : ∃ W1, W1 = recordsV VLog.zero t .beg := ⟨_, rfl⟩
  rw [← hW1] at hvw hWl hWs
  have HW1 := Lib.hid hW1
  have HWL := Lib.hid hWl
  have HWS := Lib.hid hWs
  have HVW := Lib.hid hvw
  obtain ⟨Aw, cw, rfl, _, _⟩ := hvw.form
  have HSW := Lib.hid (vsectors_any _ W1 wD hvw (by omega) hWs)
  obtain ⟨nw, hnw⟩ : ∃ nw, nw = W1.length := ⟨_, rfl⟩
  obtain ⟨sw, hsw⟩ : ∃ sw, sw = secSum W1 := ⟨_, rfl⟩
  rw [← hnw] at HVW HSW ⊢
  rw [← hsw] at HSW
  have HSWE := Lib.hid hsw
  have HNW := Lib.hid hnw
  have hB2D := hB2C.trans (hbD.mono hzC)
  have kD := kC.below hbD kC.lt
  have kvD := kvC.below hbD kvC.lt
  have hBD : Below g w wD := hB2'.trans (hB2D.mono (by omega))
  have hzD := hB2D.size
  clear hvw hWl hWs hW1 hsw hnw HRW htl
  go_upto_region 11 with fail
  go_wp2_with fail
  refine HSW.out.mono ?_
  rintro e wE ⟨rfl, rfl⟩
  clear HSW
  by_cases hfull : n2 / 3 < sw
  · have z1 : decide ((n2 : Int) / 3 < (sw : Int)) = true := decide_eq_true (by omega)
    have z2 : decide (n2 / 3 < sw) = true := decide_eq_true hfull
    have HFU := Lib.hid (show (n - 2) / 3 < secSum (recordsV VLog.zero t .beg) by rw [← HN2.out, ← HW1.out, ← HSWE.out]; exact hfull)
    clear hfull
    go_wp2_with fail
    refine (as_any 4 (by decide) _).mono ?_
    rintro e w3 ⟨⟨v3, rfl, hv3⟩, hB3⟩
    have HV3 := Lib.hid hv3
    clear hv3
    go_wp2
    go_ret
    exact ⟨v3, rfl, PutX.of_below HV.out (HG.out ▸ hBD.trans (hB3.mono (by omega))) (.inr (.inr ⟨HQ.out.symm, HV3.out, HFU.out⟩))⟩
  have z1 : decide ((n2 : Int) / 3 < (sw : Int)) = false := decide_eq_false (by omega)
  have z2 : decide (n2 / 3 < sw) = false := decide_eq_false hfull
  have HR2 := Lib.hid (fun (w' : World) (hb : Below wE.heap.size wE w') => vrecs_any ((HM2.out.below (hB2D.trans (hb.mono hzD))).mono (ok' := fun b => b < g ∧ (¬ F b ∨ ¬ f b)) fun b hb _ => ⟨hb.1, .inr hb.2.1⟩) ((HT2.out.below (hB2D.trans (hb.mono hzD))).mono fun b hb _ => ⟨hb.1, .inl hb.2⟩) 2 (.inr rfl) HQ.out.symm (by have := HLE.out; omega) HTL.out)
  rw [← HT1.out, ← HL1.out] at HR2
  go_upto_region 13 with fail
  clear z1 z2
  refine wp_seqL [5] (by as_aux_lemma => kernel_rfl) (by as_aux_lemma => kernel_rfl) fun wA hbA => ?_
  refine seqL_pre 3 (by kernel_rfl) ?_
  simp only [List.take_succ_cons, List.take_zero, List.drop_succ_cons, List.drop_zero]
  repeat (go_big_quiet_step (fail))
  refine wpQuiet_nil ?_
  refine seqL_still (.agg L1) rfl rfl (fun s => still_ld (g := gv) (k := 1) rfl rfl (HRG.out _ (hB2D.trans (s.below.mono hzD))) Tryz.underlying30 rfl hinf2) ?_
  refine seqL_still (.agg T1) rfl rfl (fun s => still_ld (g := g) (k := 0) rfl rfl (kD.below s.below kD.lt).range Tryz.underlying30 rfl hinf) ?_
  refine seqL_wild hbA rfl rfl fun K hK => ?_
  unfold Gives
  go_simp
  refine (HR2.out wA hbA).mono ?_
  rintro e wF ⟨⟨vm, rfl, hvm⟩, hbF⟩
  refine ⟨_, rfl, hK _ _ (hbF) fun hbF' => ?_⟩
  clear hK
  clear K
  simp only [Act.put, List.setIfInBounds_toArray, List.set_cons_succ, List.set_cons_zero]
  refine seqL_pre 1 (by kernel_rfl) ?_
  simp only [List.take_succ_cons, List.take_zero, List.drop_succ_cons, List.drop_zero]
  repeat (go_big_quiet_step (fail))
  refine wpQuiet_nil ?_
  refine seqL_nil ?_
  have hvm : RSl rBs (fun b => wA.heap.size ≤ b) wF vm (recordsV l t .fol) := hvm
  have hMl := recordsV_length l t .fol
  have hMs : ∀ r ∈ recordsV l t .fol, r.length ≤ 32768 := recordsV_le (.inr rfl) HQ.out.symm
  have htl := HTL.out
  obtain ⟨M1, hM1⟩ : ∃ M1, M1 = recordsV l t .fol := ⟨_, rfl⟩
  rw [← hM1] at hvm hMl hMs
  have HM1 := Lib.hid hM1
  have HML := Lib.hid hMl
  have HMS := Lib.hid hMs
  have HVM := Lib.hid hvm
  have hzF : wE.heap.size ≤ wA.heap.size := hbA.size
  obtain ⟨Am, cm, rfl, _, _⟩ := hvm.form
  have HSM := Lib.hid (vsectors_any _ M1 wF hvm (by omega) hMs)
  have hsb := secSum_bd M1 hMs
  obtain ⟨nm, hnm⟩ : ∃ nm, nm = M1.length := ⟨_, rfl⟩
  obtain ⟨sm, hsm⟩ : ∃ sm, sm = secSum M1 := ⟨_, rfl⟩
  rw [← hnm] at HVM HSM hsb hMl ⊢
  rw [← hsm] at HSM hsb
  have HSME := Lib.hid hsm
  have HNM := Lib.hid hnm
  have hsb2 : sm ≤ 1000000000 := by omega
  have hus : us ≤ 65536 := by rw [HUS.out]; have := HS.out; omega
  have hB2F := hB2D.trans (hbF'.mono hzD)
  have kF := kD.below hbF' kD.lt
  have kvF := kvD.below hbF' kvD.lt
  have hBF : Below g w wF := hB2'.trans (hB2F.mono (by omega))
  have hzF2 := hB2F.size
  have hWF := HVW.out.below hbF'
  have HWF := Lib.hid hWF
  have hLF := HL2.out.below hB2F
  have HLF := Lib.hid hLF
  have cF : wF.cell? ⟨gv, 0, none⟩ = some (.pointer (some ⟨gl, 0, none⟩)) := kvF.cell 0
  clear hvm hMl hMs hM1 hsm hnm HR2 htl hsb hWF hLF
  go_upto_region 14 with fail
  go_wp2_with fail
  refine HSM.out.mono ?_
  rintro e wG ⟨rfl, rfl⟩
  clear HSM
  go_upto_if 65 with fail
  go_cut [5] (fun v wx => v = .int .i64 (n2 : Int) ∧ Hid (Kp (fun x => ¬ f x) wG wx ∧ ∃ (f4 : Nat → Prop) (T' first' : Nat) (recs' : List (List UInt8)), (∀ x, f4 x → f x ∨ (g ≤ x ∧ x < wx.heap.size)) ∧ T' ≤ c + 1 ∧ first' ≤ 70000 * (c + 1) ∧ LogX f4 wx gl gd n T' first' first' recs' [] false ∧ Grps recs' t 0 ∧ secSum recs' ≤ (n - 2) / 3 * 2))
  case first =>
    have hff : ∀ x, f x → x < wG.heap.size := fun x hx => by have := hF x (hfF x hx); have := HG.out; omega
    by_cases hfit : us + sm ≤ n2 / 3 * 2
    · have z1 : decide ((us : Int) + (sm : Int) ≤ (n2 : Int) / 3 * 2) = true := decide_eq_true (by omega)
      have z2 : decide (us + sm ≤ n2 / 3 * 2) = true := decide_eq_true hfit
      have hsum : secSum (recs ++ M1) ≤ n2 / 3 * 2 := by rw [secSum_append, ← HUS.out, ← HSME.out]; exact hfit
      have hml := HML.out
      have htl := HTL.out
      have HA := Lib.hid (vappendX_any cF hfv (fun h => h0F (hfF 0 h)) (HG0.out _ (HG.out ▸ hBF)) HLF.out _ M1 HVM.out (fun b hb h => by have := hF b (hfF b h); have := HG.out; omega) hff (by omega) HMS.out (by have := HN2.out; omega))
      have HSU := Lib.hid hsum
      clear hsum hfit hml htl
      rw [z1]
      go_wp2_with fail
      refine HA.out.mono ?_
      rintro e wH ⟨v, rfl, hKH, hcase⟩
      have hgw := HG.out
      have hzF3 := hBF.size
      have hzK := hKH.size
      rcases hcase with ⟨rfl, hLH⟩ | ⟨j, hE, hj, hLH⟩
      rotate_left
      · have HE := Lib.hid hE
        obtain ⟨be, se, ue, rfl, _, _⟩ := hE
        have HKK := Lib.hid hKH
        have HB2 : Hid (VltD (fun x => F x ∨ (w.heap.size ≤ x ∧ x < wH.heap.size)) wH gv gd n (c + 1) l t) := Lib.hid ⟨_, gl, T, first, first, recs, M1.take j, _, (fun x hx => hx.elim (fun h => .inl (hfF x h)) fun h => .inr (by omega)), .inl hFv, (fun h => h.elim hfv fun h => by omega), by have := HTn.out; omega, by have := HFI.out; omega, kvF.kp hKH hfv, rfl, hLH, by
          rw [HM1.out]
          refine shows_grp (kind := .fol) (f := l) (i := 0) HGr.out HS.out hn (.inl ⟨rfl, rfl⟩) ⟨HQ.out.symm, HTL.out, HT.out.term⟩ (.fol HGr.out ⟨HQ.out.symm, HTL.out, HT.out.term⟩) ?_ (by rw [← HM1.out]; have := HSU.out; have := HN2.out; omega) j
          rw [List.drop_zero, ← HM1.out]
          have := HSU.out
          have := HN2.out
          omega⟩
        clear hLH hKH hj hgw
        go_wp2_with fail
        refine (fwrap_any wH HE.out _).mono ?_
        rintro e wZ ⟨⟨vz, rfl, hvz⟩, hBZ⟩
        have HVZ := Lib.hid hvz
        have HZ1 := Lib.hid hBZ
        clear hvz hBZ
        go_wp2
        go_ret
        refine ⟨_, rfl, ?_, .inr (.inr (.inr ⟨HQ.out.symm, HVZ.out, (HB2.out.below HZ1.out).wide fun x hx => hx.imp_right fun h => ⟨h.1, Nat.lt_of_lt_of_le h.2 HZ1.out.size⟩⟩))⟩
        exact ((Kp.of_below (HG.out ▸ hBF)).trans (HKK.out.mono fun b hb h => hb (hfF b h))).trans (.of_below HZ1.out)
      have HKH0 := Lib.hid hKH
      clear hgw
      go_wp2
      go_meet
      refine ⟨rfl, Lib.hid ⟨hKH, _, T, first, recs ++ M1, fun x hx => hx.imp_right fun h => ⟨by omega, h.2⟩, by have := HTn.out; omega, by have := HFI.out; omega, hLH, ?_, by have := HSU.out; have := HN2.out; omega⟩⟩
      rw [HM1.out]
      exact .fol HGr.out ⟨HQ.out.symm, HTL.out, HT.out.term⟩
    · have z1 : decide ((us : Int) + (sm : Int) ≤ (n2 : Int) / 3 * 2) = false := decide_eq_false (by omega)
      have z2 : decide (us + sm ≤ n2 / 3 * 2) = false := decide_eq_false hfit
      have hwl := HWL.out
      have htl := HTL.out
      have hsum : secSum (recs ++ W1) ≤ n - 2 := by rw [secSum_append, ← HUS.out, ← HSWE.out]; have := HS.out; have := HUS.out; have := HN2.out; omega
      have hnx := next_liveX HLF.out
      rw [List.append_nil] at hnx
      obtain ⟨kn, hkn⟩ : ∃ kn, kn = first + recs.length := ⟨_, rfl⟩
      rw [← hkn] at hnx
      have HNX := Lib.hid hnx
      have HKN := Lib.hid hkn
      have HSU := Lib.hid hsum
      have HLL : Hid ((recs ++ W1).length ≤ 65536) := Lib.hid (by have := secSum_len (recs ++ W1); omega)
      have hkn2 : kn + 70000 < 18446744073709551616 := by
        have h1 := secSum_len recs
        have h2 := HFI.out
        have h3 := HUS.out
        omega
      have HK2 := Lib.hid hkn2
      clear hsum hfit hnx hkn hkn2
      rw [z1]
      go_wp2_with fail
      refine HNX.out.mono ?_
      rintro e wH ⟨rfl, hbH⟩
      have cH : wH.cell? ⟨gv, 0, none⟩ = some (.pointer (some ⟨gl, 0, none⟩)) := (kvF.below hbH kvF.lt).cell 0
      have HA := Lib.hid (vappendX_any cH hfv (fun h => h0F (hfF 0 h)) (HG0.out _ ((HG.out ▸ hBF : Below w.heap.size w _).trans (hbH.mono (HG.out ▸ hBF : Below w.heap.size w _).size))) (HLF.out.below hbH) _ W1 (HWF.out.below hbH) (fun b hb h => by have hb : wC.heap.size ≤ b := hb; have := hF b (hfF b h); have := HG.out; omega) (fun x hx => by have := hff x hx; have := hbH.size; omega) (by omega) HWS.out HSU.out)
      clear HNX cF
      go_wp2_with fail
      refine HA.out.mono ?_
      rintro e wI ⟨v, rfl, hKI, hcase⟩
      have hgw := HG.out
      have hzF3 := hBF.size
      have hzK := hKI.size
      have hzH0 := hbH.size
      rcases hcase with ⟨rfl, hLI⟩ | ⟨j, hE, hj, hLI⟩
      rotate_left
      · have HE := Lib.hid hE
        obtain ⟨be, se, ue, rfl, _, _⟩ := hE
        have HKK := Lib.hid ((Kp.of_below (ok := fun x => ¬ f x) hbH).trans hKI)
        have HB2 : Hid (VltD (fun x => F x ∨ (w.heap.size ≤ x ∧ x < wI.heap.size)) wI gv gd n (c + 1) l t) := Lib.hid ⟨_, gl, T, first, first, recs, W1.take j, _, (fun x hx => hx.elim (fun h => .inl (hfF x h)) fun h => .inr (by omega)), .inl hFv, (fun h => h.elim hfv fun h => by omega), by have := HTn.out; omega, by have := HFI.out; omega, (kvF.below hbH kvF.lt).kp hKI hfv, rfl, hLI, by
          rw [HW1.out]
          refine shows_grp (kind := .beg) (f := VLog.zero) (i := recs.length) HGr.out HS.out hn (.inr ⟨rfl, rfl⟩) ⟨HQ.out.symm, HTL.out, HT.out.term⟩ (.beg HGr.out ⟨HQ.out.symm, HTL.out, HT.out.term⟩) ?_ (by rw [← HW1.out]; exact HSU.out) j
          rw [List.drop_left, ← HW1.out]
          have := HSWE.out
          have := HN2.out
          omega⟩
        clear hLI hKI hj hgw
        go_wp2_with fail
        refine (fwrap_any wI HE.out _).mono ?_
        rintro e wZ ⟨⟨vz, rfl, hvz⟩, hBZ⟩
        have HVZ := Lib.hid hvz
        have HZ1 := Lib.hid hBZ
        clear hvz hBZ
        go_wp2
        go_ret
        refine ⟨_, rfl, ?_, .inr (.inr (.inr ⟨HQ.out.symm, HVZ.out, (HB2.out.below HZ1.out).wide fun x hx => hx.imp_right fun h => ⟨h.1, Nat.lt_of_lt_of_le h.2 HZ1.out.size⟩⟩))⟩
        exact ((Kp.of_below (HG.out ▸ hBF)).trans (HKK.out.mono fun b hb h => hb (hfF b h))).trans (.of_below HZ1.out)
      clear hgw hzK hzH0
      have cI : wI.cell? ⟨gv, 0, none⟩ = some (.pointer (some ⟨gl, 0, none⟩)) := (hKI.cell (p := ⟨gv, 0, none⟩) hfv cH)
      have hzI := hKI.size
      have hzH := hbH.size
      have HC := Lib.hid (cut_liveX hLI (by have := HTn.out; omega) kn (by have := HK2.out; omega) (by have := HLL.out; have := HFI.out; rw [List.append_nil]; omega))
      have HKV9 := Lib.hid ((kvF.below hbH kvF.lt).kp hKI hfv)
      have HKI9 := Lib.hid ((Kp.of_below (ok := fun x => ¬ f x) hbH).trans hKI)
      clear HA cH
      go_wp2_with fail
      refine HC.out.mono ?_
      rintro e wJ ⟨⟨zx, rfl, hcase⟩, hKJ⟩
      have hzJ := hKJ.size
      rcases hcase with ⟨hn1, _⟩ | ⟨_, _, rfl, T', hT', hLJ⟩ | ⟨g1, g2, rfl, sf', us', hsf, hle9, hLJ⟩
      · exact absurd ⟨by have := HKN.out; omega, by have := HKN.out; rw [List.append_nil, List.length_append]; omega⟩ hn1
      rotate_left
      · have hgw := HG.out
        have hzF3 := hBF.size
        have hsu : us' = [] ∧ sf' = recs ++ W1 := by
          rw [List.append_nil] at hsf
          have := congrArg List.length hsf
          rw [List.length_append] at this
          have hu : us' = [] := List.eq_nil_of_length_eq_zero (by omega)
          subst hu
          rw [List.append_nil] at hsf
          exact ⟨rfl, hsf⟩
        obtain ⟨rfl, rfl⟩ := hsu
        have HQ2 := Lib.hid (show Kp (fun x => ¬ f x) wG wJ from HKI9.out.trans_new (hKJ.mono fun x hx h => hx (h.imp_right fun h => by omega)))
        have HB1 : Hid (VltD (fun x => F x ∨ (w.heap.size ≤ x ∧ x < wJ.heap.size)) wJ gv gd n (c + 1) l t) := Lib.hid ⟨_, gl, T, first, kn, recs ++ W1, [], _, (fun x hx => by
          rcases hx with (h | h) | h
          · exact .inl (hfF x h)
          · exact .inr (by omega)
          · exact .inr (by omega)), .inl hFv, (fun h => by
          rcases h with (h | h) | h
          · exact hfv h
          · omega
          · omega), by have := HTn.out; omega, by have := HFI.out; omega, HKV9.out.kp hKJ (fun h => by
          rcases h with h | h
          · exact hfv h
          · omega), rfl, hLJ, by
          rw [HW1.out, HKN.out]
          refine shows_cut HGr.out ⟨HQ.out.symm, HTL.out, HT.out.term⟩ hn ?_ (by rw [← HW1.out]; exact HSU.out)
          rw [← HW1.out]
          have := HSWE.out
          have := HN2.out
          omega⟩
        clear hLJ hKJ hsf hle9 g1 g2
        go_wp2_with fail
        refine (fnew_any 3 (by decide) _ _).mono ?_
        rintro e wK ⟨⟨v, rfl, hE⟩, hBK⟩
        have HE := Lib.hid hE
        obtain ⟨be, se, ue, rfl, _, _⟩ := hE
        have HKK := Lib.hid (HQ2.out.trans (.of_below hBK))
        have HB2 : Hid (VltD (fun x => F x ∨ (w.heap.size ≤ x ∧ x < wK.heap.size)) wK gv gd n (c + 1) l t) := Lib.hid ((HB1.out.below hBK).wide fun x hx => hx.imp_right fun h => ⟨h.1, Nat.lt_of_lt_of_le h.2 hBK.size⟩)
        clear hBK HC
        go_wp2_with fail
        refine (fwrap_any wK HE.out _).mono ?_
        rintro e wZ ⟨⟨vz, rfl, hvz⟩, hBZ⟩
        have HVZ := Lib.hid hvz
        have HZ1 := Lib.hid hBZ
        clear hvz hBZ
        go_wp2
        go_ret
        refine ⟨_, rfl, ?_, .inr (.inr (.inr ⟨HQ.out.symm, HVZ.out, (HB2.out.below HZ1.out).wide fun x hx => hx.imp_right fun h => ⟨h.1, Nat.lt_of_lt_of_le h.2 HZ1.out.size⟩⟩))⟩
        exact ((Kp.of_below (HG.out ▸ hBF)).trans (HKK.out.mono fun b hb h => hb (hfF b h))).trans (.of_below HZ1.out)
      rw [List.append_nil, show kn - first = recs.length by have := HKN.out; omega, List.drop_left] at hLJ
      have HQJ := Lib.hid (show Kp (fun x => ¬ f x) wG wJ from (Kp.of_below hbH).trans (hKI.trans_new hKJ))
      have HLJ := Lib.hid hLJ
      clear hLI hKI hLJ hKJ HC
      go_wp2_with fail
      refine (faultNew_ok _ _).mono ?_
      rintro e wK ⟨rfl, rfl⟩
      go_wp2
      go_meet
      refine ⟨rfl, Lib.hid ⟨HQJ.out, _, T', kn, W1, fun x hx => ?_, by have := HTn.out; omega, ?_, HLJ.out, ?_, by have := HSWE.out; have := HN2.out; omega⟩⟩
      · rcases hx with (hx | hx) | hx
        · exact .inl hx
        · exact .inr (by omega)
        · exact .inr (by omega)
      · have h1 := secSum_len recs
        have h2 := HFI.out
        have h3 := HUS.out
        have h4 := HKN.out
        omega
      · rw [HW1.out]
        have := (Grps.beg HGr.out ⟨HQ.out.symm, HTL.out, HT.out.term⟩).cut
        rwa [List.drop_left] at this
  obtain ⟨rfl, HX⟩ := hcut
  obtain ⟨wH, rfl⟩ : ∃ wH, wH = wc := ⟨_, rfl⟩
  have hgw := HG.out
  have hKH := HX.out.1
  have hzH := hKH.size
  have hgf : ¬ f g := fun h => by have := hF g (hfF g h); omega
  have kH := kF.kp hKH hgf
  have kvH := kvF.kp hKH hfv
  have hTH : VLm (fun b => b < g ∧ ¬ F b) wH _ _ t := (HT2.out.below hB2F).kp (hKH.mono fun b hb h => hb.2 (hfF b h))
  have HOW := Lib.hid (own_any hTH (by have := HTL.out; omega))
  rw [← HT1.out] at HOW
  have HKV := Lib.hid kvH
  have HKH := Lib.hid hKH
  clear hTH hgf hKH kvH cF hgw
  go_upto_region 24 with fail
  refine wp_region_split 1 ?_
  simp only [List.take_succ_cons, List.take_zero, List.drop_succ_cons, List.drop_zero]
  go_wp2
  show wpList _ _ _ _ _ _
  refine wpList_ld (g := g) (k := 0) (cs := T1) rfl rfl rfl kH.range Tryz.underlying30 rfl hinf ?_
  refine wpList_split 3 ?_
  simp only [List.take_succ_cons, List.take_zero, List.drop_succ_cons, List.drop_zero]
  go_wp2_with fail
  refine HOW.out.mono ?_
  rintro e wI ⟨⟨v2, e2, rfl, hmI⟩, hBI⟩
  obtain ⟨A2, c2, rfl, _⟩ := hmI.sd.form
  obtain ⟨A3, c3, rfl, _⟩ := hmI.es.form
  have kvI := HKV.out.below hBI HKV.out.lt
  have HMI := Lib.hid hmI
  clear hmI HOW kH
  go_wp2
  show wpList _ _ _ _ _ _
  have hkM : Blk wI gv 74 (#[.pointer (some ⟨gl, 0, none⟩)] ++ L1 ++ #[]) := by rw [HL1.out]; exact kvI
  refine wpList_stMid (C := L1) rfl rfl (vlCs t (.slice A2 t.sd.length c2) (.slice A3 t.es.length c3)) rfl rfl hkM rfl (by rw [HL1.out]; rfl) Tryz.infoLog (vl_all _ _ _ _ _ _ _) ?_ rfl
  intro k9
  have hK9 : Kp (fun b => ¬ b = gv) wI (World.setCells wI gv 1 (vlCs t (.slice A2 t.sd.length c2) (.slice A3 t.es.length c3)).toList) := Kp.setCells (b := gv) (fun _ h => h rfl) _ 1 (Kp.refl _ _)
  generalize hwz : World.setCells wI gv 1 (vlCs t (.slice A2 t.sd.length c2) (.slice A3 t.es.length c3)).toList = wz at k9 hK9 ⊢
  clear hwz hkM kvI
  have HK9 := Lib.hid k9
  clear k9
  go_wp2
  go_ret
  have hzI := hBI.size
  have hz9 := hK9.size
  have hgw := HG.out
  have hf4 := HX.out.2
  obtain ⟨f4, T', first', recs', h41, h42, h43, h44, h45, h46⟩ := hf4
  refine ⟨_, rfl, ?_, .inr (.inl ⟨HQ.out.symm, rfl, ⟨f4, gl, T', first', recs', .slice A2 t.sd.length c2, .slice A3 t.es.length c3, ?_, .inl hFv, ?_, h42, h43, HK9.out, ?_, ?_, h45, h46, HTL.out⟩⟩)⟩
  · refine (((Kp.of_below (hgw ▸ hBF)).trans (HKH.out.mono fun b hb h => hb (hfF b h))).trans (.of_below hBI)).trans (hK9.mono fun b hb e => hb (e ▸ hFv))
  · intro x hx
    rcases h41 x hx with h | h
    · exact .inl (hfF x h)
    · exact .inr (by omega)
  · intro h
    rcases h41 gv h with h | h
    · exact hfv h
    · omega
  · refine (h44.below hBI).kp hK9 fun x hx e => ?_
    subst e
    rcases h41 x hx with h | h
    · exact hfv h
    · omega
  · refine (HMI.out.mono (ok' := fun b => ((F b ∨ (w.heap.size ≤ b ∧ b < wz.heap.size)) ∧ ¬ f4 b ∧ b ≠ gv)) fun b hb hlt => ⟨.inr (by omega), fun h => ?_, by omega⟩).kp (hK9.mono fun b hb => hb.2.2)
    rcases h41 b h with h | h
    · have := hF b (hfF b h)
      omega
    · omega
end Go.Proofs.YtnlhjhpikjmoaaaGreatDoor
namespace Go.Proofs.YtnlhjhpikjmoaaaGreatDoor
open Go.RowKit
theorem size_take (l : List VEnt) {i : Nat} (h : i < l.length) : ((l.take (i + 1)).map fun e => 100 + e.data.length).sum = ((l.take i).map fun e => 100 + e.data.length).sum + (100 + l[i].data.length) := by
  rw [List.take_succ_eq_append_getElem h, List.map_append, List.sum_append]
  simp
theorem size_datS : ∀ l : List VEnt, (l.map fun e => 100 + e.data.length).sum = 100 * l.length + datS l
  | [] => rfl
  | e :: r => by
    have := size_datS r
    unfold datS at *
    simp only [List.map_cons, List.sum_cons, List.length_cons]
    omega
theorem datS_le (l : List VEnt) (i : Nat) : datS (l.take i) ≤ datS l := by
  conv => rhs; rw [← List.take_append_drop i l]
  unfold datS
  rw [List.map_append, List.sum_append]
  omega
set_option maxRecDepth 100000 in
set_option maxHeartbeats 3200000 in
theorem size_any {ok : Nat → Prop} {w : World} {vsd ves : Value} {l : VLog} (h : VLm ok w vsd ves l) (hd : datS l.es ≤ 1000000000000) :
    Calls Tryz.prog 19 #[.agg (vlCs l vsd ves)] w fun e w' => e = .returned (.int .i64 (sizeV l : Int)) ∧ Below w.heap.size w w' := by
  obtain ⟨As, cs, rfl, _, hsl⟩ := h.sd.form
  obtain ⟨Ae, ce, rfl, hce, hel⟩ := h.es.form
  obtain ⟨m, hm⟩ : ∃ m, m = l.es.length := ⟨_, rfl⟩
  obtain ⟨ms, hms⟩ : ∃ ms, ms = l.sd.length := ⟨_, rfl⟩
  have hes := h.es
  rw [← hm] at hes hce hel
  have hm40 : m * 40 ≤ 140737488351232 := hel
  have hs1 : ms * 1 ≤ 140737488351232 := by rw [hms]; exact hsl
  have HSZ := Lib.hid (show sizeV l = 400 + ms + (l.es.map fun e => 100 + e.data.length).sum by rw [hms]; rfl)
  rw [← hm, ← hms]
  have HM := Lib.hid hm
  have HES := Lib.hid hes
  have HD := Lib.hid hd
  have hkb := Blk.new w 30 (vlCs l (.slice As ms cs) (.slice Ae m ce))
  have hal : Below w.heap.size w (w.alloc (.cells (vlCs l (.slice As ms cs) (.slice Ae m ce)) 30)) := (Below.refl _ _).alloc (Nat.le_refl _) _
  have HKB := Lib.hid hkb
  have HAL := Lib.hid hal
  clear h hkb hal hm hms hsl hes hel hd
  unfold vlCs at *
  go_enter Tryz.func19, Tryz.ntmps19
  go_upto_region 1 with fail
  obtain ⟨wb, hwb⟩ : ∃ wb, wb = w.heap.size := ⟨_, rfl⟩
  refine name_world (fun w1 => Blk w1 wb 30 #[.int .u64 (l.term : Int), .int .i64 l.vote, .int .u64 (l.si : Int), .int .u64 (l.st : Int), .slice As ms cs, .slice Ae m ce] ∧ Below w.heap.size w w1 ∧ wb < w1.heap.size) ⟨by rw [hwb]; exact HKB.out, HAL.out, by rw [hwb]; simp⟩ ?_
  rintro w1 ⟨hb1, hB1, hlt1⟩
  rw [← hwb]
  have HWB := Lib.hid hwb
  have c4 : w1.cell? ⟨wb, 4, none⟩ = some (.slice As ms cs) := hb1.cell 4
  have c5 : w1.cell? ⟨wb, 5, none⟩ = some (.slice Ae m ce) := hb1.cell 5
  clear HKB HAL hwb hb1
  go_upto_region 3 with fail
  go_loopw [3, 4] (fun vs vi wr => ∃ i s : Nat, i ≤ m ∧ vi = .int .i64 (i : Int) ∧ vs = .int .i64 (s : Int) ∧ wr = w1 ∧ s ≤ 400 + 140737488351232 + i * 100 + 1000000000000 ∧ Hid (s = 400 + ms + ((l.es.take i).map fun e => 100 + e.data.length).sum)) (fun _ vi _ => m - (intOf vi).toNat)
  case atStart => exact ⟨0, 400 + ms, by omega, rfl, by go_num, rfl, by omega, Lib.hid (by simp)⟩
  case round =>
    obtain ⟨i, s, hi, rfl, rfl, hwr, hs, HP⟩ := hrel
    rw [hwr]
    clear hwr
    by_cases hlt : i < m
    · have z1 : decide ((i : Int) < (m : Int)) = true := decide_eq_true (by omega)
      have z3 : decide (i < m) = true := decide_eq_true hlt
      have hil : i < l.es.length := by rw [← HM.out]; exact hlt
      obtain ⟨b5, off5, c5', cs5, hv5, _, ⟨vd, rfl, hvd, ht64, hi64⟩, hcell5⟩ := (HES.out.below hB1).at_ hil
      rw [← HM.out] at hv5
      obtain ⟨rfl, rfl⟩ : Ae = some ⟨b5, off5, none⟩ ∧ ce = c5' := by simpa using hv5
      obtain ⟨A6, c6, rfl, hf6, hf7⟩ := hvd.form
      obtain ⟨dl, hdl⟩ : ∃ dl, dl = l.es[i].data.length := ⟨_, rfl⟩
      rw [← hdl] at hcell5
      have hf8 : dl * 1 ≤ 140737488351232 := by rw [hdl]; exact hf7
      have q2 : w1.cell? ⟨b5, off5 + i * 3 + 2, none⟩ = some (.slice A6 dl c6) := by have := hcell5 2 _ rfl; rwa [Nat.add_assoc]
      have HQ := Lib.hid (show s + 100 + dl = 400 + ms + ((l.es.take (i + 1)).map fun e => 100 + e.data.length).sum by rw [size_take _ hil, HP.out, hdl]; omega)
      have hbd : s + 100 + dl ≤ 400 + 140737488351232 + (i + 1) * 100 + 1000000000000 := by
        rw [HQ.out, size_datS, List.length_take]
        have := datS_le l.es (i + 1)
        have := HD.out
        omega
      clear hcell5 hv5 hvd hf6 hf7 hdl ht64 hi64 HP
      go_wp2
      go_roundw
      case rel => exact ⟨i + 1, s + 100 + dl, by omega, by go_num, by go_num, by first | rfl | trivial, hbd, HQ⟩
      case measure => simp [intOf]; omega
    · have z1 : decide ((i : Int) < (m : Int)) = false := decide_eq_false (by omega)
      have z3 : decide (i < m) = false := decide_eq_false hlt
      have HF := Lib.hid (show s = sizeV l by rw [HP.out, List.take_of_length_le (by rw [← HM.out]; omega), HSZ.out])
      clear HP hi
      go_wp2
      go_ret
      exact ⟨by rw [← HF.out]; rfl, hB1⟩
end Go.Proofs.YtnlhjhpikjmoaaaGreatDoor
namespace Go.Proofs.YtnlhjhpikjmoaaaGreatDoor
open Go.RowKit
theorem datS_td (es : List VEnt) (k : Nat) : datS (es.take k) + datS (es.drop k) = datS es := by
  conv => rhs; rw [← List.take_append_drop k es]
  unfold datS
  rw [List.map_append, List.sum_append]
theorem datS_tk (es : List VEnt) (k : Nat) : datS (es.take k) ≤ datS es := by have := datS_td es k; omega
theorem modk_at (a : Int) (nx : Nat) (h : nx ≤ 140737488355328) : ∃ k : Nat, wrap64 ((IntKind.u64.wrap a).tmod ((nx : Int) + 1)) = (k : Int) ∧ k ≤ nx := by
  have h0 : 0 ≤ IntKind.u64.wrap a := by rw [IntKind.wrap_u64]; omega
  rw [Int.tmod_eq_emod_of_nonneg h0]
  have h1 := Int.emod_nonneg (IntKind.u64.wrap a) (show ((nx : Int) + 1) ≠ 0 by omega)
  have h2 := Int.emod_lt_of_pos (IntKind.u64.wrap a) (show (0 : Int) < (nx : Int) + 1 by omega)
  refine ⟨(IntKind.u64.wrap a % ((nx : Int) + 1)).toNat, ?_, by omega⟩
  unfold wrap64
  omega
structure Op7 where
  kind : Int
  n : Int
  b : List UInt8
  l : VLog
  keep : List Int
def o7Cs (o : Op7) (vb lsd les vk : Value) : Array Value := #[.int .i64 o.kind, .int .i64 o.n, vb, .int .u64 (o.l.term : Int), .int .i64 o.l.vote, .int .u64 (o.l.si : Int), .int .u64 (o.l.st : Int), lsd, les, vk]
def datL (t : VLog) : Nat := t.sd.length + datS t.es
def Chg (l : VLog) (o : Op7) (t : VLog) : Prop := (t.es.length ≤ l.es.length + 4 ∧ datL t ≤ datL l + 1000) ∨ t = o.l
end Go.Proofs.YtnlhjhpikjmoaaaGreatDoor
