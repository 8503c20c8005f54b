/- Contract: the closure put of WalSafe.
WalSafe's state: the log, and the list of all. No walk. -/
import Derived.Test.YtlnnfdjhejdgdaaV10
import Derived.Deep.DeepCutAuto
namespace Go.Proofs.Ytlnnfdjhejdgdaa
open Go.RowKit

/-- the log and the list of all, in the two variables that put has -/
def PutS (B bl ba gl gd T : Nat) (w : World) (sf us : List (List UInt8)) : Prop :=
  ∃ (f : Nat → Prop) (va : Value), LogS f w gl gd 4000 T 0 sf us ∧ Blk w bl 27 #[.pointer (some ⟨gl, 0, none⟩)] ∧ Blk w ba 36 #[va] ∧ OwnL rBs (fun b => b < B) B 33 w va (sf ++ us) ∧
    (∀ x, f x → B ≤ x ∧ x < w.heap.size) ∧ ¬ f bl ∧ ¬ f ba ∧ bl ≠ ba ∧ B ≤ bl ∧ B ≤ ba ∧ (∀ x, va.ownBlock = some x → ¬ f x ∧ x ≠ bl ∧ x ≠ ba) ∧ (∀ r ∈ sf ++ us, r.length ≤ 500)
def trim (m : List (List UInt8)) (i : Nat) : List (List UInt8) := (m.take i).map (·.take 500)
theorem trim_succ (m : List (List UInt8)) {i : Nat} (h : i < m.length) : trim m (i + 1) = trim m i ++ [m[i].take 500] := by
  unfold trim
  rw [List.take_succ_eq_append_getElem h, List.map_append]
  rfl
theorem trim_len (m : List (List UInt8)) {i : Nat} (h : i ≤ m.length) : (trim m i).length = i := by
  unfold trim
  rw [List.length_map, List.length_take]
  omega
theorem secSum_l5 : ∀ rs : List (List UInt8), (∀ r ∈ rs, r.length ≤ 500) → secSum rs ≤ 11 * rs.length
  | [], _ => Nat.le_refl _
  | r :: rs, h => by
    have h1 := secSum_l5 rs fun x hx => h x (List.mem_cons_of_mem _ hx)
    have h2 : secN r.length ≤ 11 := by have := h r (by simp); unfold secN; omega
    rw [secSum_cons, List.length_cons]
    omega
theorem PutS.below {B bl ba gl gd T : Nat} {w w' : World} {sf us : List (List UInt8)} (h : PutS B bl ba gl gd T w sf us) (hb : Below w.heap.size w w') : PutS B bl ba gl gd T w' sf us := by
  obtain ⟨f, va, h1, h2, h3, h4, h5, h6⟩ := h
  exact ⟨f, va, h1.below hb, h2.below hb h2.lt, h3.below hb h3.lt, h4.below hb, fun x hx => by have := h5 x hx; have := hb.size; omega, h6⟩
theorem kp_below {B : Nat} {w w' : World} (h : Below B w w') : Kp (fun b => b < B) w w' := ⟨h.1, h.2, h.3, h.4, fun k _ hk => h.5 k hk⟩
set_option maxRecDepth 100000 in
set_option maxHeartbeats 6400000 in
theorem put_any {B bl ba gl gd T : Nat} {w : World} {sf us : List (List UInt8)} (h : PutS B bl ba gl gd T w sf us) (hB : B ≤ w.heap.size) (hlen : sf.length + us.length ≤ 12) (v : Value) (m : List (List UInt8)) (h0 : RSl rBs (fun b => b < B) w v m) :
    Calls Try.prog 19 #[v, .pointer (some ⟨bl, 0, none⟩), .pointer (some ⟨ba, 0, none⟩)] w fun e w' => e = .returned (.bool true) ∧ PutS B bl ba gl gd T w' sf (us ++ trim m (min 12 m.length)) ∧ Below B w w' := by
  obtain ⟨A0, c0, rfl, hc0, hsl0⟩ := h0.form
  obtain ⟨n0, hn0⟩ : ∃ n, n = m.length := ⟨_, rfl⟩
  rw [show rBs.wt = 24 from rfl, ← hn0] at hsl0
  rw [← hn0] at hc0 h0
  rw [← hn0]
  have HN0 := Lib.hid hn0
  have HP := Lib.hid h
  clear hn0 h
  go_enter Try.func19, Try.ntmps19
  go_upto_region 2 with fail
  go_loopw [5] (fun j wr => ∃ i : Nat, i ≤ 12 ∧ i ≤ n0 ∧ j = .int .i64 (i : Int) ∧ Hid (PutS B bl ba gl gd T wr sf (us ++ trim m i)) ∧ Below B w wr) (fun j _ => 200 - (intOf j).toNat)
  case atStart => exact ⟨0, by omega, by omega, rfl, Lib.hid (by simpa [trim] using HP.out), Below.refl _ _⟩
  case round =>
    obtain ⟨i, hi, hin, rfl, HP, hb⟩ := hrel
    obtain ⟨go, hgo⟩ : ∃ go : Bool, go = decide (i < n0 ∧ i < 12) := ⟨_, rfl⟩
    have HGO := Lib.hid hgo
    clear hgo
    go_upto_region 2 with fail
    go_cut [14] (fun v wx => v = .bool go ∧ wx = wr)
    case first =>
      by_cases h1 : i < n0
      · have z1 : decide ((i : Int) < (n0 : Int)) = true := decide_eq_true (by omega)
        have z2 : decide (i < n0) = true := decide_eq_true h1
        have hg : go = decide ((i : Int) < 12) := by rw [HGO.out]; exact decide_eq_decide.2 (by omega)
        clear h1
        go_wp2
        go_meet
        exact ⟨by first | (rw [hg]; done) | (rw [hg]; congr 1; exact decide_eq_decide.2 (by omega)), rfl⟩
      · have z1 : decide ((i : Int) < (n0 : Int)) = false := decide_eq_false (by omega)
        have z2 : decide (i < n0) = false := decide_eq_false h1
        have hg : go = false := by rw [HGO.out]; exact decide_eq_false (by omega)
        clear h1
        go_wp2
        go_meet
        exact ⟨by rw [hg], rfl⟩
    obtain ⟨rfl, hwx⟩ := hcut
    rw [hwx]
    clear hwx
    cases go
    case false =>
      have hmin : min 12 n0 = i := by have := of_decide_eq_false HGO.out.symm; omega
      have HMN := Lib.hid hmin
      clear hmin
      go_wp2
      go_ret
      exact ⟨rfl, by rw [HMN.out]; exact HP.out, hb⟩
    have hgo := of_decide_eq_true HGO.out.symm
    have hi1 : i < n0 := hgo.1
    have hi2 : i < 12 := hgo.2
    have hi3 : i < m.length := by rw [← HN0.out]; exact hi1
    obtain ⟨b5, off5, c5, cs5, hv5, _, ⟨v5, rfl, hr5⟩, hcell5⟩ := (RSl.kp (kp_below hb) h0).at_ hi3
    rw [← HN0.out] at hv5
    simp only [Value.slice.injEq, true_and] at hv5
    obtain ⟨rfl, rfl⟩ := hv5
    obtain ⟨A5, d5, rfl, hd5, hw5⟩ := hr5.form
    obtain ⟨x, hx⟩ : ∃ x, x = m[i] := ⟨_, rfl⟩
    have htr := trim_succ m hi3
    rw [← hx] at hcell5 hd5 hw5 hr5 htr
    obtain ⟨mm, hm⟩ : ∃ mm, mm = x.length := ⟨_, rfl⟩
    rw [show rU8.wt = 1 from rfl] at hw5
    rw [← hm] at hcell5 hd5 hw5
    have q5 : wr.cell? ⟨b5, off5 + i * 1, none⟩ = some (.slice A5 mm d5) := hcell5 0 _ rfl
    have q6 : wr.cell? ⟨b5, off5 + i, none⟩ = some (.slice A5 mm d5) := by simpa using q5
    have HM := Lib.hid hm
    have hr6 : RB (fun b => b < B) wr (.slice A5 (min 500 mm) d5) (x.take 500) := by
      have hr5' : RB (fun b => b < B) wr (.slice A5 mm d5) x := by rw [hm]; exact hr5
      have := hr5'.take (k := min 500 mm) (Nat.min_le_right _ _)
      rwa [show x.take (min 500 mm) = x.take 500 by rw [hm, ← List.take_take, List.take_length]] at this
    obtain ⟨m', hm'⟩ : ∃ m', m' = min 500 mm := ⟨_, rfl⟩
    rw [← hm'] at hr6
    have HM' := Lib.hid hm'
    have HR6 := Lib.hid hr6
    have HTR := Lib.hid htr
    clear hx hm hm' hr5 hr6 hcell5 htr
    go_upto_region 5 with fail
    clear q5 q6
    go_upto_if 23 with fail
    go_cut [6] (fun v wx => v = .slice A5 m' d5 ∧ wx = wr)
    case first =>
      by_cases hgt : 500 < mm
      · have z1 : decide ((mm : Int) > 500) = true := decide_eq_true (by omega)
        have z2 : decide (500 < mm) = true := decide_eq_true hgt
        go_wp2
        go_meet
        exact ⟨by rw [HM'.out, Nat.min_eq_left (by omega)], rfl⟩
      · have z1 : decide ((mm : Int) > 500) = false := decide_eq_false (by omega)
        have z2 : decide (500 < mm) = false := decide_eq_false hgt
        go_wp2
        go_meet
        exact ⟨by rw [HM'.out, Nat.min_eq_right (by omega)], rfl⟩
    obtain ⟨rfl, hwx⟩ := hcut
    rw [hwx]
    clear hwx
    obtain ⟨f, va, hL, kbl, kba, hO, hfb, hfl, hfa, hne, hBl, hBa, hva, h5⟩ := HP.out
    obtain ⟨b, hbe⟩ : ∃ b, b = x.take 500 := ⟨_, rfl⟩
    have hbl : b.length = m' := by rw [hbe, List.length_take, ← HM.out, HM'.out]
    have hb3 : b.length ≤ 500 := by rw [hbl, HM'.out]; exact Nat.min_le_left _ _
    have hrb := HR6.out
    have htr := HTR.out
    rw [← hbe] at hrb htr
    have hfit : secSum (sf ++ (us ++ trim m i)) + secN b.length ≤ 4000 - 2 := by
      have e1 := secSum_l5 _ h5
      rw [List.length_append, List.length_append, trim_len m (by omega)] at e1
      have e2 : secN b.length ≤ 11 := by unfold secN; omega
      omega
    have HAP := Lib.hid (append_opS hL (.slice A5 m' d5) b (hrb.mono (by decide) fun y hy _ hfy => by have := (hfb y hfy).1; omega) (by omega) hfit)
    have HB3 := Lib.hid hb3
    have HBL := Lib.hid hbl
    have HRB := Lib.hid hrb
    have HTR2 := Lib.hid htr
    have HFB := Lib.hid hfb
    have HVA := Lib.hid hva
    have H5 := Lib.hid h5
    have hcl : wr.cell? ⟨bl, 0, none⟩ = some (.pointer (some ⟨gl, 0, none⟩)) := kbl.cell 0
    clear hbe hbl hb3 hrb htr hfit HR6 HM HM' HTR hL HP hfb hva h5
    go_wp2_with fail
    refine HAP.out.mono ?_
    rintro e w6 ⟨rfl, hL6, hK6⟩
    have hzr := hb.size
    have hz6 := hK6.size
    have hBr : B ≤ wr.heap.size := by omega
    have hb6 : Below B w w6 := hb.trans (hK6.below hBr fun y hy hfy => by have := (HFB.out y hfy).1; omega)
    have hO6 := hO.kp hK6 (fun y hy hfy => by have := (HFB.out y hfy).1; omega) (fun y hy => (HVA.out y hy).1)
    have kbl6 := kbl.kp hK6 hfl
    have kba6 := kba.kp hK6 hfa
    have hrb6 : RB (fun b => b < B) w6 (.slice A5 m' d5) b := HRB.out.kp (hK6.mono fun y hy hfy => by have := (HFB.out y hfy).1; omega)
    have hltbl := kbl.lt
    have hltba := kba.lt
    have HLT := Lib.hid hO.lt
    have HL6 := Lib.hid hL6
    clear HAP hK6 hL6 hO HRB hcl kbl kba
    have hbz6 : B ≤ w6.heap.size := by omega
    have hln : (sf ++ (us ++ trim m i)).length ≤ 24 := by rw [List.length_append, List.length_append, trim_len m (by omega)]; omega
    have cba6 : ∀ w', Below w6.heap.size w6 w' → w'.cell? ⟨ba, 0, none⟩ = some va := fun w' hb' => (kba6.below hb' kba6.lt).cell 0
    have c0 : w6.cell? ⟨ba, 0, none⟩ = some va := kba6.cell 0
    go_upto_region 3 with (at_builtin; go_loud (refine wp_app1 (E := rBs) (okd := fun b => b < B) Try.rowBs (by decide) rfl _ _ rfl va (sf ++ (us ++ trim m i)) w6 #[.slice A5 m' d5] b rfl hO6 rfl ⟨_, rfl, hrb6.mono (by decide) fun y hy _ => ⟨hy, fun e => by have := (HLT.out y e.symm).1; omega⟩⟩ (by show ((sf ++ (us ++ trim m i)).length + 1) * 24 ≤ _; omega) (by omega) hbz6 ?_); intro v' w7 hown7 hk7 hv7; obtain ⟨A7, d7, rfl, hd7⟩ := hown7.form; have kba7 := kba6.kp hk7 (fun e => (HVA.out ba e.symm).2.2 rfl); have fba := fun i => kba7.frozen i; have cba7 := kba7.cell 0)
    have hle : ((sf ++ (us ++ trim m i)) ++ [b]).length = sf.length + (us.length + ((trim m i).length + 1)) := by simp only [List.length_append, List.length_singleton]; omega
    rw [hle] at hown7 hv7 hd7
    obtain ⟨N, hN⟩ : ∃ N, N = sf.length + (us.length + ((trim m i).length + 1)) := ⟨_, rfl⟩
    rw [← hN] at hown7 hv7 hd7 ⊢
    have hz7 := hk7.size
    have hkp8 : Kp (fun y => y ≠ ba) w7 (w7.setCell ⟨ba, 0, none⟩ (.slice A7 N d7)) := (Kp.refl _ _).setCell (fun _ h => h rfl) _
    have kba8 : Blk (w7.setCell ⟨ba, 0, none⟩ (.slice A7 N d7)) ba 36 #[.slice A7 N d7] := kba7.set_ 0 (.slice A7 N d7)
    have kbl8 := (kbl6.kp hk7 (fun e => (HVA.out bl e.symm).2.1 rfl)).kp hkp8 hne
    have hown : ∀ y, (Value.slice A7 N d7).ownBlock = some y → va.ownBlock = some y ∨ y = w6.heap.size + 1 := fun y hy => by
      rcases hv7 with e | e
      · exact .inl (by rw [← e]; exact hy)
      · rw [e] at hy
        exact .inr (Option.some.inj hy).symm
    have hown8 := hown7.kp hkp8 (fun y hy e => by omega) (fun y hy => by
      rcases hown y hy with e | e
      · exact (HVA.out y e).2.2
      · omega)
    have hL8 := (HL6.out.kp hk7 fun y hy e => by
      rcases hy with hy | hy
      · exact (HVA.out y e.symm).1 hy
      · have := (HLT.out y e.symm).2; omega).kp hkp8 fun y hy e => by
      rcases hy with hy | hy
      · exact hfa (e ▸ hy)
      · omega
    have hb8 : Below B w (w7.setCell ⟨ba, 0, none⟩ (.slice A7 N d7)) := (hb6.trans (hk7.below hbz6 fun y hy e => by have := (HLT.out y e.symm).1; omega)).trans (hkp8.below (by omega) fun y hy => by omega)
    have hPS : PutS B bl ba gl gd T (w7.setCell ⟨ba, 0, none⟩ (.slice A7 N d7)) sf (us ++ trim m (i + 1)) := by
      rw [HTR2.out, ← List.append_assoc]
      refine ⟨_, _, hL8, kbl8, kba8, by rw [← List.append_assoc]; exact hown8, fun y hy => ?_, ?_, ?_, hne, hBl, hBa, fun y hy => ?_, fun r hr => ?_⟩
      · have hz8 := hkp8.size
        rcases hy with hy | hy
        · have := HFB.out y hy; omega
        · omega
      · rintro (hy | hy)
        · exact hfl hy
        · omega
      · rintro (hy | hy)
        · exact hfa hy
        · omega
      · rcases hown y hy with e | e
        · have h1 := HVA.out y e
          have h2 := HLT.out y e
          exact ⟨fun h => h.elim h1.1 fun h => by omega, h1.2⟩
        · refine ⟨fun h => h.elim (fun h => ?_) fun h => by omega, by omega, by omega⟩
          have := HFB.out y h
          omega
      · rw [← List.append_assoc] at hr
        rcases List.mem_append.1 hr with hr | hr
        · exact H5.out r hr
        · rw [List.mem_singleton.1 hr]
          exact HB3.out
    have HPS := Lib.hid hPS
    have HB8 := Lib.hid hb8
    clear hPS hb8 hL8 hown8 kbl8 kba8 hkp8 hown hown7 hk7 hv7 hN hle kba7 fba cba7 cba6 c0 hO6 kba6 kbl6 hrb6 HL6 HLT HVA HFB H5 HB3 HBL HTR2 hz7 hz6 hzr hBr
    go_wp2
    go_roundw
    case rel => exact ⟨i + 1, by omega, by omega, by go_num, HPS, HB8.out⟩
    case measure => simp [intOf]; omega
end Go.Proofs.Ytlnnfdjhejdgdaa

namespace Go.Proofs.Ytlnnfdjhejdgdaa
open Go.RowKit

theorem sync_opP {B bl ba gl gd T : Nat} {w : World} {sf us : List (List UInt8)} (h : PutS B bl ba gl gd T w sf us) (hB : B ≤ w.heap.size) :
    Calls Try.prog 16 #[.pointer (some ⟨gl, 0, none⟩)] w fun e w' => e = .returned (.int .i64 0) ∧ PutS B bl ba gl gd T w' (sf ++ us) [] ∧ Below B w w' := by
  obtain ⟨f, va, h1, h2, h3, h4, h5, h6, h7, h8, h9, h10, h11, h12⟩ := h
  refine (sync_opS h1).mono ?_
  rintro e w' ⟨rfl, hL, hk⟩
  refine ⟨rfl, ⟨f, va, hL, h2.kp hk h6, h3.kp hk h7, ?_, fun x hx => by have := h5 x hx; have := hk.size; omega, h6, h7, h8, h9, h10, h11, by rw [List.append_nil]; exact h12⟩, hk.below hB fun y hy hf => by have := (h5 y hf).1; omega⟩
  rw [List.append_nil]
  exact h4.kp hk (fun y hy hf => by have := (h5 y hf).1; omega) fun y hy => (h11 y hy).1
/-- the list of all, apart from what f has -/
def RestS (B ba : Nat) (f : Nat → Prop) (w : World) (al : List (List UInt8)) : Prop :=
  ∃ va, Blk w ba 36 #[va] ∧ OwnL rBs (fun b => b < B) B 33 w va al ∧ (∀ x, f x → B ≤ x ∧ x < w.heap.size) ∧ ¬ f ba ∧ (∀ x, va.ownBlock = some x → ¬ f x) ∧ B ≤ ba
theorem PutS.parts {B bl ba gl gd T : Nat} {w : World} {sf us : List (List UInt8)} (h : PutS B bl ba gl gd T w sf us) : ∃ f, LogS f w gl gd 4000 T 0 sf us ∧ RestS B ba f w (sf ++ us) := by
  obtain ⟨f, va, h1, h2, h3, h4, h5, h6, h7, h8, h9, h10, h11, h12⟩ := h
  exact ⟨f, h1, va, h3, h4, h5, h7, fun x hx => (h11 x hx).1, h10⟩
theorem RestS.kp {B ba : Nat} {f : Nat → Prop} {w w' : World} {al : List (List UInt8)} (h : RestS B ba f w al) (hk : Kp (fun x => ¬ f x) w w') : RestS B ba f w' al := by
  obtain ⟨va, h1, h2, h3, h4, h5, h6⟩ := h
  exact ⟨va, h1.kp hk h4, h2.kp hk (fun y hy hf => by have := (h3 y hf).1; omega) h5, fun x hx => by have := h3 x hx; have := hk.size; omega, h4, h5, h6⟩
theorem RestS.grow {B ba : Nat} {f : Nat → Prop} {w w' : World} {al : List (List UInt8)} (h : RestS B ba f w al) (hk : Kp (fun x => ¬ f x) w w') (hB : B ≤ w.heap.size) : RestS B ba (fun x => f x ∨ (w.heap.size ≤ x ∧ x < w'.heap.size)) w' al := by
  obtain ⟨va, h1, h2, h3, h4, h5, h6⟩ := h
  have hlt := h1.lt
  have hl2 := h2.lt
  refine ⟨va, h1.kp hk h4, h2.kp hk (fun y hy hf => by have := (h3 y hf).1; omega) h5, fun x hx => ?_, fun hx => ?_, fun x hx hf => ?_, h6⟩
  · have := hk.size
    rcases hx with hx | hx
    · have := h3 x hx; omega
    · omega
  · rcases hx with hx | hx
    · exact h4 hx
    · omega
  · rcases hf with hf | hf
    · exact h5 x hx hf
    · have := (hl2 x hx).2; omega
theorem RestS.below {B ba : Nat} {f : Nat → Prop} {w w' : World} {al : List (List UInt8)} (h : RestS B ba f w al) (hb : Below w.heap.size w w') : RestS B ba f w' al := by
  obtain ⟨va, h1, h2, h3, h4, h5, h6⟩ := h
  exact ⟨va, h1.below hb h1.lt, h2.below hb, fun x hx => by have := h3 x hx; have := hb.size; omega, h4, h5, h6⟩
theorem RestS.lt {B ba : Nat} {f : Nat → Prop} {w : World} {al : List (List UInt8)} (h : RestS B ba f w al) : (∀ x, f x → x < w.heap.size) ∧ ∀ x, f x → B ≤ x := by
  obtain ⟨va, h1, h2, h3, h4, h5, h6⟩ := h
  exact ⟨fun x hx => (h3 x hx).2, fun x hx => (h3 x hx).1⟩
/-- the list, read -/
theorem RestS.read {B ba : Nat} {f : Nat → Prop} {w : World} {al : List (List UInt8)} (h : RestS B ba f w al) (hl : al.length ≤ 1000) : ∃ A c, w.cell? ⟨ba, 0, none⟩ = some (.slice A al.length c) ∧ ba < w.heap.size ∧ al.length ≤ c ∧ RSl rBs (fun _ => True) w (.slice A al.length c) al := by
  obtain ⟨va, h1, h2, h3, h4, h5, h6⟩ := h
  obtain ⟨A, c, rfl, hc⟩ := h2.form
  exact ⟨A, c, h1.cell 0, h1.lt, hc, h2.rsl (by decide) (by show al.length * 24 ≤ _; omega) (fun _ _ => trivial) fun _ _ => trivial⟩
end Go.Proofs.Ytlnnfdjhejdgdaa
