/- VaultPlays: an Op's opener.
The walk of the law VaultPlays. -/
import Derived.Test.YtnlhjhpikjmoaaaGreatDoorB32
import Derived.Test.YtnlhjhpikjmoaaaGreatDoorB36
namespace Go.Proofs.YtnlhjhpikjmoaaaGreatDoor
open Go.ChangeShapes Go.WideShapes Go.ChangeAt Go.RowKit Go.Deep
def rOp7 : Rel Op7 where
  sz := 10
  wt := 144
  rel ok w cs o := ∃ vb a b vk, cs = (o7Cs o vb a b vk).toList ∧ RB ok w vb o.b ∧ VLm ok w a b o.l ∧ RSl rInt ok w vk o.keep ∧ I64 o.kind ∧ I64 o.n
  len := by rintro ok w cs d ⟨a, b, c, e, rfl, _⟩; rfl
  one := by
    rintro ok w cs d ⟨a, b, c, e, rfl, h1, h2, h3, _⟩ u hu
    simp [o7Cs] at hu
    rcases hu with rfl | rfl | rfl | rfl | rfl | rfl | rfl | rfl | rfl | rfl
    · rfl
    · rfl
    · exact h1.one
    · rfl
    · rfl
    · rfl
    · rfl
    · exact h2.sd.one
    · exact h2.es.one
    · exact h3.one
  kp := by
    rintro ok w w' cs d hk ⟨a, b, c, e, rfl, h1, h2, h3, h4⟩
    exact ⟨a, b, c, e, rfl, h1.kp hk, h2.kp hk, h3.kp hk, h4⟩
  mono := by
    rintro ok ok' w cs d hm ⟨a, b, c, e, rfl, h1, h2, h3, h4⟩
    exact ⟨a, b, c, e, rfl, h1.mono (by decide) hm, h2.mono hm, h3.mono (by decide) hm, h4⟩
section
variable {H : Type} {enc : TypeId × Value → H} {W : World}
set_option maxRecDepth 100000 in
theorem opens_op7 : Opens enc Tryz.prog W 61 rOp7 := by
  intro fuel cs x h hw
  obtain ⟨hl, hf⟩ := opens_parts Tryz.underlying61 h hw
  have hl10 : cs.length = 10 := hl.trans (by kernel_rfl)
  obtain ⟨y0, n0, t0, k0⟩ := hf 0 _ rfl
  obtain ⟨y1, n1, t1, k1⟩ := hf 1 _ rfl
  obtain ⟨y2, n2, t2, k2⟩ := hf 2 _ rfl
  obtain ⟨y3, n3, t3, k3⟩ := hf 3 _ rfl
  obtain ⟨y4, n4, t4, k4⟩ := hf 4 _ rfl
  match cs, hl10 with
  | [a0, a1, a2, a3, a4, a5, a6, a7, a8, a9], _ =>
    have t0' : DataW.trod enc Tryz.prog W 0 (fun _ => true) true n0 3 [a0] = some y0 := t0
    have t1' : DataW.trod enc Tryz.prog W 0 (fun _ => true) true n1 3 [a1] = some y1 := t1
    have t2' : DataW.trod enc Tryz.prog W 0 (fun _ => true) true n2 25 [a2] = some y2 := t2
    have t3' : DataW.trod enc Tryz.prog W 0 (fun _ => true) true n3 30 [a3, a4, a5, a6, a7, a8] = some y3 := t3
    have t4' : DataW.trod enc Tryz.prog W 0 (fun _ => true) true n4 53 [a9] = some y4 := t4
    obtain ⟨i0, c0, _, w0⟩ := DataW.trod_int Tryz.underlying3 t0'
    obtain ⟨i1, c1, _, w1⟩ := DataW.trod_int Tryz.underlying3 t1'
    obtain ⟨l2, p2, c2, r2⟩ := opens_bytes _ _ _ t2' k2
    obtain ⟨l3, p3, q3, c3, r3⟩ := opens_log _ _ _ t3' k3
    obtain ⟨l4, p4, c4, r4⟩ := opens_ints _ _ _ t4' k4
    simp only [vlCs, List.cons.injEq, and_true] at c0 c1 c2 c3 c4
    obtain ⟨rfl, rfl, rfl, rfl, rfl, rfl⟩ := c3
    subst c0 c1 c2 c4
    exact ⟨⟨i0, i1, l2, l3, l4⟩, _, _, _, _, rfl, r2, r3, r4, i64_of w0, i64_of w1⟩
theorem opens_ops7 : Opens enc Tryz.prog W 58 (rSl rOp7 (by decide)) := opens_slice Tryz.underlying58 (by kernel_rfl) (by kernel_rfl) _ opens_op7
end
end Go.Proofs.YtnlhjhpikjmoaaaGreatDoor
namespace Go.Proofs.YtnlhjhpikjmoaaaGreatDoor
open Go.RowKit
theorem modn_at (x : Int) : ∃ n : Nat, wrap64 (500 + wrap64 ((IntKind.u64.wrap x).tmod 6000)) = (n : Int) ∧ 500 ≤ n ∧ n ≤ 6499 := by
  obtain ⟨k, hk, hkl⟩ := modk_at x 5999 (by omega)
  have hk : wrap64 ((IntKind.u64.wrap x).tmod 6000) = (k : Int) := hk
  rw [hk]
  refine ⟨500 + k, ?_, by omega, by omega⟩
  unfold wrap64
  omega
set_option maxRecDepth 100000 in
set_option maxHeartbeats 6400000 in
theorem lawVaultPlays (x : Int) (v1 : Value) (ops : List Op7) (w : World) (h1 : RSl rOp7 (fun b => b < w.heap.size) w v1 ops) (hg0 : w.cell? ⟨0, 0, none⟩ = some (.iface 149 (.agg #[.pointer (some ⟨1, 37, none⟩)]))) :
    Calls Tryz.prog 7 #[.int .i64 x, v1] w fun e w' => e = .returned (.bool true) ∧ Below w.heap.size w w' := by
  obtain ⟨A1, c1, rfl, hc1, hsl1⟩ := h1.form
  obtain ⟨n1, hn1⟩ : ∃ n, n = ops.length := ⟨_, rfl⟩
  rw [show rOp7.wt = 144 from rfl, ← hn1] at hsl1
  rw [← hn1] at hc1 ⊢
  have HN1 := Lib.hid hn1
  have hlt0 := World.block_lt_of_cell? w _ hg0
  have HG0 := Lib.hid (fun (w' : World) (hb : Below w.heap.size w w') => (hb.cell (p := ⟨0, 0, none⟩) hlt0).trans hg0)
  have HZ0 := Lib.hid hlt0
  have H1 := Lib.hid h1
  obtain ⟨n, hnx, hn5, hn6⟩ := modn_at x
  have HNX := Lib.hid hnx
  clear hn1 hlt0 hg0 h1 hnx
  go_enter Tryz.func7, Tryz.ntmps7
  go_upto_region 1 with fail
  go_cut [5] (fun v wx => v = .int .i64 (n : Int) ∧ wx = w)
  case first =>
    go_wp2
    go_meet
    exact ⟨by rw [HNX.out], rfl⟩
  obtain ⟨rfl, hwx⟩ := hcut
  rw [hwx]
  clear hwx
  go_wp2_with fail
  refine (dNew_any n (by omega) (by omega) w).mono ?_
  rintro e w1 ⟨⟨gd, rfl, hgd, hD1⟩, hb1⟩
  go_upto_region 3 with fail
  obtain ⟨gD, hgD⟩ : ∃ g, g = w1.heap.size := ⟨_, rfl⟩
  refine name_world (fun w2 => Blk w2 gD 46 #[.pointer (some ⟨gd, 0, none⟩)] ∧ Below w1.heap.size w1 w2 ∧ w2.heap.size = gD + 1) ⟨by rw [hgD]; exact Blk.new _ _ _, (Below.refl _ _).alloc (Nat.le_refl _) _, by rw [hgD]; simp⟩ ?_
  rintro w2 ⟨kD2, hb2, hz2⟩
  rw [← hgD]
  have hz1 := hb1.size
  have HOP := Lib.hid (vopen_new (n := n) (f := fun b => w.heap.size ≤ b ∧ b < w1.heap.size) (by omega) (by omega) ((hD1.mono fun b hb hlt => ⟨hb, hlt⟩).below hb2) (fun x hx => by omega))
  have cD : w2.cell? ⟨gD, 0, none⟩ = some (.pointer (some ⟨gd, 0, none⟩)) := kD2.cell 0
  have HGD := Lib.hid hgD
  have HZ2 := Lib.hid hz2
  clear hD1 hgD hz2
  go_wp2_with fail
  refine HOP.out.mono ?_
  rintro e w3 ⟨⟨gv, rfl, hV3⟩, hK3⟩
  go_upto_region 4 with fail
  obtain ⟨gV, hgV⟩ : ∃ g, g = w3.heap.size := ⟨_, rfl⟩
  refine name_world (fun w4 => Blk w4 gV 35 #[.pointer (some ⟨gv, 0, none⟩)] ∧ Below w3.heap.size w3 w4 ∧ w4.heap.size = gV + 1) ⟨by rw [hgV]; exact Blk.new _ _ _, (Below.refl _ _).alloc (Nat.le_refl _) _, by rw [hgV]; simp⟩ ?_
  rintro w4 ⟨kV4, hb4, hz4⟩
  rw [← hgV]
  have cV : w4.cell? ⟨gV, 0, none⟩ = some (.pointer (some ⟨gv, 0, none⟩)) := kV4.cell 0
  have hz2 := HZ2.out
  have hgd1 := HGD.out
  have hz3 := hK3.size
  have hB3 : Below w.heap.size w w3 := (hb1.trans (hb2.mono hz1)).trans (hK3.below (by omega) fun b hb hf => by omega)
  have hB4 : Below w.heap.size w w4 := hB3.trans (hb4.mono hB3.size)
  have hV3 : VltX (fun x => w.heap.size ≤ x ∧ x < w3.heap.size ∧ x ≠ gD) w3 gv gd n 2 VLog.zero := (hV3.wide fun x hx => by rcases hx with h | h <;> omega).x
  have HV4 := Lib.hid (hV3.below hb4)
  have hkD4 := (kD2.kp hK3 fun hf => by omega).below hb4 (by omega)
  have HGV := Lib.hid hgV
  have HB4 := Lib.hid hB4
  have HKD := Lib.hid hkD4
  have HKV := Lib.hid kV4
  have HZ4 := Lib.hid (And.intro hz4 (And.intro hz3 (And.intro hz2 (And.intro hgd1 (And.intro hz1 hgV)))))
  clear hV3 hK3 kD2 hb2 hb1 hz1 hz2 hz3 hgd1 hB3 hB4 hb4 hz4 hgV hkD4 kV4 cD HOP hgd
  go_wp2_with fail
  refine (vawake_any w4).mono ?_
  rintro e w5 ⟨rfl, hb5⟩
  have cV5 : w5.cell? ⟨gV, 0, none⟩ = some (.pointer (some ⟨gv, 0, none⟩)) := (HKV.out.below hb5 HKV.out.lt).cell 0
  clear cV
  have hmf : ∀ (fn : Fn) (first cap : Array Value) (w : World), (Instr.makeFunc fn first cap).run Tryz.prog w = .ok (.func fn first cap) w := fun _ _ _ _ => rfl
  go_upto_region 8 with fail
  obtain ⟨gL, hgL⟩ : ∃ g, g = w5.heap.size := ⟨_, rfl⟩
  refine name_world (fun w6 => Blk w6 gL 30 (vlCs VLog.zero (.slice none 0 0) (.slice none 0 0)) ∧ Blk w6 (gL + 1) 30 (vlCs VLog.zero (.slice none 0 0) (.slice none 0 0)) ∧ Blk w6 (gL + 1 + 1) 4 #[.bool false] ∧ Blk w6 (gL + 1 + 1 + 1) 4 #[.bool false] ∧ Below w5.heap.size w5 w6 ∧ w6.heap.size = gL + 1 + 1 + 1 + 1) ⟨by rw [hgL]; exact (((Blk.new _ _ _).alloc _).alloc _).alloc _, by rw [hgL]; exact ((Blk.new_ (by simp)).alloc _).alloc _, by rw [hgL]; exact (Blk.new_ (by simp)).alloc _, by rw [hgL]; exact Blk.new_ (by simp), ((((Below.refl _ _).alloc (Nat.le_refl _) _).alloc (by simp) _).alloc (by simp; omega) _).alloc (by simp; omega) _, by rw [hgL]; simp⟩ ?_
  rintro w6 ⟨kL, kM, kU, kW, hb6, hz6⟩
  obtain ⟨gM, hgM⟩ : ∃ g, g = gL + 1 := ⟨_, rfl⟩
  obtain ⟨gU, hgU⟩ : ∃ g, g = gM + 1 := ⟨_, rfl⟩
  obtain ⟨gW, hgW⟩ : ∃ g, g = gU + 1 := ⟨_, rfl⟩
  rw [← hgL]
  rw [← hgM] at kM kU kW hz6 ⊢
  rw [← hgU] at kU kW hz6 ⊢
  rw [← hgW] at kW hz6 ⊢
  have hzz := HZ4.out
  have hz5 := hb5.size
  have hb46 : Below w4.heap.size w4 w6 := hb5.trans (hb6.mono hz5)
  have hBx : PBx gD gU gM gL gV gW w.heap.size := ⟨by omega, by omega, by omega, by omega, by omega, by omega⟩
  have HBX := Lib.hid hBx
  have hst : PSt gD gU gM gL gV gW gd n w.heap.size w6 0 false := by
    have hzl : ∀ (ok : Nat → Prop), VLm ok w6 (.slice none 0 0) (.slice none 0 0) VLog.zero := fun ok => vm_zero _ _
    refine ⟨fun x => w.heap.size ≤ x ∧ x < w3.heap.size ∧ x ≠ gD, gv, VLog.zero, VLog.zero, .slice none 0 0, .slice none 0 0, .slice none 0 0, .slice none 0 0, _, ⟨hBx, fun x hx => ⟨hx.1, by omega, fun hh => ?_⟩, HKD.out.below hb46 HKD.out.lt, kU, kM, kL, HKV.out.below hb46 HKV.out.lt, kW, rfl, hzl _, fun h => (by cases h), ?_, ?_, fun _ => rfl⟩, fun _ => HV4.out.below hb46, fun h => (by cases h)⟩
    · unfold isB at hh
      omega
    · exact ⟨by decide, by decide, by decide⟩
    · exact ⟨by decide, by decide, by decide⟩
  have HST := Lib.hid hst
  have hB6 := HB4.out.trans (hb46.mono HB4.out.size)
  clear kL kM kU kW hb6 hz6 hzz hz5 hb46 hBx hst hgL hgM hgU hgW HKD HKV HV4 cV5 hb5 HB4 HGV HGD HZ2 HZ4
  go_upto_region 10 with fail
  go_loopw [15] (fun vi wr => ∃ (i : Nat) (dn : Bool), i ≤ 50 ∧ vi = .int .i64 (i : Int) ∧ Hid (PSt gD gU gM gL gV gW gd n w.heap.size wr i dn) ∧ Below w.heap.size w wr) (fun vi _ => 60 - (intOf vi).toNat)
  case atStart => exact ⟨0, false, by omega, rfl, HST, hB6⟩
  clear HST hB6
  case round =>
    obtain ⟨i, dn, hi, rfl, HS, hB⟩ := hrel
    obtain ⟨go, hgo⟩ : ∃ go : Bool, go = decide (i < n1 ∧ i < 50) := ⟨_, rfl⟩
    have HGO := Lib.hid hgo
    clear hgo
    go_upto_region 10 with fail
    go_cut [54] (fun v wx => v = .bool go ∧ wx = wr)
    case first =>
      by_cases h1 : i < n1
      · have z1 : decide ((i : Int) < (n1 : Int)) = true := decide_eq_true (by omega)
        have z2 : decide (i < n1) = true := decide_eq_true h1
        have hg : go = decide ((i : Int) < 50) := by rw [HGO.out]; exact decide_eq_decide.2 (by omega)
        clear h1
        go_wp2
        go_meet
        exact ⟨by first | (rw [hg]; done) | (rw [hg]; congr 1; exact decide_eq_decide.2 (by omega)), rfl⟩
      · have z1 : decide ((i : Int) < (n1 : Int)) = false := decide_eq_false (by omega)
        have z2 : decide (i < n1) = false := decide_eq_false h1
        have hg : go = false := by rw [HGO.out]; exact decide_eq_false (by omega)
        clear h1
        go_wp2
        go_meet
        exact ⟨by rw [hg], rfl⟩
    obtain ⟨rfl, hwx⟩ := hcut
    rw [hwx]
    clear hwx
    cases go
    case false =>
      have cD : wr.cell? ⟨gD, 0, none⟩ = some (.pointer (some ⟨gd, 0, none⟩)) := HS.out.kD.cell 0
      have HA := Lib.hid (pst_arm HS.out 0 ⟨by decide, by decide⟩)
      go_wp2_with fail
      refine HA.out.mono ?_
      rintro e w7 ⟨rfl, hS7, hb7⟩
      have HO7 := Lib.hid (po_open (hS7.o (by omega)) (by omega) (by omega))
      have HB7 := Lib.hid (hB.trans hb7)
      clear hS7 hb7 HA cD
      go_wp2_with fail
      refine HO7.out.mono ?_
      rintro e w8 ⟨rfl, hS8, hb8⟩
      have HO8 := Lib.hid (po_open (hS8.o (by omega)) (by omega) (by omega))
      have HB8 := Lib.hid (HB7.out.trans hb8)
      clear hS8 hb8 HO7
      go_wp2_with fail
      refine HO8.out.mono ?_
      rintro e w9 ⟨rfl, hS9, hb9⟩
      have HB9 := Lib.hid (HB8.out.trans hb9)
      clear hS9 hb9 HO8
      go_wp2
      go_ret
      exact ⟨rfl, HB9.out⟩
    have hgo := of_decide_eq_true HGO.out.symm
    have hi1 : i < n1 := hgo.1
    have hi2 : i < 50 := hgo.2
    have hi3 : i < ops.length := by rw [← HN1.out]; exact hi1
    obtain ⟨b5, off5, c5, cs5, hv5, _, ⟨vb, usd, ues, vk, rfl, hob, hol, hok, hoi⟩, hcell5⟩ := (RSl.below H1.out hB).at_ hi3
    rw [← HN1.out] at hv5
    simp only [Value.slice.injEq, true_and] at hv5
    obtain ⟨rfl, rfl⟩ := hv5
    obtain ⟨o, ho⟩ : ∃ o, o = ops[i] := ⟨_, rfl⟩
    rw [← ho] at hcell5 hob hol hok hoi
    obtain ⟨O1, hO1⟩ : ∃ T : Array Value, T = o7Cs o vb usd ues vk := ⟨_, rfl⟩
    rw [← hO1] at hcell5
    have hrO : wr.rangeAt b5 (off5 + i * 10) O1.toList := fun j v hv => hcell5 j v hv
    have hinfO : (Tryz.prog.info? 61).map (·.size) = some O1.size := by rw [hO1]; exact Tryz.infoOp7
    have hallO : O1.all (·.oneCell') = true := by
      rw [hO1]
      obtain ⟨_, _, rfl, _⟩ := hob.form
      obtain ⟨_, _, rfl, _⟩ := hol.sd.form
      obtain ⟨_, _, rfl, _⟩ := hol.es.form
      obtain ⟨_, _, rfl, _⟩ := hok.form
      simp [o7Cs, Value.oneCell']
    have HRO := Lib.hid hrO
    have HOB := Lib.hid hob
    have HOL := Lib.hid hol
    have HOK := Lib.hid hok
    have HOI := Lib.hid hoi
    have HO1 := Lib.hid hO1
    have hszO : O1.size = 10 := by rw [hO1]; rfl
    clear hcell5 hrO hob hol hok hoi ho hO1
    go_upto_region 12 with fail
    refine wp_region_split 3 ?_
    simp only [List.take_succ_cons, List.take_zero, List.drop_succ_cons, List.drop_zero]
    go_wp2
    show wpList _ _ _ _ _ _
    refine wpList_ld (g := b5) (k := off5 + i * 10) (cs := O1) rfl rfl rfl HRO.out Tryz.underlying61 rfl hinfO ?_
    refine wpList_split 1 ?_
    simp only [List.take_succ_cons, List.take_zero, List.drop_succ_cons, List.drop_zero]
    go_wp2
    show wpList _ _ _ _ _ _
    obtain ⟨g16, hg16⟩ : ∃ g, g = wr.heap.size := ⟨_, rfl⟩
    rw [← hg16]
    have kZ : Blk (wr.alloc (.cells #[.int .i64 0, .int .i64 0, .slice none 0 0, .int .u64 0, .int .i64 0, .int .u64 0, .int .u64 0, .slice none 0 0, .slice none 0 0, .slice none 0 0] 61)) g16 61 #[.int .i64 0, .int .i64 0, .slice none 0 0, .int .u64 0, .int .i64 0, .int .u64 0, .int .u64 0, .slice none 0 0, .slice none 0 0, .slice none 0 0] := Blk.new_ hg16
    refine wpList_st rfl rfl O1 rfl rfl kZ (by rw [hszO]; rfl) hinfO hallO ?_ rfl
    intro k16
    have hbz : Below wr.heap.size wr (World.setCells (wr.alloc (.cells #[.int .i64 0, .int .i64 0, .slice none 0 0, .int .u64 0, .int .i64 0, .int .u64 0, .int .u64 0, .slice none 0 0, .slice none 0 0, .slice none 0 0] 61)) g16 0 O1.toList) := below_setCells (by omega) _ 0 ((Below.refl _ _).alloc (Nat.le_refl _) _)
    generalize hwz : World.setCells (wr.alloc (.cells #[.int .i64 0, .int .i64 0, .slice none 0 0, .int .u64 0, .int .i64 0, .int .u64 0, .int .u64 0, .slice none 0 0, .slice none 0 0, .slice none 0 0] 61)) g16 0 O1.toList = wz at k16 hbz ⊢
    clear hwz kZ
    have hBz := hB.trans (hbz.mono hB.size)
    have HSZ := Lib.hid (HS.out.below hbz)
    have cD : wz.cell? ⟨gD, 0, none⟩ = some (.pointer (some ⟨gd, 0, none⟩)) := HSZ.out.kD.cell 0
    have k16' := k16
    rw [HO1.out] at k16'
    have y0 : wz.cell? ⟨g16, 0, none⟩ = some (.int .i64 o.kind) := k16'.cell 0
    have y1 : wz.cell? ⟨g16, 1, none⟩ = some (.int .i64 o.n) := k16'.cell 1
    have y9 : wz.cell? ⟨g16, 9, none⟩ = some vk := k16'.cell 9
    have HG16 := Lib.hid (And.intro hg16 (And.intro hB.size hbz.size))
    have HK16 := Lib.hid k16
    have HBR := Lib.hid hbz
    clear k16 k16' hg16 hallO HS HRO hbz hB
    obtain ⟨kd, hkd⟩ : ∃ kd, kd = o.kind := ⟨_, rfl⟩
    rw [← hkd] at y0
    have HKD := Lib.hid hkd
    clear hkd
    by_cases h5 : kd = 5
    · obtain rfl : kd = 5 := h5
      clear y9
      have HA := Lib.hid (pst_arm HSZ.out o.n HOI.out.2)
      go_wp2_with fail
      refine HA.out.mono ?_
      rintro e w7 ⟨rfl, hS7, hb7⟩
      have HS7 := Lib.hid (hS7.later (show i ≤ i + 1 by omega))
      have hB7 := hBz.trans hb7
      clear hS7 hb7 HA cD y0 y1
      go_wp2
      go_roundw
      case rel => exact ⟨i + 1, dn, by omega, by go_num, HS7, hB7⟩
      case measure => simp [intOf]; omega
    by_cases h6 : kd = 6
    · obtain rfl : kd = 6 := h6
      clear y1 h5
      have HC := Lib.hid (pst_crash HSZ.out (by omega) (by omega) vk o.keep (RSl.below HOK.out HBR.out))
      go_wp2_with fail
      refine HC.out.mono ?_
      rintro e w7 ⟨rfl, hO7, _, hb7⟩
      have HO7 := Lib.hid (po_open hO7 (by omega) (by omega))
      have HB7 := Lib.hid (hBz.trans hb7)
      clear hO7 hb7 HC cD y0 y9
      go_wp2_with fail
      refine HO7.out.mono ?_
      rintro e w8 ⟨rfl, hS8, hb8⟩
      have HS8 := Lib.hid hS8
      have hB8 := HB7.out.trans hb8
      clear hS8 hb8 HO7
      go_wp2
      go_roundw
      case rel => exact ⟨i + 1, false, by omega, by go_num, HS8, hB8⟩
      case measure => simp [intOf]; omega
    by_cases h7 : kd = 7
    · obtain rfl : kd = 7 := h7
      clear y1 y9 h5 h6
      have HO7 := Lib.hid (po_open (HSZ.out.o (by omega)) (by omega) (by omega))
      clear cD
      go_wp2_with fail
      refine HO7.out.mono ?_
      rintro e w8 ⟨rfl, hS8, hb8⟩
      have HS8 := Lib.hid hS8
      have hB8 := hBz.trans hb8
      clear hS8 hb8 HO7
      go_wp2
      go_roundw
      case rel => exact ⟨i + 1, false, by omega, by go_num, HS8, hB8⟩
      case measure => simp [intOf]; omega
    have z1 : (kd == 5) = false := by simpa using h5
    have z2 : (kd == 6) = false := by simpa using h6
    have z3 : (kd == 7) = false := by simpa using h7
    have z4 : decide (kd = 5) = false := decide_eq_false h5
    have z5 : decide (kd = 6) = false := decide_eq_false h6
    have z6 : decide (kd = 7) = false := decide_eq_false h7
    clear h5 h6 h7 y1 y9 cD
    obtain ⟨B1, d1, rfl, _, _⟩ := HOL.out.sd.form
    obtain ⟨B2, d2, rfl, _, _⟩ := HOL.out.es.form
    obtain ⟨T2, hT2⟩ : ∃ T : Array Value, T = vlCs o.l (.slice B1 o.l.sd.length d1) (.slice B2 o.l.es.length d2) := ⟨_, rfl⟩
    have hinf2 : (Tryz.prog.info? 30).map (·.size) = some T2.size := by rw [hT2]; exact Tryz.infoLog
    have hrg : wz.rangeAt g16 3 T2.toList := HK16.out.rangeW 3 _ fun j v hv => by
      rw [hT2] at hv
      rw [HO1.out]
      match j, hv with
      | 0, hv => exact hv
      | 1, hv => exact hv
      | 2, hv => exact hv
      | 3, hv => exact hv
      | 4, hv => exact hv
      | 5, hv => exact hv
      | j + 6, hv => simp [vlCs] at hv
    have HSM := Lib.hid (small_any (HOL.out.below HBR.out))
    rw [← hT2] at HSM
    have HT2 := Lib.hid hT2
    clear hT2
    go_upto_region 23 with fail
    refine wp_region_split 1 ?_
    simp only [List.take_succ_cons, List.take_zero, List.drop_succ_cons, List.drop_zero]
    go_wp2
    show wpList _ _ _ _ _ _
    refine wpList_ld (g := g16) (k := 3) (cs := T2) rfl rfl rfl hrg Tryz.underlying30 rfl hinf2 ?_
    go_wp2_with fail
    refine HSM.out.mono ?_
    rintro e wA ⟨⟨sm, rfl, hsm⟩, hbA⟩
    have HSMB := Lib.hid hsm
    have HSA := Lib.hid (HSZ.out.below hbA)
    have hBA := hBz.trans (hbA.mono hBz.size)
    have kA := HK16.out.below hbA HK16.out.lt
    have hzA := hbA.size
    clear hsm hrg HSM hinf2 y0 z1 z2 z3 z4 z5 z6
    cases sm
    · have HS7 := Lib.hid (HSA.out.later (show i ≤ i + 1 by omega))
      clear kA
      go_wp2
      go_roundw
      case rel => exact ⟨i + 1, dn, by omega, by go_num, HS7, hBA⟩
      case measure => simp [intOf]; omega
    have hsm := HSMB.out rfl
    have HSM2 := Lib.hid hsm
    obtain ⟨F, gv1, l, t, la, lb, ta, tb, M, hX, hVX, hVD⟩ := HSA.out
    obtain ⟨A3, c3, rfl, _, _⟩ := hX.vl.sd.form
    obtain ⟨A4, c4, rfl, _, _⟩ := hX.vl.es.form
    obtain ⟨C1, e1, rfl, _, _⟩ := HOB.out.form
    obtain ⟨L1, hL1⟩ : ∃ T : Array Value, T = vlCs l (.slice A3 l.sd.length c3) (.slice A4 l.es.length c4) := ⟨_, rfl⟩
    have hinfL : (Tryz.prog.info? 30).map (·.size) = some L1.size := by rw [hL1]; exact Tryz.infoLog
    have hbl := hX.bl
    have HCH := Lib.hid (changed_any hX.vl o (RSl.below HOB.out (HBR.out.trans (hbA.mono HBR.out.size))) (HOL.out.below (HBR.out.trans (hbA.mono HBR.out.size))) HOI.out.2 (by have := hbl.1; omega) hbl.2.2 (by omega) (vk := vk))
    rw [← hL1, ← HO1.out] at HCH
    have kL := hX.kL
    rw [← hL1] at kL
    have HL1 := Lib.hid hL1
    have HX := Lib.hid hX
    have HVX := Lib.hid hVX
    have HVD := Lib.hid hVD
    clear hsm hL1 hX hVX hVD hbl HSA
    go_upto_region 24 with fail
    refine wp_region_split 3 ?_
    simp only [List.take_succ_cons, List.take_zero, List.drop_succ_cons, List.drop_zero]
    refine wpList_ld (g := gL) (k := 0) (cs := L1) rfl rfl rfl kL.range Tryz.underlying30 rfl hinfL ?_
    refine wpList_ld (g := g16) (k := 0) (cs := O1) rfl rfl rfl kA.range Tryz.underlying61 rfl hinfO ?_
    go_wp2_with fail
    refine HCH.out.mono ?_
    rintro e wB ⟨⟨t2, n1a, n1b, rfl, hm2, hch⟩, hbB⟩
    obtain ⟨N1, f1, rfl, _, _⟩ := hm2.sd.form
    obtain ⟨N2, f2, rfl, _, _⟩ := hm2.es.form
    obtain ⟨X2, hX2⟩ : ∃ T : Array Value, T = vlCs t2 (.slice N1 t2.sd.length f1) (.slice N2 t2.es.length f2) := ⟨_, rfl⟩
    have hinfX : (Tryz.prog.info? 30).map (·.size) = some X2.size := by rw [hX2]; exact Tryz.infoLog
    have hallX : X2.all (·.oneCell') = true := by rw [hX2]; exact vl_all _ _ _ _ _ _ _
    have hszX : X2.size = 6 := by rw [hX2]; rfl
    rw [← hX2]
    have HX2 := Lib.hid hX2
    have HCHG := Lib.hid (chg_bd HX.out.bl hch HSM2.out)
    have hzB := hbB.size
    have HM2 := Lib.hid hm2
    clear hX2 hm2 hch HCH kL
    go_wp2
    show wpList _ _ _ _ _ _
    refine wpList_split 1 ?_
    simp only [List.take_succ_cons, List.take_zero, List.drop_succ_cons, List.drop_zero]
    go_wp2
    show wpList _ _ _ _ _ _
    obtain ⟨g17, hg17⟩ : ∃ g, g = wB.heap.size := ⟨_, rfl⟩
    rw [← hg17]
    have kZ : Blk (wB.alloc (.cells #[.int .u64 0, .int .i64 0, .int .u64 0, .int .u64 0, .slice none 0 0, .slice none 0 0] 30)) g17 30 #[.int .u64 0, .int .i64 0, .int .u64 0, .int .u64 0, .slice none 0 0, .slice none 0 0] := Blk.new_ hg17
    refine wpList_st rfl rfl X2 rfl rfl kZ (by rw [hszX]; rfl) hinfX hallX ?_ rfl
    intro k17
    have hbC : Below wB.heap.size wB (World.setCells (wB.alloc (.cells #[.int .u64 0, .int .i64 0, .int .u64 0, .int .u64 0, .slice none 0 0, .slice none 0 0] 30)) g17 0 X2.toList) := below_setCells (by omega) _ 0 ((Below.refl _ _).alloc (Nat.le_refl _) _)
    generalize hwz : World.setCells (wB.alloc (.cells #[.int .u64 0, .int .i64 0, .int .u64 0, .int .u64 0, .slice none 0 0, .slice none 0 0] 30)) g17 0 X2.toList = wC at k17 hbC ⊢
    have HHG17 := Lib.hid hg17
    clear hwz kZ hg17
    have hzC := hbC.size
    have hBC0 : Below wA.heap.size wA wC := hbB.trans (hbC.mono hzB)
    have hBC := hBA.trans (hBC0.mono hBA.size)
    have HCL := Lib.hid (copyLog_any (HM2.out.below hbC) (by have := HCHG.out.1; omega))
    rw [← HX2.out] at HCL
    have HMC := Lib.hid (HM2.out.below hbC)
    clear HM2
    go_upto_region 25 with fail
    refine wp_region_split 2 ?_
    simp only [List.take_succ_cons, List.take_zero, List.drop_succ_cons, List.drop_zero]
    refine wpList_ld (g := g17) (k := 0) (cs := X2) rfl rfl rfl k17.range Tryz.underlying30 rfl hinfX ?_
    go_wp2_with fail
    refine HCL.out.mono ?_
    rintro e wD ⟨⟨q1, q2, rfl, hm3⟩, hbD⟩
    obtain ⟨P1, r1, rfl, _, _⟩ := hm3.sd.form
    obtain ⟨P2, r2, rfl, _, _⟩ := hm3.es.form
    obtain ⟨X3, hX3⟩ : ∃ T : Array Value, T = vlCs t2 (.slice P1 t2.sd.length r1) (.slice P2 t2.es.length r2) := ⟨_, rfl⟩
    have hinfY : (Tryz.prog.info? 30).map (·.size) = some X3.size := by rw [hX3]; exact Tryz.infoLog
    have hallY : X3.all (·.oneCell') = true := by rw [hX3]; exact vl_all _ _ _ _ _ _ _
    have hszY : X3.size = 6 := by rw [hX3]; rfl
    rw [← hX3]
    have HX3 := Lib.hid hX3
    have hzD := hbD.size
    have HM3 := Lib.hid hm3
    clear hX3 hm3 HCL
    go_wp2
    show wpList _ _ _ _ _ _
    refine wpList_split 1 ?_
    simp only [List.take_succ_cons, List.take_zero, List.drop_succ_cons, List.drop_zero]
    go_wp2
    show wpList _ _ _ _ _ _
    obtain ⟨g18, hg18⟩ : ∃ g, g = wD.heap.size := ⟨_, rfl⟩
    rw [← hg18]
    have kZ : Blk (wD.alloc (.cells #[.int .u64 0, .int .i64 0, .int .u64 0, .int .u64 0, .slice none 0 0, .slice none 0 0] 30)) g18 30 #[.int .u64 0, .int .i64 0, .int .u64 0, .int .u64 0, .slice none 0 0, .slice none 0 0] := Blk.new_ hg18
    refine wpList_st rfl rfl X3 rfl rfl kZ (by rw [hszY]; rfl) hinfY hallY ?_ rfl
    intro k18
    have hbE : Below wD.heap.size wD (World.setCells (wD.alloc (.cells #[.int .u64 0, .int .i64 0, .int .u64 0, .int .u64 0, .slice none 0 0, .slice none 0 0] 30)) g18 0 X3.toList) := below_setCells (by omega) _ 0 ((Below.refl _ _).alloc (Nat.le_refl _) _)
    generalize hwz : World.setCells (wD.alloc (.cells #[.int .u64 0, .int .i64 0, .int .u64 0, .int .u64 0, .slice none 0 0, .slice none 0 0] 30)) g18 0 X3.toList = wE at k18 hbE ⊢
    have HHG18 := Lib.hid hg18
    clear hwz kZ hg18
    have hzE := hbE.size
    have hBE0 : Below wA.heap.size wA wE := (hBC0.trans (hbD.mono (by omega))).trans (hbE.mono (by omega))
    have hBE := hBA.trans (hBE0.mono hBA.size)
    have k17 := (k17.below hbD k17.lt).below hbE (by have := k17.lt; omega)
    have HXE := Lib.hid (HX.out.below hBE0)
    have cV : wE.cell? ⟨gV, 0, none⟩ = some (.pointer (some ⟨gv1, 0, none⟩)) := HXE.out.kV.cell 0
    have HM2E := Lib.hid ((HMC.out.below hbD).below hbE)
    have HM3E := Lib.hid (HM3.out.below hbE)
    have hz0 := HZ0.out
    have HPUT := Lib.hid (pput_any (i := i) (dn := dn) (fun hd => (HVX.out hd).below hBE0) (fun hd => (HVD.out hd).below hBE0) (fun y hy => (HXE.out.ff y hy).2.1) HM3E.out (fun b (hb : wC.heap.size ≤ b) hf => by have := (HX.out.ff b hf).2.1; omega) (by omega) (by omega) (by omega) (by have := HCHG.out.1; omega) (fun hf => by have := (HX.out.ff 0 hf).1; have : 0 < w.heap.size := hz0; omega) (HG0.out _ hBE))
    rw [← HX3.out] at HPUT
    have HK17 := Lib.hid k17
    have HBOX : Hid (∀ y, isB gD gU gM gL gV gW y → y < wA.heap.size) := Lib.hid fun y hy => (HX.out.box hy).1
    have HFA : Hid (∀ y, F y → y < wA.heap.size) := Lib.hid fun y hy => (HX.out.ff y hy).2.1
    have HGS := Lib.hid (And.intro HHG17.out (And.intro HHG18.out (And.intro hzA (And.intro hzB (And.intro hzC (And.intro hzD hzE))))))
    clear hz0 HM3 HMC HX HVX HVD k17 hbB hbC hbD hbE hzC hzD hzE hzB hzA kA
    go_upto_region 26 with fail
    refine wp_region_split 1 ?_
    simp only [List.take_succ_cons, List.take_zero, List.drop_succ_cons, List.drop_zero]
    go_wp2
    show wpList _ _ _ _ _ _
    refine wpList_ld (g := g18) (k := 0) (cs := X3) rfl rfl rfl k18.range Tryz.underlying30 rfl hinfY ?_
    go_wp2_with fail
    refine HPUT.out.mono ?_
    rintro e wF ⟨v, cd, rfl, hKF, hnil, hout⟩
    have hgs := HGS.out
    have hzF := hKF.size
    have k17F := HK17.out.kp hKF fun hf => by have := HFA.out _ hf; omega
    have k18F := k18.kp hKF fun hf => by have := HFA.out _ hf; omega
    have HXF := Lib.hid (HXE.out.kp hKF)
    have hBF := hBE.trans (HXE.out.bel hKF)
    have HM2F : Hid (VLm (fun y => ¬ (F y ∨ (wE.heap.size ≤ y ∧ y < wF.heap.size)) ∧ ¬ isB gD gU gM gL gV gW y) wF (.slice N1 t2.sd.length f1) (.slice N2 t2.es.length f2) t2) := Lib.hid (vl_newer (HM2E.out.mono fun b (hb : wA.heap.size ≤ b) _ => ⟨fun hf => by have := HFA.out _ hf; omega, fun hh => by have := HBOX.out _ hh; omega⟩) hKF)
    have HM3F := Lib.hid (HM3E.out.kp (hKF.mono fun b (hb : wC.heap.size ≤ b) hf => by have := HFA.out _ hf; omega))
    have HOUT := Lib.hid hout
    have HCD : Hid (Calls Tryz.prog 15 #[v] wF fun e w' => e = .returned (.int .i64 cd) ∧ Below wF.heap.size wF w') := Lib.hid (by
      rcases hnil with ⟨rfl, rfl⟩ | ⟨hE, _⟩
      · refine (code_nil wF).mono ?_
        rintro e w' ⟨rfl, rfl⟩
        exact ⟨rfl, Below.refl _ _⟩
      · exact code_err hE (HG0.out _ hBF))
    have HNIL : Hid ((v = .nilIface ∧ cd = 0) ∨ (∃ b, v = .iface 113 (.pointer (some ⟨b, 0, none⟩))) ∧ cd ≠ 0) := Lib.hid (by
      rcases hnil with h | ⟨hE, h⟩
      · exact .inl h
      · obtain ⟨b, _, _, h1, _⟩ := hE
        exact .inr ⟨⟨b, h1⟩, h⟩)
    clear hout hnil HPUT HXE HM2E HM3E HK17 k18 cV hKF hgs
    go_wp2_with fail
    refine HCD.out.mono ?_
    rintro e wG ⟨rfl, hbG⟩
    have kG17 := k17F.below hbG k17F.lt
    have kG18 := k18F.below hbG k18F.lt
    have HLG := Lib.hid (log_any (HM3F.out.below hbG) (HM2F.out.below hbG))
    rw [← HX3.out, ← HX2.out, sameV_refl] at HLG
    clear HCD k17F k18F HM3F
    go_upto_region 28 with fail
    go_cut [107] (fun u wx => u = .bool false ∧ Below wG.heap.size wG wx)
    case first =>
      rcases HNIL.out with ⟨rfl, rfl⟩ | ⟨⟨b, rfl⟩, hcd⟩
      · refine wp_region_lit ?_
        refine wpList_ld (g := g18) (k := 0) (cs := X3) rfl rfl rfl kG18.range Tryz.underlying30 rfl hinfY ?_
        refine wpList_ld (g := g17) (k := 0) (cs := X2) rfl rfl rfl kG17.range Tryz.underlying30 rfl hinfX ?_
        go_wp2_with fail
        refine HLG.out.mono ?_
        rintro e wH ⟨rfl, hbH⟩
        go_wp2
        go_meet
        exact ⟨rfl, hbH⟩
      · have z1 : (cd == 0) = false := by simpa using hcd
        have z2 : decide (cd = 0) = false := decide_eq_false hcd
        clear hcd
        refine wp_region_lit ?_
        refine wpList_ld (g := g18) (k := 0) (cs := X3) rfl rfl rfl kG18.range Tryz.underlying30 rfl hinfY ?_
        refine wpList_ld (g := g17) (k := 0) (cs := X2) rfl rfl rfl kG17.range Tryz.underlying30 rfl hinfX ?_
        go_wp2_with fail
        refine HLG.out.mono ?_
        rintro e wH ⟨rfl, hbH⟩
        go_wp2
        go_meet
        exact ⟨rfl, hbH⟩
    obtain ⟨rfl, hbx⟩ := hcut
    obtain ⟨wH, rfl⟩ : ∃ wH, wH = wc := ⟨_, rfl⟩
    have hbH := hbG.trans (hbx.mono hbG.size)
    have HXH := Lib.hid (HXF.out.below hbH)
    have HM2H := Lib.hid (HM2F.out.below hbH)
    have k17 := kG17.below hbx kG17.lt
    have hBH := hBF.trans (hbH.mono hBF.size)
    have hzH := hbH.size
    have HRF := Lib.hid (fun (w' : World) (h : Below wH.heap.size wH w') => vrefRight_any (HM2H.out.below h))
    rw [← HX2.out] at HRF
    have HBHH := Lib.hid hbH
    have cW : wH.cell? ⟨gW, 0, none⟩ = some (.bool dn) := HXH.out.kW.cell 0
    have cD : wH.cell? ⟨gD, 0, none⟩ = some (.pointer (some ⟨gd, 0, none⟩)) := HXH.out.kD.cell 0
    clear HLG kG17 kG18 HM2F HXF hbH hbx hbG hzF
    go_upto_block 3 with fail
    go_cut [20] (fun u wx => u = .int .i64 cd ∧ Hid (PStA gD gU gM gL gV gW gd n w.heap.size wx (i + 1)) ∧ Below w.heap.size w wx)
    case first =>
      rcases HOUT.out with ⟨hcd, hr, hx, hd⟩ | ⟨hcd, hr, hdn, hd⟩ | ⟨hcd, hr, hdn, hx⟩ | ⟨hcd, hr, hdn, hfu, hx⟩ | ⟨hcd, hr, hdn, hd⟩
      · obtain rfl : cd = 9 := hcd
        have HRW := Lib.hid (HRF.out wH (Below.refl _ _))
        rw [hr] at HRW
        have HP : Hid (∀ wx, Below wH.heap.size wH wx → PStA gD gU gM gL gV gW gd n w.heap.size wx (i + 1)) := Lib.hid fun wx hb => ⟨dn, _, gv1, l, t, _, _, _, _, M, (HXH.out.below hb).later (by omega), fun h => ((hx h).below HBHH.out).below hb, fun h => ((hd h).below HBHH.out).below hb⟩
        clear hr hx hd cD
        go_upto_region 32 with fail
        refine wp_region_lit ?_
        refine wpList_ld (g := g17) (k := 0) (cs := X2) rfl rfl rfl k17.range Tryz.underlying30 rfl hinfX ?_
        go_wp2_with fail
        refine HRW.out.mono ?_
        rintro e wI ⟨rfl, hbI⟩
        have HPI := Lib.hid (HP.out wI hbI)
        have HBI := Lib.hid (hBH.trans (hbI.mono hBH.size))
        clear hbI
        go_wp2
        go_meet
        exact ⟨rfl, HPI, HBI.out⟩
      · obtain rfl : cd = 3 := hcd
        obtain rfl : dn = true := hdn
        have HP : Hid (PStA gD gU gM gL gV gW gd n w.heap.size wH (i + 1)) := Lib.hid ⟨true, _, gv1, l, t, _, _, _, _, M, HXH.out.later (by omega), fun h => (by cases h), fun h => hd.below HBHH.out⟩
        clear hr hd cD
        go_wp2
        go_meet
        exact ⟨rfl, HP, hBH⟩
      · obtain rfl : cd = 0 := hcd
        obtain rfl : dn = false := hdn
        have HRW := Lib.hid (HRF.out wH (Below.refl _ _))
        rw [hr] at HRW
        have HXX := Lib.hid (hx.below HBHH.out)
        have HSI := Lib.hid (right_si hr)
        clear hr hx cD
        go_upto_region 38 with fail
        refine wp_region_lit ?_
        refine wpList_ld (g := g17) (k := 0) (cs := X2) rfl rfl rfl k17.range Tryz.underlying30 rfl hinfX ?_
        go_wp2_with fail
        refine HRW.out.mono ?_
        rintro e wI ⟨rfl, hbI⟩
        have k17 := k17.below hbI k17.lt
        have HXI := Lib.hid (HXH.out.below hbI)
        have HM2I := Lib.hid (HM2H.out.below hbI)
        have HXX := Lib.hid (HXX.out.below hbI)
        have HBI := Lib.hid (hBH.trans (hbI.mono hBH.size))
        clear hbI HRW cW
        go_upto_region 40 with fail
        refine wp_region_lit ?_
        refine wpList_ld (g := g17) (k := 0) (cs := X2) rfl rfl rfl k17.range Tryz.underlying30 rfl hinfX ?_
        refine wpList_st rfl rfl X2 rfl rfl HXI.out.kL (by rw [hszX]; rfl) hinfX hallX ?_ rfl
        intro k9
        have hK9 : Kp (fun b => ¬ b = gL) wI (World.setCells wI gL 0 X2.toList) := Kp.setCells (b := gL) (fun _ h => h rfl) _ 0 (Kp.refl _ _)
        generalize hwz : World.setCells wI gL 0 X2.toList = wJ at k9 hK9 ⊢
        clear hwz
        have hbx := HBX.out
        unfold PBx at hbx
        have hgL : ∀ y, isB gD gU gM gL gV gW y → y ≠ gL → ¬ y = gL := fun y _ h => h
        have HP : Hid (PStA gD gU gM gL gV gW gd n w.heap.size wJ (i + 1)) := Lib.hid ⟨false, _, gv1, t2, t2, .slice N1 t2.sd.length f1, .slice N2 t2.es.length f2, ta, tb, M, ⟨HBX.out, fun y hy => ⟨(HXI.out.ff y hy).1, Nat.lt_of_lt_of_le (HXI.out.ff y hy).2.1 hK9.size, (HXI.out.ff y hy).2.2⟩, HXI.out.kD.kp hK9 (by omega), HXI.out.kU.kp hK9 (by omega), HXI.out.kM.kp hK9 (by omega), by rw [← HX2.out]; exact k9, HXI.out.kV.kp hK9 (by omega), HXI.out.kW.kp hK9 (by omega), HXI.out.M6, HM2I.out.kp (hK9.mono fun y hy e => hy.2 (by simp [isB, e])), fun h => (by cases h), ⟨HCHG.out.1, HCHG.out.2, HSI.out⟩, ⟨HCHG.out.1, HCHG.out.2, HSI.out⟩, fun _ => rfl⟩, fun _ => HXX.out.kp hK9 fun y hy e => (HXI.out.ff y hy).2.2 (by simp [isB, e]), fun h => (by cases h)⟩
        have HBJ := Lib.hid (HBI.out.trans (hK9.below HBI.out.size fun y hy => by omega))
        clear k9 hK9 hbx hgL
        go_wp2
        go_meet
        exact ⟨rfl, HP, HBJ.out⟩
      · obtain rfl : cd = 4 := hcd
        obtain rfl : dn = false := hdn
        have HRW := Lib.hid (HRF.out wH (Below.refl _ _))
        rw [hr] at HRW
        have HP : Hid (∀ wx, Below wH.heap.size wH wx → PStA gD gU gM gL gV gW gd n w.heap.size wx (i + 1)) := Lib.hid fun wx hb => ⟨false, _, gv1, l, t, _, _, _, _, M, (HXH.out.below hb).later (by omega), fun _ => (hx.below HBHH.out).below hb, fun h => (by cases h)⟩
        obtain ⟨sz, hsz⟩ : ∃ sz, sz = sizeV t2 := ⟨_, rfl⟩
        have hfs := full_size (by omega) hfu
        rw [← hsz] at hfs
        have HSZ2 := Lib.hid (fun (w' : World) (h : Below wH.heap.size wH w') => size_any (HM2H.out.below h) (by have := HCHG.out.2; unfold datL at this; omega))
        rw [← HX2.out, ← hsz] at HSZ2
        have hszb : sz ≤ 1000000 := by have q1 := HCHG.out.2; have q2 := HCHG.out.1; unfold datL at q1; rw [hsz, sizeV, size_datS]; omega
        have z1 : decide (12 * (sz : Int) ≤ (n : Int) * 64) = false := decide_eq_false (by omega)
        have z2 : decide (12 * sz ≤ n * 64) = false := decide_eq_false (by omega)
        have HZZ := Lib.hid (And.intro z1 z2)
        clear hr hx hfu hsz hfs cD z1 z2
        go_upto_region 46 with fail
        refine wp_region_lit ?_
        refine wpList_ld (g := g17) (k := 0) (cs := X2) rfl rfl rfl k17.range Tryz.underlying30 rfl hinfX ?_
        refine wpList_split 3 ?_
        simp only [List.take_succ_cons, List.take_zero, List.drop_succ_cons, List.drop_zero]
        go_wp2_with fail
        refine HRW.out.mono ?_
        rintro e wI ⟨rfl, hbI⟩
        have k17 := k17.below hbI k17.lt
        go_wp2
        show wpList _ _ _ _ _ _
        refine wpList_ldG (g := g17) (C := X2) rfl rfl rfl k17 Tryz.underlying30 rfl hinfX ?_
        go_wp2_with fail
        refine (HSZ2.out wI hbI).mono ?_
        rintro e wJ ⟨rfl, hbJ⟩
        have HPJ := Lib.hid (HP.out wJ (hbI.trans (hbJ.mono hbI.size)))
        have HBJ := Lib.hid (hBH.trans ((hbI.trans (hbJ.mono hbI.size)).mono hBH.size))
        have z1 := HZZ.out.1
        have z2 := HZZ.out.2
        clear hbI hbJ
        go_wp2
        go_meet
        exact ⟨rfl, HPJ, HBJ.out⟩
      · obtain rfl : cd = 3 := hcd
        obtain rfl : dn = false := hdn
        have HDH := Lib.hid (hd.below HBHH.out)
        have HSI := Lib.hid (right_si hr)
        have hbx := HBX.out
        unfold PBx at hbx
        have hne : g17 ≠ gM ∧ g17 ≠ gU ∧ g17 ≠ gW := by
          have h1 := HBOX.out gM (by simp [isB])
          have h2 := HBOX.out gU (by simp [isB])
          have h3 := HBOX.out gW (by simp [isB])
          have := HGS.out
          omega
        have HRW := Lib.hid (fun (w' : World) (h : Below wH.heap.size wH w') => HRF.out w' h)
        rw [hr] at HRW
        have kM := HXH.out.kM
        have kU := HXH.out.kU
        have kW := HXH.out.kW
        clear hr hd cD
        go_upto_region 42 with fail
        clear cW
        refine wp_seqB (fun b => b = gM ∨ b = gU ∨ b = gW) 3 [2, 3, 4, 5] (by as_aux_lemma => kernel_rfl) (by as_aux_lemma => kernel_rfl) fun wI hbI => ?_
        refine seqB_still (.agg X2) rfl rfl (fun s => still_ld (g := g17) (k := 0) rfl rfl (k17.kp s.kp (fun e => e.elim hne.1 fun e => e.elim hne.2.1 hne.2.2)).range Tryz.underlying30 rfl hinfX) ?_
        simp only [Act.put, List.setIfInBounds_toArray, List.set_cons_succ, List.set_cons_zero]
        refine seqB_still (.agg X2) rfl rfl (fun s => still_ld (g := g17) (k := 0) rfl rfl (k17.kp s.kp (fun e => e.elim hne.1 fun e => e.elim hne.2.1 hne.2.2)).range Tryz.underlying30 rfl hinfX) ?_
        simp only [Act.put, List.setIfInBounds_toArray, List.set_cons_succ, List.set_cons_zero]
        refine seqB_wild0 hbI rfl rfl fun K hK => ?_
        unfold Gives
        go_simp
        refine (HRW.out _ hbI).mono ?_
        rintro e wJ ⟨rfl, hbJ⟩
        refine ⟨_, rfl, hK _ _ (hbJ) fun hbJ' => ?_⟩
        clear hK
        clear K
        simp only [Act.put, List.setIfInBounds_toArray, List.set_cons_succ, List.set_cons_zero]
        have kMJ := kM.below hbJ' kM.lt
        have kUJ := kU.below hbJ' kU.lt
        have kWJ := kW.below hbJ' kW.lt
        refine seqB_wild (Kp.of_below hbJ') rfl rfl fun K hK => ?_
        refine gives_st (k := 0) rfl X2 rfl rfl kMJ (by rw [hszX, HXH.out.M6]; decide) hinfX hallX ?_
        have k9 := kMJ.setCells X2 (by rw [hszX, HXH.out.M6])
        have hK9 : Kp (fun b => ¬ b = gM) wJ (World.setCells wJ gM 0 X2.toList) := Kp.setCells (b := gM) (fun _ h => h rfl) _ 0 (Kp.refl _ _)
        refine hK _ _ ((hK9.mono fun b hb e => hb (.inl e))) fun hK8 => ?_
        clear hK
        clear K
        simp only [Act.put, List.setIfInBounds_toArray, List.set_cons_succ, List.set_cons_zero]
        generalize hwz : World.setCells wJ gM 0 X2.toList = wx at k9 hK9 hK8 ⊢
        clear hwz
        have kUx := kUJ.kp hK9 (by omega)
        have kWx := kWJ.kp hK9 (by omega)
        have cUx : wx.cell? ⟨gU, 0, none⟩ = some (.bool false) := kUx.cell 0
        have cWx : wx.cell? ⟨gW, 0, none⟩ = some (.bool false) := kWx.cell 0
        have fUx : wx.frozen? ⟨gU, 0, none⟩ = false := kUx.frozen 0
        have fWx : wx.frozen? ⟨gW, 0, none⟩ = false := kWx.frozen 0
        have nUW : ¬ gU = gW := by omega
        have nWU : ¬ gW = gU := by omega
        have HBX2 := Lib.hid hbx
        clear hbx
        refine seqB_wild hK8 rfl rfl fun K hK => ?_
        unfold Gives
        go_simp
        refine hK _ _ ((Kp.refl _ _).setCell (fun _ h => h (.inr (.inl rfl))) _) fun hK10 => ?_
        clear hK
        clear K
        simp only [Act.put, List.setIfInBounds_toArray, List.set_cons_succ, List.set_cons_zero]
        refine seqB_wild hK10 rfl rfl fun K hK => ?_
        unfold Gives
        go_simp
        refine hK _ _ ((Kp.refl _ _).setCell (fun _ h => h (.inr (.inr rfl))) _) fun hK11 => ?_
        clear hK
        clear K
        simp only [Act.put, List.setIfInBounds_toArray, List.set_cons_succ, List.set_cons_zero]
        refine seqB_nil ?_
        have kU9 := (kUx.set_ 0 (.bool true)).far (p := ⟨gW, 0, none⟩) nUW (.bool true)
        have kW9 := (kWx.far (p := ⟨gU, 0, none⟩) nWU (.bool true)).set_ 0 (.bool true)
        have hbx := HBX2.out
        have nMU : ¬ gM = gU := by omega
        have nMW : ¬ gM = gW := by omega
        have kM9 := (k9.far (p := ⟨gU, 0, none⟩) nMU (.bool true)).far (p := ⟨gW, 0, none⟩) nMW (.bool true)
        obtain ⟨w9, hw9⟩ : ∃ w9, w9 = (wx.setCell ⟨gU, 0, none⟩ (.bool true)).setCell ⟨gW, 0, none⟩ (.bool true) := ⟨_, rfl⟩
        rw [← hw9] at hK11 kU9 kW9 kM9 ⊢
        have hbad : ∀ y, (¬ isB gD gU gM gL gV gW y) → ¬ (y = gM ∨ y = gU ∨ y = gW) := fun y hy e => hy (by rcases e with e | e | e <;> simp [isB, e])
        have hVD9 := HDH.out.kp hK11 fun y hy => hbad y (HXH.out.ff y hy).2.2
        have kD9 := HXH.out.kD.kp hK11 (by omega)
        have HP : Hid (PStA gD gU gM gL gV gW gd n w.heap.size w9 (i + 1)) := Lib.hid ⟨true, _, gv1, l, t2, _, _, .slice N1 t2.sd.length f1, .slice N2 t2.es.length f2, X2, ⟨HBX.out, fun y hy => ⟨(HXH.out.ff y hy).1, Nat.lt_of_lt_of_le (HXH.out.ff y hy).2.1 hK11.size, (HXH.out.ff y hy).2.2⟩, kD9, kU9, kM9, HXH.out.kL.kp hK11 (by omega), HXH.out.kV.kp hK11 (by omega), kW9, hszX, HXH.out.vl.kp (hK11.mono fun y hy => hbad y hy.2), fun _ => ⟨HX2.out, HM2H.out.kp (hK11.mono fun y hy => hbad y hy.2)⟩, HXH.out.bl.later (by omega), ⟨HCHG.out.1, HCHG.out.2, HSI.out⟩, fun h => (by cases h)⟩, fun h => (by cases h), fun _ => hVD9⟩
        have HDN := Lib.hid (down_VD hVD9)
        have HBJ := Lib.hid (hBH.trans (hK11.below hBH.size fun y hy => by omega))
        have cD9 : w9.cell? ⟨gD, 0, none⟩ = some (.pointer (some ⟨gd, 0, none⟩)) := kD9.cell 0
        clear hw9 hbad hVD9 kD9 kU9 kM9 kW9 hK11 hK10 hbx nMU nMW nUW nWU cUx cWx fUx fWx kUx kWx k9 hK9 hK8 kM kU kW kMJ kUJ kWJ hne hbJ hbJ' hbI
        go_wp2_with fail
        refine HDN.out.mono ?_
        rintro e w10 ⟨rfl, rfl⟩
        clear cD9
        go_wp2
        go_meet
        exact ⟨rfl, HP, HBJ.out⟩
    obtain ⟨rfl, HPA, hBK⟩ := hcut
    obtain ⟨wK, rfl⟩ : ∃ wK, wK = wc := ⟨_, rfl⟩
    clear HOUT HRF HBHH cW cD HXH HM2H k17
    obtain ⟨dn2, hS2⟩ := HPA.out
    have HS2 := Lib.hid hS2
    obtain ⟨F2, gv2, l2, t3, la2, lb2, ta2, tb2, M2, hX2', hVX2, hVD2⟩ := hS2
    have cW2 : ∀ s : Later wK, s.val.cell? ⟨gW, 0, none⟩ = some (.bool dn2) := Later.cell (hX2'.kW.cell 0)
    have cV2 : ∀ s : Later wK, s.val.cell? ⟨gV, 0, none⟩ = some (.pointer (some ⟨gv2, 0, none⟩)) := Later.cell (hX2'.kV.cell 0)
    have kL2 := hX2'.kL
    obtain ⟨A7, c7, rfl, _, _⟩ := hX2'.vl.sd.form
    obtain ⟨A8, c8, rfl, _, _⟩ := hX2'.vl.es.form
    obtain ⟨L2, hL2⟩ : ∃ T : Array Value, T = vlCs l2 (.slice A7 l2.sd.length c7) (.slice A8 l2.es.length c8) := ⟨_, rfl⟩
    have hinf7 : (Tryz.prog.info? 30).map (·.size) = some L2.size := by rw [hL2]; exact Tryz.infoLog
    rw [← hL2] at kL2
    have HL2 := Lib.hid hL2
    have HVL2 := Lib.hid hX2'.vl
    have HVX2 := Lib.hid hVX2
    clear hL2 hX2' hVX2 hVD2 HPA
    go_upto_region 48 with fail
    go_cut [155] (fun u wx => u = .bool false ∧ Below wK.heap.size wK wx)
    case first =>
      cases dn2
      · refine wp_seqL [4, 6] (by as_aux_lemma => kernel_rfl) (by as_aux_lemma => kernel_rfl) fun wE2 hbE => ?_
        refine seqL_pre 4 (by kernel_rfl) ?_
        simp only [List.take_succ_cons, List.take_zero, List.drop_succ_cons, List.drop_zero]
        repeat (go_big_quiet_step (fail))
        refine wpQuiet_nil ?_
        have HVL : Hid (Calls Tryz.prog 17 #[.pointer (some ⟨gv2, 0, none⟩)] wE2 fun e w' => (∃ vsd' ves', e = .returned (.agg (vlCs l2 vsd' ves')) ∧ VLm (fun b => wE2.heap.size ≤ b) w' vsd' ves' l2) ∧ Below wE2.heap.size wE2 w') := by
          obtain ⟨f', gl', T', first', recs', vsd', ves', _, _, _, _, _, hbB, _, hmB, _, _, hleB⟩ := (HVX2.out (by first | rfl | trivial)).below hbE
          exact Lib.hid (vlog_any hbB hmB (by omega))
        refine seqL_wild hbE rfl rfl fun K hK => ?_
        unfold Gives
        go_simp
        refine HVL.out.mono ?_
        rintro e wF2 ⟨⟨v3, e3, rfl, hm3⟩, hbF⟩
        obtain ⟨A5, c5', rfl, _⟩ := hm3.sd.form
        obtain ⟨A6, c6, rfl, _⟩ := hm3.es.form
        obtain ⟨U, hU⟩ : ∃ U : Array Value, U = vlCs l2 (.slice A5 l2.sd.length c5') (.slice A6 l2.es.length c6) := ⟨_, rfl⟩
        rw [← hU]
        have HU := Lib.hid hU
        have HM3 := Lib.hid hm3
        clear hU hm3 HVL
        refine ⟨_, rfl, hK _ _ (hbF) fun hbF' => ?_⟩
        clear hK
        clear K
        simp only [Act.put, List.setIfInBounds_toArray, List.set_cons_succ, List.set_cons_zero]
        refine seqL_still (.agg L2) rfl rfl (fun s => still_ld (g := gL) (k := 0) rfl rfl (kL2.below s.below kL2.lt).range Tryz.underlying30 rfl hinf7) ?_
        have HLG := Lib.hid (log_any HM3.out (HVL2.out.below hbF'))
        rw [← HL2.out, ← HU.out, sameV_refl] at HLG
        refine seqL_wild hbF' rfl rfl fun K hK => ?_
        unfold Gives
        go_simp
        refine HLG.out.mono ?_
        rintro e wG2 ⟨rfl, hbG⟩
        refine ⟨_, rfl, hK _ _ (hbG) fun hbG' => ?_⟩
        clear hK
        clear K
        simp only [Act.put, List.setIfInBounds_toArray, List.set_cons_succ, List.set_cons_zero]
        refine seqL_pre 2 (by kernel_rfl) ?_
        simp only [List.take_succ_cons, List.take_zero, List.drop_succ_cons, List.drop_zero]
        repeat (go_big_quiet_step (fail))
        refine wpQuiet_nil ?_
        refine seqL_nil ?_
        have HBG := Lib.hid hbG'
        clear hbE hbF hbF' hbG hbG' cW2 cV2 kL2 hinf7
        go_wp2
        go_meet
        exact ⟨rfl, HBG.out⟩
      · refine wp_seqL [4, 6] (by as_aux_lemma => kernel_rfl) (by as_aux_lemma => kernel_rfl) fun wE2 hbE => ?_
        refine seqL_pre 4 (by kernel_rfl) ?_
        simp only [List.take_succ_cons, List.take_zero, List.drop_succ_cons, List.drop_zero]
        repeat (go_big_quiet_step (fail))
        refine wpQuiet_nil ?_
        refine seqL_skip rfl ?_
        simp only [Act.put, List.setIfInBounds_toArray, List.set_cons_succ, List.set_cons_zero]
        refine seqL_pre 1 (by kernel_rfl) ?_
        simp only [List.take_succ_cons, List.take_zero, List.drop_succ_cons, List.drop_zero]
        repeat (go_big_quiet_step (fail))
        refine wpQuiet_nil ?_
        refine seqL_skip rfl ?_
        simp only [Act.put, List.setIfInBounds_toArray, List.set_cons_succ, List.set_cons_zero]
        refine seqL_pre 2 (by kernel_rfl) ?_
        simp only [List.take_succ_cons, List.take_zero, List.drop_succ_cons, List.drop_zero]
        repeat (go_big_quiet_step (fail))
        refine wpQuiet_nil ?_
        refine seqL_nil ?_
        have HBG := Lib.hid hbE
        clear hbE cW2 cV2 kL2 hinf7
        go_wp2
        go_meet
        exact ⟨rfl, HBG.out⟩
    obtain ⟨rfl, hbl⟩ := hcut
    obtain ⟨wL, rfl⟩ : ∃ wL, wL = wc := ⟨_, rfl⟩
    have HS3 := Lib.hid (HS2.out.below hbl)
    have hBL := hBK.trans (hbl.mono hBK.size)
    clear hbl HS2 HVX2 cW2 cV2 kL2
    go_wp2
    go_roundw
    case rel => exact ⟨i + 1, dn2, by omega, by go_num, HS3, hBL⟩
    case measure => simp [intOf]; omega
end Go.Proofs.YtnlhjhpikjmoaaaGreatDoor
