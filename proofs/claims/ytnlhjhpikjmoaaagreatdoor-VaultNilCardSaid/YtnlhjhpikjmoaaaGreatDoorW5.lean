/- Contract: (*Disk).Write. -/
import Derived.Test.YtnlhjhpikjmoaaaGreatDoorW4
import Derived.Test.YtnlhjhpikjmoaaaGreatDoorReg8
import Derived.Outline
import Derived.Deep.DeepCutAuto
namespace Go.Proofs.YtnlhjhpikjmoaaaGreatDoor
open Go.RowKit

theorem Tryz.rowWt : RowTy Tryz.prog 89 95 65 72 := rowTy_mk Tryz.underlying89 (by kernel_rfl)
theorem Tryz.infoSec2 : (Tryz.prog.info? 93).map (·.size) = some 64 := by kernel_rfl
theorem still_ld {P : Program} {o : Oper} {a : Act} {w : World} {g k : Nat} {cs : Array Value} {ty : TypeId} {x : Operand} {d : TypeDesc} (ho : o.op = .load ty x) (hx : a.eval x = .pointer (some ⟨g, k, none⟩)) (hk : w.rangeAt g k cs.toList) (hu : P.underlying ty = some d) (hd : d.isRow = true) (hi : (P.info? ty).map (·.size) = some cs.size) : StillAt P o a w (.agg cs) := by
  have hr := run_loadVar_mid (P := P) w g k ty cs.toList d hk hu hd (by simpa using hi)
  refine .inl ?_
  unfold execOp
  simp only [ho, hx, Instr.loadAt, Instr.sureAddr, Sem.run_bind, Sem.run_pure, Result.andThen_ok, hr]
theorem still_arr {P : Program} {o : Oper} {a : Act} {w : World} {A : Option Addr} {n c m : Nat} {e : TypeId} {ty : TypeId} {x : Operand} (ho : o.op = .sliceToArrayPointer ty x) (hx : a.eval x = .slice A n c) (hu : P.underlying ty = some (.array m e)) (hn : m ≤ n) : StillAt P o a w (.pointer A) := by
  refine .inl ?_
  unfold execOp
  simp only [ho, hx, Instr.arrayAt, Sem.run_bind, run_underlying hu, Result.andThen_ok]
  rw [if_neg (by omega)]
  rfl
theorem still_build {P : Program} {o : Oper} {a : Act} {w : World} {ty : TypeId} {parts : List (Nat × Operand)} (vs : List (Nat × Value)) {u : Value} (ho : o.op = .build ty parts.toArray) (hx : (parts.map fun (i, x) => (i, a.eval x)) = vs) (h : (Instr.build ty vs.toArray).run P w = .ok u w) : StillAt P o a w u := by
  refine .inl ?_
  unfold execOp
  simp only [ho, List.map_toArray, hx, Sem.run_bind, h, Result.andThen_ok]
  rfl
theorem gives_bslice {P : Program} {o : Oper} {a : Act} {w w' : World} {Φ : Value → World → Prop} {ty : TypeId} {n : Nat} {parts : List (Nat × Operand)} (vs : List (Nat × Value)) {u : Value} (ho : o.op = .buildSlice ty n parts.toArray) (hx : (parts.map fun (i, x) => (i, a.eval x)) = vs) (h : (Instr.buildSlice ty n vs.toArray).run P w = .ok u w') (hp : Φ u w') : Gives P o a w Φ := by
  unfold Gives execOp
  simp only [ho, List.map_toArray, hx, Sem.run_bind, h, Result.andThen_ok]
  exact hp
set_option maxRecDepth 100000 in
set_option maxHeartbeats 6400000 in
theorem dWrite_any {ft okb : Nat → Prop} {g : Nat} {d : DskD} {w : World} (h : DiskR ft w g d) (vb : Value) (lb : List UInt8) (hb : RB okb w vb lb) (hbf : ∀ b, okb b → ¬ ft b) (p : Int) (hp : I64 p) (hwl : d.wait.length + 1 ≤ 1000000000) :
    Calls Tryz.prog 82 #[.pointer (some ⟨g, 0, none⟩), .int .i64 p, vb] w fun e w' => e = .returned (.int .i64 (d.write p lb).2) ∧ DiskR (fun b => ft b ∨ w.heap.size ≤ b) w' g (d.write p lb).1 ∧ Kp (fun b => ¬ ft b) w w' := by
  have hR := h
  have hR0 : DiskR (fun b => ft b ∨ w.heap.size ≤ b) w g d := h.mono fun b hb _ => .inl hb
  obtain ⟨kb, vw, h1, h2, h3, h4, h5, h6, h7, h8, h9, h10, h11, h12, h13, h14⟩ := h
  obtain ⟨c0, c1, c2, c3⟩ := dk_cells h1
  obtain ⟨A, c, rfl, hc, hlen, hrd, hob⟩ := hb.open_
  by_cases hd : d.down = true
  · have hw : d.write p lb = (d, 3) := by unfold DskD.write; rw [if_pos hd]
    rw [hw]
    clear h1 h2 h3 h9 h10 hrd hob hw
    go_enter Tryz.func82, Tryz.ntmps82
    go_wp2_with fail
    refine (up_any hR).mono ?_
    rw [if_pos hd]
    rintro e w1 ⟨rfl, rfl⟩
    go_wp2_with fail
    refine (fine_any 3 _).mono ?_
    rintro e w1 ⟨rfl, rfl⟩
    go_wp2
    go_ret
    exact ⟨rfl, hR0, Kp.refl _ _⟩
  by_cases hbad : p < 0 ∨ (d.kept.length : Int) ≤ p ∨ lb.length ≠ 64
  · have hw : d.write p lb = (d, 1) := by unfold DskD.write; rw [if_neg hd, if_pos hbad]
    rw [hw]
    clear h1 h2 h3 h9 h10 hrd hob hw
    go_enter Tryz.func82, Tryz.ntmps82
    go_wp2_with fail
    refine (up_any hR).mono ?_
    rw [if_neg hd]
    rintro e w1 ⟨rfl, rfl⟩
    go_wp2_with fail
    refine (fine_any 0 _).mono ?_
    rintro e w1 ⟨rfl, rfl⟩
    by_cases p0 : p < 0
    · have t1 : decide (p < 0) = true := decide_eq_true p0
      have t1' : decide (p ≤ -1) = true := decide_eq_true (by omega)
      go_wp2
      go_ret
      exact ⟨rfl, hR0, Kp.refl _ _⟩
    have t1 : decide (p < 0) = false := decide_eq_false p0
    by_cases p1 : (d.kept.length : Int) ≤ p
    · have t2 : decide ((d.kept.length : Int) ≤ p) = true := decide_eq_true p1
      go_wp2
      go_ret
      exact ⟨rfl, hR0, Kp.refl _ _⟩
    have t2 : decide ((d.kept.length : Int) ≤ p) = false := decide_eq_false p1
    have p2 : lb.length ≠ 64 := by omega
    have t3 : ((lb.length : Int) == 64) = false := by simpa using (show ¬ (lb.length : Int) = 64 by omega)
    have t3' : decide ((lb.length : Int) = 64) = false := decide_eq_false (by omega)
    go_wp2
    go_ret
    exact ⟨rfl, hR0, Kp.refl _ _⟩
  have hp0 : 0 ≤ p ∧ p < (d.kept.length : Int) ∧ lb.length = 64 := by omega
  obtain ⟨hp0, hp1, hl64⟩ := hp0
  obtain ⟨q, rfl⟩ : ∃ q : Nat, p = (q : Int) := ⟨p.toNat, by omega⟩
  obtain ⟨bb, boff, rfl, hcells⟩ := hrd.2 (by omega)
  have hbb : ¬ ft bb := hbf _ (hob (by omega) _ rfl)
  obtain ⟨d1, hd1⟩ : ∃ d1 : DskD, d1 = { d with wait := d.wait ++ [(q, lb)] } := ⟨_, rfl⟩
  have hw : d.write (q : Int) lb = (d1.hit.1, if d1.hit.2 = true then 3 else 0) := by
    unfold DskD.write
    rw [if_neg hd, if_neg hbad, hd1]
    rfl
  rw [hw]
  obtain ⟨hh, hhe⟩ : ∃ hh, hh = d1.hit.2 := ⟨_, rfl⟩
  simp only [← hhe]
  have HHE := Lib.hid hhe
  clear hhe
  have t1 : decide ((q : Int) < 0) = false := decide_eq_false (by omega)
  have t2 : decide ((d.kept.length : Int) ≤ (q : Int)) = false := decide_eq_false (by omega)
  have t2' : decide (d.kept.length ≤ q) = false := decide_eq_false (by omega)
  rw [hl64]
  have HD := Lib.hid hd
  have HD1 := Lib.hid hd1
  have HW := Lib.hid hw
  have HL := Lib.hid hl64
  have HQ : Hid (q < d.kept.length) := Lib.hid (by omega)
  clear hbad hp0 hp1 hp hd hd1 hw hl64 hc hlen hrd hob hb
  go_enter Tryz.func82, Tryz.ntmps82
  go_wp2_with fail
  refine (up_any hR).mono ?_
  rw [if_neg HD.out]
  rintro e w1 ⟨rfl, rfl⟩
  go_wp2_with fail
  refine (fine_any 0 _).mono ?_
  rintro e w1 ⟨rfl, rfl⟩
  go_upto_region 6 with fail
  have lw : ∀ s : Later w1, s.val.cell? ⟨g, 1, none⟩ = some vw := Later.cell c1
  have hbad1 : ¬ (bb = g ∨ some bb = vw.ownBlock) := fun e => e.elim (fun e => hbb (e ▸ h7)) fun e => hbb (h9 _ e.symm)
  obtain ⟨C, hC⟩ : ∃ C : Array Value, C = #[.int .i64 (q : Int)] ++ (bs lb).toArray := ⟨_, rfl⟩
  have hC0 : (bs lb).toArray.size = 64 := by rw [List.size_toArray, bs_len]; exact HL.out
  have hC1 : C.size = 65 := by rw [hC, Array.size_append, hC0]; rfl
  have hbw := build_write (q : Int) (bs lb).toArray hC0
  rw [← hC] at hbw
  have HBW := Lib.hid hbw
  clear hbw
  refine wp_seqB (fun b => b = g ∨ some b = vw.ownBlock) 11 [10, 11, 14] (by as_aux_lemma => kernel_rfl) (by as_aux_lemma => kernel_rfl) fun w4 hb4 => ?_
  refine seqB_pre 4 (by kernel_rfl) ?_
  simp only [List.take_succ_cons, List.take_zero, List.drop_succ_cons, List.drop_zero]
  repeat (go_big_quiet_step (fail))
  refine wpQuiet_nil ?_
  refine seqB_pre0 1 (by kernel_rfl) (by kernel_rfl) ?_
  simp only [List.take_succ_cons, List.take_zero, List.drop_succ_cons, List.drop_zero]
  repeat (go_big_quiet_step (fail))
  refine wpQuiet_nil ?_
  refine seqB_pre 2 (by kernel_rfl) ?_
  simp only [List.take_succ_cons, List.take_zero, List.drop_succ_cons, List.drop_zero]
  repeat (go_big_quiet_step (fail))
  refine wpQuiet_nil ?_
  refine seqB_still (.pointer (some ⟨bb, boff, none⟩)) rfl rfl (fun s => still_arr (n := 64) rfl rfl Tryz.underlying93 (Nat.le_refl _)) ?_
  simp only [Act.put, List.setIfInBounds_toArray, List.set_cons_succ, List.set_cons_zero]
  refine seqB_still (.agg (bs lb).toArray) rfl rfl (fun s => still_ld (g := bb) (k := boff) rfl rfl (fun j u hu => LaterB.cell (hcells j u (by simpa using hu)) hbad1 s) Tryz.underlying93 rfl (by rw [hC0]; exact Tryz.infoSec2)) ?_
  simp only [Act.put, List.setIfInBounds_toArray, List.set_cons_succ, List.set_cons_zero]
  refine seqB_still (.agg C) rfl rfl (fun s => still_build [(0, .int .i64 (q : Int)), (1, .agg (bs lb).toArray)] rfl rfl (HBW.out _)) ?_
  simp only [Act.put, List.setIfInBounds_toArray, List.set_cons_succ, List.set_cons_zero]
  refine seqB_wild0 hb4 rfl rfl fun K hK => ?_
  refine gives_bslice [(0, .agg C)] rfl rfl (slice_write C hC1 w4) ?_
  have hal : Below w4.heap.size w4 (w4.alloc (.cells C 95)) := (Below.refl _ _).alloc (Nat.le_refl _) _
  refine hK _ _ (hal) fun hb5 => ?_
  clear hK
  clear K
  simp only [Act.put, List.setIfInBounds_toArray, List.set_cons_succ, List.set_cons_zero]
  have hown : OwnL rWt (fun _ => False) 0 95 (w4.alloc (.cells C 95)) vw d.wait := h3.below hb5
  have kg5 := h1.below hb5 h1.lt
  have kk5 := h2.below hb5 h2.lt
  have hC2 : C.toList = .int .i64 (q : Int) :: bs lb := by rw [hC]; simp
  refine seqB_wild (Kp.of_below hb5) rfl rfl fun K hK => ?_
  refine gives_app0' (E := rWt) Tryz.rowWt (by decide) _ _ rfl vw d.wait _ rfl hown (some ⟨w4.heap.size, 0, none⟩) 1 [(q, lb)] [C.toList] rfl (show Rd _ 65 _ _ _ by simpa using Rd.new w4 95 65 1 C (by simpa using hC1)) (Chunks.single (E := rWt) (show rWt.rel _ _ C.toList (q, lb) from ⟨hC2, HL.out⟩)) ?_ ?_ (Nat.zero_le _) fun v' w6 hown6 hk6 hloc => ?_
  · show (d.wait.length + 1) * 72 ≤ _
    omega
  · show d.wait.length + 1 ≤ _
    omega
  have hkk : Kp (fun b => ¬ (b = g ∨ some b = vw.ownBlock)) (w4.alloc (.cells C 95)) w6 := hk6.mono fun b hb e => hb (.inr e)
  refine hK _ _ (hkk) fun hK6 => ?_
  clear hK
  clear K
  simp only [Act.put, List.setIfInBounds_toArray, List.set_cons_succ, List.set_cons_zero]
  refine seqB_pre 2 (by kernel_rfl) ?_
  simp only [List.take_succ_cons, List.take_zero, List.drop_succ_cons, List.drop_zero]
  repeat (go_big_quiet_step (fail))
  refine wpQuiet_nil ?_
  have kg6 := kg5.kp hk6 h5
  have kk6 := kk5.kp hk6 h6
  have fg6 := fun i => kg6.frozen i
  have c16 : w6.cell? ⟨g, 1, none⟩ = some vw := kg6.cell 1
  obtain ⟨A', c', rfl, _⟩ := hown6.form
  obtain ⟨nn, hnn⟩ : ∃ nn, nn = (d.wait ++ [(q, lb)]).length := ⟨_, rfl⟩
  rw [← hnn] at hown6 hloc ⊢
  have HNN := Lib.hid hnn
  clear hnn
  refine seqB_wild hK6 rfl rfl fun K hK => ?_
  unfold Gives
  go_simp
  have hkp : Kp (fun b => ¬ (b = g ∨ some b = vw.ownBlock)) w6 (w6.setCell ⟨g, 1, none⟩ (.slice A' nn c')) := (Kp.refl _ _).setCell (fun _ h => h (.inl rfl)) _
  refine hK _ _ hkp fun hK7 => ?_
  clear hK
  clear K
  simp only [Act.put, List.setIfInBounds_toArray, List.set_cons_succ, List.set_cons_zero]
  refine seqB_nil ?_
  have hgl : g < w1.heap.size := h1.lt
  have hz5 : w1.heap.size ≤ w4.heap.size := hb4.size
  have hng : (Value.slice A' nn c').ownBlock ≠ some g := by
    rcases hloc with e | e
    · rw [e]; exact fun e => h5 e.symm
    · rw [e]; intro e; have := Option.some.inj e; simp at this; omega
  have hnk : (Value.slice A' nn c').ownBlock ≠ some kb := by
    have := h2.lt
    rcases hloc with e | e
    · rw [e]; exact fun e => h6 e.symm
    · rw [e]; intro e; have := Option.some.inj e; simp at this; omega
  have kg7 := kg6.set_ 1 (.slice A' nn c')
  have kk7 := kk6.far (p := ⟨g, 1, none⟩) h4 (.slice A' nn c')
  have ho7 : OwnL rWt (fun _ => False) 0 95 (w6.setCell ⟨g, 1, none⟩ (.slice A' nn c')) (.slice A' nn c') (d.wait ++ [(q, lb)]) := hown6.kp (ok := fun b => b ≠ g) ((Kp.refl _ _).setCell (fun _ h => h rfl) _) (fun _ h => h.elim) fun b hb e => hng (by rw [hb, e])
  have hR7 : DiskR (fun b => ft b ∨ w1.heap.size ≤ b) (w6.setCell ⟨g, 1, none⟩ (.slice A' nn c')) g d1 := by
    rw [HD1.out]
    refine ⟨kb, .slice A' nn c', by simpa using kg7, kk7, ho7, h4, fun e => hng e.symm, fun e => hnk e.symm, .inl h7, .inl h8, fun b hb => ?_, ⟨h10.kept, fun x hx => ?_⟩, h11, h12, h13, ?_⟩
    · rcases hloc with e | e
      · exact .inl (h9 b (by rw [← e]; exact hb))
      · rw [e] at hb
        have := Option.some.inj hb
        simp at this
        exact .inr (by omega)
    · rcases List.mem_append.1 hx with hx | hx
      · exact h10.wait x hx
      · rw [List.mem_singleton.1 hx]
        exact ⟨HQ.out, HL.out⟩
    · show (d.wait ++ [(q, lb)]).length ≤ _
      rw [List.length_append]
      exact hwl
  have hKf : Kp (fun b => ¬ ft b) w1 (w6.setCell ⟨g, 1, none⟩ (.slice A' nn c')) := hK7.mono fun b hb e => e.elim (fun e => hb (e ▸ h7)) fun e => hb (h9 b e.symm)
  have HK := Lib.hid hKf
  have HR7 := Lib.hid hR7
  clear hKf hR7 ho7 kk7 kg7 hng hnk c16 fg6 kg6 kk6 hown6 hk6 hloc hK6 hK7 hkp hkk hown kg5 kk5 hal hb5 c0 c1 c2 c3 lw h1 h2 h3
  go_upto_region 7 with fail
  refine name_world (fun w7 => DiskR (fun b => ft b ∨ w1.heap.size ≤ b) w7 g d1 ∧ Kp (fun b => ¬ ft b) w1 w7) ⟨HR7.out, HK.out⟩ ?_
  clear HR7 HK
  rintro w7 ⟨hR7, hK7⟩
  have HH := Lib.hid (hit_any hR7)
  rw [← HHE.out] at HH
  clear HHE
  go_wp2_with fail
  refine HH.out.mono ?_
  rintro e w8 ⟨rfl, hR8, hK8⟩
  have hK9 : Kp (fun b => ¬ ft b) w1 w8 := hK7.trans (hK8.mono fun b hb e => hb (e ▸ h7))
  clear HH
  cases hh
  · go_wp2
    go_ret
    exact ⟨rfl, hR8, hK9⟩
  · go_wp2
    go_ret
    exact ⟨rfl, hR8, hK9⟩
end Go.Proofs.YtnlhjhpikjmoaaaGreatDoor
