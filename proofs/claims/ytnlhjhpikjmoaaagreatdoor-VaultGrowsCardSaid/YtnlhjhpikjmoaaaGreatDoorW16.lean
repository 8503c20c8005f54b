/- The log in memory. Contracts: (*Log).ring, First, Next, met, ready.
Contracts: (*Log).Next, ready.
Contract: (*Log).took.
Contracts: CopyBytes, Clone, End, ref End, Begins, and bytes of one's own.
Contracts: slices.Clone, CopyBytes over data.
Contracts: slices.Clone, CopyBytes over data; split.pairs.
Contracts: slices.Clone of lists of bytes, of numbers.
Contract: wal.readHead.
Contract: (*Log).Records.
Contract: (*Log).Sync. -/
import Derived.Test.YtnlhjhpikjmoaaaGreatDoorW9
import Derived.Test.YtnlhjhpikjmoaaaGreatDoorW5
import Derived.Test.YtnlhjhpikjmoaaaGreatDoorReg
import Derived.Outline
namespace Go.Proofs.YtnlhjhpikjmoaaaGreatDoor
open Go.RowKit
structure LogD where
  dead : Bool
  turn : Nat
  first : Nat
  recs : List (List UInt8)
  places : List Nat
  end_ : Nat
  used : Nat
  waits : Bool
def rBs : Rel (List UInt8) where
  sz := 1
  wt := 24
  rel ok w cs l := ∃ v, cs = [v] ∧ RB ok w v l
  len := by rintro ok w cs d ⟨v, rfl, _⟩; rfl
  one := by
    rintro ok w cs d ⟨v, rfl, h⟩ u hu
    rw [List.mem_singleton.1 hu]
    exact h.one
  kp := by
    rintro ok w w' cs d hk ⟨v, rfl, h⟩
    exact ⟨v, rfl, h.kp hk⟩
  mono := by
    rintro ok ok' w cs d hm ⟨v, rfl, h⟩
    exact ⟨v, rfl, h.mono (by decide) hm⟩
def rNat : Rel Nat where
  sz := 1
  wt := 8
  rel _ _ cs n := cs = [.int .i64 (n : Int)]
  len := by rintro ok w cs d rfl; rfl
  one := by
    rintro ok w cs d rfl u hu
    rw [List.mem_singleton.1 hu]
    rfl
  kp := fun _ h => h
  mono := fun _ h => h
theorem Tryz.rowBs : RowTy Tryz.prog 44 25 1 24 := rowTy_mk Tryz.underlying44 (by kernel_rfl)
theorem Tryz.rowNat : RowTy Tryz.prog 53 3 1 8 := rowTy_mk Tryz.underlying53 (by kernel_rfl)
def lgCs (gd : Nat) (l : LogD) (vr vp : Value) : Array Value := #[.pointer (some ⟨gd, 0, none⟩), .bool l.dead, .int .u64 (l.turn : Int), .int .u64 (l.first : Int), vr, vp, .int .i64 (l.end_ : Int), .int .i64 (l.used : Int), .bool l.waits]
structure LogD.Ok (l : LogD) : Prop where
  turn : l.turn < 18446744073709551616
  first : l.first + l.recs.length < 18446744073709551616
  recs : ∀ r ∈ l.recs, r.length ≤ 32768
  places : l.places.length = l.recs.length
  placed : ∀ p ∈ l.places, p < 65536
  end_ : l.end_ < 65536
  used : l.used ≤ 65536
def LogR (ft : Nat → Prop) (w : World) (gl gd : Nat) (l : LogD) : Prop :=
  ∃ vr vp, Blk w gl 97 (lgCs gd l vr vp) ∧ OwnL rBs (fun b => ft b ∧ b ≠ gl ∧ some b ≠ vp.ownBlock) 0 25 w vr l.recs ∧ OwnL rNat (fun _ => False) 0 3 w vp l.places ∧
    some gl ≠ vr.ownBlock ∧ some gl ≠ vp.ownBlock ∧ (∀ b, vr.ownBlock = some b → vp.ownBlock ≠ some b) ∧ ft gl ∧ (∀ b, vr.ownBlock = some b → ft b) ∧ (∀ b, vp.ownBlock = some b → ft b) ∧ l.Ok
theorem LogR.kp {ft ok : Nat → Prop} {w w' : World} {gl gd : Nat} {l : LogD} (h : LogR ft w gl gd l) (hk : Kp ok w w') (hok : ∀ b, ft b → ok b) : LogR ft w' gl gd l := by
  obtain ⟨vr, vp, h1, h2, h3, h4, h5, h6, h7, h8, h9, h10⟩ := h
  exact ⟨vr, vp, h1.kp hk (hok _ h7), h2.kp hk (fun b hb => hok b hb.1) (fun b hb => hok b (h8 b hb)), h3.kp hk (fun _ h => h.elim) (fun b hb => hok b (h9 b hb)), h4, h5, h6, h7, h8, h9, h10⟩
theorem LogR.below {ft : Nat → Prop} {w w' : World} {gl gd : Nat} {l : LogD} (h : LogR ft w gl gd l) (hb : Below w.heap.size w w') : LogR ft w' gl gd l := h.kp (.of_below hb (ok := fun _ => True)) fun _ _ => trivial
theorem lg_cells {w : World} {g : Nat} {T : TypeId} {gd : Nat} {l : LogD} {vr vp : Value} (h : Blk w g T (lgCs gd l vr vp)) : w.cell? ⟨g, 0, none⟩ = some (.pointer (some ⟨gd, 0, none⟩)) ∧ w.cell? ⟨g, 1, none⟩ = some (.bool l.dead) ∧ w.cell? ⟨g, 2, none⟩ = some (.int .u64 (l.turn : Int)) ∧ w.cell? ⟨g, 3, none⟩ = some (.int .u64 (l.first : Int)) ∧ w.cell? ⟨g, 4, none⟩ = some vr ∧ w.cell? ⟨g, 5, none⟩ = some vp ∧ w.cell? ⟨g, 6, none⟩ = some (.int .i64 (l.end_ : Int)) ∧ w.cell? ⟨g, 7, none⟩ = some (.int .i64 (l.used : Int)) ∧ w.cell? ⟨g, 8, none⟩ = some (.bool l.waits) :=
  ⟨h.cell 0, h.cell 1, h.cell 2, h.cell 3, h.cell 4, h.cell 5, h.cell 6, h.cell 7, h.cell 8⟩
section
variable {fl fd : Nat → Prop} {gl gd : Nat} {l : LogD} {d : DskD} {w : World}
theorem ring_any (h : LogR fl w gl gd l) (hd : DiskR fd w gd d) : Calls Tryz.prog 70 #[.pointer (some ⟨gl, 0, none⟩)] w fun e w' => e = .returned (.int .i64 ((d.kept.length : Int) - 2)) ∧ w' = w := by
  obtain ⟨vr, vp, hb, _⟩ := h
  obtain ⟨c0, _⟩ := lg_cells hb
  have hn := hd.ok
  have h1 : 1 ≤ d.kept.length := hn.2.1
  have h2 : d.kept.length ≤ 65536 := hn.2.2.1
  clear hn hb
  go_enter Tryz.func70, Tryz.ntmps70
  go_wp2_with fail
  refine (dSize_any hd).mono ?_
  rintro e w1 ⟨rfl, rfl⟩
  go_wp2
  go_ret
  exact ⟨rfl, rfl⟩
theorem first_any (h : LogR fl w gl gd l) : Calls Tryz.prog 52 #[.pointer (some ⟨gl, 0, none⟩)] w fun e w' => e = .returned (.int .u64 (l.first : Int)) ∧ w' = w := by
  obtain ⟨vr, vp, hb, _⟩ := h
  obtain ⟨c0, c1, c2, c3, _⟩ := lg_cells hb
  clear hb
  go_enter Tryz.func52, Tryz.ntmps52
  go_wp2
  go_ret
  exact ⟨rfl, rfl⟩
theorem met_any (h : LogR fl w gl gd l) (k : Int) : Calls Tryz.prog 61 #[.pointer (some ⟨gl, 0, none⟩), .int .i64 k] w fun e w' => e = .returned (.int .i64 k) ∧ LogR fl w' gl gd { l with dead := l.dead || k == 3 } ∧ Kp (fun b => b ≠ gl) w w' := by
  obtain ⟨vr, vp, hb, h2, h3, h4, h5, h6, h7, h8, h9, h10⟩ := h
  obtain ⟨c0, c1, _⟩ := lg_cells hb
  have fg := fun i => hb.frozen i
  have hfin : ∀ u, u = (l.dead || k == 3) → LogR fl (w.setCell ⟨gl, 1, none⟩ (.bool u)) gl gd { l with dead := l.dead || k == 3 } := fun u hu => by
    subst hu
    have hkp : Kp (fun b => b ≠ gl) w (w.setCell ⟨gl, 1, none⟩ (.bool (l.dead || k == 3))) := (Kp.refl _ _).setCell (fun _ h => h rfl) _
    exact ⟨vr, vp, hb.set_ 1 (.bool (l.dead || k == 3)), h2.kp hkp (fun b hb => hb.2.1) (fun b hb e => h4 (by rw [hb, e])), h3.kp hkp (fun _ h => h.elim) (fun b hb e => h5 (by rw [hb, e])), h4, h5, h6, h7, h8, h9, ⟨h10.turn, h10.first, h10.recs, h10.places, h10.placed, h10.end_, h10.used⟩⟩
  have hkp : ∀ u, Kp (fun b => b ≠ gl) w (w.setCell ⟨gl, 1, none⟩ u) := fun u => (Kp.refl _ _).setCell (fun _ h => h rfl) _
  have HF := Lib.hid hfin
  clear hfin hb h2 h3 h8 h9 h6
  cases hdd : l.dead <;> rw [hdd] at c1
  · go_enter Tryz.func61, Tryz.ntmps61
    go_wp2_with fail
    refine (errIs_any k 3 _).mono ?_
    rintro e w1 ⟨rfl, rfl⟩
    go_wp2
    go_ret
    have := HF.out (k == 3) (by rw [hdd]; rfl)
    rw [hdd] at this
    exact ⟨rfl, this, hkp _⟩
  · go_enter Tryz.func61, Tryz.ntmps61
    go_wp2
    go_ret
    have := HF.out true (by rw [hdd]; rfl)
    rw [hdd] at this
    exact ⟨rfl, this, hkp _⟩
end
end Go.Proofs.YtnlhjhpikjmoaaaGreatDoor
namespace Go.Proofs.YtnlhjhpikjmoaaaGreatDoor
open Go.RowKit
section
variable {fl fd : Nat → Prop} {gl gd : Nat} {l : LogD} {d : DskD} {w : World}
set_option maxRecDepth 100000 in
theorem next_any (h : LogR fl w gl gd l) : Calls Tryz.prog 44 #[.pointer (some ⟨gl, 0, none⟩)] w fun e w' => e = .returned (.int .u64 ((l.first + l.recs.length : Nat) : Int)) ∧ Below w.heap.size w w' := by
  obtain ⟨vr, vp, hb, h2, h3, h4, h5, h6, h7, h8, h9, h10⟩ := h
  obtain ⟨A, c, rfl, _⟩ := h2.form
  obtain ⟨c0, c1, c2, c3, c4, _⟩ := lg_cells hb
  have l3 := Later.cell c3
  have l4 := Later.cell c4
  have hf := h10.first
  have HS : Hid (IntKind.u64.wrap ((l.first : Int) + IntKind.u64.wrap (l.recs.length : Int)) = ((l.first + l.recs.length : Nat) : Int)) := Lib.hid (by
    rw [IntKind.wrap_u64, IntKind.wrap_u64]
    omega)
  clear c0 c1 c2 c3 c4 hb h2 h3 h6 h8 h9
  go_enter Tryz.func44, Tryz.ntmps44
  go_upto_region 3 with fail
  refine wp_seqL [] (by as_aux_lemma => kernel_rfl) (by as_aux_lemma => kernel_rfl) fun w2 hb2 => ?_
  refine seqL_pre 12 (by kernel_rfl) ?_
  simp only [List.take_succ_cons, List.take_zero, List.drop_succ_cons, List.drop_zero]
  repeat (go_big_quiet_step (fail))
  refine wpQuiet_nil ?_
  refine seqL_nil ?_
  clear l3 l4
  go_wp2
  go_ret
  exact ⟨by rw [Int.natCast_add]; rfl, hb2⟩
def rdy (l : LogD) (d : DskD) : LogD := if (l.dead || d.down) = true then { l with dead := true } else l
def rdyE (l : LogD) (d : DskD) : Int := if (l.dead || d.down) = true then 3 else 0
theorem ready_any (h : LogR fl w gl gd l) (hd : DiskR fd w gd d) : Calls Tryz.prog 57 #[.pointer (some ⟨gl, 0, none⟩)] w fun e w' => e = .returned (.int .i64 (rdyE l d)) ∧ LogR fl w' gl gd (rdy l d) ∧ Kp (fun b => b ≠ gl) w w' := by
  have hR := h
  obtain ⟨vr, vp, hb, _⟩ := h
  obtain ⟨c0, c1, _⟩ := lg_cells hb
  have hfl : (l.dead || d.down) = false → l.dead = false ∧ d.down = false := fun h => by
    cases h1 : l.dead <;> cases h2 : d.down <;> simp [h1, h2] at h ⊢
  have hm : ({ l with dead := l.dead || (3 : Int) == 3 } : LogD) = { l with dead := true } := by
    cases l
    simp
  clear hb
  cases hdd : l.dead <;> rw [hdd] at c1
  · cases hdn : d.down
    · have e1 : rdy l d = l := by unfold rdy; rw [hdd, hdn]; rfl
      have e2 : rdyE l d = 0 := by unfold rdyE; rw [hdd, hdn]; rfl
      rw [e1, e2]
      have HD := Lib.hid (dDown_any hd)
      rw [hdn] at HD
      clear e1 e2
      go_enter Tryz.func57, Tryz.ntmps57
      go_wp2_with fail
      refine HD.out.mono ?_
      rintro e w1 ⟨rfl, rfl⟩
      go_wp2
      go_ret
      exact ⟨rfl, hR, Kp.refl _ _⟩
    · have e1 : rdy l d = { l with dead := true } := by unfold rdy; rw [hdd, hdn]; rfl
      have e2 : rdyE l d = 3 := by unfold rdyE; rw [hdd, hdn]; rfl
      rw [e1, e2]
      have HD := Lib.hid (dDown_any hd)
      rw [hdn] at HD
      have HM := Lib.hid (met_any hR 3)
      rw [hm] at HM
      clear e1 e2 hm
      go_enter Tryz.func57, Tryz.ntmps57
      go_wp2_with fail
      refine HD.out.mono ?_
      rintro e w1 ⟨rfl, rfl⟩
      go_wp2_with fail
      refine HM.out.mono ?_
      rintro e w2 ⟨rfl, hR2, hK2⟩
      go_wp2
      go_ret
      exact ⟨rfl, hR2, hK2⟩
  · have e1 : rdy l d = { l with dead := true } := by unfold rdy; rw [hdd]; rfl
    have e2 : rdyE l d = 3 := by unfold rdyE; rw [hdd]; rfl
    rw [e1, e2]
    have HM := Lib.hid (met_any hR 3)
    rw [hm] at HM
    clear e1 e2 hm
    go_enter Tryz.func57, Tryz.ntmps57
    go_wp2_with fail
    refine HM.out.mono ?_
    rintro e w2 ⟨rfl, hR2, hK2⟩
    go_wp2
    go_ret
    exact ⟨rfl, hR2, hK2⟩
end
end Go.Proofs.YtnlhjhpikjmoaaaGreatDoor
namespace Go.Proofs.YtnlhjhpikjmoaaaGreatDoor
open Go.RowKit
theorem OwnL.monoW {α : Type} {E : Rel α} {okd okd' : Nat → Prop} {base : Nat} {T : TypeId} {w : World} {v : Value} {l : List α} (h : OwnL E okd base T w v l) (hm : ∀ b, okd b → b < w.heap.size → okd' b) : OwnL E okd' base T w v l := by
  obtain ⟨css, ho, hch⟩ := h
  exact ⟨css, ho, hch.mono fun b hb hlt => ⟨hm b hb.1 hlt, hb.2⟩⟩
def took (l : LogD) (b : List UInt8) (ring : Nat) : LogD := { l with recs := l.recs ++ [b], places := l.places ++ [l.end_], end_ := (l.end_ + secN b.length) % ring, used := l.used + secN b.length }
set_option maxRecDepth 100000 in
set_option maxHeartbeats 6400000 in
theorem took_any {fl fd okb : Nat → Prop} {gl gd : Nat} {l : LogD} {d : DskD} {w : World} (h : LogR fl w gl gd l) (hd : DiskR fd w gd d) (hdis : ∀ b, fd b → ¬ fl b) (vb : Value) (b : List UInt8) (hb : RB okb w vb b) (hbf : ∀ x, okb x → ¬ fl x) (hlen : b.length ≤ 32768) (hring : 3 ≤ d.kept.length) (hfit : l.used + secN b.length ≤ d.kept.length - 2) (hfst : l.first + l.recs.length + 1 < 18446744073709551616) (hn : l.recs.length ≤ 1000000) :
    Calls Tryz.prog 79 #[.pointer (some ⟨gl, 0, none⟩), vb] w fun e w' => (∃ x, e = .returned x) ∧ LogR (fun x => fl x ∨ okb x ∨ w.heap.size ≤ x) w' gl gd (took l b (d.kept.length - 2)) ∧ Kp (fun x => ¬ fl x) w w' := by
  have hR := h
  obtain ⟨vr, vp, h1, h2, h3, h4, h5, h6, h7, h8, h9, h10⟩ := h
  obtain ⟨c0, c1, c2, c3, c4, c5, c6, c7, c8⟩ := lg_cells h1
  obtain ⟨A, c, rfl, hc, _⟩ := hb.form
  have fg := fun i => h1.frozen i
  have h2' : OwnL rBs (fun x => (fl x ∨ okb x) ∧ x ≠ gl ∧ some x ≠ vp.ownBlock) 0 25 w vr l.recs := by
    obtain ⟨css, ho, hch⟩ := h2
    exact ⟨css, ho, hch.mono fun x hx _ => ⟨⟨.inl hx.1.1, hx.1.2⟩, hx.2⟩⟩
  have hbo : RB (fun x => ((fl x ∨ okb x) ∧ x ≠ gl ∧ some x ≠ vp.ownBlock) ∧ some x ≠ vr.ownBlock) w (.slice A b.length c) b := hb.mono (by decide) fun x hx _ => ⟨⟨.inr hx, fun e => hbf x hx (e ▸ h7), fun e => hbf x hx (h9 x e.symm)⟩, fun e => hbf x hx (h8 x e.symm)⟩
  have HF := Lib.hid hfit
  go_enter Tryz.func79, Tryz.ntmps79
  go_wp2_with fail
  refine (sectors_any b.length (by omega) _).mono ?_
  rintro e w1 ⟨rfl, rfl⟩
  go_upto_region 2 with (at_builtin; go_loud (refine wp_app1 (E := rBs) (okd := fun x => (fl x ∨ okb x) ∧ x ≠ gl ∧ some x ≠ vp.ownBlock) Tryz.rowBs (by decide) rfl _ _ rfl vr l.recs w1 #[.slice A b.length c] b rfl h2' rfl ⟨_, rfl, hbo⟩ (by show (l.recs.length + 1) * 24 ≤ _; omega) (by omega) (Nat.zero_le _) ?_); intro v' w5 hown5 hk5 hv5; obtain ⟨A', c', rfl, _⟩ := hown5.form; have kg5 := h1.kp hk5 h4; have fg5 := fun i => kg5.frozen i; obtain ⟨b0, b1, b2, b3, b4, b5, b6, b7, b8⟩ := lg_cells kg5)
  have hz5 : w1.heap.size ≤ w5.heap.size := hk5.size
  have hgl : gl < w1.heap.size := h1.lt
  have hle : (l.recs ++ [b]).length = l.recs.length + 1 := by simp
  rw [hle] at hown5 hv5
  obtain ⟨nn, hnn⟩ : ∃ nn, nn = l.recs.length + 1 := ⟨_, rfl⟩
  rw [← hnn] at hown5 hv5 ⊢
  have HNN := Lib.hid hnn
  clear hnn hle
  have hng : (Value.slice A' nn c').ownBlock ≠ some gl := by
    rcases hv5 with e | e
    · rw [e]; exact fun e => h4 e.symm
    · rw [e]; intro e; have := Option.some.inj e; omega
  have hnp : ∀ x, (Value.slice A' nn c').ownBlock = some x → vp.ownBlock ≠ some x := by
    intro x hx
    rcases hv5 with e | e
    · rw [e] at hx; exact h6 x hx
    · rw [e] at hx
      have := Option.some.inj hx
      intro e2
      have := (h3.lt x e2).2
      omega
  have hkp6 : Kp (fun x => x ≠ gl) w5 (w5.setCell ⟨gl, 4, none⟩ (.slice A' nn c')) := (Kp.refl _ _).setCell (fun _ h => h rfl) _
  have kg6 : Blk (w5.setCell ⟨gl, 4, none⟩ (.slice A' nn c')) gl 97 (lgCs gd { l with recs := l.recs ++ [b] } (.slice A' nn c') vp) := kg5.set_ 4 (.slice A' nn c')
  have ho6 := hown5.kp hkp6 (fun x hx => hx.2.1) (fun x hx e => hng (by rw [hx, e]))
  have hp6 : OwnL rNat (fun _ => False) 0 3 (w5.setCell ⟨gl, 4, none⟩ (.slice A' nn c')) vp l.places := (h3.kp hk5 (fun _ h => h.elim) (fun x hx e => h6 x (by rw [← e]) hx)).kp hkp6 (fun _ h => h.elim) (fun x hx e => h5 (by rw [hx, e]))
  have hK6 : Kp (fun x => ¬ fl x) w1 (w5.setCell ⟨gl, 4, none⟩ (.slice A' nn c')) := (hk5.mono fun x hx e => hx (h8 x e.symm)).trans (hkp6.mono fun x hx e => hx (e ▸ h7))
  refine name_world (fun w6 => Blk w6 gl 97 (lgCs gd { l with recs := l.recs ++ [b] } (.slice A' nn c') vp) ∧ OwnL rBs (fun x => (fl x ∨ okb x) ∧ x ≠ gl ∧ some x ≠ vp.ownBlock) 0 25 w6 (.slice A' nn c') (l.recs ++ [b]) ∧ OwnL rNat (fun _ => False) 0 3 w6 vp l.places ∧ Kp (fun x => ¬ fl x) w1 w6) ⟨kg6, ho6, hp6, hK6⟩ ?_
  clear kg6 ho6 hp6 hK6 hkp6 b0 b1 b2 b3 b4 b5 b6 b7 b8 fg5 kg5 hown5 hk5 c0 c1 c2 c3 c4 c5 c6 c7 c8 fg h2 h2' hbo
  rintro w6 ⟨kg6, ho6, hp6, hK6⟩
  obtain ⟨c0, c1, c2, c3, c4, c5, c6, c7, c8⟩ := lg_cells kg6
  simp only at c6 c7
  have p5 := Later.cell c5
  have p6 := Later.cell c6
  clear c0 c1 c2 c3 c4 c5 c6 c7 c8
  have hpl : l.places.length = l.recs.length := h10.places
  refine wp_seqB (fun x => x = gl ∨ some x = vp.ownBlock) 10 [9, 10, 13] (by as_aux_lemma => kernel_rfl) (by as_aux_lemma => kernel_rfl) fun w7 hb7 => ?_
  refine seqB_pre 4 (by kernel_rfl) ?_
  simp only [List.take_succ_cons, List.take_zero, List.drop_succ_cons, List.drop_zero]
  repeat (go_big_quiet_step (fail))
  refine wpQuiet_nil ?_
  refine seqB_pre0 1 (by kernel_rfl) (by kernel_rfl) ?_
  simp only [List.take_succ_cons, List.take_zero, List.drop_succ_cons, List.drop_zero]
  repeat (go_big_quiet_step (fail))
  refine wpQuiet_nil ?_
  refine seqB_pre 3 (by kernel_rfl) ?_
  simp only [List.take_succ_cons, List.take_zero, List.drop_succ_cons, List.drop_zero]
  repeat (go_big_quiet_step (fail))
  refine wpQuiet_nil ?_
  refine seqB_pre0 1 (by kernel_rfl) (by kernel_rfl) ?_
  simp only [List.take_succ_cons, List.take_zero, List.drop_succ_cons, List.drop_zero]
  repeat (go_big_quiet_step (fail))
  refine wpQuiet_nil ?_
  refine seqB_wild0 hb7 rfl rfl fun K hK => ?_
  unfold Gives
  go_simp
  have hal : Below w7.heap.size w7 (w7.alloc (.cells #[.int .i64 (l.end_ : Int)] 3)) := (Below.refl _ _).alloc (Nat.le_refl _) _
  refine hK _ _ hal fun hb8 => ?_
  clear hK
  clear K
  simp only [Act.put, List.setIfInBounds_toArray, List.set_cons_succ, List.set_cons_zero]
  refine seqB_wild (Kp.of_below hb8) rfl rfl fun K hK => ?_
  refine gives_app0' (E := rNat) Tryz.rowNat (by decide) _ _ rfl vp l.places _ rfl (hp6.below hb8) (some ⟨w7.heap.size, 0, none⟩) 1 [l.end_] [[.int .i64 (l.end_ : Int)]] rfl (show Rd _ 1 _ _ _ by simpa using Rd.new w7 3 1 1 #[.int .i64 (l.end_ : Int)] rfl) (Chunks.single (E := rNat) rfl) ?_ ?_ (Nat.zero_le _) fun v' w9 hown9 hk9 hloc9 => ?_
  · show (l.places.length + 1) * 8 ≤ _
    omega
  · show l.places.length + 1 ≤ _
    omega
  have hkk9 : Kp (fun x => ¬ (x = gl ∨ some x = vp.ownBlock)) (w7.alloc (.cells #[.int .i64 (l.end_ : Int)] 3)) w9 := hk9.mono fun x hx e => hx (.inr e)
  refine hK _ _ (hkk9) fun hK9 => ?_
  clear hK
  clear K
  simp only [Act.put, List.setIfInBounds_toArray, List.set_cons_succ, List.set_cons_zero]
  refine seqB_pre 2 (by kernel_rfl) ?_
  simp only [List.take_succ_cons, List.take_zero, List.drop_succ_cons, List.drop_zero]
  repeat (go_big_quiet_step (fail))
  refine wpQuiet_nil ?_
  have kg9 := (kg6.below hb8 kg6.lt).kp hk9 h5
  have fg9 := fun i => kg9.frozen i
  have c59 : w9.cell? ⟨gl, 5, none⟩ = some vp := kg9.cell 5
  obtain ⟨A9, c9, rfl, _⟩ := hown9.form
  obtain ⟨mm, hmm⟩ : ∃ mm, mm = (l.places ++ [l.end_]).length := ⟨_, rfl⟩
  rw [← hmm] at hown9 hloc9 ⊢
  have HMM := Lib.hid hmm
  clear hmm
  refine seqB_wild hK9 rfl rfl fun K hK => ?_
  unfold Gives
  go_simp
  have hkp : Kp (fun x => ¬ (x = gl ∨ some x = vp.ownBlock)) w9 (w9.setCell ⟨gl, 5, none⟩ (.slice A9 mm c9)) := (Kp.refl _ _).setCell (fun _ h => h (.inl rfl)) _
  refine hK _ _ hkp fun hK10 => ?_
  clear hK
  clear K
  simp only [Act.put, List.setIfInBounds_toArray, List.set_cons_succ, List.set_cons_zero]
  refine seqB_nil ?_
  have hgl6 : gl < w6.heap.size := kg6.lt
  have hz7 : w6.heap.size ≤ w7.heap.size := hb7.size
  have hloc : (Value.slice A9 mm c9).ownBlock = vp.ownBlock ∨ (Value.slice A9 mm c9).ownBlock = some (w7.heap.size + 1) := by simpa using hloc9
  have hng9 : (Value.slice A9 mm c9).ownBlock ≠ some gl := by
    rcases hloc with e | e
    · rw [e]; exact fun e => h5 e.symm
    · rw [e]; intro e; have := Option.some.inj e; omega
  have hnp9 : ∀ x, (Value.slice A' nn c').ownBlock = some x → (Value.slice A9 mm c9).ownBlock ≠ some x := by
    intro x hx
    rcases hloc with e | e
    · rw [e]; exact hnp x hx
    · rw [e]
      have := (ho6.lt x hx).2
      intro e2
      have := Option.some.inj e2
      omega
  have kg10 : Blk (w9.setCell ⟨gl, 5, none⟩ (.slice A9 mm c9)) gl 97 (lgCs gd { l with recs := l.recs ++ [b], places := l.places ++ [l.end_] } (.slice A' nn c') (.slice A9 mm c9)) := kg9.set_ 5 (.slice A9 mm c9)
  have ho10 : OwnL rBs (fun x => (fl x ∨ okb x) ∧ x ≠ gl ∧ some x ≠ (Value.slice A9 mm c9).ownBlock) 0 25 (w9.setCell ⟨gl, 5, none⟩ (.slice A9 mm c9)) (.slice A' nn c') (l.recs ++ [b]) := by
    refine OwnL.monoW ((OwnL.monoW (okd' := fun x => ((fl x ∨ okb x) ∧ x ≠ gl ∧ some x ≠ (Value.slice A9 mm c9).ownBlock) ∧ some x ≠ vp.ownBlock) ho6 fun x hx hlt => ⟨⟨hx.1, hx.2.1, fun e => ?_⟩, hx.2.2⟩).kp hK10 (fun x hx e => e.elim hx.1.2.1 hx.2) (fun x hx e => e.elim (fun e => hng (by rw [hx, e])) fun e => hnp x hx e.symm)) fun x hx _ => hx.1
    rcases hloc with e2 | e2
    · exact hx.2.2 (e.trans e2)
    · have := Option.some.inj (e.trans e2)
      omega
  have hp10 : OwnL rNat (fun _ => False) 0 3 (w9.setCell ⟨gl, 5, none⟩ (.slice A9 mm c9)) (.slice A9 mm c9) (l.places ++ [l.end_]) := hown9.kp (ok := fun x => x ≠ gl) ((Kp.refl _ _).setCell (fun _ h => h rfl) _) (fun _ h => h.elim) fun x hx e => hng9 (by rw [hx, e])
  have hKf : Kp (fun x => ¬ fl x) w1 (w9.setCell ⟨gl, 5, none⟩ (.slice A9 mm c9)) := hK6.trans (hK10.mono fun x hx e => e.elim (fun e => hx (e ▸ h7)) fun e => hx (h9 x e.symm))
  have hsz6 : w1.heap.size ≤ w6.heap.size := hK6.size
  have hL10 : LogR (fun x => fl x ∨ okb x ∨ w1.heap.size ≤ x) (w9.setCell ⟨gl, 5, none⟩ (.slice A9 mm c9)) gl gd { l with recs := l.recs ++ [b], places := l.places ++ [l.end_] } := by
    refine ⟨.slice A' nn c', .slice A9 mm c9, kg10, ho10.monoW fun x hx _ => ⟨hx.1.elim .inl fun h => .inr (.inl h), hx.2⟩, hp10, fun e => hng e.symm, fun e => hng9 e.symm, hnp9, .inl h7, fun x hx => ?_, fun x hx => ?_, ⟨h10.turn, ?_, ?_, ?_, ?_, h10.end_, h10.used⟩⟩
    · rcases hv5 with e | e
      · exact .inl (h8 x (by rw [← e]; exact hx))
      · rw [e] at hx; have := Option.some.inj hx; exact .inr (.inr (by omega))
    · rcases hloc with e | e
      · exact .inl (h9 x (by rw [← e]; exact hx))
      · rw [e] at hx; have := Option.some.inj hx; exact .inr (.inr (by omega))
    · show l.first + (l.recs ++ [b]).length < _
      simp
      omega
    · intro r hr
      rcases List.mem_append.1 hr with hr | hr
      · exact h10.recs r hr
      · rw [List.mem_singleton.1 hr]; exact hlen
    · show (l.places ++ [l.end_]).length = (l.recs ++ [b]).length
      simp [hpl]
    · intro q hq
      rcases List.mem_append.1 hq with hq | hq
      · exact h10.placed q hq
      · rw [List.mem_singleton.1 hq]; exact h10.end_
  have HKf := Lib.hid hKf
  have HL10 := Lib.hid hL10
  clear hKf hL10 hp10 ho10 kg10 hnp9 hng9 hloc hK10 hkp c59 fg9 kg9 hkk9 hown9 hloc9 hk9 hK9 hb8 hal p5 p6 kg6 ho6 hp6 hK6 hnp hng hv5
  go_upto_region 3 with fail
  refine name_world (fun w10 => LogR (fun x => fl x ∨ okb x ∨ w1.heap.size ≤ x) w10 gl gd { l with recs := l.recs ++ [b], places := l.places ++ [l.end_] } ∧ Kp (fun x => ¬ fl x) w1 w10) ⟨HL10.out, HKf.out⟩ ?_
  clear HL10 HKf
  rintro w10 ⟨hL10, hK10⟩
  have hd10 := hd.kp hK10 fun x hx => hdis x hx
  obtain ⟨R, hRe⟩ : ∃ R : Nat, R = d.kept.length - 2 := ⟨_, rfl⟩
  have hRi : (d.kept.length : Int) - 2 = (R : Int) := by omega
  have hR1 : 1 ≤ R := by omega
  have hR2 : R ≤ 65534 := by have := hd.ok.2.2.1; omega
  have hLL := hL10
  obtain ⟨vr2, vp2, g1, g2, g3, g4, g5, g6, g7, g8, g9, g10⟩ := hLL
  obtain ⟨c0, c1, c2, c3, c4, c5, c6, c7, c8⟩ := lg_cells g1
  simp only at c6 c7
  have q6 := Later.cell c6
  have hend := h10.end_
  have hsec : secN b.length ≤ 65536 := by unfold secN; omega
  obtain ⟨S, hS⟩ : ∃ S, S = secN b.length := ⟨_, rfl⟩
  rw [← hS] at hsec ⊢
  have r0 : ((R : Int) == 0) = false := by simpa using (show ¬ (R : Int) = 0 by omega)
  have r0' : decide ((R : Int) = 0) = false := decide_eq_false (by omega)
  clear c0 c1 c2 c3 c4 c5 c6 c7 c8
  refine wp_seqB (fun x => x = gl) 12 [8, 12] (by as_aux_lemma => kernel_rfl) (by as_aux_lemma => kernel_rfl) fun w11 hb11 => ?_
  refine seqB_pre 4 (by kernel_rfl) ?_
  simp only [List.take_succ_cons, List.take_zero, List.drop_succ_cons, List.drop_zero]
  repeat (go_big_quiet_step (fail))
  refine wpQuiet_nil ?_
  refine seqB_pre0 1 (by kernel_rfl) (by kernel_rfl) ?_
  simp only [List.take_succ_cons, List.take_zero, List.drop_succ_cons, List.drop_zero]
  repeat (go_big_quiet_step (fail))
  refine wpQuiet_nil ?_
  refine seqB_pre 3 (by kernel_rfl) ?_
  simp only [List.take_succ_cons, List.take_zero, List.drop_succ_cons, List.drop_zero]
  repeat (go_big_quiet_step (fail))
  refine wpQuiet_nil ?_
  refine seqB_wild0 hb11 rfl rfl fun K hK => ?_
  unfold Gives
  go_simp
  refine (ring_any (hL10.below hb11) (hd10.below hb11)).mono ?_
  rw [hRi]
  rintro e w12 ⟨rfl, rfl⟩
  refine ⟨_, rfl, hK _ _ ((Below.refl _ _)) fun hb12 => ?_⟩
  clear hK
  clear K
  simp only [Act.put, List.setIfInBounds_toArray, List.set_cons_succ, List.set_cons_zero]
  refine seqB_pre 3 (by kernel_rfl) ?_
  simp only [List.take_succ_cons, List.take_zero, List.drop_succ_cons, List.drop_zero]
  repeat (go_big_quiet_step (fail))
  refine wpQuiet_nil ?_
  have k12 := g1.below hb12 g1.lt
  have f12 := fun i => k12.frozen i
  have c612 : w12.cell? ⟨gl, 6, none⟩ = some (.int .i64 (l.end_ : Int)) := k12.cell 6
  refine seqB_wild (Kp.of_below hb12) rfl rfl fun K hK => ?_
  unfold Gives
  go_simp
  have hkp : ∀ u, Kp (fun x => ¬ x = gl) w12 (w12.setCell ⟨gl, 6, none⟩ u) := fun u => (Kp.refl _ _).setCell (fun _ h => h rfl) _
  refine hK _ _ (hkp _) fun hK13 => ?_
  clear hK
  clear K
  simp only [Act.put, List.setIfInBounds_toArray, List.set_cons_succ, List.set_cons_zero]
  refine seqB_nil ?_
  have c712 : w12.cell? ⟨gl, 7, none⟩ = some (.int .i64 (l.used : Int)) := k12.cell 7
  have hL12 := hL10.below hb12
  have hfin : ∀ u v, u = .int .i64 (((l.end_ + secN b.length) % (d.kept.length - 2) : Nat) : Int) → v = .int .i64 ((l.used + secN b.length : Nat) : Int) → LogR (fun x => fl x ∨ okb x ∨ w1.heap.size ≤ x) ((w12.setCell ⟨gl, 6, none⟩ u).setCell ⟨gl, 7, none⟩ v) gl gd (took l b (d.kept.length - 2)) ∧ Kp (fun x => ¬ fl x) w1 ((w12.setCell ⟨gl, 6, none⟩ u).setCell ⟨gl, 7, none⟩ v) := by
    intro u v hu hv
    have hk2 : Kp (fun x => x ≠ gl) w12 ((w12.setCell ⟨gl, 6, none⟩ u).setCell ⟨gl, 7, none⟩ v) := ((Kp.refl _ _).setCell (fun _ h => h rfl) _).setCell (fun _ h => h rfl) _
    refine ⟨⟨vr2, vp2, ?_, (g2.below hb12).kp hk2 (fun x hx => hx.2.1) (fun x hx e => g4 (by rw [hx, e])), (g3.below hb12).kp hk2 (fun _ h => h.elim) (fun x hx e => g5 (by rw [hx, e])), g4, g5, g6, g7, g8, g9, ⟨g10.turn, g10.first, g10.recs, g10.places, g10.placed, ?_, ?_⟩⟩, ?_⟩
    · have := (k12.set_ 6 u).set_ 7 v
      rw [hu, hv] at this ⊢
      exact this
    · show (l.end_ + secN b.length) % (d.kept.length - 2) < 65536
      have := Nat.mod_lt (l.end_ + secN b.length) (show 0 < d.kept.length - 2 by omega)
      omega
    · show l.used + secN b.length ≤ 65536
      have := HF.out
      omega
    · exact (hK10.trans (.of_below hb12)).trans (hk2.mono fun x hx e => hx (e ▸ h7))
  have HFIN := Lib.hid hfin
  clear hfin
  go_wp2
  go_end0
  refine ⟨⟨_, rfl⟩, HFIN.out _ _ ?_ ?_⟩
  · rw [Int.natCast_emod, Int.natCast_add]
  · rw [Int.natCast_add]
end Go.Proofs.YtnlhjhpikjmoaaaGreatDoor
namespace Go.Proofs.YtnlhjhpikjmoaaaGreatDoor
open Go.RowKit
theorem own_empty (w : World) (base : Nat) (hb : base ≤ w.heap.size) : OwnB base (w.alloc (.cells #[] 5)) (some ⟨w.heap.size, 0, none⟩) 0 0 [] :=
  World.ownsRow_lit (base := base) (e := 5) (size := 1) w #[] 0 hb (by decide) rfl
set_option maxRecDepth 100000 in
set_option maxHeartbeats 400000 in
theorem clone_any (A : Option Addr) (n c : Nat) (l : List UInt8) (w : World) (hr : Rd w 1 A n (bs l)) (hm : n ≤ 140737488355328) :
    Calls Tryz.prog 74 #[.slice A n c] w fun e w' => (∃ A' c', e = .returned (.slice A' n c') ∧ OwnB w.heap.size w' A' n c' l) ∧ Below w.heap.size w w' := by
  have hE := fun (x : Option Addr) (w : World) => Lib.run_eql_slice_nil (P := Tryz.prog) w 25 5 x n c 0 0 Tryz.underlying25
  rcases A with _ | ad
  · have hn : n = 0 := by
      rcases Nat.eq_zero_or_pos n with h0 | h0
      · exact h0
      · obtain ⟨_, _, h, _⟩ := hr.2 h0
        cases h
    subst hn
    have hl : l = [] := List.eq_nil_of_length_eq_zero (by have := hr.1; simpa using this)
    subst hl
    go_enter Tryz.func74, Tryz.ntmps74
    go_wp2
    go_ret
    exact ⟨⟨none, 0, rfl, OwnB.nil_ _ _⟩, Below.refl _ _⟩
  · go_enter Tryz.func74, Tryz.ntmps74
    go_wp2_with (at_builtin; refine wp_append_bytes rfl _ _ rfl w.heap.size _ 0 0 [] _ rfl (own_empty w w.heap.size (Nat.le_refl _)) (some ad) n c l rfl (hr.below ((Below.refl _ _).alloc (Nat.le_refl _) _)) (by omega) (by simp) ?_; intro A' c' w1 hown1 hb1)
    go_ret
    rw [Nat.zero_add, List.nil_append] at hown1
    exact ⟨⟨A', c', by simp, hown1⟩, ((Below.refl _ _).alloc (Nat.le_refl _) _).trans hb1⟩
theorem OwnB.set_ {base : Nat} {w : World} {A : Option Addr} {n c k : Nat} {l : List UInt8} (h : OwnB base w A n c l) (hk : k < n) (b : UInt8) :
    ∃ g, A = some ⟨g, 0, none⟩ ∧ base ≤ g ∧ w.cell? ⟨g, k, none⟩ = some (.int .u8 ((l.getD k 0).toNat : Int)) ∧ w.frozen? ⟨g, k, none⟩ = false ∧
      OwnB base (w.setCell ⟨g, k, none⟩ (.int .u8 (b.toNat : Int))) A n c (l.set k b) ∧ Below base w (w.setCell ⟨g, k, none⟩ (.int .u8 (b.toNat : Int))) := by
  have hl := h.len
  rcases h.2 with ⟨_, h0⟩ | ⟨g, cap, cur, hv, hg, hh, r⟩
  · omega
  · simp only [Value.slice.injEq] at hv
    obtain ⟨rfl, _, rfl⟩ := hv
    have hw : w.ownsRow base 5 1 (.slice (some ⟨g, 0, none⟩) n c) n (bs l) := h
    refine ⟨g, rfl, hg, ?_, hw.frozenAt k, ?_, (Below.refl _ _).setCell hg _⟩
    · rw [hw.cellAt k (by omega), bs_get l k (by omega)]
      simp [List.getD, show k < l.length by omega]
    · have := (hw.stored k (.int .u8 (b.toNat : Int))).1
      unfold OwnB
      have e : bs (l.set k b) = (bs l).set k (.int .u8 (b.toNat : Int)) := by simp [bs, List.map_set]
      rw [e]
      exact this
end Go.Proofs.YtnlhjhpikjmoaaaGreatDoor
namespace Go.Proofs.YtnlhjhpikjmoaaaGreatDoor
open Go.RowKit
theorem OwnB.rb {base : Nat} {w : World} {A : Option Addr} {n c : Nat} {l : List UInt8} (h : OwnB base w A n c l) (hm : n ≤ 140737488351232) : RB (fun b => base ≤ b) w (.slice A n c) l := by
  refine RB.mk_ h.rd h.cap hm fun h0 a ha => ?_
  subst ha
  exact (World.ownsRow.lt h _ rfl).1
theorem clone_rb {ok : Nat → Prop} (v : Value) (l : List UInt8) (w : World) (hr : RB ok w v l) :
    Calls Tryz.prog 74 #[v] w fun e w' => (∃ v', e = .returned v' ∧ RB (fun b => w.heap.size ≤ b) w' v' l) ∧ Below w.heap.size w w' := by
  obtain ⟨A, c, rfl, hc, hm, hrd, _⟩ := hr.open_
  exact (clone_any A _ c l w hrd (by omega)).mono fun e w' ⟨⟨A', c', he, ho⟩, hb⟩ => ⟨⟨_, he, ho.rb hm⟩, hb⟩
end Go.Proofs.YtnlhjhpikjmoaaaGreatDoor
namespace Go.Proofs.YtnlhjhpikjmoaaaGreatDoor
open Go.RowKit
theorem chunksNat {ok ok' : Nat → Prop} {w w' : World} : ∀ {css : List (List Value)} {l : List Nat}, Chunks rNat ok w css l → Chunks rNat ok' w' css l
  | [], [], _ => trivial
  | _ :: _, _ :: _, h => ⟨h.1, chunksNat h.2⟩
  | [], _ :: _, h => h.elim
  | _ :: _, [], h => h.elim
theorem OwnL.empty_ {α : Type} (E : Rel α) (okd : Nat → Prop) (base : Nat) (T : TypeId) (w : World) (hb : base ≤ w.heap.size) : OwnL E okd base T (w.alloc (.cells #[] T)) (.slice (some ⟨w.heap.size, 0, none⟩) 0 0) [] :=
  ⟨[], World.ownsRow_made w #[] 0 hb (by decide) (by simp), trivial⟩
set_option maxRecDepth 100000 in
set_option maxHeartbeats 3200000 in
theorem cloneNat_any {ok : Nat → Prop} (v : Value) (l : List Nat) (w : World) (h : RSl rNat ok w v l) (hl : l.length ≤ 1000000) :
    Calls Tryz.prog 60 #[v] w fun e w' => (∃ v', e = .returned v' ∧ OwnL rNat (fun _ => False) w.heap.size 3 w' v' l) ∧ Below w.heap.size w w' := by
  obtain ⟨A, n, c, css, rfl, hc, hn, _, hrd, hch, _⟩ := h
  subst hn
  have hE := fun (x : Option Addr) (w : World) => Lib.run_eql_slice_nil (P := Tryz.prog) w 53 3 x l.length c 0 0 Tryz.underlying53
  rcases A with _ | ad
  · have hl0 : l = [] := by
      rcases Nat.eq_zero_or_pos l.length with h0 | h0
      · exact List.eq_nil_of_length_eq_zero h0
      · obtain ⟨_, _, h, _⟩ := hrd.2 h0
        cases h
    subst hl0
    clear hE
    have hE := fun (w : World) => Lib.run_eql_slice_nil (P := Tryz.prog) w 53 3 none 0 c 0 0 Tryz.underlying53
    show Calls Tryz.prog _ #[.slice none 0 c] w _
    go_enter Tryz.func60, Tryz.ntmps60
    go_wp2
    go_ret
    exact ⟨⟨_, rfl, OwnL.nil_ _ _ _ _ _⟩, Below.refl _ _⟩
  · have hal : Below w.heap.size w (w.alloc (.cells #[] 3)) := (Below.refl _ _).alloc (Nat.le_refl _) _
    have ho := OwnL.empty_ rNat (fun _ => False) w.heap.size 3 w (Nat.le_refl _)
    go_enter Tryz.func60, Tryz.ntmps60
    go_wp2_with (at_builtin; go_loud (refine wp_app (E := rNat) (okd := fun _ => False) Tryz.rowNat (by decide) rfl _ _ rfl (.slice (some ⟨w.heap.size, 0, none⟩) 0 0) [] _ rfl ho (some ad) c l css rfl (hrd.below hal) (chunksNat hch) (by show (0 + l.length) * 8 ≤ _; omega) (by show 0 + l.length ≤ _; omega) (by simp) ?_); intro v' w5 hown5 hk5 hv5)
    go_ret
    exact ⟨⟨v', rfl, by simpa using hown5⟩, hal.trans (hk5.below (by simp) fun b hb e => by have := Option.some.inj e; simp at this; omega)⟩
set_option maxRecDepth 100000 in
set_option maxHeartbeats 3200000 in
theorem cloneBs_any {ok : Nat → Prop} (v : Value) (l : List (List UInt8)) (w : World) (h : RSl rBs ok w v l) (hl : l.length ≤ 1000000) :
    Calls Tryz.prog 59 #[v] w fun e w' => (∃ v', e = .returned v' ∧ OwnL rBs ok w.heap.size 25 w' v' l) ∧ Below w.heap.size w w' := by
  obtain ⟨A, n, c, css, rfl, hc, hn, _, hrd, hch, _⟩ := h
  subst hn
  have hE := fun (x : Option Addr) (w : World) => Lib.run_eql_slice_nil (P := Tryz.prog) w 44 25 x l.length c 0 0 Tryz.underlying44
  rcases A with _ | ad
  · have hl0 : l = [] := by
      rcases Nat.eq_zero_or_pos l.length with h0 | h0
      · exact List.eq_nil_of_length_eq_zero h0
      · obtain ⟨_, _, h, _⟩ := hrd.2 h0
        cases h
    subst hl0
    clear hE
    have hE := fun (w : World) => Lib.run_eql_slice_nil (P := Tryz.prog) w 44 25 none 0 c 0 0 Tryz.underlying44
    show Calls Tryz.prog _ #[.slice none 0 c] w _
    go_enter Tryz.func59, Tryz.ntmps59
    go_wp2
    go_ret
    exact ⟨⟨_, rfl, OwnL.nil_ _ _ _ _ _⟩, Below.refl _ _⟩
  · have hal : Below w.heap.size w (w.alloc (.cells #[] 25)) := (Below.refl _ _).alloc (Nat.le_refl _) _
    have hcc : Chunks rBs (fun b => ok b ∧ some b ≠ (Value.slice (some ⟨w.heap.size, 0, none⟩) 0 0).ownBlock) (w.alloc (.cells #[] 25)) css l := (hch.mono (ok' := fun b => (ok b ∧ some b ≠ (Value.slice (some ⟨w.heap.size, 0, none⟩) 0 0).ownBlock)) fun b hb hlt => ⟨hb, fun e => by have := Option.some.inj e; simp at this; omega⟩).kp (.of_below hal)
    have ho := OwnL.empty_ rBs ok w.heap.size 25 w (Nat.le_refl _)
    go_enter Tryz.func59, Tryz.ntmps59
    go_wp2_with (at_builtin; go_loud (refine wp_app (E := rBs) (okd := ok) Tryz.rowBs (by decide) rfl _ _ rfl (.slice (some ⟨w.heap.size, 0, none⟩) 0 0) [] _ rfl ho (some ad) c l css rfl (hrd.below hal) (hcc) (by show (0 + l.length) * 24 ≤ _; omega) (by show 0 + l.length ≤ _; omega) (by simp) ?_); intro v' w5 hown5 hk5 hv5)
    go_ret
    exact ⟨⟨v', rfl, by simpa using hown5⟩, hal.trans (hk5.below (by simp) fun b hb e => by have := Option.some.inj e; simp at this; omega)⟩
end Go.Proofs.YtnlhjhpikjmoaaaGreatDoor
namespace Go.Proofs.YtnlhjhpikjmoaaaGreatDoor
open Go.RowKit
structure HeadD where
  turn : Nat
  first : Nat
  next : Nat
  start : Nat
  end_ : Nat
def hdCs (h : HeadD) : Array Value := #[.int .u64 (h.turn : Int), .int .u64 (h.first : Int), .int .u64 (h.next : Int), .int .u64 (h.start : Int), .int .u64 (h.end_ : Int)]
theorem Tryz.infoHead : (Tryz.prog.info? 99).map (·.size) = some 5 := by kernel_rfl
theorem hd_all (h : HeadD) : (hdCs h).all (·.oneCell') = true := by simp [hdCs, Value.oneCell']
def rdN (b : List UInt8) (k : Nat) : Nat := beNat ((b.drop k).take 8)
def readH (b : List UInt8) : HeadD := ⟨rdN b 0, rdN b 8, rdN b 16, rdN b 24, rdN b 32⟩
theorem take_at {bb off n c k : Nat} (lb : List UInt8) (w : World) (hcell : ∀ j (h : j < lb.length), w.cell? ⟨bb, off + j, none⟩ = some (.int .u8 ((lb[j]).toNat : Int))) (hk : k + 8 ≤ lb.length) (hn : 8 ≤ n) (hc : n ≤ c) :
    Calls Tryz.prog 77 #[.slice (some ⟨bb, off + k, none⟩) n c] w fun e w' => e = .returned (.int .u64 ((rdN lb k : Nat) : Int)) ∧ w' = w :=
  wtake_any bb (off + k) n c (lb.drop k) w (fun j h _ => by
    have hj : k + j < lb.length := by rw [List.length_drop] at h; omega
    rw [Nat.add_assoc, hcell (k + j) hj, List.getElem_drop]) (by rw [List.length_drop]; omega) hn hc
set_option maxRecDepth 100000 in
set_option maxHeartbeats 6400000 in
theorem readHead_any (bb off c : Nat) (lb : List UInt8) (w : World) (h64 : lb.length = 64) (hc : 64 ≤ c) (hcell : ∀ j (h : j < lb.length), w.cell? ⟨bb, off + j, none⟩ = some (.int .u8 ((lb[j]).toNat : Int))) :
    Calls Tryz.prog 49 #[.slice (some ⟨bb, off, none⟩) 64 c] w fun e w' => e = .returned (.tuple #[.agg (hdCs (readH lb)), .bool (((rdN lb 0 : Nat) : Int) == ((rdN lb 56 : Nat) : Int))]) ∧ Below w.heap.size w w' := by
  have hbl : bb < w.heap.size := World.block_lt_of_cell? w ⟨bb, off + 0, none⟩ (hcell 0 (by omega))
  have HCW := Lib.hid (fun (w' : World) (hb : Below w.heap.size w w') j (h : j < lb.length) => (hb.cell (p := ⟨bb, off + j, none⟩) hbl).trans (hcell j h))
  clear hcell
  go_enter Tryz.func49, Tryz.ntmps49
  go_upto_region 1 with fail
  refine name_world (fun w1 => Below w.heap.size w w1 ∧ w.heap.size < w1.heap.size ∧ Blk w1 w.heap.size 99 #[.int .u64 0, .int .u64 0, .int .u64 0, .int .u64 0, .int .u64 0]) ⟨(Below.refl _ _).alloc (Nat.le_refl _) _, by simp, Blk.new _ _ _⟩ ?_
  rintro w1 ⟨hB1, hz1, k1⟩
  refine wp_seqV (fun _ => False) 16 [1, 4, 7, 10, 13, 16] [15] (by as_aux_lemma => kernel_rfl) (by as_aux_lemma => kernel_rfl) fun w4 hb4 => ?_
  refine seqV_pre 1 (by kernel_rfl) ?_
  simp only [List.take_succ_cons, List.take_zero, List.drop_succ_cons, List.drop_zero]
  repeat (go_big_quiet_step (fail))
  refine wpQuiet_nil ?_
  refine seqV_new hb4 rfl rfl fun w5 hb5 hB5 K hK => ?_
  unfold Gives
  go_simp
  refine (take_at (k := 0) lb w5 (HCW.out _ (hB1.trans (hB5.mono hB1.size))) (by omega) (by omega) hc).mono ?_
  rintro e w6 ⟨rfl, rfl⟩
  refine ⟨_, rfl, hK _ _ ((Below.refl _ _)) fun hB6 => ?_⟩
  clear hK
  clear K
  simp only [Act.put, List.setIfInBounds_toArray, List.set_cons_succ, List.set_cons_zero]
  refine seqV_pre 2 (by kernel_rfl) ?_
  simp only [List.take_succ_cons, List.take_zero, List.drop_succ_cons, List.drop_zero]
  repeat (go_big_quiet_step (fail))
  refine wpQuiet_nil ?_
  refine seqV_new hB6 rfl rfl fun w7 hb7 hB7 K hK => ?_
  unfold Gives
  go_simp
  refine (take_at (k := 8) lb w7 (HCW.out _ (hB1.trans (hB7.mono hB1.size))) (by omega) (by omega) (by omega)).mono ?_
  rintro e w8 ⟨rfl, rfl⟩
  refine ⟨_, rfl, hK _ _ ((Below.refl _ _)) fun hB8 => ?_⟩
  clear hK
  clear K
  simp only [Act.put, List.setIfInBounds_toArray, List.set_cons_succ, List.set_cons_zero]
  refine seqV_pre 2 (by kernel_rfl) ?_
  simp only [List.take_succ_cons, List.take_zero, List.drop_succ_cons, List.drop_zero]
  repeat (go_big_quiet_step (fail))
  refine wpQuiet_nil ?_
  refine seqV_new hB8 rfl rfl fun w9 hb9 hB9 K hK => ?_
  unfold Gives
  go_simp
  refine (take_at (k := 16) lb w9 (HCW.out _ (hB1.trans (hB9.mono hB1.size))) (by omega) (by omega) (by omega)).mono ?_
  rintro e w10 ⟨rfl, rfl⟩
  refine ⟨_, rfl, hK _ _ ((Below.refl _ _)) fun hB10 => ?_⟩
  clear hK
  clear K
  simp only [Act.put, List.setIfInBounds_toArray, List.set_cons_succ, List.set_cons_zero]
  refine seqV_pre 2 (by kernel_rfl) ?_
  simp only [List.take_succ_cons, List.take_zero, List.drop_succ_cons, List.drop_zero]
  repeat (go_big_quiet_step (fail))
  refine wpQuiet_nil ?_
  refine seqV_new hB10 rfl rfl fun w11 hb11 hB11 K hK => ?_
  unfold Gives
  go_simp
  refine (take_at (k := 24) lb w11 (HCW.out _ (hB1.trans (hB11.mono hB1.size))) (by omega) (by omega) (by omega)).mono ?_
  rintro e w12 ⟨rfl, rfl⟩
  refine ⟨_, rfl, hK _ _ ((Below.refl _ _)) fun hB12 => ?_⟩
  clear hK
  clear K
  simp only [Act.put, List.setIfInBounds_toArray, List.set_cons_succ, List.set_cons_zero]
  refine seqV_pre 2 (by kernel_rfl) ?_
  simp only [List.take_succ_cons, List.take_zero, List.drop_succ_cons, List.drop_zero]
  repeat (go_big_quiet_step (fail))
  refine wpQuiet_nil ?_
  refine seqV_new hB12 rfl rfl fun w13 hb13 hB13 K hK => ?_
  unfold Gives
  go_simp
  refine (take_at (k := 32) lb w13 (HCW.out _ (hB1.trans (hB13.mono hB1.size))) (by omega) (by omega) (by omega)).mono ?_
  rintro e w14 ⟨rfl, rfl⟩
  refine ⟨_, rfl, hK _ _ ((Below.refl _ _)) fun hB14 => ?_⟩
  clear hK
  clear K
  simp only [Act.put, List.setIfInBounds_toArray, List.set_cons_succ, List.set_cons_zero]
  refine seqV_pre 1 (by kernel_rfl) ?_
  simp only [List.take_succ_cons, List.take_zero, List.drop_succ_cons, List.drop_zero]
  repeat (go_big_quiet_step (fail))
  refine wpQuiet_nil ?_
  refine seqV_lay (fun g => .pointer (some ⟨g, 0, none⟩)) 99 #[.int .u64 0, .int .u64 0, .int .u64 0, .int .u64 0, .int .u64 0] rfl rfl (fun s => by go_simp <;> rfl) fun gb wl hgl hMl kl hbl => ?_
  simp only [Act.put, List.setIfInBounds_toArray, List.set_cons_succ, List.set_cons_zero]
  have hBl := hB14.trans (hbl.mono hB14.size)
  refine seqV_chg (Kp.ofBelow hBl) rfl rfl fun K hK => ?_
  refine gives_st (k := 0) rfl (hdCs (readH lb)) rfl rfl kl (Nat.le_refl _) Tryz.infoHead (hd_all _) ?_
  have kb8 := kl.setCells (hdCs (readH lb)) rfl
  refine hK _ _ ((Kp.setCells (a := wl) (b := gb) (fun _ => keep_not hgl (.inr rfl)) (hdCs (readH lb)).toList 0 (Kp.refl _ _))) fun hK8 => ?_
  clear hK
  clear K
  simp only [Act.put, List.setIfInBounds_toArray, List.set_cons_succ, List.set_cons_zero]
  generalize hwr : World.setCells wl gb 0 (hdCs (readH lb)).toList = w8 at kb8 hK8 ⊢
  clear hwr
  refine seqV_nil ?_
  have hB8 := hB1.trans (hK8.toBelow.mono hB1.size)
  have k18 := k1.below hK8.toBelow k1.lt
  have hgne : gb ≠ w.heap.size := by have := k1.lt; omega
  have l0 : ∀ s : LaterB w8 (fun b => b = w.heap.size), s.val.cell? ⟨gb, 0, none⟩ = some (.int .u64 ((rdN lb 0 : Nat) : Int)) := LaterB.cell (kb8.cell 0) hgne
  go_upto_region 2 with fail
  refine wp_seqB (fun b => b = w.heap.size) 7 [5, 7] (by as_aux_lemma => kernel_rfl) (by as_aux_lemma => kernel_rfl) fun wa hba => ?_
  refine seqB_still (.agg (hdCs (readH lb))) rfl rfl (fun s => still_ld (g := gb) (k := 0) rfl rfl (kb8.kp s.kp hgne).range Tryz.underlying99 rfl Tryz.infoHead) ?_
  simp only [Act.put, List.setIfInBounds_toArray, List.set_cons_succ, List.set_cons_zero]
  refine seqB_pre 4 (by kernel_rfl) ?_
  simp only [List.take_succ_cons, List.take_zero, List.drop_succ_cons, List.drop_zero]
  repeat (go_big_quiet_step (fail))
  refine wpQuiet_nil ?_
  refine seqB_wild0 hba rfl rfl fun K hK => ?_
  unfold Gives
  go_simp
  refine (take_at (k := 56) lb wa (HCW.out _ (hB8.trans (hba.mono hB8.size))) (by omega) (by omega) (by omega)).mono ?_
  rintro e wb ⟨rfl, rfl⟩
  refine ⟨_, rfl, hK _ _ ((Below.refl _ _)) fun hbb => ?_⟩
  clear hK
  clear K
  simp only [Act.put, List.setIfInBounds_toArray, List.set_cons_succ, List.set_cons_zero]
  refine seqB_pre 1 (by kernel_rfl) ?_
  simp only [List.take_succ_cons, List.take_zero, List.drop_succ_cons, List.drop_zero]
  repeat (go_big_quiet_step (fail))
  refine wpQuiet_nil ?_
  have k1b := k18.below hbb k18.lt
  refine seqB_wild (Kp.of_below hbb) rfl rfl fun K hK => ?_
  refine gives_st (k := 0) rfl (hdCs (readH lb)) rfl rfl k1b (Nat.le_refl _) Tryz.infoHead (hd_all _) ?_
  have k1c := k1b.setCells (hdCs (readH lb)) rfl
  have hst := Kp.setCells (ok := fun b => ¬ b = w.heap.size) (a := wb) (b := w.heap.size) (fun _ hh => hh rfl) (hdCs (readH lb)).toList 0 (Kp.refl _ _)
  have hBc := below_setCells (B := w.heap.size) (b := w.heap.size) (Nat.le_refl _) (hdCs (readH lb)).toList 0 (hB8.trans (hbb.mono hB8.size))
  generalize hwr : World.setCells wb w.heap.size 0 (hdCs (readH lb)).toList = wc at k1c hst hBc ⊢
  clear hwr
  refine hK _ _ (hst) fun hKc => ?_
  clear hK
  clear K
  simp only [Act.put, List.setIfInBounds_toArray, List.set_cons_succ, List.set_cons_zero]
  refine seqB_pre 1 (by kernel_rfl) ?_
  simp only [List.take_succ_cons, List.take_zero, List.drop_succ_cons, List.drop_zero]
  repeat (go_big_quiet_step (fail))
  refine wpQuiet_nil ?_
  refine seqB_nil ?_
  have lv := k1c.loadVar (P := Tryz.prog) Tryz.underlying99 rfl Tryz.infoHead
  clear l0
  go_wp2
  refine bodyPost_ret (v := .tuple #[.agg (hdCs (readH lb)), .bool (((rdN lb 0 : Nat) : Int) == ((rdN lb 56 : Nat) : Int))]) ?_ rfl ⟨rfl, hBc⟩
  simp [results, Tryz.results49, Act.put, Sem.run_bind, Sem.run_pure, asAddr_ok, lv]
end Go.Proofs.YtnlhjhpikjmoaaaGreatDoor
namespace Go.Proofs.YtnlhjhpikjmoaaaGreatDoor
open Go.RowKit
set_option maxRecDepth 100000 in
set_option maxHeartbeats 6400000 in
theorem records_any {fl : Nat → Prop} {gl gd : Nat} {l : LogD} {w : World} (h : LogR fl w gl gd l) (hn : l.recs.length ≤ 1000000) :
    Calls Tryz.prog 53 #[.pointer (some ⟨gl, 0, none⟩)] w fun e w' => (∃ v, e = .returned v ∧ RSl rBs (fun b => w.heap.size ≤ b) w' v l.recs) ∧ Below w.heap.size w w' := by
  obtain ⟨vr, vp, h1, h2, h3, h4, h5, h6, h7, h8, h9, h10⟩ := h
  obtain ⟨c0, c1, c2, c3, c4, _⟩ := lg_cells h1
  have hrs : RSl rBs (fun _ => True) w vr l.recs := h2.rslP (show l.recs.length * 24 ≤ _ by omega) (fun _ _ _ => trivial) fun _ _ => trivial
  obtain ⟨A, c, rfl, _, _⟩ := hrs.form
  clear h2 h3 h6 h8 h9
  go_enter Tryz.func53, Tryz.ntmps53
  go_wp2
  go_loopw [3, 13] (fun v j wr => ∃ i : Nat, i ≤ l.recs.length ∧ j = .int .i64 (i : Int) ∧ Below w.heap.size w wr ∧ OwnL rBs (fun b => w.heap.size ≤ b) w.heap.size 25 wr v (l.recs.take i)) (fun _ j _ => l.recs.length - (intOf j).toNat)
  case atStart => exact ⟨0, by omega, rfl, Below.refl _ _, OwnL.nil_ _ _ _ _ _⟩
  case round =>
    obtain ⟨i, hi, rfl, hb, hown⟩ := hrel
    by_cases hlt : i < l.recs.length
    · have u0 : decide ((i : Int) < (l.recs.length : Int)) = true := decide_eq_true (by omega)
      obtain ⟨b9, off9, c9, cs9, hv9, _, ⟨v9, rfl, hr9⟩, hcell9⟩ := (hrs.below hb).at_ hlt
      simp only [Value.slice.injEq, true_and] at hv9
      obtain ⟨rfl, rfl⟩ := hv9
      obtain ⟨rc, hrc⟩ : ∃ rc, rc = l.recs[i] := ⟨_, rfl⟩
      rw [← hrc] at hr9
      have htk : l.recs.take (i + 1) = l.recs.take i ++ [rc] := by rw [List.take_succ_eq_append_getElem hlt, hrc]
      have HTK := Lib.hid htk
      obtain ⟨A9, d9, rfl, _, _⟩ := hr9.form
      have q0 : wr.cell? ⟨b9, off9 + i * 1, none⟩ = some (.slice A9 rc.length d9) := hcell9 0 _ rfl
      have q1 : wr.cell? ⟨b9, off9 + i, none⟩ = some (.slice A9 rc.length d9) := by simpa using q0
      have hlt2 : (l.recs.take i).length = i := by rw [List.length_take]; omega
      have HLT := Lib.hid hlt2
      have hzs : w.heap.size ≤ wr.heap.size := hb.size
      clear htk hrc hcell9 hlt2
      go_wp2_with fail
      refine (clone_rb _ rc _ hr9).mono ?_
      rintro e w2 ⟨⟨v2, rfl, hv2⟩, hb2⟩
      have hown2 := hown.below hb2
      have hlt12 := hown.lt
      have hB2 := hb.trans (hb2.mono hb.size)
      obtain ⟨A2, d2, rfl, _, _⟩ := hv2.form
      have hv2' : RB (fun b => w.heap.size ≤ b ∧ some b ≠ u3.ownBlock) w2 (.slice A2 rc.length d2) rc := hv2.mono (by decide) fun b hb' _ => ⟨by omega, fun e => by have := (hlt12 b e.symm).2; omega⟩
      have HL12 := Lib.hid hlt12
      clear hlt12
      go_upto_region 7 with (at_builtin; go_loud (refine wp_app1 (E := rBs) (okd := fun b => w.heap.size ≤ b) Tryz.rowBs (by decide) rfl _ _ rfl u3 (l.recs.take i) w2 #[.slice A2 rc.length d2] rc rfl hown2 rfl ⟨_, rfl, hv2'⟩ (by rw [HLT.out]; show (i + 1) * 24 ≤ _; omega) (by rw [HLT.out]; omega) hB2.size ?_); intro v' w5 hown5 hk5 hv5)
      have hbel := hown2.bel hk5 hB2.size
      go_wp2
      go_roundw
      case rel => exact ⟨i + 1, by omega, by go_num, hB2.trans (hbel.mono (Nat.le_refl _)), by rw [HTK.out]; exact hown5⟩
      case measure => simp [intOf]; omega
    · have u0 : decide ((i : Int) < (l.recs.length : Int)) = false := decide_eq_false (by omega)
      rw [List.take_of_length_le (by omega)] at hown
      have hfin : RSl rBs (fun b => w.heap.size ≤ b) wr u3 l.recs := hown.rsl (by decide) (show l.recs.length * 24 ≤ _ by omega) (fun b h => h) (fun b h => h)
      clear hown
      go_wp2
      go_ret
      exact ⟨⟨_, rfl, hfin⟩, hb⟩
end Go.Proofs.YtnlhjhpikjmoaaaGreatDoor
namespace Go.Proofs.YtnlhjhpikjmoaaaGreatDoor
open Go.RowKit
def syncL (l : LogD) (d : DskD) : LogD × DskD × Int :=
  if rdyE l d ≠ 0 then (rdy l d, d, 3) else if l.waits = false then (l, d, 0) else
  if d.flush.2 ≠ 0 then ({ l with dead := l.dead || d.flush.2 == 3 }, d.flush.1, d.flush.2) else ({ l with dead := l.dead || d.flush.2 == 3, waits := false }, d.flush.1, 0)
theorem LogR.setWaits {fl : Nat → Prop} {gl gd : Nat} {l : LogD} {w : World} (h : LogR fl w gl gd l) (x : Bool) : LogR fl (w.setCell ⟨gl, 8, none⟩ (.bool x)) gl gd { l with waits := x } := by
  obtain ⟨vr, vp, hb, h2, h3, h4, h5, h6, h7, h8, h9, h10⟩ := h
  have hkp : Kp (fun b => b ≠ gl) w (w.setCell ⟨gl, 8, none⟩ (.bool x)) := (Kp.refl _ _).setCell (fun _ h => h rfl) _
  exact ⟨vr, vp, hb.set_ 8 (.bool x), h2.kp hkp (fun b hb => hb.2.1) (fun b hb e => h4 (by rw [hb, e])), h3.kp hkp (fun _ h => h.elim) (fun b hb e => h5 (by rw [hb, e])), h4, h5, h6, h7, h8, h9, ⟨h10.turn, h10.first, h10.recs, h10.places, h10.placed, h10.end_, h10.used⟩⟩
theorem LogR.ftl {fl : Nat → Prop} {gl gd : Nat} {l : LogD} {w : World} (h : LogR fl w gl gd l) : fl gl := by
  obtain ⟨vr, vp, hb, h2, h3, h4, h5, h6, h7, _⟩ := h
  exact h7
theorem rdyE_or (l : LogD) (d : DskD) : rdyE l d = 3 ∨ (rdyE l d = 0 ∧ rdy l d = l) := by
  unfold rdyE rdy
  split
  · exact .inl rfl
  · exact .inr ⟨rfl, rfl⟩
set_option maxRecDepth 100000 in
set_option maxHeartbeats 3200000 in
theorem sync_any {fl fd : Nat → Prop} {gl gd : Nat} {l : LogD} {d : DskD} {w : World} (h : LogR fl w gl gd l) (hd : DiskR fd w gd d) (hdis : ∀ b, fd b → ¬ fl b) :
    Calls Tryz.prog 62 #[.pointer (some ⟨gl, 0, none⟩)] w fun e w' => e = .returned (.int .i64 (syncL l d).2.2) ∧ LogR fl w' gl gd (syncL l d).1 ∧ DiskR fd w' gd (syncL l d).2.1 ∧ Kp (fun b => ¬ fl b ∧ ¬ fd b) w w' := by
  have hfl := h.ftl
  have HR := Lib.hid (ready_any h hd)
  rcases rdyE_or l d with he | ⟨he, hrd⟩
  · have hs : syncL l d = (rdy l d, d, 3) := by unfold syncL; rw [if_pos (by rw [he]; decide)]
    rw [hs]
    rw [he] at HR
    clear hs he
    go_enter Tryz.func62, Tryz.ntmps62
    go_wp2_with fail
    refine HR.out.mono ?_
    rintro e w1 ⟨rfl, hL1, hK1⟩
    go_wp2
    go_ret
    exact ⟨rfl, hL1, hd.kp hK1 fun b hb e => hdis b hb (e ▸ hfl), hK1.mono fun b hb e => hb.1 (e ▸ hfl)⟩
  rw [he, hrd] at HR
  by_cases hw : l.waits = false
  · have hs : syncL l d = (l, d, 0) := by unfold syncL; rw [if_neg (by rw [he]; decide), if_pos hw]
    rw [hs]
    have HW := Lib.hid hw
    clear hs he hrd hw
    go_enter Tryz.func62, Tryz.ntmps62
    go_wp2_with fail
    refine HR.out.mono ?_
    rintro e w1 ⟨rfl, hL1, hK1⟩
    have hL := hL1
    obtain ⟨vr, vp, hb, _⟩ := hL1
    have c8 : w1.cell? ⟨gl, 8, none⟩ = some (.bool false) := by rw [← HW.out]; exact hb.cell 8
    clear hb
    go_wp2
    go_ret
    exact ⟨rfl, hL, hd.kp hK1 fun b hb e => hdis b hb (e ▸ hfl), hK1.mono fun b hb e => hb.1 (e ▸ hfl)⟩
  have hwt : l.waits = true := by simpa using hw
  obtain ⟨f, hf⟩ : ∃ f, f = d.flush := ⟨_, rfl⟩
  have hs : syncL l d = if f.2 ≠ 0 then ({ l with dead := l.dead || f.2 == 3 }, f.1, f.2) else ({ l with dead := l.dead || f.2 == 3, waits := false }, f.1, 0) := by
    unfold syncL
    rw [if_neg (by rw [he]; decide), if_neg hw, ← hf]
  rw [hs]
  have HW := Lib.hid hwt
  have HFl := Lib.hid (fun (w1 : World) (h1 : DiskR fd w1 gd d) => dFlush_any h1)
  rw [← hf] at HFl
  obtain ⟨d1, E⟩ := f
  simp only at HFl ⊢
  clear hs he hrd hw hwt hf
  by_cases hE : E = 0
  · subst hE
    rw [if_neg (by decide)]
    go_enter Tryz.func62, Tryz.ntmps62
    go_wp2_with fail
    refine HR.out.mono ?_
    rintro e w1 ⟨rfl, hL1, hK1⟩
    have hd1 := hd.kp hK1 fun b hb e => hdis b hb (e ▸ hfl)
    have hL := hL1
    obtain ⟨vr, vp, hb, _⟩ := hL1
    have c8 : w1.cell? ⟨gl, 8, none⟩ = some (.bool true) := by rw [← HW.out]; exact hb.cell 8
    have c0 : w1.cell? ⟨gl, 0, none⟩ = some (.pointer (some ⟨gd, 0, none⟩)) := hb.cell 0
    clear hb
    go_wp2_with fail
    refine (HFl.out _ hd1).mono ?_
    rintro e w2 ⟨rfl, hd2, hK2⟩
    have hL2 := hL.kp hK2 fun b hb e => hdis b e hb
    clear c8 c0
    go_wp2_with fail
    refine (met_any hL2 0).mono ?_
    rintro e w3 ⟨rfl, hL3, hK3⟩
    have hd3 := hd2.kp hK3 fun b hb e => hdis b hb (e ▸ hfl)
    have hL4 := hL3.setWaits false
    have hK4 : Kp (fun b => b ≠ gl) w3 (w3.setCell ⟨gl, 8, none⟩ (.bool false)) := (Kp.refl _ _).setCell (fun _ h => h rfl) _
    have hKz : Kp (fun b => ¬ fl b ∧ ¬ fd b) w (w3.setCell ⟨gl, 8, none⟩ (.bool false)) := (((hK1.mono fun b hb e => hb.1 (e ▸ hfl)).trans (hK2.mono fun b hb => hb.2)).trans (hK3.mono fun b hb e => hb.1 (e ▸ hfl))).trans (hK4.mono fun b hb e => hb.1 (e ▸ hfl))
    have hd4 := hd3.kp hK4 fun b hb e => hdis b hb (e ▸ hfl)
    obtain ⟨vr3, vp3, hb3, _⟩ := hL3
    have fg := fun i => hb3.frozen i
    have c83 : w3.cell? ⟨gl, 8, none⟩ = some (.bool l.waits) := hb3.cell 8
    clear hb3
    go_wp2
    go_ret
    exact ⟨rfl, hL4, hd4, hKz⟩
  · rw [if_pos hE]
    have t1 : (E == 0) = false := by simpa using hE
    have t2 : decide (E = 0) = false := decide_eq_false hE
    go_enter Tryz.func62, Tryz.ntmps62
    go_wp2_with fail
    refine HR.out.mono ?_
    rintro e w1 ⟨rfl, hL1, hK1⟩
    have hd1 := hd.kp hK1 fun b hb e => hdis b hb (e ▸ hfl)
    have hL := hL1
    obtain ⟨vr, vp, hb, _⟩ := hL1
    have c8 : w1.cell? ⟨gl, 8, none⟩ = some (.bool true) := by rw [← HW.out]; exact hb.cell 8
    have c0 : w1.cell? ⟨gl, 0, none⟩ = some (.pointer (some ⟨gd, 0, none⟩)) := hb.cell 0
    clear hb
    go_wp2_with fail
    refine (HFl.out _ hd1).mono ?_
    rintro e w2 ⟨rfl, hd2, hK2⟩
    have hL2 := hL.kp hK2 fun b hb e => hdis b e hb
    clear c8 c0
    go_wp2_with fail
    refine (met_any hL2 E).mono ?_
    rintro e w3 ⟨rfl, hL3, hK3⟩
    have hd3 := hd2.kp hK3 fun b hb e => hdis b hb (e ▸ hfl)
    have hKz : Kp (fun b => ¬ fl b ∧ ¬ fd b) w w3 := ((hK1.mono fun b hb e => hb.1 (e ▸ hfl)).trans (hK2.mono fun b hb => hb.2)).trans (hK3.mono fun b hb e => hb.1 (e ▸ hfl))
    go_wp2
    go_ret
    exact ⟨rfl, hL3, hd3, hKz⟩
end Go.Proofs.YtnlhjhpikjmoaaaGreatDoor
