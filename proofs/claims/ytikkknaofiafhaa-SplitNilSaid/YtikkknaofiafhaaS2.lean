/- Contract: split.own. -/
import Derived.Test.YtikkknaofiafhaaS1
import Derived.Test.YtikkknaofiafhaaCmd
import Derived.Deep.RegionHeld3
import Derived.Deep.DrawnRows
import Derived.Deep.DeepCutAuto
namespace Go.Proofs.Ytikkknaofiafhaa
open Go.RowKit

theorem cmd_set7 (kind n : Int) (flag : Bool) (key fr ut pairs v : Value) : (cmdCs kind n flag key fr ut pairs).setIfInBounds 7 v = cmdCs kind n flag v fr ut pairs := by simp [cmdCs]
theorem cmd_set8 (kind n : Int) (flag : Bool) (key fr ut pairs v : Value) : (cmdCs kind n flag key fr ut pairs).setIfInBounds 8 v = cmdCs kind n flag key v ut pairs := by simp [cmdCs]
theorem cmd_set9 (kind n : Int) (flag : Bool) (key fr ut pairs v : Value) : (cmdCs kind n flag key fr ut pairs).setIfInBounds 9 v = cmdCs kind n flag key fr v pairs := by simp [cmdCs]
theorem cmd_set10 (kind n : Int) (flag : Bool) (key fr ut pairs v : Value) : (cmdCs kind n flag key fr ut pairs).setIfInBounds 10 v = cmdCs kind n flag key fr ut v := by simp [cmdCs]
abbrev nl : Value := .slice none 0 0
theorem Try.infoCmd : (Try.prog.info? 60).map (·.size) = some 25 := by kernel_rfl

set_option maxRecDepth 100000 in
set_option maxHeartbeats 3200000 in
theorem own_any {ok : Nat → Prop} (key fr ut pairs : Value) (d : CmdD) (w : World) (hr : CmdR ok w key fr ut pairs d) :
    Calls Try.prog 74 #[.agg (cmdCs d.kind d.n d.flag key fr ut pairs)] w fun e w' => (∃ key' fr' ut' pairs', e = .returned (.agg (cmdCs d.kind d.n d.flag key' fr' ut' pairs')) ∧ CmdR (fun b => w.heap.size ≤ b) w' key' fr' ut' pairs' d) ∧ Below w.heap.size w w' := by
  obtain ⟨A1, c1, rfl, _, _⟩ := hr.key.form
  obtain ⟨A2, c2, rfl, _, _⟩ := hr.fr.form
  obtain ⟨A3, c3, rfl, _, _⟩ := hr.upto.form
  obtain ⟨A4, c4, rfl, _, _⟩ := hr.pairs.form
  go_enter Try.func74, Try.ntmps74
  go_upto_region 1 with fail
  go_cut [] (fun wx => ∃ B1 d1 B2 d2, Below w.heap.size w wx ∧ Blk wx w.heap.size 60 (cmdCs d.kind d.n d.flag (.slice B1 d.key.length d1) (.slice A2 d.from_.length c2) (.slice A3 d.upto.length c3) (.slice B2 d.pairs.length d2)) ∧
    Blk wx (w.heap.size + 1) 60 (cmdCs 0 0 false nl nl nl nl) ∧ RB (fun b => w.heap.size + 2 ≤ b) wx (.slice B1 d.key.length d1) d.key ∧ RSl rPair (fun b => w.heap.size + 2 ≤ b) wx (.slice B2 d.pairs.length d2) d.pairs)
  case first =>
    refine name_world (fun w1 => Below w.heap.size w w1 ∧ w.heap.size + 2 ≤ w1.heap.size ∧ Blk w1 w.heap.size 60 (cmdCs d.kind d.n d.flag (.slice A1 d.key.length c1) (.slice A2 d.from_.length c2) (.slice A3 d.upto.length c3) (.slice A4 d.pairs.length c4)) ∧ Blk w1 (w.heap.size + 1) 60 (cmdCs 0 0 false nl nl nl nl))
      ⟨((Below.refl _ _).alloc (Nat.le_refl _) _).alloc (by simp) _, by simp, (Blk.new w _ _).alloc _, Blk.new_ (by simp)⟩ ?_
    rintro w1 ⟨hb1, hz1, k1, k2⟩
    have r1 := hr.below hb1
    have q7 : w1.cell? ⟨w.heap.size, 7, none⟩ = some (.slice A1 d.key.length c1) := k1.cell 7
    have q10 : w1.cell? ⟨w.heap.size, 10, none⟩ = some (.slice A4 d.pairs.length c4) := k1.cell 10
    go_region_with (first
      | (go_at_call 64
         refine (clone_rb _ d.key _ (r1.key.below (by first | exact (Below.refl _ _).drew | exact Below.refl _ _))).mono ?_
         rintro e w2 ⟨⟨x1, rfl, hx1⟩, hb2⟩
         obtain ⟨B1, d1, rfl, _, _⟩ := hx1.form
         have k1' := Blk.below (w := w1.drew) k1 hb2 (show w.heap.size < w1.heap.size by omega)
         have k2' := Blk.below (w := w1.drew) k2 hb2 (show w.heap.size + 1 < w1.heap.size by omega)
         have q7' : w2.cell? ⟨w.heap.size, 7, none⟩ = some (.slice A1 d.key.length c1) := k1'.cell 7
         have q10' : w2.cell? ⟨w.heap.size, 10, none⟩ = some (.slice A4 d.pairs.length c4) := k1'.cell 10)
      | (go_at_call 125
         refine (pairs_any _ d.pairs _ ((r1.pairs.below (Below.refl _ _).drew).below hb2)).mono ?_
         rintro e w3 ⟨⟨x2, rfl, hx2⟩, hb3⟩
         obtain ⟨B2, d2, rfl, _, _⟩ := hx2.form
         have k1'' := k1'.below hb3 k1'.lt
         have k2'' := k2'.below hb3 k2'.lt
         have q7'' : w3.cell? ⟨w.heap.size, 7, none⟩ = some (.slice A1 d.key.length c1) := k1''.cell 7
         have q10'' : w3.cell? ⟨w.heap.size, 10, none⟩ = some (.slice A4 d.pairs.length c4) := k1''.cell 10
         have f1'' := fun i => k1''.frozen i))
    all_goals
      clear f1''
      go_wp2_with fail
      go_meet
      have hz2 : w1.heap.size ≤ w2.heap.size := hb2.size
      have hbx : Below w.heap.size w w3 := hb1.trans (((Below.refl _ _).drew (w := w1)).trans (hb2.mono (by show w.heap.size ≤ w1.heap.size; omega))|>.trans (hb3.mono (by omega)))
      have hkx : Kp (fun b => w.heap.size + 2 ≤ b) w3 ((w3.setCell ⟨w.heap.size, 7, none⟩ (.slice B1 d.key.length d1)).setCell ⟨w.heap.size, 10, none⟩ (.slice B2 d.pairs.length d2)) :=
        ((Kp.refl _ _).setCell (fun _ h => by have : w.heap.size + 2 ≤ w.heap.size := h; omega) _).setCell (fun _ h => by have : w.heap.size + 2 ≤ w.heap.size := h; omega) _
      refine ⟨B1, d1, B2, d2, (hbx.setCell (Nat.le_refl _) _).setCell (Nat.le_refl _) _, ?_, ?_, ?_, ?_⟩
      · have := (k1''.set_ 7 (.slice B1 d.key.length d1)).set_ 10 (.slice B2 d.pairs.length d2)
        rwa [cmd_set7, cmd_set10] at this
      · exact (k2''.far (by simp) _).far (by simp) _
      · exact ((hx1.below hb3).mono (by decide) (fun b hb _ => by have : w1.heap.size ≤ b := hb; omega)).kp hkx
      · exact (hx2.mono (by decide) (fun b hb _ => by have : w2.heap.size ≤ b := hb; omega)).kp hkx
  case rest =>
    obtain ⟨B1, d1, B2, d2, hb1, k1, k2, hx1, hx2⟩ := hcut
    go_upto_region 2 with fail
    go_cut [] (fun wx => ∃ B3 d3 B4 d4, Below w.heap.size w wx ∧ Blk wx w.heap.size 60 (cmdCs d.kind d.n d.flag (.slice B1 d.key.length d1) (.slice B3 d.from_.length d3) (.slice B4 d.upto.length d4) (.slice B2 d.pairs.length d2)) ∧
      Blk wx (w.heap.size + 1) 60 (cmdCs 0 0 false nl nl nl nl) ∧ RB (fun b => w.heap.size + 2 ≤ b) wx (.slice B1 d.key.length d1) d.key ∧ RSl rPair (fun b => w.heap.size + 2 ≤ b) wx (.slice B2 d.pairs.length d2) d.pairs ∧
      RB (fun b => w.heap.size + 2 ≤ b) wx (.slice B3 d.from_.length d3) d.from_ ∧ RB (fun b => w.heap.size + 2 ≤ b) wx (.slice B4 d.upto.length d4) d.upto)
    case first =>
      obtain ⟨w1, rfl⟩ : ∃ w1, w1 = wc := ⟨_, rfl⟩
      have r1 := hr.below hb1
      have hz1 : w.heap.size + 2 ≤ w1.heap.size := k2.lt
      have q8 : w1.cell? ⟨w.heap.size, 8, none⟩ = some (.slice A2 d.from_.length c2) := k1.cell 8
      have q9 : w1.cell? ⟨w.heap.size, 9, none⟩ = some (.slice A3 d.upto.length c3) := k1.cell 9
      go_region_with (first
        | (go_at_call_of 64 (Value.slice A2 d.from_.length c2)
           refine (clone_rb _ d.from_ _ (r1.fr.below (by first | exact (Below.refl _ _).drew | exact Below.refl _ _))).mono ?_
           rintro e w2 ⟨⟨x1, rfl, hx3⟩, hb2⟩
           obtain ⟨B3, d3, rfl, _, _⟩ := hx3.form
           have k1' := Blk.below (w := w1.drew) k1 hb2 (show w.heap.size < w1.heap.size by omega)
           have k2' := Blk.below (w := w1.drew) k2 hb2 (show w.heap.size + 1 < w1.heap.size by omega)
           have q8' : w2.cell? ⟨w.heap.size, 8, none⟩ = some (.slice A2 d.from_.length c2) := k1'.cell 8
           have q9' : w2.cell? ⟨w.heap.size, 9, none⟩ = some (.slice A3 d.upto.length c3) := k1'.cell 9)
        | (go_at_call_of 64 (Value.slice A3 d.upto.length c3)
           refine (clone_rb _ d.upto _ ((r1.upto.below (Below.refl _ _).drew).below hb2)).mono ?_
           rintro e w3 ⟨⟨x2, rfl, hx4⟩, hb3⟩
           obtain ⟨B4, d4, rfl, _, _⟩ := hx4.form
           have k1'' := k1'.below hb3 k1'.lt
           have k2'' := k2'.below hb3 k2'.lt
           have q8'' : w3.cell? ⟨w.heap.size, 8, none⟩ = some (.slice A2 d.from_.length c2) := k1''.cell 8
           have q9'' : w3.cell? ⟨w.heap.size, 9, none⟩ = some (.slice A3 d.upto.length c3) := k1''.cell 9
           have f1'' := fun i => k1''.frozen i))
      all_goals
        clear f1''
        go_wp2_with fail
        go_meet
        have hz2 : w1.heap.size ≤ w2.heap.size := hb2.size
        have hbx : Below w1.heap.size w1 w3 := (((Below.refl _ _).drew (w := w1)).trans hb2).trans (hb3.mono hz2)
        have hkx : Kp (fun b => w.heap.size + 2 ≤ b) w3 ((w3.setCell ⟨w.heap.size, 8, none⟩ (.slice B3 d.from_.length d3)).setCell ⟨w.heap.size, 9, none⟩ (.slice B4 d.upto.length d4)) :=
          ((Kp.refl _ _).setCell (fun _ h => by have : w.heap.size + 2 ≤ w.heap.size := h; omega) _).setCell (fun _ h => by have : w.heap.size + 2 ≤ w.heap.size := h; omega) _
        refine ⟨B3, d3, B4, d4, ((hb1.trans (hbx.mono (by omega))).setCell (Nat.le_refl _) _).setCell (Nat.le_refl _) _, ?_, ?_, ?_, ?_, ?_, ?_⟩
        · have := (k1''.set_ 8 (.slice B3 d.from_.length d3)).set_ 9 (.slice B4 d.upto.length d4)
          rwa [cmd_set8, cmd_set9] at this
        · exact (k2''.far (by simp) _).far (by simp) _
        · exact (hx1.below hbx).kp hkx
        · exact (hx2.below hbx).kp hkx
        · exact ((hx3.below hb3).mono (by decide) (fun b hb _ => by have : w1.heap.size ≤ b := hb; omega)).kp hkx
        · exact (hx4.mono (by decide) (fun b hb _ => by have : w2.heap.size ≤ b := hb; omega)).kp hkx
    case rest =>
      clear hx1 hx2 hb1 k1 k2
      obtain ⟨B3, d3, B4, d4, hb1, k1, k2, g1, g2, g3, g4⟩ := hcut
      go_upto_region 3 with fail
      refine wp_region_list ?_
      refine wpList_loadB rfl rfl rfl k1 Try.underlying60 rfl Try.infoCmd ?_
      refine wpList_storeB rfl rfl (cmdCs d.kind d.n d.flag (.slice B1 d.key.length d1) (.slice B3 d.from_.length d3) (.slice B4 d.upto.length d4) (.slice B2 d.pairs.length d2)) rfl rfl k2 rfl Try.infoCmd (cmdCs_one rfl rfl rfl rfl) ?_
      intro k3
      have lv := k3.loadVar (P := Try.prog) Try.underlying60 rfl Try.infoCmd
      clear k1 k2
      go_wp2
      have hk3 := Kp.setCells (ok := fun b => w.heap.size + 2 ≤ b) (a := wc) (b := w.heap.size + 1) (fun _ h => by have : w.heap.size + 2 ≤ w.heap.size + 1 := h; omega) (cmdCs d.kind d.n d.flag (.slice B1 d.key.length d1) (.slice B3 d.from_.length d3) (.slice B4 d.upto.length d4) (.slice B2 d.pairs.length d2)).toList 0 (Kp.refl _ _)
      refine bodyPost_ret (v := .agg (cmdCs d.kind d.n d.flag (.slice B1 d.key.length d1) (.slice B3 d.from_.length d3) (.slice B4 d.upto.length d4) (.slice B2 d.pairs.length d2))) ?_ rfl ?_
      · simp [results, Try.results74, lv, Act.put, Sem.run_bind, Sem.run_pure]
        rw [asAddr_ok, Result.andThen_ok]
        exact lv
      · exact ⟨⟨_, _, _, _, rfl, (CmdR.kp hk3 ⟨g1, g3, g4, g2⟩).mono fun b hb _ => by omega⟩, below_setCells (by omega) _ _ hb1⟩
end Go.Proofs.Ytikkknaofiafhaa
