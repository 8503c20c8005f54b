/- Contract: split.own.
Contracts: the document's at and route.place, route.Next.
Contracts: what law 22's awake reaches of the document's routes: New, copied, span, Within, Cut.
Contract: the document's copied.
Contract: the document's span.
Contract: same.Within. -/
import Derived.Test.YtikkknaofiafhaaS0
import Derived.Test.YtikkknaofiafhaaCmd
import Derived.Deep.RegionHeld3
import Derived.Deep.DrawnRows
import Derived.Deep.DeepCutAuto
import Derived.Test.YtikkknaofiafhaaR3
import Derived.Test.YtikkknaofiafhaaRegE
namespace Go.Proofs.Ytikkknaofiafhaa
open Go.RowKit

theorem cmd_set7 (kind n : Int) (flag : Bool) (key fr ut pairs v : Value) : (cmdCs kind n flag key fr ut pairs).setIfInBounds 7 v = cmdCs kind n flag v fr ut pairs := by simp [cmdCs]
theorem cmd_set8 (kind n : Int) (flag : Bool) (key fr ut pairs v : Value) : (cmdCs kind n flag key fr ut pairs).setIfInBounds 8 v = cmdCs kind n flag key v ut pairs := by simp [cmdCs]
theorem cmd_set9 (kind n : Int) (flag : Bool) (key fr ut pairs v : Value) : (cmdCs kind n flag key fr ut pairs).setIfInBounds 9 v = cmdCs kind n flag key fr v pairs := by simp [cmdCs]
theorem cmd_set10 (kind n : Int) (flag : Bool) (key fr ut pairs v : Value) : (cmdCs kind n flag key fr ut pairs).setIfInBounds 10 v = cmdCs kind n flag key fr ut v := by simp [cmdCs]
abbrev nl : Value := .slice none 0 0
theorem Try.infoCmd : (Try.prog.info? 60).map (·.size) = some 25 := by kernel_rfl

set_option maxRecDepth 100000 in
set_option maxHeartbeats 3200000 in
theorem own_any {ok : Nat → Prop} (key fr ut pairs : Value) (d : CmdD) (w : World) (hr : CmdR ok w key fr ut pairs d) :
    Calls Try.prog 74 #[.agg (cmdCs d.kind d.n d.flag key fr ut pairs)] w fun e w' => (∃ key' fr' ut' pairs', e = .returned (.agg (cmdCs d.kind d.n d.flag key' fr' ut' pairs')) ∧ CmdR (fun b => w.heap.size ≤ b) w' key' fr' ut' pairs' d) ∧ Below w.heap.size w w' := by
  obtain ⟨A1, c1, rfl, _, _⟩ := hr.key.form
  obtain ⟨A2, c2, rfl, _, _⟩ := hr.fr.form
  obtain ⟨A3, c3, rfl, _, _⟩ := hr.upto.form
  obtain ⟨A4, c4, rfl, _, _⟩ := hr.pairs.form
  go_enter Try.func74, Try.ntmps74
  go_upto_region 1 with fail
  go_cut [] (fun wx => ∃ B1 d1 B2 d2, Below w.heap.size w wx ∧ Blk wx w.heap.size 60 (cmdCs d.kind d.n d.flag (.slice B1 d.key.length d1) (.slice A2 d.from_.length c2) (.slice A3 d.upto.length c3) (.slice B2 d.pairs.length d2)) ∧
    Blk wx (w.heap.size + 1) 60 (cmdCs 0 0 false nl nl nl nl) ∧ RB (fun b => w.heap.size + 2 ≤ b) wx (.slice B1 d.key.length d1) d.key ∧ RSl rPair (fun b => w.heap.size + 2 ≤ b) wx (.slice B2 d.pairs.length d2) d.pairs)
  case first =>
    refine name_world (fun w1 => Below w.heap.size w w1 ∧ w.heap.size + 2 ≤ w1.heap.size ∧ Blk w1 w.heap.size 60 (cmdCs d.kind d.n d.flag (.slice A1 d.key.length c1) (.slice A2 d.from_.length c2) (.slice A3 d.upto.length c3) (.slice A4 d.pairs.length c4)) ∧ Blk w1 (w.heap.size + 1) 60 (cmdCs 0 0 false nl nl nl nl))
      ⟨((Below.refl _ _).alloc (Nat.le_refl _) _).alloc (by simp) _, by simp, (Blk.new w _ _).alloc _, Blk.new_ (by simp)⟩ ?_
    rintro w1 ⟨hb1, hz1, k1, k2⟩
    have r1 := hr.below hb1
    have q7 : w1.cell? ⟨w.heap.size, 7, none⟩ = some (.slice A1 d.key.length c1) := k1.cell 7
    have q10 : w1.cell? ⟨w.heap.size, 10, none⟩ = some (.slice A4 d.pairs.length c4) := k1.cell 10
    go_region_with (first
      | (go_at_call 64
         refine (clone_rb _ d.key _ (r1.key.below (by first | exact (Below.refl _ _).drew | exact Below.refl _ _))).mono ?_
         rintro e w2 ⟨⟨x1, rfl, hx1⟩, hb2⟩
         obtain ⟨B1, d1, rfl, _, _⟩ := hx1.form
         have k1' := Blk.below (w := w1.drew) k1 hb2 (show w.heap.size < w1.heap.size by omega)
         have k2' := Blk.below (w := w1.drew) k2 hb2 (show w.heap.size + 1 < w1.heap.size by omega)
         have q7' : w2.cell? ⟨w.heap.size, 7, none⟩ = some (.slice A1 d.key.length c1) := k1'.cell 7
         have q10' : w2.cell? ⟨w.heap.size, 10, none⟩ = some (.slice A4 d.pairs.length c4) := k1'.cell 10)
      | (go_at_call 125
         refine (pairs_any _ d.pairs _ ((r1.pairs.below (Below.refl _ _).drew).below hb2)).mono ?_
         rintro e w3 ⟨⟨x2, rfl, hx2⟩, hb3⟩
         obtain ⟨B2, d2, rfl, _, _⟩ := hx2.form
         have k1'' := k1'.below hb3 k1'.lt
         have k2'' := k2'.below hb3 k2'.lt
         have q7'' : w3.cell? ⟨w.heap.size, 7, none⟩ = some (.slice A1 d.key.length c1) := k1''.cell 7
         have q10'' : w3.cell? ⟨w.heap.size, 10, none⟩ = some (.slice A4 d.pairs.length c4) := k1''.cell 10
         have f1'' := fun i => k1''.frozen i))
    all_goals
      clear f1''
      go_wp2_with fail
      go_meet
      have hz2 : w1.heap.size ≤ w2.heap.size := hb2.size
      have hbx : Below w.heap.size w w3 := hb1.trans (((Below.refl _ _).drew (w := w1)).trans (hb2.mono (by show w.heap.size ≤ w1.heap.size; omega))|>.trans (hb3.mono (by omega)))
      have hkx : Kp (fun b => w.heap.size + 2 ≤ b) w3 ((w3.setCell ⟨w.heap.size, 7, none⟩ (.slice B1 d.key.length d1)).setCell ⟨w.heap.size, 10, none⟩ (.slice B2 d.pairs.length d2)) :=
        ((Kp.refl _ _).setCell (fun _ h => by have : w.heap.size + 2 ≤ w.heap.size := h; omega) _).setCell (fun _ h => by have : w.heap.size + 2 ≤ w.heap.size := h; omega) _
      refine ⟨B1, d1, B2, d2, (hbx.setCell (Nat.le_refl _) _).setCell (Nat.le_refl _) _, ?_, ?_, ?_, ?_⟩
      · have := (k1''.set_ 7 (.slice B1 d.key.length d1)).set_ 10 (.slice B2 d.pairs.length d2)
        rwa [cmd_set7, cmd_set10] at this
      · exact (k2''.far (by simp) _).far (by simp) _
      · exact ((hx1.below hb3).mono (by decide) (fun b hb _ => by have : w1.heap.size ≤ b := hb; omega)).kp hkx
      · exact (hx2.mono (by decide) (fun b hb _ => by have : w2.heap.size ≤ b := hb; omega)).kp hkx
  case rest =>
    obtain ⟨B1, d1, B2, d2, hb1, k1, k2, hx1, hx2⟩ := hcut
    go_upto_region 2 with fail
    go_cut [] (fun wx => ∃ B3 d3 B4 d4, Below w.heap.size w wx ∧ Blk wx w.heap.size 60 (cmdCs d.kind d.n d.flag (.slice B1 d.key.length d1) (.slice B3 d.from_.length d3) (.slice B4 d.upto.length d4) (.slice B2 d.pairs.length d2)) ∧
      Blk wx (w.heap.size + 1) 60 (cmdCs 0 0 false nl nl nl nl) ∧ RB (fun b => w.heap.size + 2 ≤ b) wx (.slice B1 d.key.length d1) d.key ∧ RSl rPair (fun b => w.heap.size + 2 ≤ b) wx (.slice B2 d.pairs.length d2) d.pairs ∧
      RB (fun b => w.heap.size + 2 ≤ b) wx (.slice B3 d.from_.length d3) d.from_ ∧ RB (fun b => w.heap.size + 2 ≤ b) wx (.slice B4 d.upto.length d4) d.upto)
    case first =>
      obtain ⟨w1, rfl⟩ : ∃ w1, w1 = wc := ⟨_, rfl⟩
      have r1 := hr.below hb1
      have hz1 : w.heap.size + 2 ≤ w1.heap.size := k2.lt
      have q8 : w1.cell? ⟨w.heap.size, 8, none⟩ = some (.slice A2 d.from_.length c2) := k1.cell 8
      have q9 : w1.cell? ⟨w.heap.size, 9, none⟩ = some (.slice A3 d.upto.length c3) := k1.cell 9
      go_region_with (first
        | (go_at_call_of 64 (Value.slice A2 d.from_.length c2)
           refine (clone_rb _ d.from_ _ (r1.fr.below (by first | exact (Below.refl _ _).drew | exact Below.refl _ _))).mono ?_
           rintro e w2 ⟨⟨x1, rfl, hx3⟩, hb2⟩
           obtain ⟨B3, d3, rfl, _, _⟩ := hx3.form
           have k1' := Blk.below (w := w1.drew) k1 hb2 (show w.heap.size < w1.heap.size by omega)
           have k2' := Blk.below (w := w1.drew) k2 hb2 (show w.heap.size + 1 < w1.heap.size by omega)
           have q8' : w2.cell? ⟨w.heap.size, 8, none⟩ = some (.slice A2 d.from_.length c2) := k1'.cell 8
           have q9' : w2.cell? ⟨w.heap.size, 9, none⟩ = some (.slice A3 d.upto.length c3) := k1'.cell 9)
        | (go_at_call_of 64 (Value.slice A3 d.upto.length c3)
           refine (clone_rb _ d.upto _ ((r1.upto.below (Below.refl _ _).drew).below hb2)).mono ?_
           rintro e w3 ⟨⟨x2, rfl, hx4⟩, hb3⟩
           obtain ⟨B4, d4, rfl, _, _⟩ := hx4.form
           have k1'' := k1'.below hb3 k1'.lt
           have k2'' := k2'.below hb3 k2'.lt
           have q8'' : w3.cell? ⟨w.heap.size, 8, none⟩ = some (.slice A2 d.from_.length c2) := k1''.cell 8
           have q9'' : w3.cell? ⟨w.heap.size, 9, none⟩ = some (.slice A3 d.upto.length c3) := k1''.cell 9
           have f1'' := fun i => k1''.frozen i))
      all_goals
        clear f1''
        go_wp2_with fail
        go_meet
        have hz2 : w1.heap.size ≤ w2.heap.size := hb2.size
        have hbx : Below w1.heap.size w1 w3 := (((Below.refl _ _).drew (w := w1)).trans hb2).trans (hb3.mono hz2)
        have hkx : Kp (fun b => w.heap.size + 2 ≤ b) w3 ((w3.setCell ⟨w.heap.size, 8, none⟩ (.slice B3 d.from_.length d3)).setCell ⟨w.heap.size, 9, none⟩ (.slice B4 d.upto.length d4)) :=
          ((Kp.refl _ _).setCell (fun _ h => by have : w.heap.size + 2 ≤ w.heap.size := h; omega) _).setCell (fun _ h => by have : w.heap.size + 2 ≤ w.heap.size := h; omega) _
        refine ⟨B3, d3, B4, d4, ((hb1.trans (hbx.mono (by omega))).setCell (Nat.le_refl _) _).setCell (Nat.le_refl _) _, ?_, ?_, ?_, ?_, ?_, ?_⟩
        · have := (k1''.set_ 8 (.slice B3 d.from_.length d3)).set_ 9 (.slice B4 d.upto.length d4)
          rwa [cmd_set8, cmd_set9] at this
        · exact (k2''.far (by simp) _).far (by simp) _
        · exact (hx1.below hbx).kp hkx
        · exact (hx2.below hbx).kp hkx
        · exact ((hx3.below hb3).mono (by decide) (fun b hb _ => by have : w1.heap.size ≤ b := hb; omega)).kp hkx
        · exact (hx4.mono (by decide) (fun b hb _ => by have : w2.heap.size ≤ b := hb; omega)).kp hkx
    case rest =>
      clear hx1 hx2 hb1 k1 k2
      obtain ⟨B3, d3, B4, d4, hb1, k1, k2, g1, g2, g3, g4⟩ := hcut
      go_upto_region 3 with fail
      refine wp_region_list ?_
      refine wpList_loadB rfl rfl rfl k1 Try.underlying60 rfl Try.infoCmd ?_
      refine wpList_storeB rfl rfl (cmdCs d.kind d.n d.flag (.slice B1 d.key.length d1) (.slice B3 d.from_.length d3) (.slice B4 d.upto.length d4) (.slice B2 d.pairs.length d2)) rfl rfl k2 rfl Try.infoCmd (cmdCs_one rfl rfl rfl rfl) ?_
      intro k3
      have lv := k3.loadVar (P := Try.prog) Try.underlying60 rfl Try.infoCmd
      clear k1 k2
      go_wp2
      have hk3 := Kp.setCells (ok := fun b => w.heap.size + 2 ≤ b) (a := wc) (b := w.heap.size + 1) (fun _ h => by have : w.heap.size + 2 ≤ w.heap.size + 1 := h; omega) (cmdCs d.kind d.n d.flag (.slice B1 d.key.length d1) (.slice B3 d.from_.length d3) (.slice B4 d.upto.length d4) (.slice B2 d.pairs.length d2)).toList 0 (Kp.refl _ _)
      refine bodyPost_ret (v := .agg (cmdCs d.kind d.n d.flag (.slice B1 d.key.length d1) (.slice B3 d.from_.length d3) (.slice B4 d.upto.length d4) (.slice B2 d.pairs.length d2))) ?_ rfl ?_
      · simp [results, Try.results74, lv, Act.put, Sem.run_bind, Sem.run_pure]
        rw [asAddr_ok, Result.andThen_ok]
        exact lv
      · exact ⟨⟨_, _, _, _, rfl, (CmdR.kp hk3 ⟨g1, g3, g4, g2⟩).mono fun b hb _ => by omega⟩, below_setCells (by omega) _ _ hb1⟩
end Go.Proofs.Ytikkknaofiafhaa

namespace Go.Proofs.Ytikkknaofiafhaa
open Go.RowKit

def routeCs (d : RouteD) (a c : Value) : Array Value := #[.int .i64 d.e, .int .i64 d.b, a, .int .i64 d.m, c]
structure RouteR (ok : Nat → Prop) (w : World) (a c : Value) (d : RouteD) : Prop where
  s : RSl rOwner ok w a d.s
  c : RB ok w c d.c
  e : I64 d.e
  b : I64 d.b
  m : I64 d.m
section
variable {ok ok' : Nat → Prop} {w w' : World} {a c : Value} {d : RouteD}
theorem RouteR.below (h : RouteR ok w a c d) (hb : Below w.heap.size w w') : RouteR ok w' a c d := ⟨h.s.below hb, h.c.below hb, h.e, h.b, h.m⟩
theorem RouteR.kp (hk : Kp ok w w') (h : RouteR ok w a c d) : RouteR ok w' a c d := ⟨h.s.kp hk, h.c.kp hk, h.e, h.b, h.m⟩
theorem RouteR.mono (hm : ∀ b, ok b → b < w.heap.size → ok' b) (h : RouteR ok w a c d) : RouteR ok' w a c d := ⟨h.s.mono (by decide) hm, h.c.mono (by decide) hm, h.e, h.b, h.m⟩
end
theorem route_cells {w : World} {g : Nat} {T : TypeId} {d : RouteD} {a c : Value} (h : Blk w g T (routeCs d a c)) : w.cell? ⟨g, 0, none⟩ = some (.int .i64 d.e) ∧ w.cell? ⟨g, 1, none⟩ = some (.int .i64 d.b) ∧ w.cell? ⟨g, 2, none⟩ = some a ∧ w.cell? ⟨g, 3, none⟩ = some (.int .i64 d.m) ∧ w.cell? ⟨g, 4, none⟩ = some c := ⟨h.cell 0, h.cell 1, h.cell 2, h.cell 3, h.cell 4⟩
/-- the place of a group; -1 -/
def atG (l : List OwnerD) (g : Int) (n : Nat) : Int := idxI (l.map OwnerD.g) g n
theorem atG_drop (l : List OwnerD) (g : Int) (n : Nat) (h : n < l.length) : atG (l.drop n) g n = if g = l[n].g then (n : Int) else atG (l.drop (n + 1)) g (n + 1) := by
  unfold atG
  rw [List.map_drop, idxI_drop _ _ _ (by simpa using h), List.getElem_map, List.map_drop]
theorem atG_nil (g : Int) (n : Nat) : atG [] g n = -1 := rfl
theorem atG_ge (l : List OwnerD) (g : Int) : atG l g 0 = -1 ∨ ∃ j : Nat, atG l g 0 = j ∧ ∃ h : j < l.length, l[j].g = g := by
  have : ∀ (l : List OwnerD) (n : Nat), atG l g n = -1 ∨ ∃ j : Nat, atG l g n = ((n + j : Nat) : Int) ∧ ∃ h : j < l.length, l[j].g = g := by
    intro l
    induction l with
    | nil => exact fun n => .inl rfl
    | cons y l ih =>
      intro n
      unfold atG
      rw [List.map_cons, idxI]
      split
      · rename_i h
        exact .inr ⟨0, rfl, by simp, by simp [h]⟩
      · rcases ih (n + 1) with h | ⟨j, h, hj, hl⟩
        · exact .inl h
        · refine .inr ⟨j + 1, ?_, by simp; omega, by simpa using hl⟩
          unfold atG at h
          rw [h]
          congr 1
          omega
  rcases this l 0 with h | ⟨j, h, hj, hl⟩
  · exact .inl h
  · exact .inr ⟨j, by simpa using h, hj, hl⟩

set_option maxRecDepth 100000 in
set_option maxHeartbeats 1600000 in
theorem refAt_any {ok : Nat → Prop} (d : RouteD) (a c : Value) (g : Int) (w : World) (hr : RouteR ok w a c d) :
    Calls Try.prog 67 #[.agg (routeCs d a c), .int .i64 g] w fun e w' => e = .returned (.int .i64 (atG d.s g 0)) ∧ Below w.heap.size w w' := by
  obtain ⟨A, cc, rfl, hc, hbd⟩ := hr.s.form
  have hbd' : d.s.length * 32 ≤ 140737488351232 := hbd
  clear hbd
  go_enter Try.func67, Try.ntmps67
  unfold routeCs
  go_wp2
  go_loopw [5] (fun j wr => ∃ k : Nat, k ≤ d.s.length ∧ j = .int .i64 (k : Int) ∧ Below (w.heap.size + 1) (w.alloc (.cells #[.int .i64 d.e, .int .i64 d.b, .slice A d.s.length cc, .int .i64 d.m, c] 42)) wr ∧ w.heap.size + 1 ≤ wr.heap.size ∧ Hid (atG d.s g 0 = atG (d.s.drop k) g k)) (fun j _ => d.s.length - (intOf j).toNat)
  case atStart => exact ⟨0, by omega, rfl, Below.refl _ _, by simp, rfl⟩
  case round =>
    obtain ⟨k, hk, rfl, hb, hz, HE⟩ := hrel
    have hbw := box_below hb
    have bx := box_at (i := 2) hb rfl
    by_cases hlt : k < d.s.length
    · obtain ⟨b1, off1, c1', cs1, hv1, _, ⟨a1, rfl, _, _⟩, hcell1⟩ := (hr.s.below hbw).at_ hlt
      simp only [Value.slice.injEq, true_and] at hv1
      obtain ⟨rfl, rfl⟩ := hv1
      have p0 := hcell1 0 _ rfl
      simp only [Nat.add_zero, show rOwner.sz = 2 from rfl] at p0
      clear hcell1
      have HS := Lib.hid (atG_drop d.s g k hlt)
      obtain ⟨x, hx⟩ : ∃ x, x = d.s[k].g := ⟨_, rfl⟩
      rw [← hx] at p0 HS
      clear hx
      by_cases h : g = x
      · have ht : (x == g) = true := by simp [h]
        have HK := Lib.hid h
        clear h
        go_wp2
        go_ret
        exact ⟨ret_int (by rw [HE.out, HS.out, if_pos HK.out]), hbw⟩
      · have ht : (x == g) = false := by simp; exact fun e => h e.symm
        have HK := Lib.hid h
        clear h
        go_wp2
        go_roundw
        case rel => exact ⟨k + 1, by omega, by go_num, hb, hz, by rw [HE.out, HS.out, if_neg HK.out]; trivial⟩
        case measure => simp [intOf]; omega
    · go_wp2
      go_ret
      exact ⟨ret_int (by rw [HE.out, List.drop_of_length_le (by omega)]; rfl), hbw⟩

set_option maxRecDepth 100000 in
theorem place1_any (o : OwnerD) (A : Option Addr) (n c : Nat) (q : Nat) (g : Int) (w : World) (hq : w.cell? ⟨q, 0, none⟩ = some (.int .i64 g)) :
    Calls Try.prog 164 #[.agg #[.int .i64 o.g, .slice A n c], .pointer (some ⟨q, 0, none⟩)] w fun e w' => e = .returned (.bool (o.g == g)) ∧ Below w.heap.size w w' := by
  have hq1 := fun o => alloc1 hq o
  go_enter Try.func164, Try.ntmps164
  go_wp2
  go_ret
  exact ⟨rfl, (Below.refl _ _).alloc (Nat.le_refl _) _⟩

set_option maxRecDepth 100000 in
set_option maxHeartbeats 1600000 in
theorem indexOwner_any {ok : Nat → Prop} (v : Value) (l : List OwnerD) (q : Nat) (g : Int) (w : World) (hr : RSl rOwner ok w v l) (hq : w.cell? ⟨q, 0, none⟩ = some (.int .i64 g)) :
    Calls Try.prog 163 #[v, .func (.func 164) #[] #[.pointer (some ⟨q, 0, none⟩)]] w fun e w' => e = .returned (.int .i64 (atG l g 0)) ∧ Below w.heap.size w w' := by
  obtain ⟨A, cc, rfl, hc, hbd⟩ := hr.form
  have hbd' : l.length * 32 ≤ 140737488351232 := hbd
  clear hbd
  have hqb := World.block_lt_of_cell? w _ hq
  simp only at hqb
  go_enter Try.func163, Try.ntmps163
  go_wp2
  go_loopw [8] (fun j wr => ∃ k : Nat, k ≤ l.length ∧ j = .int .i64 (k : Int) ∧ Below w.heap.size w wr ∧ Hid (atG l g 0 = atG (l.drop k) g k)) (fun j _ => l.length - (intOf j).toNat)
  case atStart => exact ⟨0, by omega, rfl, Below.refl _ _, rfl⟩
  case round =>
    obtain ⟨k, hk, rfl, hb, HE⟩ := hrel
    by_cases hlt : k < l.length
    · obtain ⟨b1, off1, c1', cs1, hv1, _, ⟨a1, rfl, ha1, _⟩, hcell1⟩ := (hr.below hb).at_ hlt
      simp only [Value.slice.injEq, true_and] at hv1
      obtain ⟨rfl, rfl⟩ := hv1
      have p0 := hcell1 0 _ rfl
      have p1 := hcell1 1 _ rfl
      simp only [Nat.add_zero, show rOwner.sz = 2 from rfl] at p0 p1
      clear hcell1
      obtain ⟨A1, n1, rfl, _, _⟩ := ha1.form
      have hqw : wr.cell? ⟨q, 0, none⟩ = some (.int .i64 g) := (hb.cell (p := ⟨q, 0, none⟩) hqb).trans hq
      have HS := Lib.hid (atG_drop l g k hlt)
      obtain ⟨x, hx⟩ : ∃ x, x = l[k] := ⟨_, rfl⟩
      rw [← hx] at p0 p1 HS
      clear hx ha1
      go_wp2_with fail
      refine (place1_any x _ _ _ q g _ hqw).mono ?_
      rintro e w1 ⟨rfl, hb1⟩
      have hbn := hb.trans (hb1.mono hb.size)
      cases hE : (x.g == g)
      · have HK : Hid (¬ g = x.g) := fun h => by subst h; simp at hE
        clear hE
        go_wp2
        go_roundw
        case rel => exact ⟨k + 1, by omega, by go_num, hbn, by rw [HE.out, HS.out, if_neg HK.out]; trivial⟩
        case measure => simp [intOf]; omega
      · have HK : Hid (g = x.g) := (by simpa using hE : x.g = g).symm
        clear hE
        go_wp2
        go_ret
        exact ⟨ret_int (by rw [HE.out, HS.out, if_pos HK.out]), hbn⟩
    · go_wp2
      go_ret
      exact ⟨ret_int (by rw [HE.out, List.drop_of_length_le (by omega)]; rfl), hb⟩

set_option maxRecDepth 100000 in
set_option maxHeartbeats 1600000 in
theorem place_any {ok : Nat → Prop} (d : RouteD) (a c : Value) (g : Int) (w : World) (hr : RouteR ok w a c d) :
    Calls Try.prog 126 #[.agg (routeCs d a c), .int .i64 g] w fun e w' => e = .returned (.int .i64 (atG d.s g 0)) ∧ Below w.heap.size w w' := by
  obtain ⟨A, cc, rfl, hc, hbd⟩ := hr.s.form
  go_enter Try.func126, Try.ntmps126
  unfold routeCs
  go_wp2_with fail
  refine (indexOwner_any _ d.s (w.heap.size + 1) g _ ((hr.s.below ((Below.refl _ _).alloc (Nat.le_refl _) _)).below ((Below.refl _ _).alloc (Nat.le_refl _) _)) (by simp)).mono ?_
  rintro e w1 ⟨rfl, hb1⟩
  have hbw : Below w.heap.size w w1 := (((Below.refl _ _).alloc (Nat.le_refl _) _).alloc (by simp) _).trans (hb1.mono (by simp; omega))
  go_wp2
  go_ret
  exact ⟨rfl, hbw⟩

/-- the first group free, from i on, n of them -/
def nextG (l : List OwnerD) (b : Int) (i : Nat) : Nat → Int
  | 0 => 0
  | n + 1 => if atG l (b + i) 0 < 0 then b + i else nextG l b (i + 1) n

theorem nextG_out (l : List OwnerD) (b : Int) (i n : Nat) (h : n = 0) : nextG l b i n = 0 := by subst h; rfl
theorem nextG_in (l : List OwnerD) (b : Int) (i n : Nat) (h : 0 < n) : nextG l b i n = if atG l (b + i) 0 < 0 then b + i else nextG l b (i + 1) (n - 1) := by
  cases n with
  | zero => omega
  | succ n => rfl
set_option maxRecDepth 100000 in
set_option maxHeartbeats 3200000 in
theorem routeNext_any {ok : Nat → Prop} (d : RouteD) (a c : Value) (s : Int) (w : World) (hr : RouteR ok w a c d) (hb0 : 0 ≤ d.b ∧ d.b ≤ 1000) :
    Calls Try.prog 72 #[.agg (routeCs d a c), .int .i64 s] w fun e w' => e = .returned (.int .i64 (nextG d.s d.b 1 (min s 4).toNat)) ∧ Below w.heap.size w w' := by
  obtain ⟨A, cc, rfl, hc, hbd⟩ := hr.s.form
  obtain ⟨A2, cc2, rfl, _, _⟩ := hr.c.form
  obtain ⟨z, hz⟩ : ∃ z, z = min s 4 := ⟨_, rfl⟩
  have hz4 : z ≤ 4 := by omega
  have HZ := Lib.hid hz
  rw [← hz]
  go_enter Try.func72, Try.ntmps72
  unfold routeCs
  go_wp2
  go_loopw [5] (fun j wr => ∃ k : Nat, 1 ≤ k ∧ k ≤ z.toNat + 1 ∧ j = .int .i64 (k : Int) ∧ Below (w.heap.size + 1) (w.alloc (.cells #[.int .i64 d.e, .int .i64 d.b, .slice A d.s.length cc, .int .i64 d.m, .slice A2 d.c.length cc2] 42)) wr ∧ w.heap.size + 1 ≤ wr.heap.size ∧ Hid (nextG d.s d.b 1 z.toNat = nextG d.s d.b k (z.toNat + 1 - k))) (fun j _ => z.toNat + 1 - (intOf j).toNat)
  case atStart => exact ⟨1, by omega, by omega, rfl, Below.refl _ _, by simp, rfl⟩
  case round =>
    obtain ⟨k, hk1, hk, rfl, hb, hz1, HE⟩ := hrel
    have hbw := box_below hb
    have b0 := box_at (i := 0) hb rfl
    have b1 := box_at (i := 1) hb rfl
    have b2 := box_at (i := 2) hb rfl
    have b3 := box_at (i := 3) hb rfl
    have b4 := box_at (i := 4) hb rfl
    have hr2 : RouteR ok wr (.slice A d.s.length cc) (.slice A2 d.c.length cc2) d := hr.below hbw
    have p0 : wr.cell? ⟨w.heap.size, 0, none⟩ = some (.int .i64 d.e) := b0
    have p1 : wr.cell? ⟨w.heap.size, 1, none⟩ = some (.int .i64 d.b) := b1
    have p2 : wr.cell? ⟨w.heap.size, 2, none⟩ = some (.slice A d.s.length cc) := b2
    have p3 : wr.cell? ⟨w.heap.size, 3, none⟩ = some (.int .i64 d.m) := b3
    have p4 : wr.cell? ⟨w.heap.size, 4, none⟩ = some (.slice A2 d.c.length cc2) := b4
    clear b0 b1 b2 b3 b4
    by_cases hlt : (k : Int) ≤ z
    · have hin := nextG_in d.s d.b k (z.toNat + 1 - k) (by omega)
      rw [show z.toNat + 1 - k - 1 = z.toNat + 1 - (k + 1) by omega] at hin
      have HI := Lib.hid hin
      clear hin
      have hk4 : k ≤ 4 := by omega
      have main : ∀ (h4 : Hid ((4 < s ∧ k ≤ 4) ∨ (¬ 4 < s ∧ (k : Int) ≤ s))), True := fun _ => trivial
      clear main
      by_cases h4 : 4 < s
      all_goals
        have t4 : decide (4 < s) = _ := (by first | exact decide_eq_true h4 | exact decide_eq_false h4)
        have t1 : decide ((k : Int) ≤ 4) = true := decide_eq_true (by omega)
        have t2 : decide (k ≤ 4) = true := decide_eq_true (by omega)
        have t3 : decide ((k : Int) ≤ s) = true := decide_eq_true (by omega)
        have t5 : (k : Int) ≤ s := by omega
        clear hlt hz
        go_wp2_with fail
        refine (place_any d _ _ (d.b + k) _ hr2).mono ?_
        rintro e w1 ⟨rfl, hb1⟩
        have hbn : Below (w.heap.size + 1) (w.alloc (.cells #[.int .i64 d.e, .int .i64 d.b, .slice A d.s.length cc, .int .i64 d.m, .slice A2 d.c.length cc2] 42)) w1 := hb.trans (hb1.mono hz1)
        have hzn : w.heap.size + 1 ≤ w1.heap.size := Nat.le_trans hz1 hb1.size
        have q1 : w1.cell? ⟨w.heap.size, 1, none⟩ = some (.int .i64 d.b) := box_at (i := 1) hbn rfl
        have hbnw := box_below hbn
        by_cases hneg : atG d.s (d.b + k) 0 < 0
        · have ht : decide (atG d.s (d.b + k) 0 < 0) = true := decide_eq_true hneg
          have HF : Hid (nextG d.s d.b 1 z.toNat = d.b + k) := by rw [HE.out, HI.out, if_pos hneg]; trivial
          clear hneg
          go_wp2
          go_ret
          exact ⟨ret_int HF.out.symm, hbnw⟩
        · have ht : decide (atG d.s (d.b + k) 0 < 0) = false := decide_eq_false hneg
          have HF : Hid (nextG d.s d.b 1 z.toNat = nextG d.s d.b (k + 1) (z.toNat + 1 - (k + 1))) := by rw [HE.out, HI.out, if_neg hneg]; trivial
          clear hneg
          go_wp2
          go_roundw
          case rel => exact ⟨k + 1, by omega, by have := HZ.out; omega, by go_num, hbn, hzn, HF⟩
          case measure => have := HZ.out; simp [intOf]; omega
    · have HF : Hid (nextG d.s d.b 1 z.toNat = 0) := by rw [HE.out]; exact nextG_out _ _ _ _ (by omega)
      by_cases h4 : 4 < s
      all_goals
        have t4 : decide (4 < s) = _ := (by first | exact decide_eq_true h4 | exact decide_eq_false h4)
        first
          | have t1 : decide ((k : Int) ≤ 4) = false := decide_eq_false (by omega)
            have t2 : decide (k ≤ 4) = false := decide_eq_false (by omega)
            have t3 : ¬ k ≤ 4 := by omega
            clear hlt hz
            go_wp2
            go_ret
            exact ⟨ret_int HF.out.symm, hbw⟩
          | have t3 : decide ((k : Int) ≤ s) = false := decide_eq_false (by omega)
            have t5 : ¬ (k : Int) ≤ s := by omega
            clear hlt hz
            go_wp2
            go_ret
            exact ⟨ret_int HF.out.symm, hbw⟩
end Go.Proofs.Ytikkknaofiafhaa

namespace Go.Proofs.Ytikkknaofiafhaa
open Go.RowKit

def rd0 : RouteD := ⟨0, 1, [⟨2, [120]⟩], 0, []⟩
def rd1 : RouteD := ⟨1, 1, [⟨2, [120]⟩], 2, [120, 1]⟩
theorem Blk.set5 {w : World} {g : Nat} {T : TypeId} {C : Array Value} (h : Blk w g T C) (hs : C.size = 5) (y0 y1 y2 y3 y4 : Value) : Blk (((((w.setCell ⟨g, 0, none⟩ y0).setCell ⟨g, 1, none⟩ y1).setCell ⟨g, 2, none⟩ y2).setCell ⟨g, 3, none⟩ y3).setCell ⟨g, 4, none⟩ y4) g T #[y0, y1, y2, y3, y4] := by
  have := h.setCells #[y0, y1, y2, y3, y4] (by simpa using hs)
  simpa [World.setCells] using this
theorem kp_set5 {ok : Nat → Prop} {a w : World} {g : Nat} (h : Kp ok a w) (hg : g < a.heap.size → ¬ ok g) (y0 y1 y2 y3 y4 : Value) : Kp ok a (((((w.setCell ⟨g, 0, none⟩ y0).setCell ⟨g, 1, none⟩ y1).setCell ⟨g, 2, none⟩ y2).setCell ⟨g, 3, none⟩ y3).setCell ⟨g, 4, none⟩ y4) :=
  ((((h.setCell (p := ⟨g, 0, none⟩) hg _).setCell (p := ⟨g, 1, none⟩) hg _).setCell (p := ⟨g, 2, none⟩) hg _).setCell (p := ⟨g, 3, none⟩) hg _).setCell (p := ⟨g, 4, none⟩) hg _
theorem Try.infoRoutes : (Try.prog.info? 42).map (·.size) = some 5 := by kernel_rfl
theorem route_res {d : RouteD} {a c : Value} {w : World} {g : Nat} {T : TypeId} (h : Blk w g T (routeCs d a c)) : (loadVar 42 ⟨g, 0, none⟩).run Try.prog w = .ok (.agg (routeCs d a c)) w := h.loadVar Try.underlying42 rfl Try.infoRoutes

set_option maxRecDepth 100000 in
set_option maxHeartbeats 3200000 in
theorem refNew_any (w : World) :
    Calls Try.prog 65 #[.int .i64 1, .int .i64 2] w fun e w' => (∃ a c, e = .returned (.tuple #[.agg (routeCs rd0 a c), .int .i64 0]) ∧ RouteR (fun b => w.heap.size ≤ b) w' a c rd0) ∧ Below w.heap.size w w' := by
  go_enter Try.func65, Try.ntmps65
  go_wp2
  refine name_post (fun w1 => Below w.heap.size w w1 ∧ Blk w1 w.heap.size 42 (routeCs rd0 (.slice (some ⟨w.heap.size + 1 + 1, 0, none⟩) 1 1) (.slice none 0 0)) ∧ RSl rOwner (fun b => w.heap.size ≤ b) w1 (.slice (some ⟨w.heap.size + 1 + 1, 0, none⟩) 1 1) rd0.s)
    ⟨(((Below.refl _ _).alloc (Nat.le_refl _) _).alloc (by simp) _).alloc (by simp; omega) _, ((Blk.new w _ _).alloc _).alloc _, ?_⟩ ?_
  · have h1 := RSl.one_new (ok := fun b => w.heap.size ≤ b) (E := rU8) (w := w.alloc (.cells (routeCs rd0 (.slice (some ⟨w.heap.size + 1 + 1, 0, none⟩) 1 1) (.slice none 0 0)) 42)) (cs := #[.int .u8 120]) (d := 120) 5 rfl (by simp) (by decide)
    have h2 := RSl.one_new (ok := fun b => w.heap.size ≤ b) (E := rOwner) (w := (w.alloc (.cells (routeCs rd0 (.slice (some ⟨w.heap.size + 1 + 1, 0, none⟩) 1 1) (.slice none 0 0)) 42)).alloc (.cells #[.int .u8 120] 5)) (cs := #[.int .i64 2, .slice (some ⟨w.heap.size + 1, 0, none⟩) 1 1]) (d := ⟨2, [120]⟩) 104 ⟨_, rfl, by simpa using h1, ⟨by decide, by decide⟩⟩ (by simp; omega) (by decide)
    simpa [routeCs, rd0] using h2
  rintro w1 ⟨hb1, kb, ho⟩
  have lv := route_res kb
  refine bodyPost_ret (v := .tuple #[.agg (routeCs rd0 (.slice (some ⟨w.heap.size + 1 + 1, 0, none⟩) 1 1) (.slice none 0 0)), .int .i64 0]) ?_ rfl ⟨⟨_, _, rfl, ho, RSl.nil_ _ _ _, ⟨by decide, by decide⟩, ⟨by decide, by decide⟩, ⟨by decide, by decide⟩⟩, hb1⟩
  simp [results, Try.results65, Sem.run_bind, Sem.run_pure, asAddr_ok, lv]
end Go.Proofs.Ytikkknaofiafhaa

namespace Go.Proofs.Ytikkknaofiafhaa
open Go.RowKit

theorem Try.rowOwner : RowTy Try.prog 40 104 2 32 := rowTy_mk Try.underlying40 (by kernel_rfl)
theorem routeCs_one {d : RouteD} {A A2 : Option Addr} {n c n2 c2 : Nat} : (routeCs d (.slice A n c) (.slice A2 n2 c2)).all (·.oneCell') = true := by simp [routeCs, Value.oneCell']
theorem route_set2 (d : RouteD) (a c v : Value) : (routeCs d a c).setIfInBounds 2 v = routeCs d v c := by simp [routeCs]
theorem route_set4 (d : RouteD) (a c v : Value) : (routeCs d a c).setIfInBounds 4 v = routeCs d a v := by simp [routeCs]
theorem route_laters {w : World} {g : Nat} {T : TypeId} {d : RouteD} {a c : Value} (h : Blk w g T (routeCs d a c)) : (∀ s : Later w, s.val.cell? ⟨g, 0, none⟩ = some (.int .i64 d.e)) ∧ (∀ s : Later w, s.val.cell? ⟨g, 1, none⟩ = some (.int .i64 d.b)) ∧ (∀ s : Later w, s.val.cell? ⟨g, 2, none⟩ = some a) ∧ (∀ s : Later w, s.val.cell? ⟨g, 3, none⟩ = some (.int .i64 d.m)) ∧ ∀ s : Later w, s.val.cell? ⟨g, 4, none⟩ = some c := ⟨h.later rfl, h.later rfl, h.later rfl, h.later rfl, h.later rfl⟩
def rdZ : RouteD := ⟨0, 0, [], 0, []⟩

set_option maxRecDepth 100000 in
set_option maxHeartbeats 3200000 in
theorem copied_any {ok : Nat → Prop} (d : RouteD) (a c : Value) (w : World) (hr : RouteR ok w a c d) :
    Calls Try.prog 124 #[.agg (routeCs d a c)] w fun e w' => (∃ a' c', e = .returned (.agg (routeCs d a' c')) ∧ RouteR (fun b => w.heap.size ≤ b) w' a' c' d) ∧ Below w.heap.size w w' := by
  obtain ⟨A, cc, rfl, hc, hbd⟩ := hr.s.form
  obtain ⟨A2, cc2, rfl, _, hbd2⟩ := hr.c.form
  have hbd' : d.s.length * 32 ≤ 140737488351232 := hbd
  go_enter Try.func124, Try.ntmps124
  go_upto_region 1 with fail
  refine name_world (fun w1 => Below w.heap.size w w1 ∧ w.heap.size + 2 ≤ w1.heap.size ∧ Blk w1 w.heap.size 42 (routeCs d (.slice A d.s.length cc) (.slice A2 d.c.length cc2)) ∧ Blk w1 (w.heap.size + 1) 42 (routeCs rdZ nl nl))
    ⟨((Below.refl _ _).alloc (Nat.le_refl _) _).alloc (by simp) _, by simp, (Blk.new w _ _).alloc _, Blk.new_ (by simp)⟩ ?_
  rintro w1 ⟨hB1, hz1, k1, k2⟩
  have hr1 := hr.below hB1
  go_wp2
  go_loopw [3, 4] (fun v j wr => ∃ k : Nat, k ≤ d.s.length ∧ j = .int .i64 (k : Int) ∧ Below w1.heap.size w1 wr ∧ OwnL rOwner (fun b => w1.heap.size ≤ b) w1.heap.size 104 wr v (d.s.take k)) (fun _ j _ => d.s.length - (intOf j).toNat)
  case atStart => exact ⟨0, by omega, rfl, Below.refl _ _, OwnL.nil_ _ _ _ _ _⟩
  case round =>
    obtain ⟨k, hk, rfl, hb, hown⟩ := hrel
    have kw := k1.below hb k1.lt
    have b2 : wr.cell? ⟨w.heap.size, 2, none⟩ = some (.slice A d.s.length cc) := kw.cell 2
    by_cases hlt : k < d.s.length
    · obtain ⟨b1, off1, c1', cs1, hv1, _, ⟨a1, rfl, ha1, hg64⟩, hcell1⟩ := (hr1.s.below hb).at_ hlt
      simp only [Value.slice.injEq, true_and] at hv1
      obtain ⟨rfl, rfl⟩ := hv1
      have q0 := hcell1 0 _ rfl
      have q1 := hcell1 1 _ rfl
      simp only [Nat.add_zero, show rOwner.sz = 2 from rfl] at q0 q1
      clear hcell1
      obtain ⟨A1, n1, rfl, _, _⟩ := ha1.form
      obtain ⟨p, hp⟩ : ∃ p, p = d.s[k] := ⟨_, rfl⟩
      rw [← hp] at q0 q1 ha1 hg64
      have HP := Lib.hid hp
      clear hp
      have l0 := Later.cell q0
      have l1 := Later.cell q1
      have l2 := Later.cell b2
      go_wp2
      refine wp_later_many_tail 16 [(13, Sp.rb (fun b => wr.heap.size ≤ b) p.f), (15, Sp.rsl rOwner (fun b => wr.heap.size ≤ b) [p])] [13, 15] (by as_aux_lemma => kernel_rfl) (by as_aux_lemma => kernel_rfl) (by as_aux_lemma => kernel_rfl) ?_
      intro vv hv
      obtain ⟨B1, d1, e13, _⟩ : ∃ A c, vv 13 = .slice A p.f.length c ∧ p.f.length ≤ c := hv 13 (by decide)
      obtain ⟨B3, d3, e15, _⟩ : ∃ A c, vv 15 = .slice A 1 c ∧ 1 ≤ c := hv 15 (by decide)
      simp only [List.take_succ_cons, List.take_zero, List.drop_succ_cons, List.drop_zero]
      refine many_pre 13 (by decide) ?_
      simp only [List.take_succ_cons, List.take_zero, List.drop_succ_cons, List.drop_zero]
      repeat (go_big_quiet_step (fail))
      refine wpQuiet_nil (many_wild (by decide) rfl ?_ ?_)
      · intro s _
        unfold Gives
        go_simp
        refine (copy_rb _ p.f _ (ha1.below s.below)).mono ?_
        rintro e w2 ⟨⟨x, rfl, hx⟩, hb2⟩
        exact ⟨x, rfl, hx.mono (by decide) (fun b hb _ => by have := s.below.size; omega), hb2⟩
      intro a' ha'
      subst ha'
      simp only [Act.put, List.setIfInBounds_toArray, List.set_cons_succ, List.set_cons_zero]
      rw [e13]
      refine many_pre 1 (by decide) ?_
      simp only [List.take_succ_cons, List.take_zero, List.drop_succ_cons, List.drop_zero]
      repeat (go_big_quiet_step (fail))
      refine wpQuiet_nil (many_wild (by decide) rfl ?_ ?_)
      · intro s hf
        have f3 : RB _ s.val (vv 13) p.f := hf 13 (by decide) (by kernel_rfl)
        rw [e13] at f3
        unfold Gives
        go_simp
        refine ⟨RSl.one_new (E := rOwner) _ ⟨_, rfl, f3, hg64⟩ (by have := s.below.size; omega) (by decide), (Below.refl _ _).alloc (Nat.le_refl _) _⟩
      intro a' ha'
      subst ha'
      simp only [Act.put, List.setIfInBounds_toArray, List.set_cons_succ, List.set_cons_zero]
      rw [e15]
      refine many_end ?_
      intro s hf
      have f10 : RSl rOwner _ s.val (vv 15) [p] := hf 15 (by decide)
      rw [e15] at f10
      have hbs : Below wr.heap.size wr s.val := s.below
      have hown2 := hown.below hbs
      have hsz : (d.s.take k).length = k := by rw [List.length_take]; omega
      have HSZ := Lib.hid hsz; clear hsz
      refine wp_appR (E := rOwner) Try.rowOwner (by decide) rfl _ _ rfl _ (d.s.take k) _ rfl hown2 _ [p] rfl (f10.mono (by decide) fun b hb2 _ => ⟨Nat.le_trans hb.size hb2, fun e => by have := (hown.lt b e.symm).2; omega⟩) (by rw [HSZ.out]; show (k + 1) * 32 ≤ _; omega) (by rw [HSZ.out]; show k + 1 ≤ _; omega) (Nat.le_trans hb.size hbs.size) ?_
      intro v' w' hown3 hk3 _
      go_wp2
      go_roundw
      case rel => exact ⟨k + 1, by omega, by go_num, hb.trans (hbs.mono hb.size) |>.trans (hown2.bel hk3 (Nat.le_trans hb.size hbs.size)), by rw [List.take_succ_eq_append_getElem hlt, ← HP.out]; exact hown3⟩
      case measure => simp [intOf]; omega
    · have hfin : d.s.take k = d.s := List.take_of_length_le (by omega)
      rw [hfin] at hown
      clear hfin
      obtain ⟨A3, c3, rfl, _⟩ := hown.form
      have b4 : wr.cell? ⟨w.heap.size, 4, none⟩ = some (.slice A2 d.c.length cc2) := kw.cell 4
      have kz := k2.below hb k2.lt
      go_wp2_with fail
      refine (copy_rb _ d.c _ (hr1.c.below hb)).mono ?_
      rintro e w2 ⟨⟨x, rfl, hx⟩, hb2⟩
      obtain ⟨A4, c4, rfl, _, _⟩ := hx.form
      have kw2 := kw.below hb2 kw.lt
      have kz2 := kz.below hb2 kz.lt
      have hown2 := (hown.below hb2).rsl (ok := fun b => w.heap.size + 2 ≤ b) (by decide) hbd (fun b h => by omega) (fun b h => by have : w1.heap.size ≤ b := h; omega)
      have hB2 := hB1.trans (hb.mono hB1.size) |>.trans (hb2.mono (Nat.le_trans hB1.size hb.size))
      have fz := fun i => kw2.frozen i
      have r2 : w2.cell? ⟨w.heap.size, 2, none⟩ = some (.slice A d.s.length cc) := kw2.cell 2
      have r4 : w2.cell? ⟨w.heap.size, 4, none⟩ = some (.slice A2 d.c.length cc2) := kw2.cell 4
      clear kw kz b2 b4
      go_upto_region 7 with fail
      have hkp : Kp (fun b => w.heap.size + 2 ≤ b) w2 ((w2.setCell ⟨w.heap.size, 2, none⟩ (.slice A3 d.s.length c3)).setCell ⟨w.heap.size, 4, none⟩ (.slice A4 d.c.length c4)) :=
        ((Kp.refl _ _).setCell (fun _ h => by have : w.heap.size + 2 ≤ w.heap.size := h; omega) _).setCell (fun _ h => by have : w.heap.size + 2 ≤ w.heap.size := h; omega) _
      refine name_world (fun w3 => Below w.heap.size w w3 ∧ Blk w3 w.heap.size 42 (routeCs d (.slice A3 d.s.length c3) (.slice A4 d.c.length c4)) ∧ Blk w3 (w.heap.size + 1) 42 (routeCs rdZ nl nl) ∧ RSl rOwner (fun b => w.heap.size + 2 ≤ b) w3 (.slice A3 d.s.length c3) d.s ∧ RB (fun b => w.heap.size + 2 ≤ b) w3 (.slice A4 d.c.length c4) d.c)
        ⟨(hB2.setCell (Nat.le_refl _) _).setCell (Nat.le_refl _) _, ?_, (kz2.far (by simp) _).far (by simp) _, hown2.kp hkp, (hx.mono (by decide) fun b h _ => by have h1 := hb.size; omega).kp hkp⟩ ?_
      · have := (kw2.set_ 2 (.slice A3 d.s.length c3)).set_ 4 (.slice A4 d.c.length c4)
        rwa [route_set2, route_set4] at this
      rintro w3 ⟨hB3, k3, k4, o3, x3⟩
      refine wp_region_list ?_
      refine wpList_loadB rfl rfl rfl k3 Try.underlying42 rfl Try.infoRoutes ?_
      refine wpList_storeB rfl rfl (routeCs d (.slice A3 d.s.length c3) (.slice A4 d.c.length c4)) rfl rfl k4 rfl Try.infoRoutes routeCs_one ?_
      intro k5
      have lv := route_res k5
      have hk3 := Kp.setCells (ok := fun b => w.heap.size + 2 ≤ b) (a := w3) (b := w.heap.size + 1) (fun _ h => by have : w.heap.size + 2 ≤ w.heap.size + 1 := h; omega) (routeCs d (.slice A3 d.s.length c3) (.slice A4 d.c.length c4)).toList 0 (Kp.refl _ _)
      go_wp2
      refine bodyPost_ret (v := .agg (routeCs d (.slice A3 d.s.length c3) (.slice A4 d.c.length c4))) ?_ rfl ⟨⟨_, _, rfl, (o3.kp hk3).mono (by decide) fun b h _ => by omega, (x3.kp hk3).mono (by decide) fun b h _ => by omega, hr.e, hr.b, hr.m⟩, below_setCells (by omega) _ _ hB3⟩
      simp [results, Try.results124, Act.put, Sem.run_bind, Sem.run_pure]
      rw [asAddr_ok, Result.andThen_ok]
      exact lv
end Go.Proofs.Ytikkknaofiafhaa

namespace Go.Proofs.Ytikkknaofiafhaa
open Go.RowKit

def spanTo (l : List OwnerD) (k : Nat) : List UInt8 := match l[k + 1]? with | some o => o.f | none => [121]
theorem spanTo_in {l : List OwnerD} {k : Nat} (h : k + 1 < l.length) : spanTo l k = l[k + 1].f := by simp [spanTo, h]
theorem spanTo_out {l : List OwnerD} {k : Nat} (h : ¬ k + 1 < l.length) : spanTo l k = [121] := by simp [spanTo, List.getElem?_eq_none (Nat.le_of_not_lt h)]

set_option maxRecDepth 100000 in
set_option maxHeartbeats 3200000 in
theorem span_any {ok : Nat → Prop} (d : RouteD) (a c : Value) (k : Nat) (hk : k < d.s.length) (w : World) (hr : RouteR ok w a c d) :
    Calls Try.prog 69 #[.agg (routeCs d a c), .int .i64 (k : Int)] w fun e w' => (∃ fr ut, e = .returned (.agg #[fr, ut]) ∧ RB (fun b => w.heap.size ≤ b) w' fr d.s[k].f ∧ RB (fun b => w.heap.size ≤ b) w' ut (spanTo d.s k)) ∧ Below w.heap.size w w' := by
  obtain ⟨A, cc, rfl, hc, hbd⟩ := hr.s.form
  obtain ⟨A2, cc2, rfl, _, hbd2⟩ := hr.c.form
  have hbd' : d.s.length * 32 ≤ 140737488351232 := hbd
  go_enter Try.func69, Try.ntmps69
  go_upto_region 1 with fail
  refine name_world (fun w1 => Below w.heap.size w w1 ∧ w.heap.size + 2 ≤ w1.heap.size ∧ Blk w1 w.heap.size 42 (routeCs d (.slice A d.s.length cc) (.slice A2 d.c.length cc2)) ∧ Blk w1 (w.heap.size + 1) 50 #[nl, nl])
    ⟨((Below.refl _ _).alloc (Nat.le_refl _) _).alloc (by simp) _, by simp, (Blk.new w _ _).alloc _, Blk.new_ (by simp)⟩ ?_
  rintro w1 ⟨hB1, hz1, k1, k2⟩
  have hr1 := hr.below hB1
  obtain ⟨b1, off1, c1', cs1, hv1, _, ⟨a1, rfl, ha1, hg64⟩, hcell1⟩ := hr1.s.at_ hk
  simp only [Value.slice.injEq, true_and] at hv1
  obtain ⟨rfl, rfl⟩ := hv1
  have q1 := hcell1 1 _ rfl
  simp only [Nat.add_zero, show rOwner.sz = 2 from rfl] at q1
  clear hcell1
  obtain ⟨A1, n1, rfl, _, _⟩ := ha1.form
  obtain ⟨p, hp⟩ : ∃ p, p = d.s[k] := ⟨_, rfl⟩
  rw [← hp] at q1 ha1
  have HP := Lib.hid hp
  clear hp hg64
  have r2 : w1.cell? ⟨w.heap.size, 2, none⟩ = some (.slice (some ⟨b1, off1, none⟩) d.s.length cc) := k1.cell 2
  go_wp2_with fail
  refine (copy_rb _ p.f _ ha1).mono ?_
  rintro e w2 ⟨⟨x, rfl, hx⟩, hb2⟩
  obtain ⟨A4, c4, rfl, _, _⟩ := hx.form
  have kw2 := k1.below hb2 k1.lt
  have kz2 := k2.below hb2 k2.lt
  have hB2 := hB1.trans (hb2.mono hB1.size)
  have hz2 : w1.heap.size ≤ w2.heap.size := hb2.size
  clear r2 q1 k1 k2
  go_upto_region 2 with fail
  refine name_world (fun w3 => Below w.heap.size w w3 ∧ w2.heap.size + 2 ≤ w3.heap.size ∧ Blk w3 w.heap.size 42 (routeCs d (.slice (some ⟨b1, off1, none⟩) d.s.length cc) (.slice A2 d.c.length cc2)) ∧ Blk w3 (w.heap.size + 1) 50 #[nl, nl] ∧ Blk w3 (w2.heap.size + 1) 50 #[.slice A4 p.f.length c4, .slice (some ⟨w2.heap.size, 0, none⟩) 1 1] ∧
      RB (fun b => w1.heap.size ≤ b ∧ b ≠ w2.heap.size + 1) w3 (.slice A4 p.f.length c4) p.f ∧ RB (fun b => w1.heap.size ≤ b ∧ b ≠ w2.heap.size + 1) w3 (.slice (some ⟨w2.heap.size, 0, none⟩) 1 1) [121])
    ⟨(hB2.alloc hB2.size _).alloc (by simp; have := hB2.size; omega) _, by simp, (kw2.alloc _).alloc _, (kz2.alloc _).alloc _, Blk.new_ (by simp), ?_, ?_⟩ ?_
  · exact ((hx.mono (ok' := fun b => w1.heap.size ≤ b ∧ b ≠ w2.heap.size + 1) (by decide) fun b h hlt => ⟨h, by omega⟩).below ((Below.refl _ _).alloc (Nat.le_refl _) _)).below ((Below.refl _ _).alloc (Nat.le_refl _) _)
  · exact (RSl.one_new (ok := fun b => w1.heap.size ≤ b ∧ b ≠ w2.heap.size + 1) (E := rU8) (w := w2) (cs := #[.int .u8 121]) (d := 121) 5 rfl ⟨hz2, by omega⟩ (by decide)).below ((Below.refl _ _).alloc (Nat.le_refl _) _)
  rintro w3 ⟨hB3, hz3, k3, k4, k5, x3, u3⟩
  have r2 : w3.cell? ⟨w.heap.size, 2, none⟩ = some (.slice (some ⟨b1, off1, none⟩) d.s.length cc) := k3.cell 2
  by_cases hlt : k + 1 < d.s.length
  · have HT := Lib.hid (spanTo_in hlt)
    have ht : decide ((k : Int) + 1 < (d.s.length : Int)) = true := decide_eq_true (by omega)
    obtain ⟨b2, off2, c2', cs2, hv2, _, ⟨a2, rfl, ha2, _⟩, hcell2⟩ := (hr.s.below hB3).at_ hlt
    simp only [Value.slice.injEq, Option.some.injEq, Addr.mk.injEq, true_and, and_true] at hv2
    obtain ⟨⟨rfl, rfl⟩, rfl⟩ := hv2
    have q1 := hcell2 1 _ rfl
    simp only [Nat.add_zero, show rOwner.sz = 2 from rfl] at q1
    clear hcell2
    obtain ⟨A5, n5, rfl, _, _⟩ := ha2.form
    obtain ⟨o, ho⟩ : ∃ o, o = d.s[k + 1] := ⟨_, rfl⟩
    rw [← ho] at q1 ha2 HT
    clear ho
    go_wp2_with fail
    refine (copy_rb _ o.f _ ha2).mono ?_
    rintro e w4 ⟨⟨y, rfl, hy⟩, hb4⟩
    obtain ⟨A6, c6, rfl, _, _⟩ := hy.form
    have k6 := k5.below hb4 k5.lt
    have k7 := k4.below hb4 k4.lt
    have hB4 := hB3.trans (hb4.mono hB3.size)
    have x4 := x3.below hb4
    clear r2 q1 k3 k4 k5 u3
    have fz := fun i => k6.frozen i
    have g1 : w4.cell? ⟨w2.heap.size + 1, 1, none⟩ = some (.slice (some ⟨w2.heap.size, 0, none⟩) 1 1) := k6.cell 1
    go_upto_region 4 with fail
    have hkp : Kp (fun b => w1.heap.size ≤ b ∧ b ≠ w2.heap.size + 1) w4 (w4.setCell ⟨w2.heap.size + 1, 1, none⟩ (.slice A6 o.f.length c6)) := (Kp.refl _ _).setCell (fun _ h => h.2 rfl) _
    have hzz : w.heap.size + 2 ≤ w2.heap.size := by omega
    refine name_world (fun w5 => Below w.heap.size w w5 ∧ Blk w5 (w.heap.size + 1) 50 #[nl, nl] ∧ Blk w5 (w2.heap.size + 1) 50 #[.slice A4 p.f.length c4, .slice A6 o.f.length c6] ∧
        RB (fun b => w.heap.size + 2 ≤ b) w5 (.slice A4 p.f.length c4) p.f ∧ RB (fun b => w.heap.size + 2 ≤ b) w5 (.slice A6 o.f.length c6) o.f)
      ⟨hB4.setCell (by simp; omega) _, k7.far (by simp; omega) _, ?_, (x4.kp hkp).mono (by decide) fun b h _ => by omega, ((hy.mono (ok' := fun b => w1.heap.size ≤ b ∧ b ≠ w2.heap.size + 1) (by decide) fun b h _ => by omega).kp hkp).mono (by decide) fun b h _ => by omega⟩ ?_
    · have := k6.set_ 1 (.slice A6 o.f.length c6)
      simpa using this
    rintro w5 ⟨hB5, kz, ks, x5, y5⟩
    obtain ⟨i0, i1⟩ : w5.cell? ⟨w2.heap.size + 1, 0, none⟩ = some (.slice A4 p.f.length c4) ∧ w5.cell? ⟨w2.heap.size + 1, 1, none⟩ = some (.slice A6 o.f.length c6) := ⟨ks.cell 0, ks.cell 1⟩
    obtain ⟨j0, j1⟩ : w5.cell? ⟨w.heap.size + 1, 0, none⟩ = some nl ∧ w5.cell? ⟨w.heap.size + 1, 1, none⟩ = some nl := ⟨kz.cell 0, kz.cell 1⟩
    have fy := fun i => kz.frozen i
    go_wp2
    have hk6 : Kp (fun b => w.heap.size + 2 ≤ b) w5 ((w5.setCell ⟨w.heap.size + 1, 0, none⟩ (.slice A4 p.f.length c4)).setCell ⟨w.heap.size + 1, 1, none⟩ (.slice A6 o.f.length c6)) :=
      ((Kp.refl _ _).setCell (fun _ h => by have : w.heap.size + 2 ≤ w.heap.size + 1 := h; omega) _).setCell (fun _ h => by have : w.heap.size + 2 ≤ w.heap.size + 1 := h; omega) _
    have kz2 := (kz.set_ 0 (.slice A4 p.f.length c4)).set_ 1 (.slice A6 o.f.length c6)
    obtain ⟨d0, d1⟩ := And.intro (kz2.cell 0) (kz2.cell 1)
    simp at d0 d1
    refine bodyPost_ret (v := .agg #[.slice A4 p.f.length c4, .slice A6 o.f.length c6]) (by simp [results, Try.results69, go_sem, d0, d1]) rfl ?_
    exact ⟨⟨_, _, rfl, by rw [← HP.out]; exact (x5.kp hk6).mono (by decide) fun b h _ => by omega, by rw [HT.out]; exact (y5.kp hk6).mono (by decide) fun b h _ => by omega⟩, (hB5.setCell (by simp) _).setCell (by simp) _⟩
  · have HT := Lib.hid (spanTo_out hlt)
    have ht : decide ((k : Int) + 1 < (d.s.length : Int)) = false := decide_eq_false (by omega)
    obtain ⟨i0, i1⟩ : w3.cell? ⟨w2.heap.size + 1, 0, none⟩ = some (.slice A4 p.f.length c4) ∧ w3.cell? ⟨w2.heap.size + 1, 1, none⟩ = some (.slice (some ⟨w2.heap.size, 0, none⟩) 1 1) := ⟨k5.cell 0, k5.cell 1⟩
    obtain ⟨j0, j1⟩ : w3.cell? ⟨w.heap.size + 1, 0, none⟩ = some nl ∧ w3.cell? ⟨w.heap.size + 1, 1, none⟩ = some nl := ⟨k4.cell 0, k4.cell 1⟩
    have fy := fun i => k4.frozen i
    have x5 := x3.mono (ok' := fun b => w.heap.size + 2 ≤ b) (by decide) fun b h _ => by omega
    have y5 := u3.mono (ok' := fun b => w.heap.size + 2 ≤ b) (by decide) fun b h _ => by omega
    clear x3 u3
    go_wp2
    have hk6 : Kp (fun b => w.heap.size + 2 ≤ b) w3 ((w3.setCell ⟨w.heap.size + 1, 0, none⟩ (.slice A4 p.f.length c4)).setCell ⟨w.heap.size + 1, 1, none⟩ (.slice (some ⟨w2.heap.size, 0, none⟩) 1 1)) :=
      ((Kp.refl _ _).setCell (fun _ h => by have : w.heap.size + 2 ≤ w.heap.size + 1 := h; omega) _).setCell (fun _ h => by have : w.heap.size + 2 ≤ w.heap.size + 1 := h; omega) _
    have kz2 := (k4.set_ 0 (.slice A4 p.f.length c4)).set_ 1 (.slice (some ⟨w2.heap.size, 0, none⟩) 1 1)
    obtain ⟨d0, d1⟩ := And.intro (kz2.cell 0) (kz2.cell 1)
    simp at d0 d1
    refine bodyPost_ret (v := .agg #[.slice A4 p.f.length c4, .slice (some ⟨w2.heap.size, 0, none⟩) 1 1]) (by simp [results, Try.results69, go_sem, d0, d1]) rfl ?_
    exact ⟨⟨_, _, rfl, by rw [← HP.out]; exact (x5.kp hk6).mono (by decide) fun b h _ => by omega, by rw [HT.out]; exact (y5.kp hk6).mono (by decide) fun b h _ => by omega⟩, (hB3.setCell (by simp) _).setCell (by simp) _⟩
end Go.Proofs.Ytikkknaofiafhaa

namespace Go.Proofs.Ytikkknaofiafhaa
open Go.RowKit

def withinB (lf lu lk : List UInt8) : Bool := !(Op.bytesLess lk lf) && (lu.isEmpty || Op.bytesLess lk lu)
theorem rb_str {ok : Nat → Prop} {w : World} {v : Value} {l : List UInt8} (h : RB ok w v l) : (convert 27 9 v).run Try.prog w = .ok (.string (str l)) w := by
  obtain ⟨A, c, rfl, _, _, hr, _⟩ := h.open_
  exact run_str (c := c) (P := Try.prog) 27 9 5 Try.underlying27 Try.underlying5 Try.underlying9 hr

set_option maxRecDepth 100000 in
set_option maxHeartbeats 1600000 in
theorem within_any {ok ok2 : Nat → Prop} (fr ut k : Value) (lf lu lk : List UInt8) (w : World) (h1 : RB ok w fr lf) (h2 : RB ok w ut lu) (h3 : RB ok2 w k lk) :
    Calls Try.prog 68 #[.agg #[fr, ut], k] w fun e w' => e = .returned (.bool (withinB lf lu lk)) ∧ Below w.heap.size w w' := by
  obtain ⟨A1, c1, rfl, _, _⟩ := h1.form
  obtain ⟨A2, c2, rfl, _, _⟩ := h2.form
  obtain ⟨A3, c3, rfl, _, _⟩ := h3.form
  have hal : ∀ o, Below w.heap.size w (w.alloc o) := fun o => (Below.refl _ _).alloc (Nat.le_refl _) _
  have e1 := rb_str (h1.below (hal (.cells #[.slice A1 lf.length c1, .slice A2 lu.length c2] 50)))
  have e2 := rb_str (h2.below (hal (.cells #[.slice A1 lf.length c1, .slice A2 lu.length c2] 50)))
  have e3 := rb_str (h3.below (hal (.cells #[.slice A1 lf.length c1, .slice A2 lu.length c2] 50)))
  obtain ⟨B1, hB1⟩ : ∃ b, b = Op.bytesLess lk lf := ⟨_, rfl⟩
  obtain ⟨B2, hB2⟩ : ∃ b, b = Op.bytesLess lk lu := ⟨_, rfl⟩
  obtain ⟨B3, hB3⟩ : ∃ b, b = lu.isEmpty := ⟨_, rfl⟩
  have t1 : Op.bytesLess (str lk).toList (str lf).toList = B1 := by rw [str_toList, str_toList, hB1]
  have t2 : Op.bytesLess (str lk).toList (str lu).toList = B2 := by rw [str_toList, str_toList, hB2]
  have t3 : ((lu.length : Int) == 0) = B3 := by rw [hB3]; cases lu <;> simp; omega
  have HW : Hid (withinB lf lu lk = (!B1 && (B3 || B2))) := by unfold withinB; rw [hB1, hB2, hB3]; rfl
  clear hB1 hB2 hB3
  cases B1 <;> cases B2 <;> cases B3
  all_goals
    go_enter Try.func68, Try.ntmps68
    go_wp2
    go_ret
    exact ⟨ret_bool (by rw [HW.out]; rfl), hal _⟩

/-- a span by value -/
def Sp.span (ok : Nat → Prop) (p q : List UInt8) : Sp :=
  ⟨fun x => ∃ A c A2 c2, x = .agg #[.slice A p.length c, .slice A2 q.length c2], .agg #[.slice none p.length 0, .slice none q.length 0], ⟨none, 0, none, 0, rfl⟩,
    fun x w => ∃ A c A2 c2, x = .agg #[.slice A p.length c, .slice A2 q.length c2] ∧ RB ok w (.slice A p.length c) p ∧ RB ok w (.slice A2 q.length c2) q,
    fun _ _ ⟨A, c, A2, c2, h, _⟩ => ⟨A, c, A2, c2, h⟩, fun _ _ _ hb ⟨A, c, A2, c2, h, h1, h2⟩ => ⟨A, c, A2, c2, h, h1.below hb, h2.below hb⟩⟩
end Go.Proofs.Ytikkknaofiafhaa
