/- Contract: split.own.
Contracts: the document's at and route.place, route.Next.
Contracts: what law 22's awake reaches of the document's routes: New, copied, span, Within, Cut.
Contract: the document's copied.
Contract: the document's span.
Contract: same.Within. -/
import Derived.Test.YtdibkhphemfdeaaGreatDoorS0
import Derived.Test.YtdibkhphemfdeaaGreatDoorCmd
import Derived.Deep.RegionHeld3
import Derived.Deep.DrawnRows
import Derived.Deep.DeepCutAuto
import Derived.Test.YtdibkhphemfdeaaGreatDoorR3
import Derived.Test.YtdibkhphemfdeaaGreatDoorRegE
namespace Go.Proofs.YtdibkhphemfdeaaGreatDoor
open Go.RowKit

theorem cmd_set7 (kind n : Int) (flag : Bool) (key fr ut pairs v : Value) : (cmdCs kind n flag key fr ut pairs).setIfInBounds 7 v = cmdCs kind n flag v fr ut pairs := by simp [cmdCs]
theorem cmd_set8 (kind n : Int) (flag : Bool) (key fr ut pairs v : Value) : (cmdCs kind n flag key fr ut pairs).setIfInBounds 8 v = cmdCs kind n flag key v ut pairs := by simp [cmdCs]
theorem cmd_set9 (kind n : Int) (flag : Bool) (key fr ut pairs v : Value) : (cmdCs kind n flag key fr ut pairs).setIfInBounds 9 v = cmdCs kind n flag key fr v pairs := by simp [cmdCs]
theorem cmd_set10 (kind n : Int) (flag : Bool) (key fr ut pairs v : Value) : (cmdCs kind n flag key fr ut pairs).setIfInBounds 10 v = cmdCs kind n flag key fr ut v := by simp [cmdCs]
abbrev nl : Value := .slice none 0 0
theorem Tryz.infoCmd : (Tryz.prog.info? 51).map (·.size) = some 25 := by kernel_rfl

end Go.Proofs.YtdibkhphemfdeaaGreatDoor

namespace Go.Proofs.YtdibkhphemfdeaaGreatDoor
open Go.RowKit

def routeCs (d : RouteD) (a c : Value) : Array Value := #[.int .i64 d.e, .int .i64 d.b, a, .int .i64 d.m, c]
structure RouteR (ok : Nat → Prop) (w : World) (a c : Value) (d : RouteD) : Prop where
  s : RSl rOwner ok w a d.s
  c : RB ok w c d.c
  e : I64 d.e
  b : I64 d.b
  m : I64 d.m
section
variable {ok ok' : Nat → Prop} {w w' : World} {a c : Value} {d : RouteD}
theorem RouteR.below (h : RouteR ok w a c d) (hb : Below w.heap.size w w') : RouteR ok w' a c d := ⟨h.s.below hb, h.c.below hb, h.e, h.b, h.m⟩
theorem RouteR.kp (hk : Kp ok w w') (h : RouteR ok w a c d) : RouteR ok w' a c d := ⟨h.s.kp hk, h.c.kp hk, h.e, h.b, h.m⟩
theorem RouteR.mono (hm : ∀ b, ok b → b < w.heap.size → ok' b) (h : RouteR ok w a c d) : RouteR ok' w a c d := ⟨h.s.mono (by decide) hm, h.c.mono (by decide) hm, h.e, h.b, h.m⟩
end
theorem route_cells {w : World} {g : Nat} {T : TypeId} {d : RouteD} {a c : Value} (h : Blk w g T (routeCs d a c)) : w.cell? ⟨g, 0, none⟩ = some (.int .i64 d.e) ∧ w.cell? ⟨g, 1, none⟩ = some (.int .i64 d.b) ∧ w.cell? ⟨g, 2, none⟩ = some a ∧ w.cell? ⟨g, 3, none⟩ = some (.int .i64 d.m) ∧ w.cell? ⟨g, 4, none⟩ = some c := ⟨h.cell 0, h.cell 1, h.cell 2, h.cell 3, h.cell 4⟩
/-- the place of a group; -1 -/
def atG (l : List OwnerD) (g : Int) (n : Nat) : Int := idxI (l.map OwnerD.g) g n
theorem atG_drop (l : List OwnerD) (g : Int) (n : Nat) (h : n < l.length) : atG (l.drop n) g n = if g = l[n].g then (n : Int) else atG (l.drop (n + 1)) g (n + 1) := by
  unfold atG
  rw [List.map_drop, idxI_drop _ _ _ (by simpa using h), List.getElem_map, List.map_drop]
theorem atG_nil (g : Int) (n : Nat) : atG [] g n = -1 := rfl
theorem atG_ge (l : List OwnerD) (g : Int) : atG l g 0 = -1 ∨ ∃ j : Nat, atG l g 0 = j ∧ ∃ h : j < l.length, l[j].g = g := by
  have : ∀ (l : List OwnerD) (n : Nat), atG l g n = -1 ∨ ∃ j : Nat, atG l g n = ((n + j : Nat) : Int) ∧ ∃ h : j < l.length, l[j].g = g := by
    intro l
    induction l with
    | nil => exact fun n => .inl rfl
    | cons y l ih =>
      intro n
      unfold atG
      rw [List.map_cons, idxI]
      split
      · rename_i h
        exact .inr ⟨0, rfl, by simp, by simp [h]⟩
      · rcases ih (n + 1) with h | ⟨j, h, hj, hl⟩
        · exact .inl h
        · refine .inr ⟨j + 1, ?_, by simp; omega, by simpa using hl⟩
          unfold atG at h
          rw [h]
          congr 1
          omega
  rcases this l 0 with h | ⟨j, h, hj, hl⟩
  · exact .inl h
  · exact .inr ⟨j, by simpa using h, hj, hl⟩

set_option maxRecDepth 100000 in
theorem place1_any (o : OwnerD) (A : Option Addr) (n c : Nat) (q : Nat) (g : Int) (w : World) (hq : w.cell? ⟨q, 0, none⟩ = some (.int .i64 g)) :
    Calls Tryz.prog 89 #[.agg #[.int .i64 o.g, .slice A n c], .pointer (some ⟨q, 0, none⟩)] w fun e w' => e = .returned (.bool (o.g == g)) ∧ Below w.heap.size w w' := by
  have hq1 := fun o => alloc1 hq o
  go_enter Tryz.func89, Tryz.ntmps89
  go_wp2
  go_ret
  exact ⟨rfl, (Below.refl _ _).alloc (Nat.le_refl _) _⟩

set_option maxRecDepth 100000 in
set_option maxHeartbeats 1600000 in
theorem indexOwner_any {ok : Nat → Prop} (v : Value) (l : List OwnerD) (q : Nat) (g : Int) (w : World) (hr : RSl rOwner ok w v l) (hq : w.cell? ⟨q, 0, none⟩ = some (.int .i64 g)) :
    Calls Tryz.prog 88 #[v, .func (.func 89) #[] #[.pointer (some ⟨q, 0, none⟩)]] w fun e w' => e = .returned (.int .i64 (atG l g 0)) ∧ Below w.heap.size w w' := by
  obtain ⟨A, cc, rfl, hc, hbd⟩ := hr.form
  have hbd' : l.length * 32 ≤ 140737488351232 := hbd
  clear hbd
  have hqb := World.block_lt_of_cell? w _ hq
  simp only at hqb
  go_enter Tryz.func88, Tryz.ntmps88
  go_wp2
  go_loopw [8] (fun j wr => ∃ k : Nat, k ≤ l.length ∧ j = .int .i64 (k : Int) ∧ Below w.heap.size w wr ∧ Hid (atG l g 0 = atG (l.drop k) g k)) (fun j _ => l.length - (intOf j).toNat)
  case atStart => exact ⟨0, by omega, rfl, Below.refl _ _, rfl⟩
  case round =>
    obtain ⟨k, hk, rfl, hb, HE⟩ := hrel
    by_cases hlt : k < l.length
    · obtain ⟨b1, off1, c1', cs1, hv1, _, ⟨a1, rfl, ha1, _⟩, hcell1⟩ := (hr.below hb).at_ hlt
      simp only [Value.slice.injEq, true_and] at hv1
      obtain ⟨rfl, rfl⟩ := hv1
      have p0 := hcell1 0 _ rfl
      have p1 := hcell1 1 _ rfl
      simp only [Nat.add_zero, show rOwner.sz = 2 from rfl] at p0 p1
      clear hcell1
      obtain ⟨A1, n1, rfl, _, _⟩ := ha1.form
      have hqw : wr.cell? ⟨q, 0, none⟩ = some (.int .i64 g) := (hb.cell (p := ⟨q, 0, none⟩) hqb).trans hq
      have HS := Lib.hid (atG_drop l g k hlt)
      obtain ⟨x, hx⟩ : ∃ x, x = l[k] := ⟨_, rfl⟩
      rw [← hx] at p0 p1 HS
      clear hx ha1
      go_wp2_with fail
      refine (place1_any x _ _ _ q g _ hqw).mono ?_
      rintro e w1 ⟨rfl, hb1⟩
      have hbn := hb.trans (hb1.mono hb.size)
      cases hE : (x.g == g)
      · have HK : Hid (¬ g = x.g) := fun h => by subst h; simp at hE
        clear hE
        go_wp2
        go_roundw
        case rel => exact ⟨k + 1, by omega, by go_num, hbn, by rw [HE.out, HS.out, if_neg HK.out]; trivial⟩
        case measure => simp [intOf]; omega
      · have HK : Hid (g = x.g) := (by simpa using hE : x.g = g).symm
        clear hE
        go_wp2
        go_ret
        exact ⟨ret_int (by rw [HE.out, HS.out, if_pos HK.out]), hbn⟩
    · go_wp2
      go_ret
      exact ⟨ret_int (by rw [HE.out, List.drop_of_length_le (by omega)]; rfl), hb⟩

set_option maxRecDepth 100000 in
set_option maxHeartbeats 1600000 in
theorem place_any {ok : Nat → Prop} (d : RouteD) (a c : Value) (g : Int) (w : World) (hr : RouteR ok w a c d) :
    Calls Tryz.prog 67 #[.agg (routeCs d a c), .int .i64 g] w fun e w' => e = .returned (.int .i64 (atG d.s g 0)) ∧ Below w.heap.size w w' := by
  obtain ⟨A, cc, rfl, hc, hbd⟩ := hr.s.form
  go_enter Tryz.func67, Tryz.ntmps67
  unfold routeCs
  go_wp2_with fail
  refine (indexOwner_any _ d.s (w.heap.size + 1) g _ ((hr.s.below ((Below.refl _ _).alloc (Nat.le_refl _) _)).below ((Below.refl _ _).alloc (Nat.le_refl _) _)) (by simp)).mono ?_
  rintro e w1 ⟨rfl, hb1⟩
  have hbw : Below w.heap.size w w1 := (((Below.refl _ _).alloc (Nat.le_refl _) _).alloc (by simp) _).trans (hb1.mono (by simp; omega))
  go_wp2
  go_ret
  exact ⟨rfl, hbw⟩

/-- the first group free, from i on, n of them -/
def nextG (l : List OwnerD) (b : Int) (i : Nat) : Nat → Int
  | 0 => 0
  | n + 1 => if atG l (b + i) 0 < 0 then b + i else nextG l b (i + 1) n

theorem nextG_out (l : List OwnerD) (b : Int) (i n : Nat) (h : n = 0) : nextG l b i n = 0 := by subst h; rfl
theorem nextG_in (l : List OwnerD) (b : Int) (i n : Nat) (h : 0 < n) : nextG l b i n = if atG l (b + i) 0 < 0 then b + i else nextG l b (i + 1) (n - 1) := by
  cases n with
  | zero => omega
  | succ n => rfl
end Go.Proofs.YtdibkhphemfdeaaGreatDoor

namespace Go.Proofs.YtdibkhphemfdeaaGreatDoor
open Go.RowKit

def rd0 : RouteD := ⟨0, 1, [⟨2, [120]⟩], 0, []⟩
def rd1 : RouteD := ⟨1, 1, [⟨2, [120]⟩], 2, [120, 1]⟩
theorem Blk.set5 {w : World} {g : Nat} {T : TypeId} {C : Array Value} (h : Blk w g T C) (hs : C.size = 5) (y0 y1 y2 y3 y4 : Value) : Blk (((((w.setCell ⟨g, 0, none⟩ y0).setCell ⟨g, 1, none⟩ y1).setCell ⟨g, 2, none⟩ y2).setCell ⟨g, 3, none⟩ y3).setCell ⟨g, 4, none⟩ y4) g T #[y0, y1, y2, y3, y4] := by
  have := h.setCells #[y0, y1, y2, y3, y4] (by simpa using hs)
  simpa [World.setCells] using this
theorem kp_set5 {ok : Nat → Prop} {a w : World} {g : Nat} (h : Kp ok a w) (hg : g < a.heap.size → ¬ ok g) (y0 y1 y2 y3 y4 : Value) : Kp ok a (((((w.setCell ⟨g, 0, none⟩ y0).setCell ⟨g, 1, none⟩ y1).setCell ⟨g, 2, none⟩ y2).setCell ⟨g, 3, none⟩ y3).setCell ⟨g, 4, none⟩ y4) :=
  ((((h.setCell (p := ⟨g, 0, none⟩) hg _).setCell (p := ⟨g, 1, none⟩) hg _).setCell (p := ⟨g, 2, none⟩) hg _).setCell (p := ⟨g, 3, none⟩) hg _).setCell (p := ⟨g, 4, none⟩) hg _
theorem Tryz.infoRoutes : (Tryz.prog.info? 33).map (·.size) = some 5 := by kernel_rfl
theorem route_res {d : RouteD} {a c : Value} {w : World} {g : Nat} {T : TypeId} (h : Blk w g T (routeCs d a c)) : (loadVar 33 ⟨g, 0, none⟩).run Tryz.prog w = .ok (.agg (routeCs d a c)) w := h.loadVar Tryz.underlying33 rfl Tryz.infoRoutes

set_option maxRecDepth 100000 in
set_option maxHeartbeats 3200000 in
theorem refNew_any (w : World) :
    Calls Tryz.prog 17 #[.int .i64 1, .int .i64 2] w fun e w' => (∃ a c, e = .returned (.tuple #[.agg (routeCs rd0 a c), .int .i64 0]) ∧ RouteR (fun b => w.heap.size ≤ b) w' a c rd0) ∧ Below w.heap.size w w' := by
  go_enter Tryz.func17, Tryz.ntmps17
  go_wp2
  refine name_post (fun w1 => Below w.heap.size w w1 ∧ Blk w1 w.heap.size 33 (routeCs rd0 (.slice (some ⟨w.heap.size + 1 + 1, 0, none⟩) 1 1) (.slice none 0 0)) ∧ RSl rOwner (fun b => w.heap.size ≤ b) w1 (.slice (some ⟨w.heap.size + 1 + 1, 0, none⟩) 1 1) rd0.s)
    ⟨(((Below.refl _ _).alloc (Nat.le_refl _) _).alloc (by simp) _).alloc (by simp; omega) _, ((Blk.new w _ _).alloc _).alloc _, ?_⟩ ?_
  · have h1 := RSl.one_new (ok := fun b => w.heap.size ≤ b) (E := rU8) (w := w.alloc (.cells (routeCs rd0 (.slice (some ⟨w.heap.size + 1 + 1, 0, none⟩) 1 1) (.slice none 0 0)) 33)) (cs := #[.int .u8 120]) (d := 120) 5 rfl (by simp) (by decide)
    have h2 := RSl.one_new (ok := fun b => w.heap.size ≤ b) (E := rOwner) (w := (w.alloc (.cells (routeCs rd0 (.slice (some ⟨w.heap.size + 1 + 1, 0, none⟩) 1 1) (.slice none 0 0)) 33)).alloc (.cells #[.int .u8 120] 5)) (cs := #[.int .i64 2, .slice (some ⟨w.heap.size + 1, 0, none⟩) 1 1]) (d := ⟨2, [120]⟩) 60 ⟨_, rfl, by simpa using h1, ⟨by decide, by decide⟩⟩ (by simp; omega) (by decide)
    simpa [routeCs, rd0] using h2
  rintro w1 ⟨hb1, kb, ho⟩
  have lv := route_res kb
  refine bodyPost_ret (v := .tuple #[.agg (routeCs rd0 (.slice (some ⟨w.heap.size + 1 + 1, 0, none⟩) 1 1) (.slice none 0 0)), .int .i64 0]) ?_ rfl ⟨⟨_, _, rfl, ho, RSl.nil_ _ _ _, ⟨by decide, by decide⟩, ⟨by decide, by decide⟩, ⟨by decide, by decide⟩⟩, hb1⟩
  simp [results, Tryz.results17, Sem.run_bind, Sem.run_pure, asAddr_ok, lv]
end Go.Proofs.YtdibkhphemfdeaaGreatDoor

namespace Go.Proofs.YtdibkhphemfdeaaGreatDoor
open Go.RowKit

theorem Tryz.rowOwner : RowTy Tryz.prog 30 60 2 32 := rowTy_mk Tryz.underlying30 (by kernel_rfl)
theorem routeCs_one {d : RouteD} {A A2 : Option Addr} {n c n2 c2 : Nat} : (routeCs d (.slice A n c) (.slice A2 n2 c2)).all (·.oneCell') = true := by simp [routeCs, Value.oneCell']
theorem route_set2 (d : RouteD) (a c v : Value) : (routeCs d a c).setIfInBounds 2 v = routeCs d v c := by simp [routeCs]
theorem route_set4 (d : RouteD) (a c v : Value) : (routeCs d a c).setIfInBounds 4 v = routeCs d a v := by simp [routeCs]
theorem route_laters {w : World} {g : Nat} {T : TypeId} {d : RouteD} {a c : Value} (h : Blk w g T (routeCs d a c)) : (∀ s : Later w, s.val.cell? ⟨g, 0, none⟩ = some (.int .i64 d.e)) ∧ (∀ s : Later w, s.val.cell? ⟨g, 1, none⟩ = some (.int .i64 d.b)) ∧ (∀ s : Later w, s.val.cell? ⟨g, 2, none⟩ = some a) ∧ (∀ s : Later w, s.val.cell? ⟨g, 3, none⟩ = some (.int .i64 d.m)) ∧ ∀ s : Later w, s.val.cell? ⟨g, 4, none⟩ = some c := ⟨h.later rfl, h.later rfl, h.later rfl, h.later rfl, h.later rfl⟩
def rdZ : RouteD := ⟨0, 0, [], 0, []⟩

end Go.Proofs.YtdibkhphemfdeaaGreatDoor

namespace Go.Proofs.YtdibkhphemfdeaaGreatDoor
open Go.RowKit

def spanTo (l : List OwnerD) (k : Nat) : List UInt8 := match l[k + 1]? with | some o => o.f | none => [121]
theorem spanTo_in {l : List OwnerD} {k : Nat} (h : k + 1 < l.length) : spanTo l k = l[k + 1].f := by simp [spanTo, h]
theorem spanTo_out {l : List OwnerD} {k : Nat} (h : ¬ k + 1 < l.length) : spanTo l k = [121] := by simp [spanTo, List.getElem?_eq_none (Nat.le_of_not_lt h)]

end Go.Proofs.YtdibkhphemfdeaaGreatDoor

namespace Go.Proofs.YtdibkhphemfdeaaGreatDoor
open Go.RowKit

def withinB (lf lu lk : List UInt8) : Bool := !(Op.bytesLess lk lf) && (lu.isEmpty || Op.bytesLess lk lu)
theorem rb_str {ok : Nat → Prop} {w : World} {v : Value} {l : List UInt8} (h : RB ok w v l) : (convert 31 9 v).run Tryz.prog w = .ok (.string (str l)) w := by
  obtain ⟨A, c, rfl, _, _, hr, _⟩ := h.open_
  exact run_str (c := c) (P := Tryz.prog) 31 9 5 Tryz.underlying31 Tryz.underlying5 Tryz.underlying9 hr

/-- a span by value -/
def Sp.span (ok : Nat → Prop) (p q : List UInt8) : Sp :=
  ⟨fun x => ∃ A c A2 c2, x = .agg #[.slice A p.length c, .slice A2 q.length c2], .agg #[.slice none p.length 0, .slice none q.length 0], ⟨none, 0, none, 0, rfl⟩,
    fun x w => ∃ A c A2 c2, x = .agg #[.slice A p.length c, .slice A2 q.length c2] ∧ RB ok w (.slice A p.length c) p ∧ RB ok w (.slice A2 q.length c2) q,
    fun _ _ ⟨A, c, A2, c2, h, _⟩ => ⟨A, c, A2, c2, h⟩, fun _ _ _ hb ⟨A, c, A2, c2, h, h1, h2⟩ => ⟨A, c, A2, c2, h, h1.below hb, h2.below hb⟩⟩
end Go.Proofs.YtdibkhphemfdeaaGreatDoor
