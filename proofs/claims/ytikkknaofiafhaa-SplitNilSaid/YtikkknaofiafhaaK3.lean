/- Catalogs as data; contract: ref12.ByID. -/
import Derived.Test.YtikkknaofiafhaaK2
import Derived.Test.YtikkknaofiafhaaR7
namespace Go.Proofs.Ytikkknaofiafhaa
open Go.RowKit

theorem TabR.kp {ok : Nat → Prop} {w w' : World} {a b : Value} {d : TabD} (hk : Kp ok w w') (h : TabR ok w a b d) : TabR ok w' a b d := ⟨h.cols.kp hk, h.key.kp hk, h.id, h.nm⟩
theorem TabR.mono {ok ok' : Nat → Prop} {w : World} {a b : Value} {d : TabD} (hm : ∀ b, ok b → b < w.heap.size → ok' b) (h : TabR ok w a b d) : TabR ok' w a b d := ⟨h.cols.mono (by decide) hm, h.key.mono (by decide) hm, h.id, h.nm⟩
theorem IdxR.kp {ok : Nat → Prop} {w w' : World} {a : Value} {d : IdxD} (hk : Kp ok w w') (h : IdxR ok w a d) : IdxR ok w' a d := ⟨h.cols.kp hk, h.id, h.nm⟩
theorem IdxR.mono {ok ok' : Nat → Prop} {w : World} {a : Value} {d : IdxD} (hm : ∀ b, ok b → b < w.heap.size → ok' b) (h : IdxR ok w a d) : IdxR ok' w a d := ⟨h.cols.mono (by decide) hm, h.id, h.nm⟩
def rTab : Rel TabD where
  sz := 4
  wt := 72
  rel ok w cs d := ∃ a b, cs = [.int .i64 d.id, .string d.name, a, b] ∧ TabR ok w a b d
  len := by rintro ok w cs d ⟨a, c, rfl, _⟩; rfl
  one := by
    rintro ok w cs d ⟨a, c, rfl, h⟩ u hu
    simp at hu
    rcases hu with rfl | rfl | rfl | rfl
    · rfl
    · rfl
    · exact h.cols.one
    · exact h.key.one
  kp := by
    rintro ok w w' cs d hk ⟨a, c, rfl, h⟩
    exact ⟨a, c, rfl, h.kp hk⟩
  mono := by
    rintro ok ok' w cs d hm ⟨a, c, rfl, h⟩
    exact ⟨a, c, rfl, h.mono hm⟩
def rIdx : Rel IdxD where
  sz := 7
  wt := 80
  rel ok w cs d := ∃ a, cs = [.int .i64 d.id, .int .i64 d.table, .string d.name, a, .bool d.uniq, .int .i64 d.state, .bool d.bad] ∧ IdxR ok w a d
  len := by rintro ok w cs d ⟨a, rfl, _⟩; rfl
  one := by
    rintro ok w cs d ⟨a, rfl, h⟩ u hu
    simp at hu
    rcases hu with rfl | rfl | rfl | rfl | rfl | rfl | rfl
    · rfl
    · rfl
    · rfl
    · exact h.cols.one
    · rfl
    · rfl
    · rfl
  kp := by
    rintro ok w w' cs d hk ⟨a, rfl, h⟩
    exact ⟨a, rfl, h.kp hk⟩
  mono := by
    rintro ok ok' w cs d hm ⟨a, rfl, h⟩
    exact ⟨a, rfl, h.mono hm⟩
structure CatD where
  ver : Int
  next : Int
  tabs : List TabD
  idxs : List IdxD
def catCs (d : CatD) (a b : Value) : Array Value := #[.int .i64 d.ver, .int .i64 d.next, a, b]
structure CatR (ok : Nat → Prop) (w : World) (a b : Value) (d : CatD) : Prop where
  tabs : RSl rTab ok w a d.tabs
  idxs : RSl rIdx ok w b d.idxs
theorem CatR.below {ok : Nat → Prop} {w w' : World} {a b : Value} {d : CatD} (h : CatR ok w a b d) (hb : Below w.heap.size w w') : CatR ok w' a b d := ⟨h.tabs.below hb, h.idxs.below hb⟩

theorem set4_cells {w : World} {g : Nat} {t : TypeId} {x0 x1 x2 x3 : Value} (h : Blk w g t #[x0, x1, x2, x3]) : w.cell? ⟨g, 0, none⟩ = some x0 ∧ w.cell? ⟨g, 1, none⟩ = some x1 ∧ w.cell? ⟨g, 2, none⟩ = some x2 ∧ w.cell? ⟨g, 3, none⟩ = some x3 := ⟨h.cell 0, h.cell 1, h.cell 2, h.cell 3⟩
theorem Blk.set4 {w : World} {g : Nat} {T : TypeId} {x0 x1 x2 x3 : Value} (h : Blk w g T #[x0, x1, x2, x3]) (y0 y1 y2 y3 : Value) : Blk ((((w.setCell ⟨g, 0, none⟩ y0).setCell ⟨g, 1, none⟩ y1).setCell ⟨g, 2, none⟩ y2).setCell ⟨g, 3, none⟩ y3) g T #[y0, y1, y2, y3] := by
  have := (((h.set_ 0 y0).set_ 1 y1).set_ 2 y2).set_ 3 y3
  simpa using this
theorem below_set4 {B : Nat} {a w : World} (h : Below B a w) {g : Nat} (hg : B ≤ g) (x0 x1 x2 x3 : Value) : Below B a ((((w.setCell ⟨g, 0, none⟩ x0).setCell ⟨g, 1, none⟩ x1).setCell ⟨g, 2, none⟩ x2).setCell ⟨g, 3, none⟩ x3) :=
  (((h.setCell hg _).setCell hg _).setCell hg _).setCell hg _
theorem kp_set4 {ok : Nat → Prop} {w : World} {g : Nat} (hg : ¬ ok g) (x0 x1 x2 x3 : Value) : Kp ok w ((((w.setCell ⟨g, 0, none⟩ x0).setCell ⟨g, 1, none⟩ x1).setCell ⟨g, 2, none⟩ x2).setCell ⟨g, 3, none⟩ x3) :=
  ((((Kp.refl _ _).setCell (fun _ h => hg h) _).setCell (fun _ h => hg h) _).setCell (fun _ h => hg h) _).setCell (fun _ h => hg h) _
def zeroT : TabD := ⟨0, ⟨#[]⟩, [], []⟩
def ByIDPost (ok : Nat → Prop) (ts : List TabD) (id : Int) (e : Ending) (w' : World) : Prop :=
  ∃ t a b bb, e = .returned (.tuple #[.agg (tabCs t a b), .bool bb]) ∧ TabR ok w' a b t ∧ ((bb = true ∧ ts.find? (fun t => t.id == id) = some t) ∨ (bb = false ∧ ts.find? (fun t => t.id == id) = none ∧ t = zeroT))

set_option maxRecDepth 100000 in
set_option maxHeartbeats 3200000 in
theorem byID_any {ok : Nat → Prop} (c : CatD) (a b : Value) (id : Int) (w : World) (hc : CatR ok w a b c) :
    Calls Try.prog 161 #[.agg (catCs c a b), .int .i64 id] w fun e w' => ByIDPost ok c.tabs id e w' ∧ Below w.heap.size w w' := by
  obtain ⟨A, n, rfl, hn, hbd⟩ := hc.tabs.form
  have hbd' : c.tabs.length * 72 ≤ 140737488351232 := hbd
  clear hbd
  go_enter Try.func161, Try.ntmps161
  unfold catCs
  go_upto_region 1 with fail
  refine name_world (fun w1 => Below w.heap.size w w1 ∧ w.heap.size + 2 ≤ w1.heap.size ∧ Blk w1 w.heap.size 68 (catCs c (.slice A c.tabs.length n) b) ∧ Blk w1 (w.heap.size + 1) 56 #[.int .i64 0, .string ⟨#[]⟩, .slice none 0 0, .slice none 0 0])
    ⟨((Below.refl _ _).alloc (Nat.le_refl _) _).alloc (by simp) _, by simp, (Blk.new w _ _).alloc _, Blk.new_ (by simp)⟩ ?_
  rintro w1 ⟨hb1, hz1, kc, kt⟩
  have a2 : w1.cell? ⟨w.heap.size, 2, none⟩ = some (.slice A c.tabs.length n) := kc.cell 2
  obtain ⟨z0, z1, z2, z3⟩ := set4_cells kt
  have fz := fun i => kt.frozen i
  go_wp2
  go_loop [6] (fun i => ∃ k : Nat, k ≤ c.tabs.length ∧ i = .int .i64 (k : Int) ∧ Hid (c.tabs.find? (fun t => t.id == id) = (c.tabs.drop k).find? (fun t => t.id == id))) (fun i => c.tabs.length - (intOf i).toNat)
  case atStart => exact ⟨0, by omega, rfl, rfl⟩
  case round =>
    obtain ⟨k, hk, rfl, HE⟩ := hrel
    by_cases hlt : k < c.tabs.length
    · obtain ⟨b1, off1, c1', cs1, hv1, _, ⟨ta, tb, rfl, hT⟩, hcell1⟩ := ((hc.tabs.mono (by decide) (ok' := fun b => ok b ∧ b < w.heap.size) fun b h1 h2 => ⟨h1, h2⟩).below hb1).at_ hlt
      simp only [Value.slice.injEq, true_and] at hv1
      obtain ⟨rfl, rfl⟩ := hv1
      have p0 := hcell1 0 _ rfl
      have p1 := hcell1 1 _ rfl
      have p2 := hcell1 2 _ rfl
      have p3 := hcell1 3 _ rfl
      simp only [Nat.add_zero, show rTab.sz = 4 from rfl] at p0 p1 p2 p3
      clear hcell1
      have HS : Hid ((c.tabs.drop k).find? (fun t => t.id == id) = if c.tabs[k].id == id then some c.tabs[k] else (c.tabs.drop (k + 1)).find? (fun t => t.id == id)) := by
        unfold Hid
        rw [List.drop_eq_getElem_cons hlt, List.find?_cons]
        cases c.tabs[k].id == id <;> rfl
      obtain ⟨t, ht⟩ : ∃ t, t = c.tabs[k] := ⟨_, rfl⟩
      rw [← ht] at p0 p1 HS hT
      clear ht
      cases he : t.id == id
      · have HEQ : Hid (c.tabs.find? (fun t => t.id == id) = (c.tabs.drop (k + 1)).find? (fun t => t.id == id)) := by unfold Hid; rw [HE.out, HS.out, he]; rfl
        clear HS
        go_wp2
        go_round
        case rel => exact ⟨k + 1, by omega, by go_num, HEQ⟩
        case measure => simp [intOf]; omega
      · have HEQ : Hid (c.tabs.find? (fun t => t.id == id) = some t) := by unfold Hid; rw [HE.out, HS.out, he]; rfl
        clear HS
        obtain ⟨A1, n1, rfl, _, _⟩ := hT.cols.form
        obtain ⟨A2, n2, rfl, _, _⟩ := hT.key.form
        go_wp2
        have hx := kt.set4 (.int .i64 t.id) (.string t.name) (.slice A1 t.cols.length n1) (.slice A2 t.key.length n2)
        obtain ⟨d0, d1, d2, d3⟩ := set4_cells hx
        have hbx := below_set4 hb1 (g := w.heap.size + 1) (by omega) (.int .i64 t.id) (.string t.name) (.slice A1 t.cols.length n1) (.slice A2 t.key.length n2)
        refine bodyPost_ret (v := .tuple #[.agg #[.int .i64 t.id, .string t.name, .slice A1 t.cols.length n1, .slice A2 t.key.length n2], .bool true]) (by simp [results, Try.results161, go_sem, d0, d1, d2, d3]) rfl ?_
        refine ⟨⟨t, _, _, true, rfl, ?_, .inl ⟨rfl, HEQ.out⟩⟩, hbx⟩
        exact (hT.kp (kp_set4 (fun h => by have := h.2; omega) _ _ _ _)).mono fun b h _ => h.1
    · go_wp2
      have hx := kt.set4 (.int .i64 0) (.string ⟨#[]⟩) (.slice none 0 0) (.slice none 0 0)
      obtain ⟨d0, d1, d2, d3⟩ := set4_cells hx
      have hbx := below_set4 hb1 (g := w.heap.size + 1) (by omega) (.int .i64 0) (.string ⟨#[]⟩) (.slice none 0 0) (.slice none 0 0)
      refine bodyPost_ret (v := .tuple #[.agg #[.int .i64 0, .string ⟨#[]⟩, .slice none 0 0, .slice none 0 0], .bool false]) (by simp [results, Try.results161, go_sem, d0, d1, d2, d3]) rfl ?_
      refine ⟨⟨zeroT, _, _, false, rfl, ⟨RSl.nil_ _ _ _, RSl.nil_ _ _ _, ⟨by decide, by decide⟩, by decide⟩, .inr ⟨rfl, ?_, rfl⟩⟩, hbx⟩
      rw [HE.out, List.drop_of_length_le (by omega)]
      rfl
end Go.Proofs.Ytikkknaofiafhaa
