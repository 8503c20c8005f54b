/- Contracts: what law 22's awake reaches of the document's routes: New, copied, span, Within, Cut. -/
import Derived.Test.YtikkknaofiafhaaS3
import Derived.Test.YtikkknaofiafhaaS1
import Derived.Test.YtikkknaofiafhaaReg3
import Derived.Test.YtikkknaofiafhaaS2
namespace Go.Proofs.Ytikkknaofiafhaa
open Go.RowKit

def rd0 : RouteD := ⟨0, 1, [⟨2, [120]⟩], 0, []⟩
def rd1 : RouteD := ⟨1, 1, [⟨2, [120]⟩], 2, [120, 1]⟩
theorem Blk.set5 {w : World} {g : Nat} {T : TypeId} {C : Array Value} (h : Blk w g T C) (hs : C.size = 5) (y0 y1 y2 y3 y4 : Value) : Blk (((((w.setCell ⟨g, 0, none⟩ y0).setCell ⟨g, 1, none⟩ y1).setCell ⟨g, 2, none⟩ y2).setCell ⟨g, 3, none⟩ y3).setCell ⟨g, 4, none⟩ y4) g T #[y0, y1, y2, y3, y4] := by
  have := h.setCells #[y0, y1, y2, y3, y4] (by simpa using hs)
  simpa [World.setCells] using this
theorem kp_set5 {ok : Nat → Prop} {a w : World} {g : Nat} (h : Kp ok a w) (hg : g < a.heap.size → ¬ ok g) (y0 y1 y2 y3 y4 : Value) : Kp ok a (((((w.setCell ⟨g, 0, none⟩ y0).setCell ⟨g, 1, none⟩ y1).setCell ⟨g, 2, none⟩ y2).setCell ⟨g, 3, none⟩ y3).setCell ⟨g, 4, none⟩ y4) :=
  ((((h.setCell (p := ⟨g, 0, none⟩) hg _).setCell (p := ⟨g, 1, none⟩) hg _).setCell (p := ⟨g, 2, none⟩) hg _).setCell (p := ⟨g, 3, none⟩) hg _).setCell (p := ⟨g, 4, none⟩) hg _
theorem Try.infoRoutes : (Try.prog.info? 42).map (·.size) = some 5 := by kernel_rfl
theorem route_res {d : RouteD} {a c : Value} {w : World} {g : Nat} {T : TypeId} (h : Blk w g T (routeCs d a c)) : (loadVar 42 ⟨g, 0, none⟩).run Try.prog w = .ok (.agg (routeCs d a c)) w := h.loadVar Try.underlying42 rfl Try.infoRoutes

set_option maxRecDepth 100000 in
set_option maxHeartbeats 3200000 in
theorem refNew_any (w : World) :
    Calls Try.prog 65 #[.int .i64 1, .int .i64 2] w fun e w' => (∃ a c, e = .returned (.tuple #[.agg (routeCs rd0 a c), .int .i64 0]) ∧ RouteR (fun b => w.heap.size ≤ b) w' a c rd0) ∧ Below w.heap.size w w' := by
  go_enter Try.func65, Try.ntmps65
  go_wp2
  refine name_post (fun w1 => Below w.heap.size w w1 ∧ Blk w1 w.heap.size 42 (routeCs rd0 (.slice (some ⟨w.heap.size + 1 + 1, 0, none⟩) 1 1) (.slice none 0 0)) ∧ RSl rOwner (fun b => w.heap.size ≤ b) w1 (.slice (some ⟨w.heap.size + 1 + 1, 0, none⟩) 1 1) rd0.s)
    ⟨(((Below.refl _ _).alloc (Nat.le_refl _) _).alloc (by simp) _).alloc (by simp; omega) _, ((Blk.new w _ _).alloc _).alloc _, ?_⟩ ?_
  · have h1 := RSl.one_new (ok := fun b => w.heap.size ≤ b) (E := rU8) (w := w.alloc (.cells (routeCs rd0 (.slice (some ⟨w.heap.size + 1 + 1, 0, none⟩) 1 1) (.slice none 0 0)) 42)) (cs := #[.int .u8 120]) (d := 120) 5 rfl (by simp) (by decide)
    have h2 := RSl.one_new (ok := fun b => w.heap.size ≤ b) (E := rOwner) (w := (w.alloc (.cells (routeCs rd0 (.slice (some ⟨w.heap.size + 1 + 1, 0, none⟩) 1 1) (.slice none 0 0)) 42)).alloc (.cells #[.int .u8 120] 5)) (cs := #[.int .i64 2, .slice (some ⟨w.heap.size + 1, 0, none⟩) 1 1]) (d := ⟨2, [120]⟩) 104 ⟨_, rfl, by simpa using h1, ⟨by decide, by decide⟩⟩ (by simp; omega) (by decide)
    simpa [routeCs, rd0] using h2
  rintro w1 ⟨hb1, kb, ho⟩
  have lv := route_res kb
  refine bodyPost_ret (v := .tuple #[.agg (routeCs rd0 (.slice (some ⟨w.heap.size + 1 + 1, 0, none⟩) 1 1) (.slice none 0 0)), .int .i64 0]) ?_ rfl ⟨⟨_, _, rfl, ho, RSl.nil_ _ _ _, ⟨by decide, by decide⟩, ⟨by decide, by decide⟩, ⟨by decide, by decide⟩⟩, hb1⟩
  simp [results, Try.results65, Sem.run_bind, Sem.run_pure, asAddr_ok, lv]
end Go.Proofs.Ytikkknaofiafhaa
