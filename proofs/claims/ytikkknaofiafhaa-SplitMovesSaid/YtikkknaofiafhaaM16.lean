/- The document's root in memory. Contract: ref17's New. -/
import Derived.Test.YtikkknaofiafhaaM15
namespace Go.Proofs.Ytikkknaofiafhaa
open Go.RowKit

def rtCs (all : Value) (d : RouteD) (a c : Value) (sp : Int) : Array Value := #[all, .int .i64 d.e, .int .i64 d.b, a, .int .i64 d.m, c, .int .i64 sp, .int .u64 0, nl, nl]
/-- the root as the law knows it -/
def RootR (ok : Nat → Prop) (w : World) (g : Nat) (d : RouteD) (sp : Int) : Prop := ∃ all a c, Blk w g 95 (rtCs all d a c sp) ∧ RouteR ok w a c d
theorem RootR.kp {ok ok2 : Nat → Prop} {w w' : World} {g : Nat} {d : RouteD} {sp : Int} (h : RootR ok w g d sp) (hk : Kp ok2 w w') (hg : ok2 g) (hok : ∀ b, ok b → ok2 b) : RootR ok w' g d sp := by
  obtain ⟨all, a, c, h1, h2⟩ := h
  exact ⟨all, a, c, h1.kp hk hg, h2.kp (hk.mono hok)⟩
theorem RootR.mono {ok ok2 : Nat → Prop} {w : World} {g : Nat} {d : RouteD} {sp : Int} (h : RootR ok w g d sp) (hm : ∀ b, ok b → b < w.heap.size → ok2 b) : RootR ok2 w g d sp := by
  obtain ⟨all, a, c, h1, h2⟩ := h
  exact ⟨all, a, c, h1, h2.mono hm⟩
theorem RootR.lt {ok : Nat → Prop} {w : World} {g : Nat} {d : RouteD} {sp : Int} (h : RootR ok w g d sp) : g < w.heap.size := by
  obtain ⟨all, a, c, h1, h2⟩ := h
  exact h1.lt

set_option maxRecDepth 100000 in
set_option maxHeartbeats 6400000 in
theorem rootNew_any (s : Int) (h1 : 1 ≤ s) (h4 : s ≤ 4) (w : World) :
    Calls Try.prog 35 #[.int .i64 1, .int .i64 s] w fun e w' => (∃ g, e = .returned (.tuple #[.pointer (some ⟨g, 0, none⟩), .int .i64 0]) ∧ w.heap.size ≤ g ∧ RootR (fun b => w.heap.size ≤ b ∧ b ≠ g) w' g rd0 s) ∧ Below w.heap.size w w' := by
  go_enter Try.func35, Try.ntmps35
  go_wp2_with fail
  refine (refNewS_any s h1 h4 _).mono ?_
  rintro e w1 ⟨⟨a, c, rfl, hr⟩, hb1⟩
  obtain ⟨B1, d1, rfl, _, _⟩ := hr.s.form
  obtain ⟨B2, d2, rfl, _, _⟩ := hr.c.form
  have hz1 : w.heap.size ≤ w1.heap.size := hb1.size
  unfold routeCs
  go_wp2
  go_ret2
  have hbb := ((((Below.refl w1.heap.size w1).alloc (Nat.le_refl _) (.cells (routeCs rd0 (.slice B1 rd0.s.length d1) (.slice B2 rd0.c.length d2)) 42)).alloc (by simp) (.cells #[.int .i64 0, .int .i64 1, nl, nl] 68)).alloc (by simp; omega) (.cells (rtCs (.slice (some ⟨w1.heap.size + 1, 0, none⟩) 1 1) rd0 (.slice B1 rd0.s.length d1) (.slice B2 rd0.c.length d2) s) 95))
  refine ⟨⟨w1.heap.size + 1 + 1, rfl, by omega, .slice (some ⟨w1.heap.size + 1, 0, none⟩) 1 1, .slice B1 rd0.s.length d1, .slice B2 rd0.c.length d2, Blk.new_ (by simp), ?_⟩, hb1.trans (hbb.mono hz1)⟩
  exact (hr.mono (ok' := fun b => w.heap.size ≤ b ∧ b ≠ w1.heap.size + 1 + 1) fun b h h2 => ⟨h, by omega⟩).below hbb
end Go.Proofs.Ytikkknaofiafhaa
