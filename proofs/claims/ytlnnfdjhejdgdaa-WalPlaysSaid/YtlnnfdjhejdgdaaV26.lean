/- WalPlays: an Op as data, its opener. -/
import Derived.Test.YtlnnfdjhejdgdaaV21
import Derived.Test.YtlnnfdjhejdgdaaOpL
namespace Go.Proofs.Ytlnnfdjhejdgdaa
open Go.ChangeShapes Go.WideShapes Go.ChangeAt Go.RowKit Go.Deep

structure OpD where
  kind : Int
  n : Int
  b : List UInt8
  keep : List Int
def rOp : Rel OpD where
  sz := 4
  wt := 64
  rel ok w cs p := ∃ vb vk, cs = [.int .i64 p.kind, .int .i64 p.n, vb, vk] ∧ RB ok w vb p.b ∧ RSl rInt ok w vk p.keep ∧ I64 p.kind ∧ I64 p.n
  len := by rintro ok w cs d ⟨a, b, rfl, _⟩; rfl
  one := by
    rintro ok w cs d ⟨a, b, rfl, h1, h2, _⟩ u hu
    simp at hu
    rcases hu with rfl | rfl | rfl | rfl
    · rfl
    · rfl
    · exact h1.one
    · exact h2.one
  kp := by
    rintro ok w w' cs d hk ⟨a, b, rfl, h1, h2, h3⟩
    exact ⟨a, b, rfl, h1.kp hk, h2.kp hk, h3⟩
  mono := by
    rintro ok ok' w cs d hm ⟨a, b, rfl, h1, h2, h3⟩
    exact ⟨a, b, rfl, h1.mono (by decide) hm, h2.mono (by decide) hm, h3⟩
section
variable {H : Type} {enc : TypeId × Value → H} {W : World}
theorem opens_op : Opens enc Try.prog W 56 rOp := by
  intro fuel cs x h hw
  obtain ⟨hl, hf⟩ := opens_fields Try.underlying56 (by kernel_rfl) (by kernel_rfl) h hw
  obtain ⟨v0, y0, n0, e0, t0, _⟩ := hf 0 _ rfl
  obtain ⟨v1, y1, n1, e1, t1, _⟩ := hf 1 _ rfl
  obtain ⟨v2, y2, n2, e2, t2, k2⟩ := hf 2 _ rfl
  obtain ⟨v3, y3, n3, e3, t3, k3⟩ := hf 3 _ rfl
  obtain ⟨k, e, _, w0⟩ := DataW.trod_int Try.underlying3 t0
  obtain ⟨m, e', _, w1⟩ := DataW.trod_int Try.underlying3 t1
  obtain ⟨l2, u2, e'', r2⟩ := opens_bytes _ _ _ t2 k2
  obtain ⟨l3, u3, e''', r3⟩ := opens_ints _ _ _ t3 k3
  simp only [List.cons.injEq, and_true] at e e' e'' e'''
  subst e e' e'' e'''
  refine ⟨⟨k, m, l2, l3⟩, v2, v3, ?_, r2, r3, i64_of w0, i64_of w1⟩
  match cs, hl with
  | [c0, c1, c2, c3], _ => simp_all
theorem opens_ops : Opens enc Try.prog W 49 (rSl rOp (by decide)) := opens_slice Try.underlying49 (by kernel_rfl) (by kernel_rfl) _ opens_op
end
end Go.Proofs.Ytlnnfdjhejdgdaa
