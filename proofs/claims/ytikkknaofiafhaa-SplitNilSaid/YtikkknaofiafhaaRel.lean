/- What the cells of pairs, owners, routes, spans say. No program in sight. -/
import Derived.Test.YtikkknaofiafhaaDat
namespace Go.Proofs.Ytikkknaofiafhaa
open Go.RowKit

def I64 (i : Int) : Prop := -9223372036854775808 ≤ i ∧ i < 9223372036854775808

structure PairD where
  k : List UInt8
  v : List UInt8
  n : Int

def rPair : Rel PairD where
  sz := 3
  wt := 56
  rel ok w cs p := ∃ a b, cs = [a, b, .int .i64 p.n] ∧ RB ok w a p.k ∧ RB ok w b p.v ∧ I64 p.n
  len := by rintro ok w cs d ⟨a, b, rfl, _⟩; rfl
  one := by
    rintro ok w cs d ⟨a, b, rfl, h1, h2, _⟩ u hu
    simp at hu
    rcases hu with rfl | rfl | rfl
    · exact h1.one
    · exact h2.one
    · rfl
  kp := by
    rintro ok w w' cs d hk ⟨a, b, rfl, h1, h2, h3⟩
    exact ⟨a, b, rfl, h1.kp hk, h2.kp hk, h3⟩
  mono := by
    rintro ok ok' w cs d hm ⟨a, b, rfl, h1, h2, h3⟩
    exact ⟨a, b, rfl, h1.mono (by decide) hm, h2.mono (by decide) hm, h3⟩

structure OwnerD where
  g : Int
  f : List UInt8

def rOwner : Rel OwnerD where
  sz := 2
  wt := 32
  rel ok w cs p := ∃ a, cs = [.int .i64 p.g, a] ∧ RB ok w a p.f ∧ I64 p.g
  len := by rintro ok w cs d ⟨a, rfl, _⟩; rfl
  one := by
    rintro ok w cs d ⟨a, rfl, h1, _⟩ u hu
    simp at hu
    rcases hu with rfl | rfl
    · rfl
    · exact h1.one
  kp := by
    rintro ok w w' cs d hk ⟨a, rfl, h1, h3⟩
    exact ⟨a, rfl, h1.kp hk, h3⟩
  mono := by
    rintro ok ok' w cs d hm ⟨a, rfl, h1, h3⟩
    exact ⟨a, rfl, h1.mono (by decide) hm, h3⟩

structure RouteD where
  e : Int
  b : Int
  s : List OwnerD
  m : Int
  c : List UInt8

def rRoute : Rel RouteD where
  sz := 5
  wt := 72
  rel ok w cs p := ∃ a c, cs = [.int .i64 p.e, .int .i64 p.b, a, .int .i64 p.m, c] ∧ RSl rOwner ok w a p.s ∧ RB ok w c p.c ∧ I64 p.e ∧ I64 p.b ∧ I64 p.m
  len := by rintro ok w cs d ⟨a, c, rfl, _⟩; rfl
  one := by
    rintro ok w cs d ⟨a, c, rfl, h1, h2, _⟩ u hu
    simp at hu
    rcases hu with rfl | rfl | rfl | rfl | rfl
    · rfl
    · rfl
    · exact h1.one
    · rfl
    · exact h2.one
  kp := by
    rintro ok w w' cs d hk ⟨a, c, rfl, h1, h2, h3⟩
    exact ⟨a, c, rfl, h1.kp hk, h2.kp hk, h3⟩
  mono := by
    rintro ok ok' w cs d hm ⟨a, c, rfl, h1, h2, h3⟩
    exact ⟨a, c, rfl, h1.mono (by decide) hm, h2.mono (by decide) hm, h3⟩
end Go.Proofs.Ytikkknaofiafhaa
