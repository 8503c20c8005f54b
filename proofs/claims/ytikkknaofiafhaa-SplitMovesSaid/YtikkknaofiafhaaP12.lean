/- From a row's reading to plain data: pairs, owners, routes, what is answered, the moves of the law of jobs.
The law of jobs: its state between its moves; a struct read out of the middle of a block. No walk. -/
import Derived.Test.YtikkknaofiafhaaOpn
import Derived.Test.YtikkknaofiafhaaP6
import Derived.Test.YtikkknaofiafhaaP10
import Derived.Test.YtikkknaofiafhaaRegE
import Derived.Test.YtikkknaofiafhaaS12
namespace Go.Proofs.Ytikkknaofiafhaa
open Go.ChangeShapes Go.WideShapes Go.ChangeAt Go.RowKit Go.Deep

theorem RepR.mono {ok ok' : Nat → Prop} {w : World} {R : Array Value} {err : Int} {ps : List PairD} (h : RepR ok w R err ps) (hm : ∀ b, ok b → b < w.heap.size → ok' b) : RepR ok' w R err ps := by obtain ⟨h1, h2, v, h3, h4⟩ := h; exact ⟨h1, h2, v, h3, h4.mono (by decide) hm⟩
structure OpD where
  odd : Bool
  new : Bool
  rt : RouteD
  err : Int
  ps : List PairD
def opCs (odd new : Bool) (C R : Array Value) : Array Value := #[.bool odd, .bool new] ++ C ++ R
theorem opCs_size {odd new : Bool} {C R : Array Value} (h : C.size = 5) (h2 : R.size = 15) : (opCs odd new C R).size = 22 := by simp [opCs, h, h2]
def rOp : Rel OpD where
  sz := 22
  wt := 296
  rel ok w cs p := ∃ a c R, cs = (opCs p.odd p.new (routeCs p.rt a c) R).toList ∧ RouteR ok w a c p.rt ∧ RepR ok w R p.err p.ps ∧ R.all (·.oneCell') = true
  len := by
    rintro ok w cs d ⟨a, c, R, rfl, _, h2, _⟩
    rw [Array.length_toList]
    exact opCs_size rfl h2.size
  one := by
    rintro ok w cs d ⟨a, c, R, rfl, h1, h2, h3⟩ u hu
    simp only [opCs, routeCs, Array.toList_append, List.mem_append] at hu
    rcases hu with (hu | hu) | hu
    · simp at hu
      rcases hu with rfl | rfl <;> rfl
    · simp at hu
      rcases hu with rfl | rfl | rfl | rfl | rfl
      · rfl
      · rfl
      · exact h1.s.one
      · rfl
      · exact h1.c.one
    · rw [Array.all_eq_true_iff_forall_mem] at h3
      exact h3 u (by simpa using hu)
  kp := by
    rintro ok w w' cs d hk ⟨a, c, R, rfl, h1, h2, h3⟩
    exact ⟨a, c, R, rfl, h1.kp hk, h2.kp hk, h3⟩
  mono := by
    rintro ok ok' w cs d hm ⟨a, c, R, rfl, h1, h2, h3⟩
    exact ⟨a, c, R, rfl, h1.mono hm, h2.mono hm, h3⟩

section
variable {H : Type} {enc : TypeId × Value → H} {P : Program} {W : World}
theorem opens_wide {t : TypeId} {fs : Array Field} {fuel : Nat} {cs : List Value} {x : DataW H × List MemPlace} (hs : P.underlying t = some (.struct fs))
    (h : DataW.trod enc P W 0 (fun _ => true) true fuel t cs = some x) (hw : ∀ n ∈ x.1.weights P t, n ≤ reachBytes) : cs.length = P.cellsOf t ∧
    ∀ (j : Nat) (f : Field), fs[j]? = some f → ∀ (o c : Nat), f.offset = o → P.cellsOf f.type = c → ∀ seg, (cs.drop o).take c = seg → ∃ (y : DataW H × List MemPlace) (n : Nat), DataW.trod enc P W 0 (fun _ => true) true n f.type seg = some y ∧ ∀ k ∈ y.1.weights P f.type, k ≤ reachBytes := by
  obtain ⟨ys, n', _, rfl, hlen, hyl, hf⟩ := DataW.trod_struct hs h
  refine ⟨hlen, fun j f hj o c ho hc seg hseg => ?_⟩
  have hjl : j < fs.size := (Array.getElem?_eq_some_iff.1 hj).1
  have h1 := hf j f hj
  rw [ho, hc, hseg] at h1
  have hys : ys[j]? = some (ys[j]'(by omega)) := List.getElem?_eq_getElem (by omega)
  refine ⟨_, n', h1.trans hys, fun k hk' => hw k ?_⟩
  simp only [DataW.weights, hs]
  refine DataW.weights_mem_each (j := j) (t := f.type) (d := (ys[j]'(by omega)).1) ?_ ?_ k hk'
  · have : fs.toList[j]? = some f := by simpa using hj
    simp [this]
  · simp [hys]
theorem one_int {t : TypeId} {k : IntKind} {n : Nat} {v : Value} {y : DataW H × List MemPlace} (hu : P.underlying t = some (.int k)) (h : DataW.trod enc P W 0 (fun _ => true) true n t [v] = some y) : v.oneCell' = true := by
  obtain ⟨z, e, _⟩ := DataW.trod_int hu h
  simp only [List.cons.injEq, and_true] at e
  subst e
  rfl
theorem one_bool {t : TypeId} {n : Nat} {v : Value} {y : DataW H × List MemPlace} (hu : P.underlying t = some .bool) (h : DataW.trod enc P W 0 (fun _ => true) true n t [v] = some y) : v.oneCell' = true := by
  obtain ⟨z, e, _⟩ := DataW.trod_bool hu h
  simp only [List.cons.injEq, and_true] at e
  subst e
  rfl
theorem one_slice {t e : TypeId} {n : Nat} {v : Value} {y : DataW H × List MemPlace} (hu : P.underlying t = some (.slice e)) (h : DataW.trod enc P W 0 (fun _ => true) true n t [v] = some y) : v.oneCell' = true := by
  rcases DataW.trod_slice hu h with ⟨e, _⟩ | ⟨_, _, _, _, _, _, _, e, _⟩
  all_goals
    simp only [List.cons.injEq, and_true] at e
    subst e
    rfl
theorem bytes_of {P : Program} {W : World} {v : Value} {l : List UInt8} (h : RSl rU8 (fun _ => True) W v l) : RB (fun _ => True) W v l := h
end

section
variable {H : Type} {enc : TypeId × Value → H} {W : World}
theorem opens_pair : Opens enc Try.prog W 98 rPair := by
  intro fuel cs x h hw
  obtain ⟨hl, hf⟩ := opens_fields Try.underlying98 (by kernel_rfl) (by kernel_rfl) h hw
  obtain ⟨v0, y0, n0, e0, t0, k0⟩ := hf 0 _ rfl
  obtain ⟨v1, y1, n1, e1, t1, k1⟩ := hf 1 _ rfl
  obtain ⟨v2, y2, n2, e2, t2, _⟩ := hf 2 _ rfl
  obtain ⟨l0, u0, g0, r0⟩ := opens_bytes _ _ _ t0 k0
  obtain ⟨l1, u1, g1, r1⟩ := opens_bytes _ _ _ t1 k1
  obtain ⟨k, g2, _, w2⟩ := DataW.trod_int Try.underlying3 t2
  simp only [List.cons.injEq, and_true] at g0 g1 g2
  subst g0 g1 g2
  refine ⟨⟨l0, l1, k⟩, v0, v1, ?_, r0, r1, i64_of w2⟩
  match cs, hl with
  | [c0, c1, c2], _ => simp_all
theorem opens_owner : Opens enc Try.prog W 104 rOwner := by
  intro fuel cs x h hw
  obtain ⟨hl, hf⟩ := opens_fields Try.underlying104 (by kernel_rfl) (by kernel_rfl) h hw
  obtain ⟨v0, y0, n0, e0, t0, k0⟩ := hf 0 _ rfl
  obtain ⟨v1, y1, n1, e1, t1, k1⟩ := hf 1 _ rfl
  obtain ⟨k, g0, _, w0⟩ := DataW.trod_int Try.underlying3 t0
  obtain ⟨l1, u1, g1, r1⟩ := opens_bytes _ _ _ t1 k1
  simp only [List.cons.injEq, and_true] at g0 g1
  subst g0 g1
  refine ⟨⟨k, l1⟩, v1, ?_, r1, i64_of w0⟩
  match cs, hl with
  | [c0, c1], _ => simp_all
theorem opens_pairs : Opens enc Try.prog W 47 (rSl rPair (by decide)) := opens_slice Try.underlying47 (by kernel_rfl) (by kernel_rfl) _ opens_pair
theorem opens_owners : Opens enc Try.prog W 40 (rSl rOwner (by decide)) := opens_slice Try.underlying40 (by kernel_rfl) (by kernel_rfl) _ opens_owner
theorem opens_route : Opens enc Try.prog W 42 rRoute := by
  intro fuel cs x h hw
  obtain ⟨hl, hf⟩ := opens_fields Try.underlying42 (by kernel_rfl) (by kernel_rfl) h hw
  obtain ⟨v0, y0, n0, e0, t0, k0⟩ := hf 0 _ rfl
  obtain ⟨v1, y1, n1, e1, t1, k1⟩ := hf 1 _ rfl
  obtain ⟨v2, y2, n2, e2, t2, k2⟩ := hf 2 _ rfl
  obtain ⟨v3, y3, n3, e3, t3, k3⟩ := hf 3 _ rfl
  obtain ⟨v4, y4, n4, e4, t4, k4⟩ := hf 4 _ rfl
  obtain ⟨i0, g0, _, w0⟩ := DataW.trod_int Try.underlying3 t0
  obtain ⟨i1, g1, _, w1⟩ := DataW.trod_int Try.underlying3 t1
  obtain ⟨l2, u2, g2, r2⟩ := opens_owners _ _ _ t2 k2
  obtain ⟨i3, g3, _, w3⟩ := DataW.trod_int Try.underlying3 t3
  obtain ⟨l4, u4, g4, r4⟩ := opens_bytes _ _ _ t4 k4
  simp only [List.cons.injEq, and_true] at g0 g1 g2 g3 g4
  subst g0 g1 g2 g3 g4
  refine ⟨⟨i0, i1, l2, i3, l4⟩, v2, v4, ?_, r2, r4, i64_of w0, i64_of w1, i64_of w3⟩
  match cs, hl with
  | [c0, c1, c2, c3, c4], _ => simp_all
theorem route_of {ok : Nat → Prop} {w : World} {cs : List Value} {d : RouteD} (h : rRoute.rel ok w cs d) : ∃ a c, cs = (routeCs d a c).toList ∧ RouteR ok w a c d := by
  obtain ⟨a, c, h0, h1, h2, h3, h4, h5⟩ := h
  exact ⟨a, c, h0, h1, h2, h3, h4, h5⟩
/-- what is answered, read -/
theorem opens_reply {fuel : Nat} {cs : List Value} {x : DataW H × List MemPlace} (h : DataW.trod enc Try.prog W 0 (fun _ => true) true fuel 70 cs = some x) (hw : ∀ n ∈ x.1.weights Try.prog 70, n ≤ reachBytes) :
    ∃ (R : Array Value) (err : Int) (ps : List PairD), cs = R.toList ∧ RepR (fun _ => True) W R err ps ∧ R.all (·.oneCell') = true := by
  obtain ⟨hl, hf⟩ := opens_wide Try.underlying70 h hw
  have hl' : cs.length = 15 := hl.trans (by kernel_rfl)
  match cs, hl' with
  | [c0, c1, c2, c3, c4, c5, c6, c7, c8, c9, c10, c11, c12, c13, c14], _ =>
    obtain ⟨y0, n0, t0, k0⟩ := hf 0 _ rfl 0 1 rfl (by kernel_rfl) [c0] rfl
    obtain ⟨y1, n1, t1, k1⟩ := hf 1 _ rfl 1 1 rfl (by kernel_rfl) [c1] rfl
    obtain ⟨y2, n2, t2, k2⟩ := hf 2 _ rfl 2 1 rfl (by kernel_rfl) [c2] rfl
    obtain ⟨y3, n3, t3, k3⟩ := hf 3 _ rfl 3 1 rfl (by kernel_rfl) [c3] rfl
    obtain ⟨y4, n4, t4, k4⟩ := hf 4 _ rfl 4 1 rfl (by kernel_rfl) [c4] rfl
    obtain ⟨y5, n5, t5, k5⟩ := hf 5 _ rfl 5 1 rfl (by kernel_rfl) [c5] rfl
    obtain ⟨y6, n6, t6, k6⟩ := hf 6 _ rfl 6 4 rfl (by kernel_rfl) [c6, c7, c8, c9] rfl
    obtain ⟨y7, n7, t7, k7⟩ := hf 7 _ rfl 10 5 rfl (by kernel_rfl) [c10, c11, c12, c13, c14] rfl
    obtain ⟨i0, g0, _, w0⟩ := DataW.trod_int Try.underlying28 t0
    obtain ⟨l4, u4, g4, r4⟩ := opens_pairs _ _ _ t4 k4
    obtain ⟨_, hf6⟩ := opens_wide Try.underlying68 t6 k6
    obtain ⟨y8, n8, t8, k8⟩ := hf6 0 _ rfl 0 1 rfl (by kernel_rfl) [c6] rfl
    obtain ⟨y9, n9, t9, k9⟩ := hf6 1 _ rfl 1 1 rfl (by kernel_rfl) [c7] rfl
    obtain ⟨y10, n10, t10, k10⟩ := hf6 2 _ rfl 2 1 rfl (by kernel_rfl) [c8] rfl
    obtain ⟨y11, n11, t11, k11⟩ := hf6 3 _ rfl 3 1 rfl (by kernel_rfl) [c9] rfl
    obtain ⟨d7, r7⟩ := opens_route _ _ _ t7 k7
    have o7 := rRoute.one r7
    simp only [List.cons.injEq, and_true] at g0 g4
    subst g0 g4
    refine ⟨#[.int .i64 i0, c1, c2, c3, c4, c5, c6, c7, c8, c9, c10, c11, c12, c13, c14], i0, l4, rfl, ⟨rfl, rfl, c4, rfl, r4⟩, ?_⟩
    rw [Array.all_eq_true_iff_forall_mem]
    intro u hu
    simp only [List.mem_toArray, List.mem_cons, List.not_mem_nil, or_false] at hu
    rcases hu with rfl | rfl | rfl | rfl | rfl | rfl | rfl | rfl | rfl | rfl | hu
    · rfl
    · exact one_int Try.underlying48 t1
    · exact one_int Try.underlying3 t2
    · exact one_bool Try.underlying4 t3
    · exact r4.one
    · exact one_slice Try.underlying64 t5
    · exact one_int Try.underlying3 t8
    · exact one_int Try.underlying3 t9
    · exact one_slice Try.underlying65 t10
    · exact one_slice Try.underlying66 t11
    · exact o7 u (by simpa using hu)
theorem opens_op : Opens enc Try.prog W 72 rOp := by
  intro fuel cs x h hw
  obtain ⟨hl, hf⟩ := opens_wide Try.underlying72 h hw
  have hl' : cs.length = 22 := hl.trans (by kernel_rfl)
  match cs, hl' with
  | c0 :: c1 :: c2 :: c3 :: c4 :: c5 :: c6 :: r, hr =>
    have hr' : r.length = 15 := by simpa using hr
    obtain ⟨y0, n0, t0, k0⟩ := hf 0 _ rfl 0 1 rfl (by kernel_rfl) [c0] rfl
    obtain ⟨y1, n1, t1, k1⟩ := hf 1 _ rfl 1 1 rfl (by kernel_rfl) [c1] rfl
    obtain ⟨y2, n2, t2, k2⟩ := hf 2 _ rfl 2 5 rfl (by kernel_rfl) [c2, c3, c4, c5, c6] rfl
    obtain ⟨y3, n3, t3, k3⟩ := hf 3 _ rfl 7 15 rfl (by kernel_rfl) r (by show List.take 15 r = r; rw [List.take_of_length_le (by omega)])
    obtain ⟨b0, g0, _⟩ := DataW.trod_bool Try.underlying4 t0
    obtain ⟨b1, g1, _⟩ := DataW.trod_bool Try.underlying4 t1
    obtain ⟨d2, r2⟩ := opens_route _ _ _ t2 k2
    obtain ⟨a, c, g2, r2'⟩ := route_of r2
    obtain ⟨R, err, ps, rfl, r3, o3⟩ := opens_reply t3 k3
    simp only [List.cons.injEq, and_true] at g0 g1
    subst g0 g1
    refine ⟨⟨b0, b1, d2, err, ps⟩, a, c, R, ?_, r2', r3, o3⟩
    simp only [opCs, Array.toList_append, ← g2]
    rfl
theorem opens_ops : Opens enc Try.prog W 43 (rSl rOp (by decide)) := opens_slice Try.underlying43 (by kernel_rfl) (by kernel_rfl) _ opens_op
end
end Go.Proofs.Ytikkknaofiafhaa

namespace Go.Proofs.Ytikkknaofiafhaa
open Go.RowKit

section
variable {P : Program} {ops : Array Oper} {rest : List Oper} {o : Oper} {a : Act} {w : World} {Q : Exit → Act → World → Prop} {g off : Nat} {C : Array Value}
theorem wpList_loadM (hw : Region.wanted o (yielded ops a.tmps) = true) {ty : TypeId} {x : Operand} (ho : o.op = .load ty x) (hx : a.eval x = .pointer (some ⟨g, off, none⟩)) (hk : w.rangeAt g off C.toList) {d : TypeDesc} (hu : P.underlying ty = some d) (hd : d.isRow = true) (hi : (P.info? ty).map (·.size) = some C.size)
    (h : wpList P ops Q rest (a.put o.dst (.agg C)) w) : wpList P ops Q (o :: rest) a w := by
  unfold wpList
  rw [if_pos hw]
  have := wp_load_mid (P := P) (op := o) (a := a) (w := w) (K := wpList P ops Q rest) (Q := Q) ty x ho g off hx C.toList d hk hu hd (by simpa using hi)
  exact .inl (this (by simpa using h))
theorem gives_loadM {ty : TypeId} {x : Operand} {d : TypeDesc} (ho : o.op = .load ty x)
    (hx : a.eval x = .pointer (some ⟨g, off, none⟩)) (hk : w.rangeAt g off C.toList) (hu : P.underlying ty = some d) (hd : d.isRow = true) (hi : (P.info? ty).map (·.size) = some C.size) {Φ : Value → World → Prop} (h : Φ (.agg C) w) : Gives P o a w Φ := by
  have hr := run_loadVar_mid (P := P) w g off ty C.toList d hk hu hd (by simpa using hi)
  unfold Gives execOp
  simp only [ho, hx, Instr.loadAt, Instr.sureAddr, Sem.run_bind, Sem.run_pure, Result.andThen_ok, hr, giv]
  simpa using h
theorem Blk.range_at {T : TypeId} {cs : Array Value} (h : Blk w g T cs) (l : List Value) (hl : ∀ j v, l[j]? = some v → cs[off + j]? = some v) : w.rangeAt g off l := fun j v hv => (h.cell (off + j)).trans (hl j v hv)
end
section
variable {odd new : Bool} {C R : Array Value}
theorem op_odd : (opCs odd new C R)[0]? = some (.bool odd) := by
  unfold opCs
  rw [Array.append_assoc, Array.getElem?_append_left (by simp)]; rfl
theorem op_new : (opCs odd new C R)[1]? = some (.bool new) := by
  unfold opCs
  rw [Array.append_assoc, Array.getElem?_append_left (by simp)]; rfl
theorem op_rt (hC : C.size = 5) (j : Nat) (v : Value) (h : C[j]? = some v) : (opCs odd new C R)[2 + j]? = some v := by
  have hj : j < 5 := by rw [← hC]; exact (Array.getElem?_eq_some_iff.1 h).1
  unfold opCs
  rw [Array.getElem?_append_left (by simp [hC]; omega), Array.getElem?_append_right (by simp)]
  simpa using h
theorem op_r (hC : C.size = 5) (j : Nat) : (opCs odd new C R)[7 + j]? = R[j]? := by
  unfold opCs
  rw [Array.getElem?_append_right (by simp [hC])]
  simp [hC]
theorem op_one {ok : Nat → Prop} {w : World} {a c : Value} {d : RouteD} (h1 : RouteR ok w a c d) (h2 : R.all (·.oneCell') = true) : (opCs odd new (routeCs d a c) R).all (·.oneCell') = true := by
  rw [Array.all_eq_true_iff_forall_mem] at h2 ⊢
  intro u hu
  simp only [opCs, routeCs, Array.mem_append] at hu
  rcases hu with (hu | hu) | hu
  · simp at hu
    rcases hu with rfl | rfl <;> rfl
  · simp at hu
    rcases hu with rfl | rfl | rfl | rfl | rfl
    · rfl
    · rfl
    · exact h1.s.one
    · rfl
    · exact h1.c.one
  · exact h2 u hu
end
theorem Try.infoOp : (Try.prog.info? 72).map (·.size) = some 22 := by kernel_rfl

/-- three blocks of the law's own -/
structure Apart (B s3 g h : Nat) : Prop where
  bs : B ≤ s3
  bg : B ≤ g
  bh : B ≤ h
  sg : s3 ≠ g
  sh : s3 ≠ h
  gh : g ≠ h
abbrev okJ (s3 g h : Nat) : Nat → Prop := fun b => b ≠ s3 ∧ b ≠ g ∧ b ≠ h
/-- the law's state -/
structure PS (w0 : World) (s3 g h : Nat) (d : RouteD) (a c : Value) (j1 j2 : JobD) (w : World) : Prop where
  bel : Below w0.heap.size w0 w
  blk : Blk w s3 42 (routeCs d a c)
  rt : RouteR (fun b => b < w0.heap.size) w a c d
  pj : PJob (okJ s3 g h) w g j1
  rj : RJob (okJ s3 g h) w h j2
section
variable {w0 : World} {s3 g h : Nat} {d : RouteD} {a c : Value} {j1 j2 : JobD} {w w' : World}
theorem PS.kp {ok : Nat → Prop} (p : PS w0 s3 g h d a c j1 j2 w) (hk : Kp ok w w') (h0 : ∀ b, b < w0.heap.size → ok b) (h1 : ok s3) (h2 : ok g) (h3 : ok h) (h4 : ∀ b, okJ s3 g h b → ok b) : PS w0 s3 g h d a c j1 j2 w' :=
  ⟨p.bel.trans (hk.below p.bel.size h0), p.blk.kp hk h1, p.rt.kp (hk.mono h0), p.pj.kp (hk.mono h4) (hk.block _ p.pj.lt h2), p.rj.kp (hk.mono h4) (hk.block _ p.rj.lt h3)⟩
theorem PS.below (p : PS w0 s3 g h d a c j1 j2 w) (hb : Below w.heap.size w w') : PS w0 s3 g h d a c j1 j2 w' :=
  p.kp (ok := fun _ => True) (.of_below hb) (fun _ _ => trivial) trivial trivial trivial (fun _ _ => trivial)
/-- the program's job works -/
theorem PS.prog (ap : Apart w0.heap.size s3 g h) (p : PS w0 s3 g h d a c j1 j2 w) (hk : Kp (fun b => b ≠ g) w w') {j3 : JobD} (hj : PJob (okJ s3 g h) w' g j3) : PS w0 s3 g h d a c j3 j2 w' :=
  ⟨p.bel.trans (hk.below p.bel.size fun b hb => by have := ap.bg; omega), p.blk.kp hk ap.sg, p.rt.kp (hk.mono fun b hb => by have := ap.bg; omega), hj, p.rj.kp (hk.mono fun b hb => hb.2.1) (hk.block _ p.rj.lt (ap.gh.symm))⟩
theorem PS.docu (ap : Apart w0.heap.size s3 g h) (p : PS w0 s3 g h d a c j1 j2 w) (hk : Kp (fun b => b ≠ h) w w') {j3 : JobD} (hj : RJob (okJ s3 g h) w' h j3) : PS w0 s3 g h d a c j1 j3 w' :=
  ⟨p.bel.trans (hk.below p.bel.size fun b hb => by have := ap.bh; omega), p.blk.kp hk ap.sh, p.rt.kp (hk.mono fun b hb => by have := ap.bh; omega), p.pj.kp (hk.mono fun b hb => hb.2.2) (hk.block _ p.pj.lt ap.gh), hj⟩
theorem PS.two (ap : Apart w0.heap.size s3 g h) (p : PS w0 s3 g h d a c j1 j2 w) (hk : Kp (fun b => b ≠ g ∧ b ≠ h) w w') {j3 j4 : JobD} (h1 : PJob (okJ s3 g h) w' g j3) (h2 : RJob (okJ s3 g h) w' h j4) : PS w0 s3 g h d a c j3 j4 w' :=
  ⟨p.bel.trans (hk.below p.bel.size fun b hb => by have := ap.bg; have := ap.bh; omega), p.blk.kp hk ⟨ap.sg, ap.sh⟩, p.rt.kp (hk.mono fun b hb => by have := ap.bg; have := ap.bh; omega), h1, h2⟩
/-- other routes -/
theorem PS.route (ap : Apart w0.heap.size s3 g h) (p : PS w0 s3 g h d a c j1 j2 w) (hk : Kp (fun b => b ≠ s3) w w') {d2 : RouteD} {a2 c2 : Value} (hb : Blk w' s3 42 (routeCs d2 a2 c2)) (hr : RouteR (fun b => b < w0.heap.size) w a2 c2 d2) : PS w0 s3 g h d2 a2 c2 j1 j2 w' :=
  ⟨p.bel.trans (hk.below p.bel.size fun b hb => by have := ap.bs; omega), hb, hr.kp (hk.mono fun b hb => by have := ap.bs; omega), p.pj.kp (hk.mono fun b hb => hb.1) (hk.block _ p.pj.lt ap.sg.symm), p.rj.kp (hk.mono fun b hb => hb.1) (hk.block _ p.rj.lt ap.sh.symm)⟩
end
theorem route_one {ok : Nat → Prop} {w : World} {a c : Value} {d : RouteD} (h1 : RouteR ok w a c d) : (routeCs d a c).all (·.oneCell') = true := by
  rw [Array.all_eq_true_iff_forall_mem]
  intro u hu
  simp [routeCs] at hu
  rcases hu with rfl | rfl | rfl | rfl | rfl
  · rfl
  · rfl
  · exact h1.s.one
  · rfl
  · exact h1.c.one
/-- the same command twice -/
theorem cmdSameV {ok ok2 : Nat → Prop} (C C2 : Array Value) (d : CmdD) (w : World) (h1 : CmdV ok w C d) (h2 : CmdV ok2 w C2 d) :
    Calls Try.prog 34 #[.agg C, .agg C2] w fun e w' => e = .returned (.bool true) ∧ Below w.heap.size w w' := by
  obtain ⟨_, _, _, _, _, _, _, _, rfl, r1⟩ := h1
  obtain ⟨_, _, _, _, _, _, _, _, rfl, r2⟩ := h2
  exact cmdSame_any d.kind d.n d.flag d _ _ _ _ _ _ _ _ w r1 r2
def FP (s3 g h : Nat) (j j' : JobD) (b : Bool) (w : World) : Prop := PJob (okJ s3 g h) w g (if b = true then j' else j)
def FD (s3 g h : Nat) (j j' : JobD) (b : Bool) (w : World) : Prop := RJob (okJ s3 g h) w h (if b = true then j' else j)
theorem gotP_step {B s3 g h : Nat} (ap : Apart B s3 g h) {j : JobD} {R : Array Value} {err : Int} {ps : List PairD} {s : World} (hs : s3 < s.heap.size) (hh : h < s.heap.size) (hR : RepR (fun b => b < B) s R err ps) {b1 b2 : Bool} (hb1 : b1 = false) (f1 : FP s3 g h j (gotJ j err ps).1 b1 s) (f2 : FD s3 g h j (gotJ j err ps).1 b2 s) :
    Calls Try.prog 30 #[.pointer (some ⟨g, 0, none⟩), .agg R] s fun e w' => ∃ x, e = .returned x ∧ x = .int .i64 (gotJ j err ps).2 ∧ Kp (fun b => b ≠ g ∧ b ≠ h) s w' ∧ FP s3 g h j (gotJ j err ps).1 true w' ∧ FD s3 g h j (gotJ j err ps).1 b2 w' := by
  subst hb1
  have hj : PJob (okJ s3 g h) s g j := by simpa [FP] using f1
  refine (got_any j R err ps g s hR hj (fun b hb => hb.2.1) (fun b hb => by have := ap.bg; omega) fun b hb => ⟨by omega, by have := hj.lt; omega, by omega⟩).mono ?_
  rintro e w' ⟨rfl, h1, h2⟩
  refine ⟨_, rfl, rfl, h2.mono fun b hb => hb.1, by simpa [FP] using h1, ?_⟩
  have : RJob (okJ s3 g h) w' h (if b2 = true then (gotJ j err ps).1 else j) := RJob.kp f2 (h2.mono fun b hb => hb.2.1) (h2.block _ (RJob.lt f2) ap.gh.symm)
  simpa [FD] using this
theorem gotD_step {B s3 g h : Nat} (ap : Apart B s3 g h) {j : JobD} {R : Array Value} {err : Int} {ps : List PairD} {s : World} (hs : s3 < s.heap.size) (hg : g < s.heap.size) (hps : ps.length ≤ 60) (hR : RepR (fun b => b < B) s R err ps) {b1 b2 : Bool} (hb2 : b2 = false) (f1 : FP s3 g h j (gotJ j err ps).1 b1 s) (f2 : FD s3 g h j (gotJ j err ps).1 b2 s) :
    Calls Try.prog 31 #[.pointer (some ⟨h, 0, none⟩), .agg R] s fun e w' => ∃ x, e = .returned x ∧ x = .int .i64 (gotJ j err ps).2 ∧ Kp (fun b => b ≠ g ∧ b ≠ h) s w' ∧ FP s3 g h j (gotJ j err ps).1 b1 w' ∧ FD s3 g h j (gotJ j err ps).1 true w' := by
  subst hb2
  have hj : RJob (okJ s3 g h) s h j := by simpa [FD] using f2
  refine (refGot_any j R err ps h s hR hj (fun b hb => hb.2.2) (fun b hb => by have := ap.bh; omega) (fun b hb => ⟨by omega, by omega, by have := hj.lt; omega⟩) (by omega)).mono ?_
  rintro e w' ⟨rfl, h1, h2⟩
  refine ⟨_, rfl, rfl, h2.mono fun b hb => hb.2, ?_, by simpa [FD] using h1⟩
  have : PJob (okJ s3 g h) w' g (if b1 = true then (gotJ j err ps).1 else j) := PJob.kp f1 (h2.mono fun b hb => hb.2.2) (h2.block _ (PJob.lt f1) ap.gh)
  simpa [FP] using this
end Go.Proofs.Ytikkknaofiafhaa
