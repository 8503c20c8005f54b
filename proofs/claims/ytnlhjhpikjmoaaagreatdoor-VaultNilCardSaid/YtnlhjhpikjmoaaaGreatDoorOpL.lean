/- From a row's reading to plain data: slices, structs; numbers, bools, lists of bytes. No program in sight but the types at the end. -/
import Derived.Test.YtnlhjhpikjmoaaaGreatDoorOpen
import Derived.Test.YtnlhjhpikjmoaaaGreatDoorRelT
import Derived.Deep.Fields
namespace Go.Proofs.YtnlhjhpikjmoaaaGreatDoor
open Go.ChangeShapes Go.WideShapes Go.ChangeAt Go.RowKit Go.Deep

section
variable {H : Type} {enc : TypeId × Value → H} {P : Program} {W : World} {base : Nat} {α : Type} {E : Rel α}
/-- what is read at that type says a datum -/
def Opens (enc : TypeId × Value → H) (P : Program) (W : World) (t : TypeId) (E : Rel α) : Prop :=
  ∀ fuel cs x, DataW.trod enc P W 0 (fun _ => true) true fuel t cs = some x → (∀ n ∈ x.1.weights P t, n ≤ reachBytes) → ∃ d, E.rel (fun _ => True) W cs d

theorem flat_at {sz : Nat} : ∀ {css : List (List Value)} {j : Nat} {u : Value}, (∀ i (h : i < css.length), css[i].length = sz) → css.flatten[j]? = some u → ∃ i r, ∃ h : i < css.length, j = i * sz + r ∧ r < sz ∧ css[i][r]? = some u
  | [], _, _, _, h => by simp at h
  | cs :: css, j, u, hl, h => by
    have h0 : cs.length = sz := hl 0 (by simp)
    rw [List.flatten_cons] at h
    by_cases hj : j < cs.length
    · rw [List.getElem?_append_left hj] at h
      exact ⟨0, j, by simp, by omega, by omega, by simpa using h⟩
    · rw [List.getElem?_append_right (by omega)] at h
      obtain ⟨i, r, hi, hjr, hr, hu⟩ := flat_at (css := css) (fun i hi => by have := hl (i + 1) (by simpa using hi); simpa using this) h
      exact ⟨i + 1, r, by simpa using hi, by rw [Nat.add_mul]; omega, hr, by simpa using hu⟩
theorem weights_all {e : TypeId} : ∀ {l : List (DataW H)} {d : DataW H}, d ∈ l → ∀ n ∈ d.weights P e, n ∈ DataW.weightsAll P e l
  | d0 :: l, d, h, n, hn => by
    simp only [DataW.weightsAll, List.mem_append]
    rcases List.mem_cons.1 h with rfl | h
    · exact .inl hn
    · exact .inr (weights_all h n hn)
  | [], _, h, _, _ => by cases h
theorem chunks_of {ok : Nat → Prop} : ∀ (css : List (List Value)), (∀ i (h : i < css.length), ∃ d, E.rel ok W css[i] d) → ∃ l, Chunks E ok W css l
  | [], _ => ⟨[], trivial⟩
  | cs :: css, h => by
    obtain ⟨d, hd⟩ := h 0 (by simp)
    obtain ⟨l, hl⟩ := chunks_of css fun i hi => h (i + 1) (by simpa using hi)
    exact ⟨d :: l, hd, hl⟩
theorem opens_slice {t e : TypeId} (hu : P.underlying t = some (.slice e)) (hc : P.cellsOf e = E.sz) (hb : P.bytesOf e = E.wt) (hsz : 0 < E.sz) (hE : Opens enc P W e E) : Opens enc P W t (rSl E hsz) := by
  intro fuel cs x h hw
  rcases Go.Deep.open_slice hu h with ⟨rfl, rfl⟩ | ⟨a, len, cap, m, n, D, Pl, rfl, _, hl, hm, hmm, rfl, hi⟩
  · exact ⟨[], _, rfl, RSl.nil_ _ _ _⟩
  · simp only [if_true] at hmm
    subst hmm
    have hbound : m * E.wt ≤ reachBytes := by
      have := hw ((((List.range len).map D).length + ((List.range (m - len)).map fun j => D (len + j)).length) * P.bytesOf e) (by simp [DataW.weights, hu])
      rw [hb] at this
      simpa [show len + (m - len) = m by omega] using this
    obtain ⟨css, hcl, hcs⟩ := list_of (p := fun i (cs' : List Value) => cs'.length = E.sz ∧ (∀ r u, cs'[r]? = some u → W.cell? (a.add (i * E.sz + r)) = some u) ∧ ∃ d, E.rel (fun _ => True) W cs' d) len (fun i hil => by
      obtain ⟨cs', h1, h2⟩ := hi i (by omega)
      rw [hc] at h1
      obtain ⟨_, hlen, hat⟩ := World.cells?_some h1
      refine ⟨cs', hlen, fun r u hr => ?_, hE _ _ _ h2 fun k hk => hw k ?_⟩
      · rw [← Go.Deep.add_add, hat r (by have := (List.getElem?_eq_some_iff.1 hr).1; omega)]
        exact hr
      · simp only [DataW.weights, hu, List.mem_cons, List.mem_append]
        exact .inr (.inl (weights_all (d := D i) (List.mem_map.2 ⟨i, List.mem_range.2 hil, rfl⟩) k hk)))
    obtain ⟨l, hch⟩ := chunks_of (E := E) (W := W) (ok := fun _ => True) css fun i hil => (hcs i hil).2.2
    have hll := hch.length
    refine ⟨l, _, rfl, some a, len, m, css, rfl, hl, by omega, ?_, ⟨?_, fun h0 => ?_⟩, hch, fun _ _ _ => trivial⟩
    · have h1 : len * E.wt ≤ m * E.wt := Nat.mul_le_mul_right _ hl
      simp only [reachBytes] at hbound
      omega
    · rw [hch.flat, ← hll, hcl]
    · obtain ⟨b, off, spot⟩ := a
      have hx0 := hcs 0 (by omega)
      have hspot : spot = none := by
        have hz : 0 < (css[0]'(by omega)).length := by rw [hx0.1]; exact hsz
        have := World.cell?_spot (hx0.2.1 0 _ (List.getElem?_eq_getElem hz))
        unfold Addr.add at this
        split at this
        · exact this
        · rename_i hne
          exact absurd (by simp) hne
      subst hspot
      refine ⟨b, off, rfl, fun j u hu' => ?_⟩
      obtain ⟨i, r, hil, rfl, hr, hur⟩ := flat_at (fun i h => (hcs i h).1) hu'
      have := (hcs i hil).2.1 r u hur
      rwa [Addr.add_lit] at this
theorem opens_fields {t : TypeId} {fs : Array Field} {fuel : Nat} {cs : List Value} {x : DataW H × List MemPlace} (hs : P.underlying t = some (.struct fs)) (hone : oneCellFields P fs = true) (hC : P.cellsOf t = fs.size)
    (h : DataW.trod enc P W 0 (fun _ => true) true fuel t cs = some x) (hw : ∀ n ∈ x.1.weights P t, n ≤ reachBytes) : cs.length = fs.size ∧
    ∀ (j : Nat) (f : Field), fs[j]? = some f → ∃ (v : Value) (y : DataW H × List MemPlace) (n : Nat), cs[j]? = some v ∧ DataW.trod enc P W 0 (fun _ => true) true n f.type [v] = some y ∧ ∀ k ∈ y.1.weights P f.type, k ≤ reachBytes := by
  obtain ⟨ys, n', _, rfl, hlen, hyl, hf⟩ := DataW.trod_struct hs h
  refine ⟨by omega, fun j f hj => ?_⟩
  obtain ⟨ho, hk⟩ := Go.Deep.hone_of hone j f hj
  have hjl : j < fs.size := (Array.getElem?_eq_some_iff.1 hj).1
  have h1 := hf j f hj
  rw [ho, hk] at h1
  have hone' : (cs.drop j).take 1 = [cs[j]'(by omega)] := by
    rw [List.drop_eq_getElem_cons (by omega)]
    rfl
  rw [hone'] at h1
  have hys : ys[j]? = some (ys[j]'(by omega)) := List.getElem?_eq_getElem (by omega)
  refine ⟨_, _, n', List.getElem?_eq_getElem (by omega), h1.trans hys, fun k hk' => hw k ?_⟩
  simp only [DataW.weights, hs]
  refine DataW.weights_mem_each (j := j) (t := f.type) (d := (ys[j]'(by omega)).1) ?_ ?_ k hk'
  · have : fs.toList[j]? = some f := by simpa using hj
    simp [this]
  · simp [hys]
theorem opens_agg {t : TypeId} {fs : Array Field} {v : Value} {d : DataW H} {p : List MemPlace} {ts : List TypeId} {ds : List (DataW H)} {j : Nat} (hs : P.underlying t = some (.struct fs)) (hval : Value.okWide P W .any base t v) (h : DataW.Trod enc P W 0 (fun _ => true) true t v d p)
    (hsz : (DataW.weightsEach P ts ds).all (· ≤ reachBytes) = true) (hts : ts[j]? = some t) (hds : ds[j]? = some d) (hE : Opens enc P W t E) : ∃ cs, v = .agg cs ∧ ∃ x, E.rel (fun _ => True) W cs.toList x := by
  obtain ⟨cs, rfl, _⟩ := okWide_struct hs hval
  obtain ⟨fuel, hf⟩ := h
  refine ⟨cs, rfl, ?_⟩
  have hcs : (Value.agg cs).cells.toList = cs.toList := by simp [Value.cells]
  first
    | exact hE fuel _ _ (by simpa [Value.cells] using hf) fun n hn => by simpa using List.all_eq_true.1 hsz n (DataW.weights_mem_each hts hds n hn)
theorem opens_list {t e : TypeId} {v : Value} {d : DataW H} {p : List MemPlace} {ts : List TypeId} {ds : List (DataW H)} {j : Nat} (hs : P.underlying t = some (.slice e)) (hval : Value.okWide P W .any base t v) (h : DataW.Trod enc P W 0 (fun _ => true) true t v d p)
    (hsz : (DataW.weightsEach P ts ds).all (· ≤ reachBytes) = true) (hts : ts[j]? = some t) (hds : ds[j]? = some d) (hz : 0 < E.sz) (hE : Opens enc P W t (rSl E hz)) : ∃ x, RSl E (fun _ => True) W v x := by
  obtain ⟨a0, len, cap, rfl⟩ := okWide_slice hs hval
  obtain ⟨fuel, hf⟩ := h
  obtain ⟨x, v', hv, hx⟩ := hE fuel [.slice a0 len cap] _ (by simpa [Value.cells] using hf) fun n hn => by simpa using List.all_eq_true.1 hsz n (DataW.weights_mem_each hts hds n hn)
  simp only [List.cons.injEq, and_true] at hv
  subst hv
  exact ⟨x, hx⟩
theorem i64_of {k : Int} (h : (Lit.int .i64 k).wf = true) : I64 k := by
  have h1 : IntKind.i64.min = -9223372036854775808 := rfl
  have h2 : IntKind.i64.max = 9223372036854775807 := rfl
  simp only [Lit.wf, Bool.and_eq_true, decide_eq_true_eq] at h
  exact ⟨by omega, by omega⟩
end

def rBool : Rel Bool where
  sz := 1
  wt := 1
  rel _ _ cs b := cs = [.bool b]
  len := by rintro ok w cs d rfl; rfl
  one := by
    rintro ok w cs d rfl u hu
    rw [List.mem_singleton.1 hu]
    rfl
  kp := fun _ h => h
  mono := fun _ h => h
section
variable {H : Type} {enc : TypeId × Value → H} {W : World}
theorem opens_int : Opens enc Tryz.prog W 3 rInt := by
  intro fuel cs x h _
  obtain ⟨k, rfl, rfl, hk⟩ := DataW.trod_int Tryz.underlying3 h
  exact ⟨k, rfl, i64_of hk⟩
theorem opens_u8 : Opens enc Tryz.prog W 5 rU8 := by
  intro fuel cs x h _
  obtain ⟨z, rfl, rfl, h2⟩ := DataW.trod_int Tryz.underlying5 h
  refine ⟨UInt8.ofNat z.toNat, ?_⟩
  have h3 : IntKind.u8.min = 0 := rfl
  have h4 : IntKind.u8.max = 255 := rfl
  simp only [Lit.wf, Bool.and_eq_true, decide_eq_true_eq] at h2
  show [Value.int .u8 z] = [.int .u8 _]
  congr 2
  simp
  omega
theorem opens_bool : Opens enc Tryz.prog W 4 rBool := by
  intro fuel cs x h _
  obtain ⟨b, rfl, _⟩ := DataW.trod_bool Tryz.underlying4 h
  exact ⟨b, rfl⟩
theorem opens_ints : Opens enc Tryz.prog W 53 (rSl rInt (by decide)) := opens_slice Tryz.underlying53 (by kernel_rfl) (by kernel_rfl) _ opens_int
theorem opens_bools : Opens enc Tryz.prog W 45 (rSl rBool (by decide)) := opens_slice Tryz.underlying45 (by kernel_rfl) (by kernel_rfl) _ opens_bool
theorem opens_bytes : Opens enc Tryz.prog W 25 (rSl rU8 (by decide)) := opens_slice Tryz.underlying25 (by kernel_rfl) (by kernel_rfl) _ opens_u8
theorem opens_bss : Opens enc Tryz.prog W 44 (rSl (rSl rU8 (by decide)) (by decide)) := opens_slice Tryz.underlying44 (by kernel_rfl) (by kernel_rfl) _ opens_bytes
end
end Go.Proofs.YtnlhjhpikjmoaaaGreatDoor
