/- Contracts: the document's at and route.place, route.Next. -/
import Derived.Test.YtikkknaofiafhaaCmd
import Derived.Test.YtikkknaofiafhaaR5
namespace Go.Proofs.Ytikkknaofiafhaa
open Go.RowKit

def routeCs (d : RouteD) (a c : Value) : Array Value := #[.int .i64 d.e, .int .i64 d.b, a, .int .i64 d.m, c]
structure RouteR (ok : Nat → Prop) (w : World) (a c : Value) (d : RouteD) : Prop where
  s : RSl rOwner ok w a d.s
  c : RB ok w c d.c
  e : I64 d.e
  b : I64 d.b
  m : I64 d.m
section
variable {ok ok' : Nat → Prop} {w w' : World} {a c : Value} {d : RouteD}
theorem RouteR.below (h : RouteR ok w a c d) (hb : Below w.heap.size w w') : RouteR ok w' a c d := ⟨h.s.below hb, h.c.below hb, h.e, h.b, h.m⟩
theorem RouteR.kp (hk : Kp ok w w') (h : RouteR ok w a c d) : RouteR ok w' a c d := ⟨h.s.kp hk, h.c.kp hk, h.e, h.b, h.m⟩
theorem RouteR.mono (hm : ∀ b, ok b → b < w.heap.size → ok' b) (h : RouteR ok w a c d) : RouteR ok' w a c d := ⟨h.s.mono (by decide) hm, h.c.mono (by decide) hm, h.e, h.b, h.m⟩
end
theorem route_cells {w : World} {g : Nat} {T : TypeId} {d : RouteD} {a c : Value} (h : Blk w g T (routeCs d a c)) : w.cell? ⟨g, 0, none⟩ = some (.int .i64 d.e) ∧ w.cell? ⟨g, 1, none⟩ = some (.int .i64 d.b) ∧ w.cell? ⟨g, 2, none⟩ = some a ∧ w.cell? ⟨g, 3, none⟩ = some (.int .i64 d.m) ∧ w.cell? ⟨g, 4, none⟩ = some c := ⟨h.cell 0, h.cell 1, h.cell 2, h.cell 3, h.cell 4⟩
/-- the place of a group; -1 -/
def atG (l : List OwnerD) (g : Int) (n : Nat) : Int := idxI (l.map OwnerD.g) g n
theorem atG_drop (l : List OwnerD) (g : Int) (n : Nat) (h : n < l.length) : atG (l.drop n) g n = if g = l[n].g then (n : Int) else atG (l.drop (n + 1)) g (n + 1) := by
  unfold atG
  rw [List.map_drop, idxI_drop _ _ _ (by simpa using h), List.getElem_map, List.map_drop]
theorem atG_nil (g : Int) (n : Nat) : atG [] g n = -1 := rfl
theorem atG_ge (l : List OwnerD) (g : Int) : atG l g 0 = -1 ∨ ∃ j : Nat, atG l g 0 = j ∧ ∃ h : j < l.length, l[j].g = g := by
  have : ∀ (l : List OwnerD) (n : Nat), atG l g n = -1 ∨ ∃ j : Nat, atG l g n = ((n + j : Nat) : Int) ∧ ∃ h : j < l.length, l[j].g = g := by
    intro l
    induction l with
    | nil => exact fun n => .inl rfl
    | cons y l ih =>
      intro n
      unfold atG
      rw [List.map_cons, idxI]
      split
      · rename_i h
        exact .inr ⟨0, rfl, by simp, by simp [h]⟩
      · rcases ih (n + 1) with h | ⟨j, h, hj, hl⟩
        · exact .inl h
        · refine .inr ⟨j + 1, ?_, by simp; omega, by simpa using hl⟩
          unfold atG at h
          rw [h]
          congr 1
          omega
  rcases this l 0 with h | ⟨j, h, hj, hl⟩
  · exact .inl h
  · exact .inr ⟨j, by simpa using h, hj, hl⟩

set_option maxRecDepth 100000 in
set_option maxHeartbeats 1600000 in
theorem refAt_any {ok : Nat → Prop} (d : RouteD) (a c : Value) (g : Int) (w : World) (hr : RouteR ok w a c d) :
    Calls Try.prog 67 #[.agg (routeCs d a c), .int .i64 g] w fun e w' => e = .returned (.int .i64 (atG d.s g 0)) ∧ Below w.heap.size w w' := by
  obtain ⟨A, cc, rfl, hc, hbd⟩ := hr.s.form
  have hbd' : d.s.length * 32 ≤ 140737488351232 := hbd
  clear hbd
  go_enter Try.func67, Try.ntmps67
  unfold routeCs
  go_wp2
  go_loopw [5] (fun j wr => ∃ k : Nat, k ≤ d.s.length ∧ j = .int .i64 (k : Int) ∧ Below (w.heap.size + 1) (w.alloc (.cells #[.int .i64 d.e, .int .i64 d.b, .slice A d.s.length cc, .int .i64 d.m, c] 42)) wr ∧ w.heap.size + 1 ≤ wr.heap.size ∧ Hid (atG d.s g 0 = atG (d.s.drop k) g k)) (fun j _ => d.s.length - (intOf j).toNat)
  case atStart => exact ⟨0, by omega, rfl, Below.refl _ _, by simp, rfl⟩
  case round =>
    obtain ⟨k, hk, rfl, hb, hz, HE⟩ := hrel
    have hbw := box_below hb
    have bx := box_at (i := 2) hb rfl
    by_cases hlt : k < d.s.length
    · obtain ⟨b1, off1, c1', cs1, hv1, _, ⟨a1, rfl, _, _⟩, hcell1⟩ := (hr.s.below hbw).at_ hlt
      simp only [Value.slice.injEq, true_and] at hv1
      obtain ⟨rfl, rfl⟩ := hv1
      have p0 := hcell1 0 _ rfl
      simp only [Nat.add_zero, show rOwner.sz = 2 from rfl] at p0
      clear hcell1
      have HS := Lib.hid (atG_drop d.s g k hlt)
      obtain ⟨x, hx⟩ : ∃ x, x = d.s[k].g := ⟨_, rfl⟩
      rw [← hx] at p0 HS
      clear hx
      by_cases h : g = x
      · have ht : (x == g) = true := by simp [h]
        have HK := Lib.hid h
        clear h
        go_wp2
        go_ret
        exact ⟨ret_int (by rw [HE.out, HS.out, if_pos HK.out]), hbw⟩
      · have ht : (x == g) = false := by simp; exact fun e => h e.symm
        have HK := Lib.hid h
        clear h
        go_wp2
        go_roundw
        case rel => exact ⟨k + 1, by omega, by go_num, hb, hz, by rw [HE.out, HS.out, if_neg HK.out]; trivial⟩
        case measure => simp [intOf]; omega
    · go_wp2
      go_ret
      exact ⟨ret_int (by rw [HE.out, List.drop_of_length_le (by omega)]; rfl), hbw⟩

set_option maxRecDepth 100000 in
theorem place1_any (o : OwnerD) (A : Option Addr) (n c : Nat) (q : Nat) (g : Int) (w : World) (hq : w.cell? ⟨q, 0, none⟩ = some (.int .i64 g)) :
    Calls Try.prog 164 #[.agg #[.int .i64 o.g, .slice A n c], .pointer (some ⟨q, 0, none⟩)] w fun e w' => e = .returned (.bool (o.g == g)) ∧ Below w.heap.size w w' := by
  have hq1 := fun o => alloc1 hq o
  go_enter Try.func164, Try.ntmps164
  go_wp2
  go_ret
  exact ⟨rfl, (Below.refl _ _).alloc (Nat.le_refl _) _⟩

set_option maxRecDepth 100000 in
set_option maxHeartbeats 1600000 in
theorem indexOwner_any {ok : Nat → Prop} (v : Value) (l : List OwnerD) (q : Nat) (g : Int) (w : World) (hr : RSl rOwner ok w v l) (hq : w.cell? ⟨q, 0, none⟩ = some (.int .i64 g)) :
    Calls Try.prog 163 #[v, .func (.func 164) #[] #[.pointer (some ⟨q, 0, none⟩)]] w fun e w' => e = .returned (.int .i64 (atG l g 0)) ∧ Below w.heap.size w w' := by
  obtain ⟨A, cc, rfl, hc, hbd⟩ := hr.form
  have hbd' : l.length * 32 ≤ 140737488351232 := hbd
  clear hbd
  have hqb := World.block_lt_of_cell? w _ hq
  simp only at hqb
  go_enter Try.func163, Try.ntmps163
  go_wp2
  go_loopw [8] (fun j wr => ∃ k : Nat, k ≤ l.length ∧ j = .int .i64 (k : Int) ∧ Below w.heap.size w wr ∧ Hid (atG l g 0 = atG (l.drop k) g k)) (fun j _ => l.length - (intOf j).toNat)
  case atStart => exact ⟨0, by omega, rfl, Below.refl _ _, rfl⟩
  case round =>
    obtain ⟨k, hk, rfl, hb, HE⟩ := hrel
    by_cases hlt : k < l.length
    · obtain ⟨b1, off1, c1', cs1, hv1, _, ⟨a1, rfl, ha1, _⟩, hcell1⟩ := (hr.below hb).at_ hlt
      simp only [Value.slice.injEq, true_and] at hv1
      obtain ⟨rfl, rfl⟩ := hv1
      have p0 := hcell1 0 _ rfl
      have p1 := hcell1 1 _ rfl
      simp only [Nat.add_zero, show rOwner.sz = 2 from rfl] at p0 p1
      clear hcell1
      obtain ⟨A1, n1, rfl, _, _⟩ := ha1.form
      have hqw : wr.cell? ⟨q, 0, none⟩ = some (.int .i64 g) := (hb.cell (p := ⟨q, 0, none⟩) hqb).trans hq
      have HS := Lib.hid (atG_drop l g k hlt)
      obtain ⟨x, hx⟩ : ∃ x, x = l[k] := ⟨_, rfl⟩
      rw [← hx] at p0 p1 HS
      clear hx ha1
      go_wp2_with fail
      refine (place1_any x _ _ _ q g _ hqw).mono ?_
      rintro e w1 ⟨rfl, hb1⟩
      have hbn := hb.trans (hb1.mono hb.size)
      cases hE : (x.g == g)
      · have HK : Hid (¬ g = x.g) := fun h => by subst h; simp at hE
        clear hE
        go_wp2
        go_roundw
        case rel => exact ⟨k + 1, by omega, by go_num, hbn, by rw [HE.out, HS.out, if_neg HK.out]; trivial⟩
        case measure => simp [intOf]; omega
      · have HK : Hid (g = x.g) := (by simpa using hE : x.g = g).symm
        clear hE
        go_wp2
        go_ret
        exact ⟨ret_int (by rw [HE.out, HS.out, if_pos HK.out]), hbn⟩
    · go_wp2
      go_ret
      exact ⟨ret_int (by rw [HE.out, List.drop_of_length_le (by omega)]; rfl), hb⟩

set_option maxRecDepth 100000 in
set_option maxHeartbeats 1600000 in
theorem place_any {ok : Nat → Prop} (d : RouteD) (a c : Value) (g : Int) (w : World) (hr : RouteR ok w a c d) :
    Calls Try.prog 126 #[.agg (routeCs d a c), .int .i64 g] w fun e w' => e = .returned (.int .i64 (atG d.s g 0)) ∧ Below w.heap.size w w' := by
  obtain ⟨A, cc, rfl, hc, hbd⟩ := hr.s.form
  go_enter Try.func126, Try.ntmps126
  unfold routeCs
  go_wp2_with fail
  refine (indexOwner_any _ d.s (w.heap.size + 1) g _ ((hr.s.below ((Below.refl _ _).alloc (Nat.le_refl _) _)).below ((Below.refl _ _).alloc (Nat.le_refl _) _)) (by simp)).mono ?_
  rintro e w1 ⟨rfl, hb1⟩
  have hbw : Below w.heap.size w w1 := (((Below.refl _ _).alloc (Nat.le_refl _) _).alloc (by simp) _).trans (hb1.mono (by simp; omega))
  go_wp2
  go_ret
  exact ⟨rfl, hbw⟩

/-- the first group free, from i on, n of them -/
def nextG (l : List OwnerD) (b : Int) (i : Nat) : Nat → Int
  | 0 => 0
  | n + 1 => if atG l (b + i) 0 < 0 then b + i else nextG l b (i + 1) n

theorem nextG_out (l : List OwnerD) (b : Int) (i n : Nat) (h : n = 0) : nextG l b i n = 0 := by subst h; rfl
theorem nextG_in (l : List OwnerD) (b : Int) (i n : Nat) (h : 0 < n) : nextG l b i n = if atG l (b + i) 0 < 0 then b + i else nextG l b (i + 1) (n - 1) := by
  cases n with
  | zero => omega
  | succ n => rfl
set_option maxRecDepth 100000 in
set_option maxHeartbeats 3200000 in
theorem routeNext_any {ok : Nat → Prop} (d : RouteD) (a c : Value) (s : Int) (w : World) (hr : RouteR ok w a c d) (hb0 : 0 ≤ d.b ∧ d.b ≤ 1000) :
    Calls Try.prog 72 #[.agg (routeCs d a c), .int .i64 s] w fun e w' => e = .returned (.int .i64 (nextG d.s d.b 1 (min s 4).toNat)) ∧ Below w.heap.size w w' := by
  obtain ⟨A, cc, rfl, hc, hbd⟩ := hr.s.form
  obtain ⟨A2, cc2, rfl, _, _⟩ := hr.c.form
  obtain ⟨z, hz⟩ : ∃ z, z = min s 4 := ⟨_, rfl⟩
  have hz4 : z ≤ 4 := by omega
  have HZ := Lib.hid hz
  rw [← hz]
  go_enter Try.func72, Try.ntmps72
  unfold routeCs
  go_wp2
  go_loopw [5] (fun j wr => ∃ k : Nat, 1 ≤ k ∧ k ≤ z.toNat + 1 ∧ j = .int .i64 (k : Int) ∧ Below (w.heap.size + 1) (w.alloc (.cells #[.int .i64 d.e, .int .i64 d.b, .slice A d.s.length cc, .int .i64 d.m, .slice A2 d.c.length cc2] 42)) wr ∧ w.heap.size + 1 ≤ wr.heap.size ∧ Hid (nextG d.s d.b 1 z.toNat = nextG d.s d.b k (z.toNat + 1 - k))) (fun j _ => z.toNat + 1 - (intOf j).toNat)
  case atStart => exact ⟨1, by omega, by omega, rfl, Below.refl _ _, by simp, rfl⟩
  case round =>
    obtain ⟨k, hk1, hk, rfl, hb, hz1, HE⟩ := hrel
    have hbw := box_below hb
    have b0 := box_at (i := 0) hb rfl
    have b1 := box_at (i := 1) hb rfl
    have b2 := box_at (i := 2) hb rfl
    have b3 := box_at (i := 3) hb rfl
    have b4 := box_at (i := 4) hb rfl
    have hr2 : RouteR ok wr (.slice A d.s.length cc) (.slice A2 d.c.length cc2) d := hr.below hbw
    have p0 : wr.cell? ⟨w.heap.size, 0, none⟩ = some (.int .i64 d.e) := b0
    have p1 : wr.cell? ⟨w.heap.size, 1, none⟩ = some (.int .i64 d.b) := b1
    have p2 : wr.cell? ⟨w.heap.size, 2, none⟩ = some (.slice A d.s.length cc) := b2
    have p3 : wr.cell? ⟨w.heap.size, 3, none⟩ = some (.int .i64 d.m) := b3
    have p4 : wr.cell? ⟨w.heap.size, 4, none⟩ = some (.slice A2 d.c.length cc2) := b4
    clear b0 b1 b2 b3 b4
    by_cases hlt : (k : Int) ≤ z
    · have hin := nextG_in d.s d.b k (z.toNat + 1 - k) (by omega)
      rw [show z.toNat + 1 - k - 1 = z.toNat + 1 - (k + 1) by omega] at hin
      have HI := Lib.hid hin
      clear hin
      have hk4 : k ≤ 4 := by omega
      have main : ∀ (h4 : Hid ((4 < s ∧ k ≤ 4) ∨ (¬ 4 < s ∧ (k : Int) ≤ s))), True := fun _ => trivial
      clear main
      by_cases h4 : 4 < s
      all_goals
        have t4 : decide (4 < s) = _ := (by first | exact decide_eq_true h4 | exact decide_eq_false h4)
        have t1 : decide ((k : Int) ≤ 4) = true := decide_eq_true (by omega)
        have t2 : decide (k ≤ 4) = true := decide_eq_true (by omega)
        have t3 : decide ((k : Int) ≤ s) = true := decide_eq_true (by omega)
        have t5 : (k : Int) ≤ s := by omega
        clear hlt hz
        go_wp2_with fail
        refine (place_any d _ _ (d.b + k) _ hr2).mono ?_
        rintro e w1 ⟨rfl, hb1⟩
        have hbn : Below (w.heap.size + 1) (w.alloc (.cells #[.int .i64 d.e, .int .i64 d.b, .slice A d.s.length cc, .int .i64 d.m, .slice A2 d.c.length cc2] 42)) w1 := hb.trans (hb1.mono hz1)
        have hzn : w.heap.size + 1 ≤ w1.heap.size := Nat.le_trans hz1 hb1.size
        have q1 : w1.cell? ⟨w.heap.size, 1, none⟩ = some (.int .i64 d.b) := box_at (i := 1) hbn rfl
        have hbnw := box_below hbn
        by_cases hneg : atG d.s (d.b + k) 0 < 0
        · have ht : decide (atG d.s (d.b + k) 0 < 0) = true := decide_eq_true hneg
          have HF : Hid (nextG d.s d.b 1 z.toNat = d.b + k) := by rw [HE.out, HI.out, if_pos hneg]; trivial
          clear hneg
          go_wp2
          go_ret
          exact ⟨ret_int HF.out.symm, hbnw⟩
        · have ht : decide (atG d.s (d.b + k) 0 < 0) = false := decide_eq_false hneg
          have HF : Hid (nextG d.s d.b 1 z.toNat = nextG d.s d.b (k + 1) (z.toNat + 1 - (k + 1))) := by rw [HE.out, HI.out, if_neg hneg]; trivial
          clear hneg
          go_wp2
          go_roundw
          case rel => exact ⟨k + 1, by omega, by have := HZ.out; omega, by go_num, hbn, hzn, HF⟩
          case measure => have := HZ.out; simp [intOf]; omega
    · have HF : Hid (nextG d.s d.b 1 z.toNat = 0) := by rw [HE.out]; exact nextG_out _ _ _ _ (by omega)
      by_cases h4 : 4 < s
      all_goals
        have t4 : decide (4 < s) = _ := (by first | exact decide_eq_true h4 | exact decide_eq_false h4)
        first
          | have t1 : decide ((k : Int) ≤ 4) = false := decide_eq_false (by omega)
            have t2 : decide (k ≤ 4) = false := decide_eq_false (by omega)
            have t3 : ¬ k ≤ 4 := by omega
            clear hlt hz
            go_wp2
            go_ret
            exact ⟨ret_int HF.out.symm, hbw⟩
          | have t3 : decide ((k : Int) ≤ s) = false := decide_eq_false (by omega)
            have t5 : ¬ (k : Int) ≤ s := by omega
            clear hlt hz
            go_wp2
            go_ret
            exact ⟨ret_int HF.out.symm, hbw⟩
end Go.Proofs.Ytikkknaofiafhaa
