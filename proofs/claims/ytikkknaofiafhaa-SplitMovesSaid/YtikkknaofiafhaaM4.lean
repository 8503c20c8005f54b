/- Contract: (*Shard).take. -/
import Derived.Test.YtikkknaofiafhaaM3
import Derived.Test.YtikkknaofiafhaaReg10
namespace Go.Proofs.Ytikkknaofiafhaa
open Go.RowKit

def maxI (m n : Int) : Int := if m < n then n else m
def okP (f t : List UInt8) (acc : List PairD) (p : PairD) : Bool := !hasK acc p.k && (may16 p.k p.v && (withinB f t p.k && (decide (1 ≤ p.n) && decide (p.n ≤ 4611686018427387904))))
def takeF (f t : List UInt8) : List PairD → List PairD → Int → Option (List PairD × Int)
  | [], acc, m => some (acc, m)
  | p :: r, acc, m => if okP f t acc p = true then takeF f t r (putL acc p) (maxI m p.n) else none
theorem takeF_at {f t : List UInt8} {ps acc : List PairD} {m : Int} {k : Nat} (h : k < ps.length) : takeF f t (ps.drop k) acc m = if okP f t acc ps[k] = true then takeF f t (ps.drop (k + 1)) (putL acc ps[k]) (maxI m ps[k].n) else none := by
  rw [List.drop_eq_getElem_cons h]
  rfl
theorem takeF_nil {f t : List UInt8} {ps acc : List PairD} {m : Int} {k : Nat} (h : ¬ k < ps.length) : takeF f t (ps.drop k) acc m = some (acc, m) := by
  rw [List.drop_eq_nil_of_le (by omega)]
  rfl
/-- what take answers, and the shard behind it -/
def takeE (lf lu f t : List UInt8) (ps : List PairD) : Int := if someB lf lu = true then 7 else if someB f t = false then 1 else if (takeF f t ps [] 0).isSome then 0 else 1

def SpB.span (bad : Nat → Prop) (ok : Nat → Prop) (hok : ∀ b, ok b → ¬ bad b) (p q : List UInt8) : SpB bad :=
  ⟨fun x => ∃ A c A2 c2, x = .agg #[.slice A p.length c, .slice A2 q.length c2], .agg #[.slice none p.length 0, .slice none q.length 0], ⟨none, 0, none, 0, rfl⟩,
    fun x w => ∃ A c A2 c2, x = .agg #[.slice A p.length c, .slice A2 q.length c2] ∧ RB ok w (.slice A p.length c) p ∧ RB ok w (.slice A2 q.length c2) q,
    fun _ _ ⟨A, c, A2, c2, h, _⟩ => ⟨A, c, A2, c2, h⟩, fun _ _ _ hk ⟨A, c, A2, c2, h, h1, h2⟩ => ⟨A, c, A2, c2, h, h1.kp (hk.mono hok), h2.kp (hk.mono hok)⟩⟩
/-- the three stores of take -/
def tkCh (g base : Nat) (o1 o2 l T over f1 f2 gone vl : Value) (n m : Int) (f t : List UInt8) : Ch3 :=
  ⟨15, 18, 21, fun w => Blk w g 90 (shCs o1 o2 l T n over f1 f2 gone),
    fun w => ∃ A c A2 c2, Blk w g 90 (shCs (.slice A f.length c) (.slice A2 t.length c2) l T n over f1 f2 gone) ∧ RB (fun b => base ≤ b) w (.slice A f.length c) f ∧ RB (fun b => base ≤ b) w (.slice A2 t.length c2) t,
    fun w => ∃ A c A2 c2, Blk w g 90 (shCs (.slice A f.length c) (.slice A2 t.length c2) vl T n over f1 f2 gone) ∧ RB (fun b => base ≤ b) w (.slice A f.length c) f ∧ RB (fun b => base ≤ b) w (.slice A2 t.length c2) t,
    fun w => ∃ A c A2 c2, Blk w g 90 (shCs (.slice A f.length c) (.slice A2 t.length c2) vl T (maxI n m) over f1 f2 gone) ∧ RB (fun b => base ≤ b) w (.slice A f.length c) f ∧ RB (fun b => base ≤ b) w (.slice A2 t.length c2) t⟩
theorem tkCh_ok (g base : Nat) (o1 o2 l T over f1 f2 gone vl : Value) (n m : Int) (f t : List UInt8) : (tkCh g base o1 o2 l T over f1 f2 gone vl n m f t).Ok :=
  ⟨fun w w' h hb => Blk.below h hb (Blk.lt h), fun w w' ⟨A, c, A2, c2, h, h1, h2⟩ hb => ⟨A, c, A2, c2, h.below hb h.lt, h1.below hb, h2.below hb⟩, fun w w' ⟨A, c, A2, c2, h, h1, h2⟩ hb => ⟨A, c, A2, c2, h.below hb h.lt, h1.below hb, h2.below hb⟩, fun w w' ⟨A, c, A2, c2, h, h1, h2⟩ hb => ⟨A, c, A2, c2, h.below hb h.lt, h1.below hb, h2.below hb⟩,
    by show (15 : Nat) ≠ 18; decide, by show (15 : Nat) ≠ 21; decide, by show (18 : Nat) ≠ 21; decide⟩
def ShTook (g : Nat) (o1 o2 l T over f1 f2 gone : Value) (n : Int) (f t : List UInt8) (ps : List PairD) (E : Int) (w w' : World) : Prop :=
  if E = 0 then ∃ v1 v2 vl L m, takeF f t ps [] 0 = some (L, m) ∧ Blk w' g 90 (shCs v1 v2 vl T (maxI n m) over f1 f2 gone) ∧ RB (fun b => w.heap.size ≤ b) w' v1 f ∧ RB (fun b => w.heap.size ≤ b) w' v2 t ∧ RSl rPair (fun b => w.heap.size ≤ b) w' vl L
  else Blk w' g 90 (shCs o1 o2 l T n over f1 f2 gone)
theorem ShTook.no {g : Nat} {o1 o2 l T over f1 f2 gone : Value} {n : Int} {f t : List UInt8} {ps : List PairD} {E : Int} {w w' : World} (hE : E ≠ 0) (h : Blk w' g 90 (shCs o1 o2 l T n over f1 f2 gone)) : ShTook g o1 o2 l T over f1 f2 gone n f t ps E w w' := by
  unfold ShTook
  rw [if_neg hE]
  exact h
set_option maxRecDepth 100000 in
set_option maxHeartbeats 12800000 in
theorem shTake_any {ok ok2 : Nat → Prop} (g : Nat) (o1 o2 l T over f1 f2 gone fr ut pv : Value) (n : Int) (lf lu f t : List UInt8) (ps : List PairD) (C : Array Value) (w : World) (hg : Blk w g 90 (shCs o1 o2 l T n over f1 f2 gone)) (h1 : RB ok w o1 lf) (h2 : RB ok w o2 lu)
    (hC : C.size = 25) (c8 : C[8]? = some fr) (c9 : C[9]? = some ut) (c10 : C[10]? = some pv) (h3 : RB ok2 w fr f) (h4 : RB ok2 w ut t) (h5 : RSl rPair ok2 w pv ps) (hps : ps.length ≤ 1000) (hok2 : ∀ b, ok2 b → b ≠ g) :
    Calls Try.prog 91 #[.pointer (some ⟨g, 0, none⟩), .agg C] w fun e w' => e = .returned (.int .i64 (takeE lf lu f t ps)) ∧ Kp (fun b => b ≠ g) w w' ∧ ShTook g o1 o2 l T over f1 f2 gone n f t ps (takeE lf lu f t ps) w w' := by
  obtain ⟨A1, a1, rfl, _, _⟩ := h1.form
  obtain ⟨A2, a2, rfl, _, _⟩ := h2.form
  obtain ⟨A3, a3, rfl, _, _⟩ := h3.form
  obtain ⟨A4, a4, rfl, _, _⟩ := h4.form
  obtain ⟨A5, a5, rfl, _, _⟩ := h5.form
  have hgl := hg.lt
  go_enter Try.func91, Try.ntmps91
  go_upto_region 1 with fail
  refine name_world (fun w1 => Below w.heap.size w w1 ∧ w.heap.size + 1 ≤ w1.heap.size ∧ Blk w1 w.heap.size 60 C)
    ⟨(Below.refl _ _).alloc (Nat.le_refl _) _, by simp, Blk.new _ _ _⟩ ?_
  rintro w1 ⟨hB1, hz1, k1⟩
  have kg := hg.below hB1 hgl
  have z0 : w1.cell? ⟨g, 0, none⟩ = some (.slice A1 lf.length a1) := kg.cell 0
  have z1 : w1.cell? ⟨g, 1, none⟩ = some (.slice A2 lu.length a2) := kg.cell 1
  go_wp2_with fail
  refine (some_any _ _ lf lu _ (h1.below hB1) (h2.below hB1)).mono ?_
  rintro e w2 ⟨rfl, hb2⟩
  have hB2 := hB1.trans (hb2.mono hB1.size)
  have k2 := k1.below hb2 k1.lt
  have kg2 := kg.below hb2 kg.lt
  clear z0 z1 k1 kg
  have KP := fun {w'} (h : Below w.heap.size w w') => (Kp.of_below h (ok := fun b => b ≠ g))
  cases hS : someB lf lu
  case true =>
    have HE : Hid (takeE lf lu f t ps = 7) := by
      have : takeE lf lu f t ps = 7 := by unfold takeE; rw [if_pos hS]
      exact Lib.hid this
    clear hS
    go_wp2
    go_ret
    exact ⟨by rw [HE.out]; rfl, KP hB2, ShTook.no (by rw [HE.out]; decide) kg2⟩
  have HS := Lib.hid hS
  clear hS
  have q8 : w2.cell? ⟨w.heap.size, 8, none⟩ = some (.slice A3 f.length a3) := (k2.cell 8).trans c8
  have q9 : w2.cell? ⟨w.heap.size, 9, none⟩ = some (.slice A4 t.length a4) := (k2.cell 9).trans c9
  go_wp2_with fail
  refine (some_any _ _ f t _ (h3.below hB2) (h4.below hB2)).mono ?_
  rintro e w3 ⟨rfl, hb3⟩
  have hB3 := hB2.trans (hb3.mono hB2.size)
  have k3 := k2.below hb3 k2.lt
  have kg3 := kg2.below hb3 kg2.lt
  have hz3 : w.heap.size + 1 ≤ w3.heap.size := k3.lt
  clear q8 q9 k2 kg2
  cases hS2 : someB f t
  case false =>
    have HE : Hid (takeE lf lu f t ps = 1) := by
      have : takeE lf lu f t ps = 1 := by unfold takeE; rw [HS.out, if_neg (by decide), if_pos hS2]
      exact Lib.hid this
    clear hS2
    go_wp2
    go_ret
    exact ⟨by rw [HE.out]; rfl, KP hB3, ShTook.no (by rw [HE.out]; decide) kg3⟩
  have HE : Hid (takeE lf lu f t ps = if (takeF f t ps [] 0).isSome then 0 else 1) := by
    have : takeE lf lu f t ps = if (takeF f t ps [] 0).isSome then 0 else 1 := by unfold takeE; rw [HS.out, if_neg (by decide), hS2, if_neg (by decide)]
    exact Lib.hid this
  clear hS2
  have h53 : RSl rPair (fun b => ok2 b ∧ b < w.heap.size) w3 (.slice A5 ps.length a5) ps := (h5.mono (ok' := fun b => ok2 b ∧ b < w.heap.size) (by decide) fun b h h2 => ⟨h, h2⟩).below hB3
  go_wp2
  go_loopw [5, 6, 7] (fun vl vm j wr => ∃ (k : Nat) (acc : List PairD) (m : Int), k ≤ ps.length ∧ acc.length ≤ k ∧ j = .int .i64 (k : Int) ∧ vm = .int .i64 m ∧ Below w3.heap.size w3 wr ∧ RSl rPair (fun b => w.heap.size ≤ b) wr vl acc ∧ takeF f t ps [] 0 = takeF f t (ps.drop k) acc m) (fun _ _ j _ => ps.length - (intOf j).toNat)
  case atStart => exact ⟨0, [], 0, by omega, by simp, rfl, rfl, Below.refl _ _, RSl.nil_ _ _ _, rfl⟩
  case round =>
    obtain ⟨k, acc, m, hk', hacc, rfl, rfl, hb, hl, hT⟩ := hrel
    have HT := Lib.hid hT
    clear hT
    obtain ⟨AL, al, rfl, _, _⟩ := hl.form
    have hBr := hB3.trans (hb.mono hB3.size)
    have kr := k3.below hb k3.lt
    have kgr := kg3.below hb kg3.lt
    have q8 : wr.cell? ⟨w.heap.size, 8, none⟩ = some (.slice A3 f.length a3) := (kr.cell 8).trans c8
    have q9 : wr.cell? ⟨w.heap.size, 9, none⟩ = some (.slice A4 t.length a4) := (kr.cell 9).trans c9
    have q10 : wr.cell? ⟨w.heap.size, 10, none⟩ = some (.slice A5 ps.length a5) := (kr.cell 10).trans c10
    by_cases hlt : k < ps.length
    · obtain ⟨b1, off1, c1', cs1, hv1, hb1, ⟨va, vb, rfl, ha1, ha2, hn64⟩, hcell1⟩ := (h53.below hb).at_ hlt
      simp only [Value.slice.injEq, true_and] at hv1
      obtain ⟨rfl, rfl⟩ := hv1
      have x0 := hcell1 0 _ rfl
      have x1 := hcell1 1 _ rfl
      have x2 := hcell1 2 _ rfl
      simp only [Nat.add_zero, show rPair.sz = 3 from rfl] at x0 x1 x2
      clear hcell1
      obtain ⟨B1, d1, rfl, _, _⟩ := ha1.form
      obtain ⟨B2, d2, rfl, _, _⟩ := ha2.form
      have HTK := Lib.hid (takeF_at (f := f) (t := t) (acc := acc) (m := m) hlt)
      obtain ⟨p, hp⟩ : ∃ p, p = ps[k] := ⟨_, rfl⟩
      rw [← hp] at x0 x1 x2 ha1 ha2 hn64
      rw [← hp] at HTK
      clear hp
      go_upto_region 11 with fail
      refine name_world (fun w4 => Below wr.heap.size wr w4 ∧ Blk w4 wr.heap.size 98 #[.slice B1 p.k.length d1, .slice B2 p.v.length d2, .int .i64 p.n]) ⟨(Below.refl _ _).alloc (Nat.le_refl _) _, Blk.new _ _ _⟩ ?_
      rintro w4 ⟨hb4, kp4⟩
      have y0 : w4.cell? ⟨wr.heap.size, 0, none⟩ = some (.slice B1 p.k.length d1) := kp4.cell 0
      clear x0 x1 x2 q8 q9 q10
      go_wp2_with fail
      refine (find_any _ _ acc p.k _ (hl.below hb4) (ha1.below hb4)).mono ?_
      rintro e w5 ⟨⟨F1, n1, e1, F2, n2, e2, zz, rfl⟩, hb5⟩
      have hb45 := hb4.trans (hb5.mono hb4.size)
      have kp5 := kp4.below hb5 kp4.lt
      clear y0
      go_upto_region 12 with fail
      refine name_world (fun w6 => Below wr.heap.size wr w6 ∧ Blk w6 wr.heap.size 98 #[.slice B1 p.k.length d1, .slice B2 p.v.length d2, .int .i64 p.n]) ⟨hb45.alloc hb45.size _, kp5.alloc _⟩ ?_
      clear hb4 hb5 hb45 kp4 kp5
      rintro w6 ⟨hb6, kp6⟩
      have kr6 := kr.below hb6 kr.lt
      obtain ⟨y0, y1, y2⟩ := set3_cells kp6
      have q8 : w6.cell? ⟨w.heap.size, 8, none⟩ = some (.slice A3 f.length a3) := (kr6.cell 8).trans c8
      have q9 : w6.cell? ⟨w.heap.size, 9, none⟩ = some (.slice A4 t.length a4) := (kr6.cell 9).trans c9
      cases hH : hasK acc p.k
      case true =>
        have HH := Lib.hid hH
        clear hH
        have HE2 : Hid (takeE lf lu f t ps = 1) := by
          have : takeE lf lu f t ps = 1 := by rw [HE.out, HT.out, HTK.out, if_neg (by unfold okP; rw [HH.out]; simp)]; try rfl
          exact Lib.hid this
        go_wp2
        go_ret
        exact ⟨by rw [HE2.out]; rfl, KP (hBr.trans (hb6.mono hBr.size)), ShTook.no (by rw [HE2.out]; decide) (kgr.below hb6 kgr.lt)⟩
      have HH := Lib.hid hH
      clear hH
      go_wp2_with fail
      refine (may16_any _ _ _ _ p.k p.v _).mono ?_
      rintro e w7 ⟨rfl, hww⟩
      subst hww
      cases hM : may16 p.k p.v
      case false =>
        have HM := Lib.hid hM
        clear hM
        have HE2 : Hid (takeE lf lu f t ps = 1) := by
          have : takeE lf lu f t ps = 1 := by rw [HE.out, HT.out, HTK.out, if_neg (by unfold okP; rw [HH.out, HM.out]; simp)]; try rfl
          exact Lib.hid this
        go_wp2
        go_ret
        exact ⟨by rw [HE2.out]; rfl, KP (hBr.trans (hb6.mono hBr.size)), ShTook.no (by rw [HE2.out]; decide) (kgr.below hb6 kgr.lt)⟩
      have HM := Lib.hid hM
      clear hM
      go_wp2_with fail
      refine (within_any _ _ _ f t p.k _ (h3.below (hBr.trans (hb6.mono hBr.size))) (h4.below (hBr.trans (hb6.mono hBr.size))) (ha1.below hb6)).mono ?_
      rintro e w8 ⟨rfl, hb8⟩
      have hbb := hb6.trans (hb8.mono hb6.size)
      have kp8 := kp6.below hb8 kp6.lt
      clear y0 y1 y2 q8 q9 kr6
      obtain ⟨y0, y1, y2⟩ := set3_cells kp8
      cases hW : withinB f t p.k
      case false =>
        have HW := Lib.hid hW
        clear hW
        have HE2 : Hid (takeE lf lu f t ps = 1) := by
          have : takeE lf lu f t ps = 1 := by rw [HE.out, HT.out, HTK.out, if_neg (by unfold okP; rw [HH.out, HM.out, HW.out]; simp)]; try rfl
          exact Lib.hid this
        go_wp2
        go_ret
        exact ⟨by rw [HE2.out]; rfl, KP (hBr.trans (hbb.mono hBr.size)), ShTook.no (by rw [HE2.out]; decide) (kgr.below hbb kgr.lt)⟩
      have HW := Lib.hid hW
      clear hW
      by_cases hn1 : p.n < 1
      · have HN : Hid (decide (1 ≤ p.n) = false) := Lib.hid (decide_eq_false (by omega))
        have HE2 : Hid (takeE lf lu f t ps = 1) := by
          have : takeE lf lu f t ps = 1 := by rw [HE.out, HT.out, HTK.out, if_neg (by unfold okP; rw [HH.out, HM.out, HW.out, HN.out]; simp)]; try rfl
          exact Lib.hid this
        go_wp2
        go_ret
        exact ⟨by rw [HE2.out]; rfl, KP (hBr.trans (hbb.mono hBr.size)), ShTook.no (by rw [HE2.out]; decide) (kgr.below hbb kgr.lt)⟩
      by_cases hn2 : p.n > 4611686018427387904
      · have HN : Hid (decide (p.n ≤ 4611686018427387904) = false) := Lib.hid (decide_eq_false (by omega))
        have HE2 : Hid (takeE lf lu f t ps = 1) := by
          have : takeE lf lu f t ps = 1 := by rw [HE.out, HT.out, HTK.out, if_neg (by unfold okP; rw [HH.out, HM.out, HW.out, HN.out]; simp)]; try rfl
          exact Lib.hid this
        go_wp2
        go_ret
        exact ⟨by rw [HE2.out]; rfl, KP (hBr.trans (hbb.mono hBr.size)), ShTook.no (by rw [HE2.out]; decide) (kgr.below hbb kgr.lt)⟩
      have HOK : Hid (okP f t acc p = true) := by
        have : okP f t acc p = true := by
          unfold okP
          rw [HH.out, HM.out, HW.out, decide_eq_true (show 1 ≤ p.n by omega), decide_eq_true (show p.n ≤ 4611686018427387904 by omega)]
          rfl
        exact Lib.hid this
      go_wp2_with fail
      refine (copyPair_any _ _ p _ (ha1.below hbb) (ha2.below hbb)).mono ?_
      rintro e w9 ⟨⟨E1, e3, E2, e4, rfl, g1, g2⟩, hb9⟩
      have hb49 := hbb.trans (hb9.mono hbb.size)
      have kp9 := kp8.below hb9 kp8.lt
      clear y0 y1 y2
      have y2 : w9.cell? ⟨wr.heap.size, 2, none⟩ = some (.int .i64 p.n) := kp9.cell 2
      have hzz : w.heap.size ≤ w8.heap.size := Nat.le_trans hBr.size hbb.size
      go_wp2_with fail
      refine (put_any (ok := fun b => w.heap.size ≤ b) _ _ _ acc p _ (hl.below hb49) (g1.mono (by decide) fun b h _ => by have : w8.heap.size ≤ b := h; omega) (g2.mono (by decide) fun b h _ => by have : w8.heap.size ≤ b := h; omega) hn64 (by omega)).mono ?_
      rintro e w10 ⟨⟨v10, rfl, h10⟩, hb10⟩
      have hb410 := hb49.trans (hb10.mono hb49.size)
      have kp10 := kp9.below hb10 kp9.lt
      clear y2
      have y2 : w10.cell? ⟨wr.heap.size, 2, none⟩ = some (.int .i64 p.n) := kp10.cell 2
      have hz9 : w.heap.size ≤ w9.heap.size := Nat.le_trans hzz hb9.size
      go_wp2
      go_roundw
      case rel =>
        have hpl := putL_len acc p
        exact ⟨k + 1, putL acc p, maxI m p.n, by omega, by omega, by go_num, rfl, hb.trans (hb410.mono hb.size), h10.mono (by decide) (fun b h _ => h.elim id fun h => by omega), by rw [HT.out, HTK.out, if_pos HOK.out]⟩
      case measure => simp [intOf]; omega
    · have HF : Hid (takeF f t ps [] 0 = some (acc, m)) := by
        have : takeF f t ps [] 0 = some (acc, m) := by rw [HT.out, takeF_nil hlt]
        exact Lib.hid this
      have HE2 : Hid (takeE lf lu f t ps = 0) := by
        have : takeE lf lu f t ps = 0 := by rw [HE.out, HF.out]; rfl
        exact Lib.hid this
      have hgw : w.heap.size ≠ g := by omega
      have hgr : g < wr.heap.size := kgr.lt
      have hnew : ∀ b, w.heap.size ≤ b → ¬ b = g := fun b h => by omega
      have m8 : ∀ s : LaterB wr (fun b => b = g), s.val.cell? ⟨w.heap.size, 8, none⟩ = some (.slice A3 f.length a3) := LaterB.cell q8 hgw
      have m9 : ∀ s : LaterB wr (fun b => b = g), s.val.cell? ⟨w.heap.size, 9, none⟩ = some (.slice A4 t.length a4) := LaterB.cell q9 hgw
      go_wp2
      have HC := tkCh_ok g w.heap.size (.slice A1 lf.length a1) (.slice A2 lu.length a2) l T over f1 f2 gone (.slice AL acc.length al) n m f t
      refine wp_chain3 (fun b => b = g) (tkCh g w.heap.size (.slice A1 lf.length a1) (.slice A2 lu.length a2) l T over f1 f2 gone (.slice AL acc.length al) n m f t) HC
        [(5, SpB.span _ (fun b => w.heap.size ≤ b) hnew f t), (8, SpB.val _ (.pointer (some ⟨g, 0, none⟩))), (10, SpB.val _ (.int .i64 n)), (12, SpB.val _ (.int .i64 (maxI n m))), (13, SpB.val _ (.pointer (some ⟨g, 0, none⟩))), (15, SpB.any _), (16, SpB.val _ (.pointer (some ⟨g, 0, none⟩))), (18, SpB.any _), (19, SpB.val _ (.pointer (some ⟨g, 0, none⟩))), (21, SpB.any _)]
        [5, 8, 10, 12, 13, 15, 16, 18, 19, 21] (by as_aux_lemma => kernel_rfl) (by as_aux_lemma => kernel_rfl) kgr ?_
      intro vv hv
      obtain ⟨D1, e1, D2, e2, e5⟩ : ∃ A c A2 c2, vv 5 = .agg #[.slice A f.length c, .slice A2 t.length c2] := hv 5 (by decide)
      have e8 : vv 8 = .pointer (some ⟨g, 0, none⟩) := hv 8 (by decide)
      have e10 : vv 10 = .int .i64 n := hv 10 (by decide)
      have e12 : vv 12 = .int .i64 (maxI n m) := hv 12 (by decide)
      have e13 : vv 13 = .pointer (some ⟨g, 0, none⟩) := hv 13 (by decide)
      have e16 : vv 16 = .pointer (some ⟨g, 0, none⟩) := hv 16 (by decide)
      have e19 : vv 19 = .pointer (some ⟨g, 0, none⟩) := hv 19 (by decide)
      clear hv
      refine manyc_pre 5 (by decide) ?_ (by kernel_rfl)
      simp only [List.take_succ_cons, List.take_zero, List.drop_succ_cons, List.drop_zero]
      repeat (go_big_quiet_step (fail))
      refine wpQuiet_nil (manyc_wild HC rfl rfl ?_ ?_)
      · intro s _
        unfold Gives
        go_simp
        refine (span16_any _ _ f t _ ((h3.below hBr).kp (s.kp.mono hok2)) ((h4.below hBr).kp (s.kp.mono hok2))).mono ?_
        rintro e w5 ⟨⟨X1, x1, X2, x2, rfl, r1, r2⟩, hb5⟩
        have hzs : w.heap.size ≤ s.val.heap.size := Nat.le_trans hBr.size s.kp.size
        exact ⟨_, rfl, ⟨_, _, _, _, rfl, r1.mono (by decide) fun b h _ => Nat.le_trans hzs h, r2.mono (by decide) fun b h _ => Nat.le_trans hzs h⟩, hb5⟩
      intro a' ha'
      subst ha'
      simp only [Act.put, List.setIfInBounds_toArray, List.set_cons_succ, List.set_cons_zero]
      rw [e5]
      refine manyc_pre 2 (by decide) ?_ (by kernel_rfl)
      simp only [List.take_succ_cons, List.take_zero, List.drop_succ_cons, List.drop_zero]
      repeat (go_big_quiet_step (fail))
      refine wpQuiet_nil (manyc_wild HC rfl rfl ?_ ?_)
      · intro s _
        unfold Gives
        go_simp
        exact ⟨rfl, Below.refl _ _⟩
      intro a' ha'
      subst ha'
      simp only [Act.put, List.setIfInBounds_toArray, List.set_cons_succ, List.set_cons_zero]
      rw [e8]
      refine manyc_pre 1 (by decide) ?_ (by kernel_rfl)
      simp only [List.take_succ_cons, List.take_zero, List.drop_succ_cons, List.drop_zero]
      repeat (go_big_quiet_step (fail))
      refine wpQuiet_nil (manyc_wild0 HC rfl (by as_aux_lemma => kernel_rfl) rfl ?_ ?_)
      · intro s hP _
        have kp : Blk s.val g 90 (shCs (.slice A1 lf.length a1) (.slice A2 lu.length a2) l T n over f1 f2 gone) := hP
        have y4 : s.val.cell? ⟨g, 4, none⟩ = some (.int .i64 n) := kp.cell 4
        unfold Gives
        go_simp
        exact ⟨rfl, Below.refl _ _⟩
      intro a' ha'
      subst ha'
      simp only [Act.put, List.setIfInBounds_toArray, List.set_cons_succ, List.set_cons_zero]
      rw [e10]
      refine manyc_pre 1 (by decide) ?_ (by kernel_rfl)
      simp only [List.take_succ_cons, List.take_zero, List.drop_succ_cons, List.drop_zero]
      repeat (go_big_quiet_step (fail))
      refine wpQuiet_nil (manyc_wild HC rfl rfl ?_ ?_)
      · intro s _
        unfold Gives
        go_simp
        exact ⟨rfl, Below.refl _ _⟩
      intro a' ha'
      subst ha'
      simp only [Act.put, List.setIfInBounds_toArray, List.set_cons_succ, List.set_cons_zero]
      rw [e12]
      refine manyc_wild HC rfl rfl ?_ ?_
      · intro s _
        unfold Gives
        go_simp
        exact ⟨rfl, Below.refl _ _⟩
      intro a' ha'
      subst ha'
      simp only [Act.put, List.setIfInBounds_toArray, List.set_cons_succ, List.set_cons_zero]
      rw [e13]
      refine manyc_pre 1 (by decide) ?_ (by kernel_rfl)
      simp only [List.take_succ_cons, List.take_zero, List.drop_succ_cons, List.drop_zero]
      repeat (go_big_quiet_step (fail))
      refine wpQuiet_nil ?_
      refine manyc_s1 HC rfl (by as_aux_lemma => kernel_rfl) rfl ?_ ?_
      · intro s hP hf
        have kp : Blk s.val g 90 (shCs (.slice A1 lf.length a1) (.slice A2 lu.length a2) l T n over f1 f2 gone) := hP
        obtain ⟨_, _, _, _, e5', r1, r2⟩ := hf 5 (by decide) (by kernel_rfl)
        rw [e5] at e5'
        simp only [Value.agg.injEq, Array.mk.injEq, List.cons.injEq, Value.slice.injEq, true_and, and_true] at e5'
        obtain ⟨⟨rfl, rfl⟩, rfl, rfl⟩ := e5'
        have fz := fun i => kp.frozen i
        have y0 : s.val.cell? ⟨g, 0, none⟩ = some (.slice A1 lf.length a1) := kp.cell 0
        have y1 : s.val.cell? ⟨g, 1, none⟩ = some (.slice A2 lu.length a2) := kp.cell 1
        refine (show Gives _ _ _ s.val (fun _ w' => w' = (s.val.setCell ⟨g, 0, none⟩ (.slice D1 f.length e1)).setCell ⟨g, 1, none⟩ (.slice D2 t.length e2)) from by unfold Gives; go_simp).mono ?_
        intro x w5 hw5
        subst hw5
        have hkp : Kp (fun b => ¬ b = g) s.val ((s.val.setCell ⟨g, 0, none⟩ (.slice D1 f.length e1)).setCell ⟨g, 1, none⟩ (.slice D2 t.length e2)) := ((Kp.refl _ _).setCell (fun _ h => h rfl) _).setCell (fun _ h => h rfl) _
        have kn := (kp.set_ 0 (.slice D1 f.length e1)).set_ 1 (.slice D2 t.length e2)
        exact ⟨trivial, ⟨_, _, _, _, by simpa using kn, r1.kp (hkp.mono hnew), r2.kp (hkp.mono hnew)⟩, hkp⟩
      intro a' ha'
      subst ha'
      simp only [Act.put, List.setIfInBounds_toArray, List.set_cons_succ, List.set_cons_zero]
      refine (show manyC _ _ _ _ _ _ _ _ _ _ 16 _ _ from ?_)
      refine manyc_wild HC rfl rfl ?_ ?_
      · intro s _
        unfold Gives
        go_simp
        exact ⟨rfl, Below.refl _ _⟩
      intro a' ha'
      subst ha'
      simp only [Act.put, List.setIfInBounds_toArray, List.set_cons_succ, List.set_cons_zero]
      rw [e16]
      refine manyc_pre 1 (by decide) ?_ (by kernel_rfl)
      simp only [List.take_succ_cons, List.take_zero, List.drop_succ_cons, List.drop_zero]
      repeat (go_big_quiet_step (fail))
      refine wpQuiet_nil ?_
      refine manyc_s2 HC rfl (by as_aux_lemma => kernel_rfl) rfl ?_ ?_
      · intro s hP _
        obtain ⟨X1, x1, X2, x2, kp, r1, r2⟩ := hP
        have fz := fun i => kp.frozen i
        have y0 : s.val.cell? ⟨g, 2, none⟩ = some l := kp.cell 2
        refine (show Gives _ _ _ s.val (fun _ w' => w' = s.val.setCell ⟨g, 2, none⟩ (.slice AL acc.length al)) from by unfold Gives; go_simp).mono ?_
        intro x w5 hw5
        subst hw5
        have hkp : Kp (fun b => ¬ b = g) s.val (s.val.setCell ⟨g, 2, none⟩ (.slice AL acc.length al)) := (Kp.refl _ _).setCell (fun _ h => h rfl) _
        have kn := kp.set_ 2 (.slice AL acc.length al)
        exact ⟨trivial, ⟨_, _, _, _, by simpa using kn, r1.kp (hkp.mono hnew), r2.kp (hkp.mono hnew)⟩, hkp⟩
      intro a' ha'
      subst ha'
      simp only [Act.put, List.setIfInBounds_toArray, List.set_cons_succ, List.set_cons_zero]
      refine (show manyC _ _ _ _ _ _ _ _ _ _ 19 _ _ from ?_)
      refine manyc_wild HC rfl rfl ?_ ?_
      · intro s _
        unfold Gives
        go_simp
        exact ⟨rfl, Below.refl _ _⟩
      intro a' ha'
      subst ha'
      simp only [Act.put, List.setIfInBounds_toArray, List.set_cons_succ, List.set_cons_zero]
      rw [e19]
      refine manyc_pre 1 (by decide) ?_ (by kernel_rfl)
      simp only [List.take_succ_cons, List.take_zero, List.drop_succ_cons, List.drop_zero]
      repeat (go_big_quiet_step (fail))
      refine wpQuiet_nil ?_
      refine manyc_s3 HC rfl (by as_aux_lemma => kernel_rfl) rfl ?_ ?_
      · intro s hP _
        obtain ⟨X1, x1, X2, x2, kp, r1, r2⟩ := hP
        have fz := fun i => kp.frozen i
        have y0 : s.val.cell? ⟨g, 4, none⟩ = some (.int .i64 n) := kp.cell 4
        refine (show Gives _ _ _ s.val (fun _ w' => w' = s.val.setCell ⟨g, 4, none⟩ (.int .i64 (maxI n m))) from by unfold Gives; go_simp).mono ?_
        intro x w5 hw5
        subst hw5
        have hkp : Kp (fun b => ¬ b = g) s.val (s.val.setCell ⟨g, 4, none⟩ (.int .i64 (maxI n m))) := (Kp.refl _ _).setCell (fun _ h => h rfl) _
        have kn := kp.set_ 4 (.int .i64 (maxI n m))
        exact ⟨trivial, ⟨_, _, _, _, by simpa using kn, r1.kp (hkp.mono hnew), r2.kp (hkp.mono hnew)⟩, hkp⟩
      intro a' ha'
      subst ha'
      simp only [Act.put, List.setIfInBounds_toArray, List.set_cons_succ, List.set_cons_zero]
      refine manyc_end rfl ?_
      intro w9 hkp hP
      obtain ⟨X1, x1, X2, x2, kp, r1, r2⟩ := hP
      clear e5 e8 e10 e12 e13 e16 e19 m8 m9
      go_wp2
      go_ret
      refine ⟨by rw [HE2.out]; rfl, (KP hBr).trans (hkp.mono fun b h => h), ?_⟩
      rw [HE2.out]
      unfold ShTook
      rw [if_pos rfl]
      exact ⟨_, _, _, acc, m, HF.out, kp, r1, r2, hl.kp (hkp.mono hnew)⟩
end Go.Proofs.Ytikkknaofiafhaa
