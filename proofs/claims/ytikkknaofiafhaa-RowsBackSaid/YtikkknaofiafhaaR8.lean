/- Contract: rows.parts. -/
import Derived.Test.YtikkknaofiafhaaR7
import Derived.Test.YtikkknaofiafhaaC10
namespace Go.Proofs.Ytikkknaofiafhaa
open Go.RowKit

theorem takeD_ok {l r : List UInt8} {v : Val} (h : takeD l = .inl (v, r)) : v.ok := by
  cases l with
  | nil => simp [takeD] at h
  | cons b t =>
    rw [takeD] at h
    split at h
    · simp only [Sum.inl.injEq, Prod.mk.injEq] at h
      rw [← h.1]; unfold Val.ok; decide
    · split at h
      · split at h
        · cases h
        · simp only [Sum.inl.injEq, Prod.mk.injEq] at h
          rw [← h.1]
          have := beNat_small8 t
          unfold Val.ok
          simp only
          omega
      · split at h
        · split at h
          · simp only [Sum.inl.injEq, Prod.mk.injEq] at h
            rw [← h.1]
            refine ⟨?_, ?_⟩ <;> simp only <;> omega
          · cases h
        · cases h
theorem decD_okV : ∀ (f : Nat) (acc : List Val) (l : List UInt8), okVals acc → okVals (decD f acc l).1
  | f, acc, [], h => by
    have : decD f acc [] = if 16 < acc.length then ([], 10) else (acc, 0) := by cases f <;> rfl
    rw [this]
    split
    · intro x hx; cases hx
    · exact h
  | 0, acc, _ :: _, h => by intro x hx; simp [decD] at hx
  | f + 1, acc, b :: l, h => by
    rw [decD]
    cases ht : takeD (b :: l) with
    | inr e => intro x hx; simp at hx
    | inl p =>
      obtain ⟨v, r⟩ := p
      refine decD_okV f (acc ++ [v]) r fun x hx => ?_
      rcases List.mem_append.1 hx with hx | hx
      · exact h x hx
      · simp at hx; subst hx; exact takeD_ok ht
theorem decB_ok (l : List UInt8) : okVals (decB l).1 := decD_okV _ _ _ fun x hx => by cases hx
theorem decD_len : ∀ (f : Nat) (acc : List Val) (l : List UInt8), (decD f acc l).1.length ≤ 16
  | f, acc, [] => by
    have : decD f acc [] = if 16 < acc.length then ([], 10) else (acc, 0) := by cases f <;> rfl
    rw [this]
    split
    · simp
    · simp only; omega
  | 0, acc, _ :: _ => by simp [decD]
  | f + 1, acc, b :: l => by
    rw [decD]
    cases ht : takeD (b :: l) with
    | inr e => simp
    | inl p => exact decD_len f _ _
theorem decB_len (l : List UInt8) : (decB l).1.length ≤ 16 := decD_len _ _ _
/-- Dec over data -/
theorem dec_rv {ok : Nat → Prop} (v : Value) (l : List UInt8) (w : World) (hr : RB ok w v l) (hm : l.length ≤ 4398046511104) :
    Calls Try.prog 43 #[v] w fun e w' => (∃ (A : Option Addr) (c : Nat) (N : Int), e = .returned (.tuple #[.slice A (decB l).1.length c, .int .i64 N, .int .i64 (decB l).2]) ∧ RV (fun b => w.heap.size ≤ b) w' (.slice A (decB l).1.length c) (decB l).1) ∧ Below w.heap.size w w' := by
  obtain ⟨A, c, rfl, hc, _, hrd, _⟩ := hr.open_
  refine (dec_any A _ c l w hrd hc hm).mono fun e w' ⟨A', c', he, ho, hb⟩ => ⟨⟨A', c', _, he, ?_⟩, hb⟩
  refine RV.mk_ ho.rd ho.cap (by have := decB_len l; omega) (decB_ok l) fun h0 a ha => ?_
  subst ha
  exact (World.ownsRow.lt ho _ rfl).1

/-- a slice and a Bool -/
def Sp.cut (ok : Nat → Prop) (l : List UInt8) (b : Bool) : Sp :=
  ⟨fun x => ∃ A c, x = .tuple #[.slice A l.length c, .bool b], .tuple #[.slice none l.length l.length, .bool b], ⟨none, l.length, rfl⟩, fun x w => ∃ A c, x = .tuple #[.slice A l.length c, .bool b] ∧ RB ok w (.slice A l.length c) l,
    fun _ _ ⟨A, c, h, _⟩ => ⟨A, c, h⟩, fun _ _ _ hb ⟨A, c, h, hr⟩ => ⟨A, c, h, hr.below hb⟩⟩

def partsV (t : TabD) (x : IdxD) (pk pv : List UInt8) : List Val × List Val × Bool :=
  if preB pk (headB 120 x.id) && ((decB (cutB pk (headB 120 x.id))).2 == 0 && decide (x.cols.length ≤ (decB (cutB pk (headB 120 x.id))).1.length)) then
    (if x.uniq && !hasNull ((decB (cutB pk (headB 120 x.id))).1.take x.cols.length) then
      ((decB (cutB pk (headB 120 x.id))).1, (decB (cutB pv (headB 114 t.id))).1, preB pv (headB 114 t.id) && ((decB (cutB pv (headB 114 t.id))).2 == 0 && decide ((decB (cutB pk (headB 120 x.id))).1.length = x.cols.length)))
     else ((decB (cutB pk (headB 120 x.id))).1.take x.cols.length, (decB (cutB pk (headB 120 x.id))).1.drop x.cols.length, decide (pv = [])))
  else ([], [], false)
theorem cutB_len (l p : List UInt8) : (cutB l p).length ≤ l.length := by unfold cutB; split <;> simp

def PartsPost (t : TabD) (x : IdxD) (pk pv : List UInt8) (w : World) (e : Ending) (w' : World) : Prop :=
  (∃ v1 v2, e = .returned (.tuple #[v1, v2, .bool (partsV t x pk pv).2.2]) ∧ RV (fun b => w.heap.size ≤ b) w' v1 (partsV t x pk pv).1 ∧ RV (fun b => w.heap.size ≤ b) w' v2 (partsV t x pk pv).2.1) ∧ Below w.heap.size w w'
theorem partsPost_no {t : TabD} {x : IdxD} {pk pv : List UInt8} {w w' : World} (h : (preB pk (headB 120 x.id) && ((decB (cutB pk (headB 120 x.id))).2 == 0 && decide (x.cols.length ≤ (decB (cutB pk (headB 120 x.id))).1.length))) = false) (hb : Below w.heap.size w w') :
    PartsPost t x pk pv w (.returned (.tuple #[.slice none 0 0, .slice none 0 0, .bool false])) w' := by
  unfold PartsPost partsV
  rw [h]
  exact ⟨⟨_, _, rfl, RSl.nil_ _ _ _, RSl.nil_ _ _ _⟩, hb⟩

theorem partsV_n {t : TabD} {x : IdxD} {pk pv : List UInt8} (h : preB pk (headB 120 x.id) = true) (h2 : (decB (cutB pk (headB 120 x.id))).2 = 0) (h3 : x.cols.length ≤ (decB (cutB pk (headB 120 x.id))).1.length)
    (h4 : x.uniq = false ∨ hasNull ((decB (cutB pk (headB 120 x.id))).1.take x.cols.length) = true) :
    partsV t x pk pv = ((decB (cutB pk (headB 120 x.id))).1.take x.cols.length, (decB (cutB pk (headB 120 x.id))).1.drop x.cols.length, decide (pv = [])) := by
  unfold partsV
  rw [if_pos (by simp [h, h2, h3]), if_neg (by rcases h4 with h4 | h4 <;> simp [h4])]
theorem partsV_u {t : TabD} {x : IdxD} {pk pv : List UInt8} (h : preB pk (headB 120 x.id) = true) (h2 : (decB (cutB pk (headB 120 x.id))).2 = 0) (h3 : x.cols.length ≤ (decB (cutB pk (headB 120 x.id))).1.length)
    (h4 : x.uniq = true) (h5 : hasNull ((decB (cutB pk (headB 120 x.id))).1.take x.cols.length) = false) :
    partsV t x pk pv = ((decB (cutB pk (headB 120 x.id))).1, (decB (cutB pv (headB 114 t.id))).1, preB pv (headB 114 t.id) && ((decB (cutB pv (headB 114 t.id))).2 == 0 && decide ((decB (cutB pk (headB 120 x.id))).1.length = x.cols.length))) := by
  unfold partsV
  rw [if_pos (by simp [h, h2, h3]), if_pos (by simp [h4, h5])]

set_option maxRecDepth 100000 in
set_option maxHeartbeats 6400000 in
theorem parts_any {ok ok3 ok4 : Nat → Prop} (t : TabD) (x : IdxD) (a b xa k y : Value) (n0 : Int) (pk pv : List UInt8) (w : World) (ht : TabR ok w a b t) (hx : IdxR ok3 w xa x) (hk : RB ok4 w k pk) (hy : RB ok4 w y pv) (hkl : pk.length ≤ 1000000) (hyl : pv.length ≤ 1000000) :
    Calls Try.prog 117 #[.agg (tabCs t a b), .agg (idxCs x xa), .agg #[k, y, .int .i64 n0]] w (PartsPost t x pk pv w) := by
  obtain ⟨A, c, rfl, _, _⟩ := ht.cols.form
  obtain ⟨A3, c3, rfl, _, _⟩ := ht.key.form
  obtain ⟨A4, c4, rfl, _, hxl⟩ := hx.cols.form
  obtain ⟨A1, c1, rfl, _, _⟩ := hk.form
  obtain ⟨A2, c2, rfl, _, _⟩ := hy.form
  have hxl' : x.cols.length * 8 ≤ 140737488351232 := hxl
  clear hxl
  go_enter Try.func117, Try.ntmps117
  unfold tabCs idxCs
  go_upto_region 1 with fail
  refine name_world (fun w1 => Below w.heap.size w w1 ∧ w.heap.size + 3 ≤ w1.heap.size ∧ Blk w1 w.heap.size 56 (tabCs t (.slice A t.cols.length c) (.slice A3 t.key.length c3)) ∧ Blk w1 (w.heap.size + 1) 58 (idxCs x (.slice A4 x.cols.length c4)) ∧ Blk w1 (w.heap.size + 2) 98 #[.slice A1 pk.length c1, .slice A2 pv.length c2, .int .i64 n0])
    ⟨(((Below.refl _ _).alloc (Nat.le_refl _) _).alloc (by simp) _).alloc (by simp; omega) _, by simp, ((Blk.new w _ _).alloc _).alloc _, (Blk.new_ (by simp)).alloc _, Blk.new_ (by simp)⟩ ?_
  rintro w1 ⟨hb1, hz1, kt, kx, kp⟩
  have y0 : ∀ s : Later w1, s.val.cell? ⟨w.heap.size + 1, 0, none⟩ = some (.int .i64 x.id) := kx.later rfl
  have y1 : ∀ s : Later w1, s.val.cell? ⟨w.heap.size + 2, 0, none⟩ = some (.slice A1 pk.length c1) := kp.later rfl
  refine wp_later_many [(4, Sp.rb (fun b => w.heap.size ≤ b) (headB 120 x.id)), (5, Sp.cut ok4 (cutB pk (headB 120 x.id)) (preB pk (headB 120 x.id)))] [4, 5] (by kernel_rfl) (by kernel_rfl) ?_
  intro vv hv
  obtain ⟨B3, d3, e3, _⟩ : ∃ A c, vv 4 = .slice A (headB 120 x.id).length c ∧ (headB 120 x.id).length ≤ c := hv 4 (by decide)
  obtain ⟨B4, d4, e4⟩ : ∃ A c, vv 5 = .tuple #[.slice A (cutB pk (headB 120 x.id)).length c, .bool (preB pk (headB 120 x.id))] := hv 5 (by decide)
  refine many_pre 4 (by decide) ?_
  simp only [List.take_succ_cons, List.take_zero, List.drop_succ_cons, List.drop_zero]
  repeat (go_big_quiet_step (fail))
  refine wpQuiet_nil (many_wild (by decide) rfl ?_ ?_)
  · intro s _
    unfold Gives
    go_simp
    refine (head_any 120 x.id _ hx.id).mono ?_
    rintro e w2 ⟨⟨A6, c6, rfl, o6⟩, hb2⟩
    refine ⟨_, rfl, (o6.rb (by omega)).mono (by decide) (fun b hb _ => by have h1 := s.below.size; have h2 := hb1.size; omega), hb2⟩
  intro a' ha'
  subst ha'
  simp only [Act.put, List.setIfInBounds_toArray, List.set_cons_succ, List.set_cons_zero]
  rw [e3]
  refine many_wild (by decide) rfl ?_ ?_
  · intro s hf
    have f4 : RB _ s.val (vv 4) (headB 120 x.id) := hf 4 (by decide) (by kernel_rfl)
    rw [e3] at f4
    unfold Gives
    go_simp
    refine (cutPrefix_rb _ _ pk (headB 120 x.id) _ (hk.below (hb1.trans (s.below.mono hb1.size))) f4).mono ?_
    rintro e w2 ⟨⟨v', rfl, hv'⟩, rfl⟩
    obtain ⟨A6, c6, rfl, _, _⟩ := hv'.form
    exact ⟨_, rfl, ⟨A6, c6, rfl, hv'⟩, Below.refl _ _⟩
  intro a' ha'
  subst ha'
  simp only [Act.put, List.setIfInBounds_toArray, List.set_cons_succ, List.set_cons_zero]
  rw [e4]
  refine many_pre 5 (by decide) ?_
  simp only [List.take_succ_cons, List.take_zero, List.drop_succ_cons, List.drop_zero]
  repeat (go_big_quiet_step (fail))
  refine wpQuiet_nil (many_end ?_)
  intro s hf
  obtain ⟨_, _, e4', hrest⟩ : ∃ A c, vv 5 = .tuple #[.slice A (cutB pk (headB 120 x.id)).length c, .bool (preB pk (headB 120 x.id))] ∧ RB ok4 s.val (.slice A (cutB pk (headB 120 x.id)).length c) (cutB pk (headB 120 x.id)) := hf 5 (by decide)
  rw [e4] at e4'
  simp only [Value.tuple.injEq, Array.mk.injEq, List.cons.injEq, Value.slice.injEq, true_and, and_true] at e4'
  obtain ⟨rfl, rfl⟩ := e4'
  have hB2 := hb1.trans (s.below.mono hb1.size)
  have kt2 := kt.below s.below kt.lt
  have kx2 := kx.below s.below kx.lt
  have kp2 := kp.below s.below kp.lt
  clear y0 y1 kt kx kp e3 e4 hv hf
  have hcl := cutB_len pk (headB 120 x.id)
  go_wp2_with fail
  refine (dec_rv _ _ _ hrest (by omega)).mono ?_
  rintro e w3 ⟨⟨A7, c7, N7, rfl, hl⟩, hb3⟩
  have hB3 := hB2.trans (hb3.mono hB2.size)
  have kt3 := kt2.below hb3 kt2.lt
  have kx3 := kx2.below hb3 kx2.lt
  have kp3 := kp2.below hb3 kp2.lt
  clear kt2 kx2 kp2
  have x3 : w3.cell? ⟨w.heap.size + 1, 3, none⟩ = some (.slice A4 x.cols.length c4) := kx3.cell 3
  have x4 : w3.cell? ⟨w.heap.size + 1, 4, none⟩ = some (.bool x.uniq) := kx3.cell 4
  obtain ⟨D, hD⟩ : ∃ D, D = decB (cutB pk (headB 120 x.id)) := ⟨_, rfl⟩
  have hDl : D.1.length ≤ 16 := by rw [hD]; exact decB_len _
  rw [← hD] at hl
  rw [← hD]
  have HD := Lib.hid hD
  clear hD
  cases hP : preB pk (headB 120 x.id)
  · have HN : Hid (PartsPost t x pk pv w (.returned (.tuple #[.slice none 0 0, .slice none 0 0, .bool false])) w3) := partsPost_no (by rw [hP]; rfl) hB3
    clear hP
    go_wp2
    go_ret3
    exact HN.out
  · by_cases hE : D.2 = 0
    · by_cases hL : x.cols.length ≤ D.1.length
      · have d0 : (D.2 != 0) = false := by simp [hE]
        have d1 : decide ((D.1.length : Int) < (x.cols.length : Int)) = false := decide_eq_false (by omega)
        have d2 : decide (D.1.length < x.cols.length) = false := decide_eq_false (by omega)
        have hlt := hl.take hL
        have hE' := Lib.hid hE
        have hP' := Lib.hid hP
        clear hP hE
        have hcap : D.1.length ≤ c7 := by obtain ⟨_, _, h1, h2, _⟩ := hl.form; simp only [Value.slice.injEq] at h1; omega
        have hcn : x.cols.length ≤ c7 := by omega
        go_wp2_with fail
        refine (containsNull_any _ (D.1.take x.cols.length) _ hlt).mono ?_
        rintro e w4 ⟨rfl, hb4⟩
        have hB4 := hB3.trans (hb4.mono hB3.size)
        have kt4 := kt3.below hb4 kt3.lt
        have kx4 := kx3.below hb4 kx3.lt
        have kp4 := kp3.below hb4 kp3.lt
        have hl4 := hl.below hb4
        have hlt4 := hlt.below hb4
        clear x3 x4 hlt hl
        have u4 : w4.cell? ⟨w.heap.size + 1, 4, none⟩ = some (.bool x.uniq) := kx4.cell 4
        have y1 : w4.cell? ⟨w.heap.size + 2, 1, none⟩ = some (.slice A2 pv.length c2) := kp4.cell 1
        have fin : (x.uniq = false ∨ hasNull (D.1.take x.cols.length) = true) → ∀ v2 bb w5, Below w4.heap.size w4 w5 → RV (fun b => w.heap.size ≤ b) w4 v2 (D.1.drop x.cols.length) → bb = decide (pv = []) →
            PartsPost t x pk pv w (.returned (.tuple #[.slice A7 x.cols.length c7, v2, .bool bb])) w5 := by
          intro hu v2 bb w5 hb5 hv2 hbb
          subst hbb
          have e := HD.out
          subst e
          have hn := partsV_n (pv := pv) (t := t) hP'.out hE'.out hL hu
          unfold PartsPost
          rw [hn]
          exact ⟨⟨_, _, rfl, (hlt4.below hb5).mono (by decide) fun b hb _ => Nat.le_trans hB2.size hb, hv2.below hb5⟩, hB4.trans (hb5.mono hB4.size)⟩
        have eqb : ((pv.length : Int) == 0) = decide (pv = []) := by cases pv <;> simp; omega
        cases hU : x.uniq
        · rw [hU] at u4
          have FIN := fin (.inl hU)
          clear hU fin
          by_cases hc7 : c7 = x.cols.length
          · subst hc7
            have hdr := (hl4.drop hL).mono (by decide) (ok' := fun b => w.heap.size ≤ b) fun b hb _ => Nat.le_trans hB2.size hb
            rw [if_pos rfl] at hdr
            rw [show D.1.length - x.cols.length = 0 by omega, Nat.sub_self] at hdr
            have HDR := Lib.hid hdr
            have FIN2 := Lib.hid FIN
            have EQB := Lib.hid eqb
            clear FIN hdr hl4 hlt4 eqb
            go_wp2
            go_quiet (fail)
            go_wp2
            go_ret3
            exact FIN2.out _ _ _ ⟨rfl, rfl, rfl, Nat.le_refl _, fun _ _ => rfl⟩ HDR.out EQB.out
          · have hdr := (hl4.drop hL).mono (by decide) (ok' := fun b => w.heap.size ≤ b) fun b hb _ => Nat.le_trans hB2.size hb
            rw [if_neg hc7] at hdr
            have HDR := Lib.hid hdr
            have FIN2 := Lib.hid FIN
            have EQB := Lib.hid eqb
            clear FIN hdr hl4 hlt4 eqb
            go_wp2
            go_quiet (fail)
            go_wp2
            go_ret3
            exact FIN2.out _ _ _ ⟨rfl, rfl, rfl, Nat.le_refl _, fun _ _ => rfl⟩ HDR.out EQB.out
        · rw [hU] at u4
          cases hH : hasNull (D.1.take x.cols.length)
          · have HU : Hid (partsV t x pk pv = (D.1, (decB (cutB pv (headB 114 t.id))).1, preB pv (headB 114 t.id) && ((decB (cutB pv (headB 114 t.id))).2 == 0 && decide (D.1.length = x.cols.length)))) := by
              have e := HD.out
              subst e
              exact partsV_u hP'.out hE'.out hL hU hH
            have HL := Lib.hid (And.intro hl4 hL)
            clear hU hH fin hl4 hlt4 eqb y1
            have y0 : ∀ s : Later w4, s.val.cell? ⟨w.heap.size, 0, none⟩ = some (.int .i64 t.id) := kt4.later rfl
            have y1 : ∀ s : Later w4, s.val.cell? ⟨w.heap.size + 2, 1, none⟩ = some (.slice A2 pv.length c2) := kp4.later rfl
            go_wp2
            refine wp_later_many [(4, Sp.rb (fun b => w.heap.size ≤ b) (headB 114 t.id)), (5, Sp.cut ok4 (cutB pv (headB 114 t.id)) (preB pv (headB 114 t.id)))] [4, 5] (by kernel_rfl) (by kernel_rfl) ?_
            intro vv hv
            obtain ⟨B3, d3, e3, _⟩ : ∃ A c, vv 4 = .slice A (headB 114 t.id).length c ∧ (headB 114 t.id).length ≤ c := hv 4 (by decide)
            obtain ⟨B4, d4, e4⟩ : ∃ A c, vv 5 = .tuple #[.slice A (cutB pv (headB 114 t.id)).length c, .bool (preB pv (headB 114 t.id))] := hv 5 (by decide)
            refine many_pre 4 (by decide) ?_
            simp only [List.take_succ_cons, List.take_zero, List.drop_succ_cons, List.drop_zero]
            repeat (go_big_quiet_step (fail))
            refine wpQuiet_nil (many_wild (by decide) rfl ?_ ?_)
            · intro s _
              unfold Gives
              go_simp
              refine (head_any 114 t.id _ ht.id).mono ?_
              rintro e w2 ⟨⟨A6, c6, rfl, o6⟩, hb2⟩
              refine ⟨_, rfl, (o6.rb (by omega)).mono (by decide) (fun b hb _ => by have h1 := s.below.size; have h2 := hB4.size; omega), hb2⟩
            intro a' ha'
            subst ha'
            simp only [Act.put, List.setIfInBounds_toArray, List.set_cons_succ, List.set_cons_zero]
            rw [e3]
            refine many_wild (by decide) rfl ?_ ?_
            · intro s hf
              have f4 : RB _ s.val (vv 4) (headB 114 t.id) := hf 4 (by decide) (by kernel_rfl)
              rw [e3] at f4
              unfold Gives
              go_simp
              refine (cutPrefix_rb _ _ pv (headB 114 t.id) _ (hy.below (hB4.trans (s.below.mono hB4.size))) f4).mono ?_
              rintro e w2 ⟨⟨v', rfl, hv'⟩, rfl⟩
              obtain ⟨A6, c6, rfl, _, _⟩ := hv'.form
              exact ⟨_, rfl, ⟨A6, c6, rfl, hv'⟩, Below.refl _ _⟩
            intro a' ha'
            subst ha'
            simp only [Act.put, List.setIfInBounds_toArray, List.set_cons_succ, List.set_cons_zero]
            rw [e4]
            refine many_pre 5 (by decide) ?_
            simp only [List.take_succ_cons, List.take_zero, List.drop_succ_cons, List.drop_zero]
            repeat (go_big_quiet_step (fail))
            refine wpQuiet_nil (many_end ?_)
            intro s2 hf
            obtain ⟨_, _, e4', hrest2⟩ : ∃ A c, vv 5 = .tuple #[.slice A (cutB pv (headB 114 t.id)).length c, .bool (preB pv (headB 114 t.id))] ∧ RB ok4 s2.val (.slice A (cutB pv (headB 114 t.id)).length c) (cutB pv (headB 114 t.id)) := hf 5 (by decide)
            rw [e4] at e4'
            simp only [Value.tuple.injEq, Array.mk.injEq, List.cons.injEq, Value.slice.injEq, true_and, and_true] at e4'
            obtain ⟨rfl, rfl⟩ := e4'
            have hB5 := hB4.trans (s2.below.mono hB4.size)
            have hcl2 := cutB_len pv (headB 114 t.id)
            clear y0 y1 e3 e4 hv hf
            go_wp2_with fail
            refine (dec_rv _ _ _ hrest2 (by omega)).mono ?_
            rintro e w6 ⟨⟨A8, c8, N8, rfl, hl8⟩, hb6⟩
            have hB6 := hB5.trans (hb6.mono hB5.size)
            have FIN : Hid (∀ bb, bb = (preB pv (headB 114 t.id) && ((decB (cutB pv (headB 114 t.id))).2 == 0 && decide (D.1.length = x.cols.length))) →
                PartsPost t x pk pv w (.returned (.tuple #[.slice A7 D.1.length c7, .slice A8 (decB (cutB pv (headB 114 t.id))).1.length c8, .bool bb])) w6) := by
              intro bb hbb
              subst hbb
              unfold PartsPost
              rw [HU.out]
              exact ⟨⟨_, _, rfl, ((HL.out.1.below s2.below).below hb6).mono (by decide) fun b hb _ => Nat.le_trans hB2.size hb, hl8.mono (by decide) fun b hb _ => Nat.le_trans hB5.size hb⟩, hB6⟩
            obtain ⟨D2, hD2⟩ : ∃ D2, D2 = decB (cutB pv (headB 114 t.id)) := ⟨_, rfl⟩
            rw [← hD2] at FIN ⊢
            obtain ⟨P2, hP2⟩ : ∃ P2, P2 = preB pv (headB 114 t.id) := ⟨_, rfl⟩
            rw [← hP2] at FIN ⊢
            clear hD2 hP2
            cases P2
            · go_wp2
              go_ret3
              exact FIN.out _ (by simp)
            · by_cases h2 : D2.2 = 0
              · have g0 : (D2.2 == 0) = true := by simp [h2]
                have g1 : (D2.2 != 0) = false := by simp [h2]
                clear h2
                by_cases h3 : D.1.length = x.cols.length
                · have g2 : decide ((D.1.length : Int) = (x.cols.length : Int)) = true := decide_eq_true (by omega)
                  have g3 : ((D.1.length : Int) == (x.cols.length : Int)) = true := by simp [h3]
                  have g4 : decide (D.1.length = x.cols.length) = true := by simp [h3]
                  clear h3
                  have FIN2 := Lib.hid (FIN.out true (by rw [g0, g4]; rfl))
                  clear FIN
                  go_wp2
                  go_ret3
                  exact FIN2.out
                · have g2 : decide ((D.1.length : Int) = (x.cols.length : Int)) = false := decide_eq_false (by omega)
                  have g3 : ((D.1.length : Int) == (x.cols.length : Int)) = false := by simp; omega
                  have g4 : decide (D.1.length = x.cols.length) = false := by simp [h3]
                  clear h3
                  have FIN2 := Lib.hid (FIN.out false (by rw [g4]; simp))
                  clear FIN
                  go_wp2
                  go_ret3
                  exact FIN2.out
              · have g0 : (D2.2 == 0) = false := by simp [h2]
                have g1 : (D2.2 != 0) = true := by simpa using h2
                have FIN2 := Lib.hid (FIN.out false (by rw [g0]; simp))
                clear FIN
                go_wp2
                go_ret3
                exact FIN2.out
          · have FIN := fin (.inr hH)
            clear hU hH fin
            by_cases hc7 : c7 = x.cols.length
            · subst hc7
              have hdr := (hl4.drop hL).mono (by decide) (ok' := fun b => w.heap.size ≤ b) fun b hb _ => Nat.le_trans hB2.size hb
              rw [if_pos rfl] at hdr
              rw [show D.1.length - x.cols.length = 0 by omega, Nat.sub_self] at hdr
              have HDR := Lib.hid hdr
              have FIN2 := Lib.hid FIN
              have EQB := Lib.hid eqb
              clear FIN hdr hl4 hlt4 eqb
              go_wp2
              go_quiet (fail)
              go_wp2
              go_ret3
              exact FIN2.out _ _ _ ⟨rfl, rfl, rfl, Nat.le_refl _, fun _ _ => rfl⟩ HDR.out EQB.out
            · have hdr := (hl4.drop hL).mono (by decide) (ok' := fun b => w.heap.size ≤ b) fun b hb _ => Nat.le_trans hB2.size hb
              rw [if_neg hc7] at hdr
              have HDR := Lib.hid hdr
              have FIN2 := Lib.hid FIN
              have EQB := Lib.hid eqb
              clear FIN hdr hl4 hlt4 eqb
              go_wp2
              go_quiet (fail)
              go_wp2
              go_ret3
              exact FIN2.out _ _ _ ⟨rfl, rfl, rfl, Nat.le_refl _, fun _ _ => rfl⟩ HDR.out EQB.out
      · have HN : Hid (PartsPost t x pk pv w (.returned (.tuple #[.slice none 0 0, .slice none 0 0, .bool false])) w3) := partsPost_no (by rw [← HD.out]; simp [hL]) hB3
        have d0 : (D.2 != 0) = false := by simp [hE]
        have d1 : decide ((D.1.length : Int) < (x.cols.length : Int)) = true := decide_eq_true (by omega)
        have d2 : decide (D.1.length < x.cols.length) = true := decide_eq_true (by omega)
        clear hP hE
        go_wp2
        go_ret3
        exact HN.out
    · have HN : Hid (PartsPost t x pk pv w (.returned (.tuple #[.slice none 0 0, .slice none 0 0, .bool false])) w3) := partsPost_no (by rw [← HD.out]; simp [hE]) hB3
      have d0 : (D.2 != 0) = true := by simpa using hE
      clear hP hE
      go_wp2
      go_ret3
      exact HN.out
end Go.Proofs.Ytikkknaofiafhaa
