/- Contract: rows.Entry. -/
import Derived.Test.YtikkknaofiafhaaR6
import Derived.Deep.DeepCutAuto
namespace Go.Proofs.Ytikkknaofiafhaa
open Go.RowKit

/-- an index's parts -/
structure IdxR (ok : Nat → Prop) (w : World) (a : Value) (d : IdxD) : Prop where
  cols : RSl rInt ok w a d.cols
  id : I64 d.id
  nm : d.name.size ≤ 9223372036854775807
theorem IdxR.below {ok : Nat → Prop} {w w' : World} {a : Value} {d : IdxD} (h : IdxR ok w a d) (hb : Below w.heap.size w w') : IdxR ok w' a d := ⟨h.cols.below hb, h.id, h.nm⟩
/-- a row's entry -/
def entryV (t : TabD) (x : IdxD) (row : List Val) : List UInt8 × List UInt8 :=
  if mayAll t.cols row then
    (if x.uniq && !hasNull (pickV row x.cols) then (headB 120 x.id ++ (encSpec (pickV row x.cols)).1, nameB t (keyV t row))
     else (headB 120 x.id ++ (encSpec (pickV row x.cols)).1 ++ (encSpec (keyV t row)).1, []))
  else ([], [])
theorem entryV_no {t : TabD} {x : IdxD} {row : List Val} (h : mayAll t.cols row = false) : entryV t x row = ([], []) := by unfold entryV; rw [h]; rfl
theorem entryV_u {t : TabD} {x : IdxD} {row : List Val} (h : mayAll t.cols row = true) (h2 : x.uniq = true) (h3 : hasNull (pickV row x.cols) = false) : entryV t x row = (headB 120 x.id ++ (encSpec (pickV row x.cols)).1, nameB t (keyV t row)) := by
  unfold entryV; rw [h, h2, h3]; rfl
theorem entryV_n {t : TabD} {x : IdxD} {row : List Val} (h : mayAll t.cols row = true) (h2 : x.uniq = false ∨ hasNull (pickV row x.cols) = true) : entryV t x row = (headB 120 x.id ++ (encSpec (pickV row x.cols)).1 ++ (encSpec (keyV t row)).1, []) := by
  unfold entryV; rw [h]
  rcases h2 with h2 | h2 <;> rw [h2] <;> simp

/-- a result that lies in memory: three cells read -/
theorem set3_cells {w : World} {g : Nat} {t : TypeId} {x0 x1 x2 : Value} (h : Blk w g t #[x0, x1, x2]) : w.cell? ⟨g, 0, none⟩ = some x0 ∧ w.cell? ⟨g, 1, none⟩ = some x1 ∧ w.cell? ⟨g, 2, none⟩ = some x2 := ⟨h.cell 0, h.cell 1, h.cell 2⟩
theorem kp_set3 {ok : Nat → Prop} {w : World} {g : Nat} (hg : ¬ ok g) (x0 x1 x2 : Value) : Kp ok w (((w.setCell ⟨g, 0, none⟩ x0).setCell ⟨g, 1, none⟩ x1).setCell ⟨g, 2, none⟩ x2) :=
  (((Kp.refl _ _).setCell (fun _ h => hg h) _).setCell (fun _ h => hg h) _).setCell (fun _ h => hg h) _
theorem below_set3 {B : Nat} {a w : World} (h : Below B a w) {g : Nat} (hg : B ≤ g) (x0 x1 x2 : Value) : Below B a (((w.setCell ⟨g, 0, none⟩ x0).setCell ⟨g, 1, none⟩ x1).setCell ⟨g, 2, none⟩ x2) :=
  ((h.setCell hg _).setCell hg _).setCell hg _
theorem nameB_len (t : TabD) (key : List Val) : (nameB t key).length ≤ 698 := by
  unfold nameB
  split
  · have := encSpec_len key
    rw [List.length_append, headB_length]; omega
  · simp
theorem keyV_len (t : TabD) (row : List Val) : (keyV t row).length ≤ t.key.length := by
  unfold keyV
  split
  · exact pickV_length_le _ _
  · simp

/-- append(s, x...) of bytes onto a row of one's own: what else there is stays -/
theorem wp_app_bytesK {ops : Array Oper} {rest : List Oper} {o : Oper} {a : Act} {Q : Exit → Act → World → Prop} (hgd : o.guard = none) (s x : Operand)
    (ho : o.op = .call { callee := .builtin .append, args := #[s, x], argTypes := #[27, 27] })
    (base : Nat) (A0 : Option Addr) (n c0 : Nat) (l : List UInt8) (w : World) (hs : a.eval s = .slice A0 n c0) (hown : OwnB base w A0 n c0 l)
    (A : Option Addr) (m c : Nat) (l2 : List UInt8) (hx : a.eval x = .slice A m c) (hr : Rd w 1 A m (bs l2)) (hlen : n + m ≤ 140737488355328) (hbase : base ≤ w.heap.size)
    (h : ∀ A' c' w', OwnB base w' A' (n + m) c' (l ++ l2) → Below base w w' → Kp (fun b => some b ≠ (Value.slice A0 n c0).ownBlock) w w' → ((Value.slice A' (n + m) c').ownBlock = (Value.slice A0 n c0).ownBlock ∨ (Value.slice A' (n + m) c').ownBlock = some w.heap.size) → wpList Try.prog ops Q rest (a.put o.dst (.slice A' (n + m) c')) w') : wpList Try.prog ops Q (o :: rest) a w := by
  have hl : l.length = n := hown.len
  have hl2 : l2.length = m := by have := hr.1; simpa using this
  subst hl hl2
  obtain ⟨h1, h2⟩ := bytes_chunks (fun b => True ∧ some b ≠ (Value.slice A0 l.length c0).ownBlock) w l
  obtain ⟨h3, h4⟩ := bytes_chunks (fun b => True ∧ some b ≠ (Value.slice A0 l.length c0).ownBlock) w l2
  have ho' : OwnL rU8 (fun _ => True) base 5 w (.slice A0 l.length c0) l := ⟨_, by rw [h2]; exact hown, h1⟩
  refine wp_app (E := rU8) (tE := 5) (rowTy_mk Try.underlying27 (by kernel_rfl)) (by decide) hgd s x ho _ l w hs ho' A c l2 _ hx (by rw [h4]; exact hr) h3 (by show _ * 1 ≤ _; omega) hlen hbase fun v' w' g1 g2 g3 => ?_
  obtain ⟨A', c', rfl, _⟩ := g1.form
  obtain ⟨css, g4, g5⟩ := g1
  have g6 := h A' c' w' (by
    rw [chunks_bytes g5, List.length_append] at g4
    exact g4) (ho'.bel g2 hbase) g2 (by simpa [Value.ownBlock] using g3)
  rw [List.length_append]
  exact g6
theorem ownB_block {A : Option Addr} {n c b : Nat} (h : ¬ some b ≠ (Value.slice A n c).ownBlock) : ∃ g, A = some g ∧ g.block = b := by
  have h' : some b = (Value.slice A n c).ownBlock := Classical.byContradiction h
  cases A with
  | none => simp [Value.ownBlock] at h'
  | some g => exact ⟨g, rfl, by simpa [Value.ownBlock] using h'.symm⟩

set_option maxRecDepth 100000 in
set_option maxHeartbeats 6400000 in
theorem entry_any {ok ok2 ok3 : Nat → Prop} (t : TabD) (x : IdxD) (a b xa v : Value) (row : List Val) (w : World) (ht : TabR ok w a b t) (hx : IdxR ok3 w xa x) (hr : RV ok2 w v row) (hn : t.key.length ≤ 1000000) (hn2 : x.cols.length ≤ 1000000) :
    Calls Try.prog 54 #[.agg (tabCs t a b), .agg (idxCs x xa), v] w fun e w' => (∃ k y, e = .returned (.agg #[k, y, .int .i64 0]) ∧ RB (fun b => w.heap.size ≤ b) w' k (entryV t x row).1 ∧ RB (fun b => w.heap.size ≤ b) w' y (entryV t x row).2) ∧ Below w.heap.size w w' := by
  obtain ⟨A, c, rfl, _, _⟩ := ht.cols.form
  obtain ⟨A3, c3, rfl, _, _⟩ := ht.key.form
  obtain ⟨A2, c2, rfl, _, _⟩ := hr.form
  obtain ⟨A4, c4, rfl, _, _⟩ := hx.cols.form
  go_enter Try.func54, Try.ntmps54
  unfold tabCs idxCs
  go_upto_region 1 with fail
  refine name_world (fun w1 => Below w.heap.size w w1 ∧ w.heap.size + 3 ≤ w1.heap.size ∧ Blk w1 w.heap.size 56 (tabCs t (.slice A t.cols.length c) (.slice A3 t.key.length c3)) ∧ Blk w1 (w.heap.size + 1) 58 (idxCs x (.slice A4 x.cols.length c4)) ∧ Blk w1 (w.heap.size + 2) 98 #[.slice none 0 0, .slice none 0 0, .int .i64 0])
    ⟨(((Below.refl _ _).alloc (Nat.le_refl _) _).alloc (by simp) _).alloc (by simp; omega) _, by simp, ((Blk.new w _ _).alloc _).alloc _, (Blk.new_ (by simp)).alloc _, Blk.new_ (by simp)⟩ ?_
  rintro w1 ⟨hb1, hz1, kt, kx, kr⟩
  have a0 : w1.cell? ⟨w.heap.size, 0, none⟩ = some (.int .i64 t.id) := kt.cell 0
  have a1 : w1.cell? ⟨w.heap.size, 1, none⟩ = some (.string t.name) := kt.cell 1
  have a2 : w1.cell? ⟨w.heap.size, 2, none⟩ = some (.slice A t.cols.length c) := kt.cell 2
  have a3 : w1.cell? ⟨w.heap.size, 3, none⟩ = some (.slice A3 t.key.length c3) := kt.cell 3
  go_wp2_with fail
  refine (rowRight_any t _ _ _ row _ (ht.below hb1) (hr.below hb1)).mono ?_
  rintro e w2 ⟨rfl, hb2⟩
  have hB2 := hb1.trans (hb2.mono hb1.size)
  have kt2 := kt.below hb2 kt.lt
  have kx2 := kx.below hb2 kx.lt
  have kr2 := kr.below hb2 kr.lt
  clear a0 a1 a2 a3 kt kx kr
  cases hM : mayAll t.cols row
  · have HE := Lib.hid (entryV_no (x := x) hM)
    clear hM
    obtain ⟨z0, z1, z2⟩ := set3_cells kr2
    have fz := fun i => kr2.frozen i
    go_wp2
    obtain ⟨d0, d1, d2⟩ := set3_cells (kr2.set3 (.slice none 0 0) (.slice none 0 0) (.int .i64 0))
    refine bodyPost_ret (v := .agg #[.slice none 0 0, .slice none 0 0, .int .i64 0]) (by simp [results, Try.results54, go_sem, d0, d1, d2]) rfl ?_
    refine ⟨⟨_, _, rfl, ?_⟩, below_set3 hB2 (by omega) _ _ _⟩
    rw [HE.out]
    exact ⟨RSl.nil_ _ _ _, RSl.nil_ _ _ _⟩
  · have HM := Lib.hid hM
    clear hM
    have b3 : w2.cell? ⟨w.heap.size + 1, 3, none⟩ = some (.slice A4 x.cols.length c4) := kx2.cell 3
    go_wp2_with fail
    refine (pick_any _ _ row x.cols _ (hr.below hB2) (hx.cols.below hB2) hn2).mono ?_
    rintro e w3 ⟨⟨vl, rfl, hvl⟩, hb3⟩
    have hB3 := hB2.trans (hb3.mono hB2.size)
    have kt3 := kt2.below hb3 kt2.lt
    have kx3 := kx2.below hb3 kx2.lt
    have kr3 := kr2.below hb3 kr2.lt
    clear b3 kt2 kx2 kr2
    obtain ⟨Al, cl, rfl, _, _⟩ := hvl.form
    go_wp2_with fail
    refine (enc_rv _ (pickV row x.cols) _ hvl).mono ?_
    rintro e w4 ⟨⟨A5, n5, c5, rfl, o5⟩, hb4⟩
    have hB4 := hB3.trans (hb4.mono hB3.size)
    have kt4 := kt3.below hb4 kt3.lt
    have kx4 := kx3.below hb4 kx3.lt
    have kr4 := kr3.below hb4 kr3.lt
    have hvl4 := hvl.below hb4
    clear kt3 kx3 kr3 hvl
    have h5 : n5 ≤ 688 := by have := o5.len; have := encSpec_len (pickV row x.cols); omega
    have b0 : w4.cell? ⟨w.heap.size + 1, 0, none⟩ = some (.int .i64 x.id) := kx4.cell 0
    go_wp2_with fail
    refine (head_any 120 x.id _ hx.id).mono ?_
    rintro e w5 ⟨⟨A6, c6, rfl, o6⟩, hb5⟩
    have hB5 := hB4.trans (hb5.mono hB4.size)
    have hz5 : w.heap.size + 3 ≤ w5.heap.size := by have := hb2.size; have := hb3.size; have := hb4.size; have := hb5.size; omega
    have hz45 : w.heap.size + 3 ≤ w4.heap.size := by have := hb2.size; have := hb3.size; have := hb4.size; omega
    have kt5 := kt4.below hb5 kt4.lt
    have kx5 := kx4.below hb5 kx4.lt
    have kr5 := kr4.below hb5 kr4.lt
    have hvl5 := (hvl4.mono (ok' := fun b => w2.heap.size ≤ b ∧ b < w4.heap.size) (by decide) (fun b hb hlt => ⟨hb, hlt⟩)).below hb5
    clear b0 kt4 kx4 kr4 hvl4
    go_upto_region 6 with (at_builtin; refine wp_append_bytes rfl _ _ rfl w4.heap.size A6 10 c6 (headB 120 x.id) _ rfl o6 A5 n5 c5 (encSpec (pickV row x.cols)).1 rfl (o5.rd.below hb5) (by omega) hb5.size ?_; intro A7 c7 w6 o7 hb6)
    have hB6 : Below w.heap.size w w6 := hB5.trans (hb6.mono (by omega))
    have hz6 : w4.heap.size ≤ w6.heap.size := by have := hb5.size; have := hb6.size; omega
    refine name_world (fun w7 => Below w.heap.size w w7 ∧ w6.heap.size < w7.heap.size ∧ Blk w7 w.heap.size 56 (tabCs t (.slice A t.cols.length c) (.slice A3 t.key.length c3)) ∧ Blk w7 (w.heap.size + 1) 58 (idxCs x (.slice A4 x.cols.length c4)) ∧ Blk w7 (w.heap.size + 2) 98 #[.slice none 0 0, .slice none 0 0, .int .i64 0] ∧
        Blk w7 w6.heap.size 98 #[.slice A7 (10 + n5) c7, .slice none 0 0, .int .i64 0] ∧ OwnB w4.heap.size w7 A7 (10 + n5) c7 (headB 120 x.id ++ (encSpec (pickV row x.cols)).1) ∧ RV (fun b => w2.heap.size ≤ b ∧ b < w4.heap.size) w7 (.slice Al (pickV row x.cols).length cl) (pickV row x.cols))
      ⟨hB6.alloc hB6.size _, by simp, (kt5.below hb6 (by omega)).alloc _, (kx5.below hb6 (by omega)).alloc _, (kr5.below hb6 (by omega)).alloc _, Blk.new w6 _ _, o7.alloc _, (hvl5.kp (Kp.of_belowB hb6 fun b hb _ => hb.2)).kp (Kp.of_below ((Below.refl _ _).alloc (Nat.le_refl _) _))⟩ ?_
    rintro w7 ⟨hB7, hz7, kt7, kx7, kr7, kp7, o7', hvl7⟩
    have u4 : w7.cell? ⟨w.heap.size + 1, 4, none⟩ = some (.bool x.uniq) := kx7.cell 4
    cases hU : x.uniq
    · rw [hU] at u4
      have HN := Lib.hid (entryV_n (x := x) HM.out (.inl hU))
      clear hU
      have HZ : w4.heap.size ≤ w7.heap.size := by omega
      have HZ6 := kp7.lt
      have y0 : w7.cell? ⟨w.heap.size, 0, none⟩ = some (.int .i64 t.id) := kt7.cell 0
      have y1 : w7.cell? ⟨w.heap.size, 1, none⟩ = some (.string t.name) := kt7.cell 1
      have y2 : w7.cell? ⟨w.heap.size, 2, none⟩ = some (.slice A t.cols.length c) := kt7.cell 2
      have y3 : w7.cell? ⟨w.heap.size, 3, none⟩ = some (.slice A3 t.key.length c3) := kt7.cell 3
      go_wp2_with fail
      refine (key_any t _ _ _ row _ (ht.below hB7) (hr.below hB7) hn).mono ?_
      rintro e w9 ⟨⟨vk, rfl, hvk⟩, hb9⟩
      have hB9 := hB7.trans (hb9.mono hB7.size)
      have kr9 := kr7.below hb9 kr7.lt
      have kp9 := kp7.below hb9 kp7.lt
      have o9 := o7'.belowB hb9
      obtain ⟨Ak, ck, rfl, _, _⟩ := hvk.form
      clear y0 y1 y2 y3
      go_wp2_with fail
      refine (enc_rv _ (keyV t row) _ hvk).mono ?_
      rintro e w10 ⟨⟨A8, n8, c8, rfl, o8⟩, hb10⟩
      have hB10 := hB9.trans (hb10.mono hB9.size)
      have kr10 := kr9.below hb10 kr9.lt
      have kp10 := kp9.below hb10 kp9.lt
      have o10 := o9.belowB hb10
      have h8 : n8 ≤ 688 := by have := o8.len; have := encSpec_len (keyV t row); omega
      have p0 : w10.cell? ⟨w6.heap.size, 0, none⟩ = some (.slice A7 (10 + n5) c7) := kp10.cell 0
      have hz10 : w4.heap.size ≤ w10.heap.size := by have h1 := HZ; have h2 := hb9.size; have h3 := hb10.size; omega
      have ROW : Hid (∀ g, A7 = some g → g.block ≠ w6.heap.size) := fun g hg h => by
        subst hg
        have := (World.ownsRow.lt o7 _ rfl).2
        omega
      have hne : ∀ g, A7 = some g → w.heap.size + 3 ≤ g.block := fun g hg => by
        subst hg
        have := (World.ownsRow.lt o7 _ rfl).1
        omega
      have HNE := Lib.hid hne
      clear hne
      go_wp2_with (at_builtin; refine wp_app_bytesK rfl _ _ rfl w4.heap.size A7 (10 + n5) c7 _ _ rfl o10 A8 n8 c8 (encSpec (keyV t row)).1 rfl o8.rd (by omega) hz10 ?_; intro A9 c9 w11 o11 hb11 hk11 hat11; have kr11 := kr10.kp hk11 (fun h => by obtain ⟨ga, hga, hgb⟩ := ownB_block (fun hn => hn h); have := HNE.out ga hga; omega); have kp11 := kp10.kp hk11 (fun h => by obtain ⟨ga, hga, hgb⟩ := ownB_block (fun hn => hn h); exact ROW.out ga hga hgb); have q0 : w11.cell? ⟨w6.heap.size, 0, none⟩ = some (.slice A7 (10 + n5) c7) := kp11.cell 0; have q1 : w11.cell? ⟨w6.heap.size, 1, none⟩ = some (.slice none 0 0) := kp11.cell 1; have q2 : w11.cell? ⟨w6.heap.size, 2, none⟩ = some (.int .i64 0) := kp11.cell 2; have z0 : w11.cell? ⟨w.heap.size + 2, 0, none⟩ = some (.slice none 0 0) := kr11.cell 0; have z1 : w11.cell? ⟨w.heap.size + 2, 1, none⟩ = some (.slice none 0 0) := kr11.cell 1; have z2 : w11.cell? ⟨w.heap.size + 2, 2, none⟩ = some (.int .i64 0) := kr11.cell 2; have fz := fun i => kr11.frozen i; have fp := fun i => kp11.frozen i)
      have hB11 := hB10.trans (hb11.mono (by omega))
      have kx12 := (kr11.far (p := ⟨w6.heap.size, 0, none⟩) (by simp; omega) (.slice A9 (10 + n5 + n8) c9)).set3 (.slice A9 (10 + n5 + n8) c9) (.slice none 0 0) (.int .i64 0)
      obtain ⟨d0, d1, d2⟩ := set3_cells kx12
      have rb9 : RB (fun b => w.heap.size + 3 ≤ b ∧ b ≠ w6.heap.size) w11 (.slice A9 (10 + n5 + n8) c9) _ := RB.mk_ o11.rd o11.cap (by omega) (fun h0 ga ha => by
        subst ha
        have h1 := World.ownsRow.lt o11 _ rfl
        refine ⟨by omega, fun h => ?_⟩
        rcases hat11 with h2 | h2
        · obtain ⟨gb, hgb, hgc⟩ := ownB_block (b := ga.block) (A := A7) (n := 10 + n5) (c := c7) (fun hn => hn (by simpa [Value.ownBlock] using h2))
          exact ROW.out gb hgb (hgc.trans h)
        · have h3 : ga.block = w10.heap.size := by simpa [Value.ownBlock] using h2
          have h4 := hb10.size
          have h5 := hb9.size
          omega)
      have hkf : Kp (fun b => w.heap.size + 3 ≤ b ∧ b ≠ w6.heap.size) w11 ((((w11.setCell ⟨w6.heap.size, 0, none⟩ (.slice A9 (10 + n5 + n8) c9)).setCell ⟨w.heap.size + 2, 0, none⟩ (.slice A9 (10 + n5 + n8) c9)).setCell ⟨w.heap.size + 2, 1, none⟩ (.slice none 0 0)).setCell ⟨w.heap.size + 2, 2, none⟩ (.int .i64 0)) :=
        ((Kp.refl _ _).setCell (fun _ h => h.2 rfl) _).trans (kp_set3 (fun h => by have := h.1; omega) _ _ _)
      refine bodyPost_ret (v := .agg #[.slice A9 (10 + n5 + n8) c9, .slice none 0 0, .int .i64 0]) (by simp [results, Try.results54, go_sem, d0, d1, d2]) rfl ?_
      refine ⟨⟨_, _, rfl, ?_⟩, below_set3 (hB11.setCell (by simp; omega) _) (by omega) _ _ _⟩
      rw [HN.out]
      exact ⟨(rb9.kp hkf).mono (by decide) fun b hb _ => by omega, RSl.nil_ _ _ _⟩
    · rw [hU] at u4
      go_wp2_with fail
      refine (containsNull_any _ (pickV row x.cols) _ hvl7).mono ?_
      rintro e w8 ⟨rfl, hb8⟩
      have hB8 := hB7.trans (hb8.mono hB7.size)
      have kt8 := kt7.below hb8 kt7.lt
      have kr8 := kr7.below hb8 kr7.lt
      have kp8 := kp7.below hb8 kp7.lt
      have o8' := o7'.belowB hb8
      have HZ : w4.heap.size ≤ w8.heap.size := by have := hb8.size; omega
      clear u4
      cases hH : hasNull (pickV row x.cols)
      · have HN := Lib.hid (entryV_u (x := x) HM.out hU hH)
        clear hU hH
        have y0 : ∀ s : Later w8, s.val.cell? ⟨w.heap.size, 0, none⟩ = some (.int .i64 t.id) := kt8.later rfl
        have y1 : ∀ s : Later w8, s.val.cell? ⟨w.heap.size, 1, none⟩ = some (.string t.name) := kt8.later rfl
        have y2 : ∀ s : Later w8, s.val.cell? ⟨w.heap.size, 2, none⟩ = some (.slice A t.cols.length c) := kt8.later rfl
        have y3 : ∀ s : Later w8, s.val.cell? ⟨w.heap.size, 3, none⟩ = some (.slice A3 t.key.length c3) := kt8.later rfl
        go_wp2
        refine wp_later_many_tail 6 [(3, Sp.rsl rVal (fun b => w.heap.size ≤ b) (keyV t row)), (4, Sp.rb (fun b => w8.heap.size ≤ b) (nameB t (keyV t row)))] [3, 4] (by kernel_rfl) (by kernel_rfl) (by kernel_rfl) ?_
        intro vv hv
        obtain ⟨B3, d3, e3, _⟩ : ∃ A c, vv 3 = .slice A (keyV t row).length c ∧ (keyV t row).length ≤ c := hv 3 (by decide)
        obtain ⟨B4, d4, e4, _⟩ : ∃ A c, vv 4 = .slice A (nameB t (keyV t row)).length c ∧ (nameB t (keyV t row)).length ≤ c := hv 4 (by decide)
        simp only [List.take_succ_cons, List.take_zero, List.drop_succ_cons, List.drop_zero]
        refine many_pre 3 (by decide) ?_
        simp only [List.take_succ_cons, List.take_zero, List.drop_succ_cons, List.drop_zero]
        repeat (go_big_quiet_step (fail))
        refine wpQuiet_nil (many_wild (by decide) rfl ?_ ?_)
        · intro s _
          unfold Gives
          go_simp
          have hbs := hB8.trans (s.below.mono hB8.size)
          refine (key_any t _ _ _ row _ (ht.below hbs) (hr.below hbs) hn).mono ?_
          rintro e w9 ⟨⟨vk, rfl, hvk⟩, hb9⟩
          exact ⟨vk, rfl, hvk.mono (by decide) (fun b hb _ => Nat.le_trans hbs.size hb), hb9⟩
        intro a' ha'
        subst ha'
        simp only [Act.put, List.setIfInBounds_toArray, List.set_cons_succ, List.set_cons_zero]
        rw [e3]
        refine many_wild (by decide) rfl ?_ ?_
        · intro s hf
          have f3 : RV _ s.val (vv 3) (keyV t row) := hf 3 (by decide) (by kernel_rfl)
          rw [e3] at f3
          unfold Gives
          go_simp
          have hbs := hB8.trans (s.below.mono hB8.size)
          refine (name_any t _ _ _ (keyV t row) _ (ht.below hbs) f3).mono ?_
          rintro e w9 ⟨⟨vk, rfl, hvk⟩, hb9⟩
          exact ⟨vk, rfl, hvk.mono (by decide) (fun b hb _ => Nat.le_trans s.below.size hb), hb9⟩
        intro a' ha'
        subst ha'
        simp only [Act.put, List.setIfInBounds_toArray, List.set_cons_succ, List.set_cons_zero]
        rw [e4]
        refine many_pre 1 (by decide) ?_
        simp only [List.take_succ_cons, List.take_zero, List.drop_succ_cons, List.drop_zero]
        repeat (go_big_quiet_step (fail))
        refine wpQuiet_nil (many_end ?_)
        intro s hf
        have f4 : RB _ s.val (vv 4) (nameB t (keyV t row)) := hf 4 (by decide)
        rw [e4] at f4
        clear y0 y1 y2 y3
        have hbs := hB8.trans (s.below.mono hB8.size)
        have krs := kr8.below s.below kr8.lt
        have kps := kp8.below s.below kp8.lt
        have os := o8'.belowB s.below
        have HZ6 := kp8.lt
        have q0 : s.val.cell? ⟨w6.heap.size, 0, none⟩ = some (.slice A7 (10 + n5) c7) := kps.cell 0
        have q1 : s.val.cell? ⟨w6.heap.size, 1, none⟩ = some (.slice none 0 0) := kps.cell 1
        have q2 : s.val.cell? ⟨w6.heap.size, 2, none⟩ = some (.int .i64 0) := kps.cell 2
        have z0 : s.val.cell? ⟨w.heap.size + 2, 0, none⟩ = some (.slice none 0 0) := krs.cell 0
        have z1 : s.val.cell? ⟨w.heap.size + 2, 1, none⟩ = some (.slice none 0 0) := krs.cell 1
        have z2 : s.val.cell? ⟨w.heap.size + 2, 2, none⟩ = some (.int .i64 0) := krs.cell 2
        have fz := fun i => krs.frozen i
        have fp := fun i => kps.frozen i
        have n1 : w6.heap.size ≠ w.heap.size + 2 := by omega
        have ROW : Hid (∀ g, A7 = some g → g.block ≠ w6.heap.size ∧ w.heap.size + 3 ≤ g.block) := fun g hg => by
          subst hg
          have := (World.ownsRow.lt o7 _ rfl)
          exact ⟨by omega, by omega⟩
        go_wp2
        have kx12 := (krs.far (p := ⟨w6.heap.size, 1, none⟩) (by simp; omega) (.slice B4 (nameB t (keyV t row)).length d4)).set3 (.slice A7 (10 + n5) c7) (.slice B4 (nameB t (keyV t row)).length d4) (.int .i64 0)
        obtain ⟨d0, d1, d2⟩ := set3_cells kx12
        have rb9 : RB (fun b => w.heap.size + 3 ≤ b ∧ b ≠ w6.heap.size) s.val (.slice A7 (10 + n5) c7) _ := RB.mk_ os.rd os.cap (by omega) (fun h0 ga ha => ⟨(ROW.out ga ha).2, (ROW.out ga ha).1⟩)
        have hkf : Kp (fun b => w.heap.size + 3 ≤ b ∧ b ≠ w6.heap.size) s.val ((((s.val.setCell ⟨w6.heap.size, 1, none⟩ (.slice B4 (nameB t (keyV t row)).length d4)).setCell ⟨w.heap.size + 2, 0, none⟩ (.slice A7 (10 + n5) c7)).setCell ⟨w.heap.size + 2, 1, none⟩ (.slice B4 (nameB t (keyV t row)).length d4)).setCell ⟨w.heap.size + 2, 2, none⟩ (.int .i64 0)) :=
          ((Kp.refl _ _).setCell (fun _ h => h.2 rfl) _).trans (kp_set3 (fun h => by have := h.1; omega) _ _ _)
        refine bodyPost_ret (v := .agg #[.slice A7 (10 + n5) c7, .slice B4 (nameB t (keyV t row)).length d4, .int .i64 0]) (by simp [results, Try.results54, go_sem, d0, d1, d2]) rfl ?_
        refine ⟨⟨_, _, rfl, ?_⟩, below_set3 (hbs.setCell (by simp; omega) _) (by omega) _ _ _⟩
        rw [HN.out]
        exact ⟨(rb9.kp hkf).mono (by decide) fun b hb _ => by omega, ((f4.mono (ok' := fun b => w.heap.size + 3 ≤ b ∧ b ≠ w6.heap.size) (by decide) (fun b hb _ => ⟨by omega, by omega⟩)).kp hkf).mono (by decide) fun b hb _ => by omega⟩
      · have HN := Lib.hid (entryV_n (x := x) HM.out (.inr hH))
        clear hU hH
        have HZ6 := kp8.lt
        have y0 : w8.cell? ⟨w.heap.size, 0, none⟩ = some (.int .i64 t.id) := kt8.cell 0
        have y1 : w8.cell? ⟨w.heap.size, 1, none⟩ = some (.string t.name) := kt8.cell 1
        have y2 : w8.cell? ⟨w.heap.size, 2, none⟩ = some (.slice A t.cols.length c) := kt8.cell 2
        have y3 : w8.cell? ⟨w.heap.size, 3, none⟩ = some (.slice A3 t.key.length c3) := kt8.cell 3
        go_wp2_with fail
        refine (key_any t _ _ _ row _ (ht.below hB8) (hr.below hB8) hn).mono ?_
        rintro e w9 ⟨⟨vk, rfl, hvk⟩, hb9⟩
        have hB9 := hB8.trans (hb9.mono hB8.size)
        have kr9 := kr8.below hb9 kr8.lt
        have kp9 := kp8.below hb9 kp8.lt
        have o9 := o8'.belowB hb9
        obtain ⟨Ak, ck, rfl, _, _⟩ := hvk.form
        clear y0 y1 y2 y3
        go_wp2_with fail
        refine (enc_rv _ (keyV t row) _ hvk).mono ?_
        rintro e w10 ⟨⟨A8, n8, c8, rfl, o8⟩, hb10⟩
        have hB10 := hB9.trans (hb10.mono hB9.size)
        have kr10 := kr9.below hb10 kr9.lt
        have kp10 := kp9.below hb10 kp9.lt
        have o10 := o9.belowB hb10
        have h8 : n8 ≤ 688 := by have := o8.len; have := encSpec_len (keyV t row); omega
        have p0 : w10.cell? ⟨w6.heap.size, 0, none⟩ = some (.slice A7 (10 + n5) c7) := kp10.cell 0
        have hz10 : w4.heap.size ≤ w10.heap.size := by have h1 := HZ; have h2 := hb9.size; have h3 := hb10.size; omega
        have ROW : Hid (∀ g, A7 = some g → g.block ≠ w6.heap.size) := fun g hg h => by
          subst hg
          have := (World.ownsRow.lt o7 _ rfl).2
          omega
        have hne : ∀ g, A7 = some g → w.heap.size + 3 ≤ g.block := fun g hg => by
          subst hg
          have := (World.ownsRow.lt o7 _ rfl).1
          omega
        have HNE := Lib.hid hne
        clear hne
        go_wp2_with (at_builtin; refine wp_app_bytesK rfl _ _ rfl w4.heap.size A7 (10 + n5) c7 _ _ rfl o10 A8 n8 c8 (encSpec (keyV t row)).1 rfl o8.rd (by omega) hz10 ?_; intro A9 c9 w11 o11 hb11 hk11 hat11; have kr11 := kr10.kp hk11 (fun h => by obtain ⟨ga, hga, hgb⟩ := ownB_block (fun hn => hn h); have := HNE.out ga hga; omega); have kp11 := kp10.kp hk11 (fun h => by obtain ⟨ga, hga, hgb⟩ := ownB_block (fun hn => hn h); exact ROW.out ga hga hgb); have q0 : w11.cell? ⟨w6.heap.size, 0, none⟩ = some (.slice A7 (10 + n5) c7) := kp11.cell 0; have q1 : w11.cell? ⟨w6.heap.size, 1, none⟩ = some (.slice none 0 0) := kp11.cell 1; have q2 : w11.cell? ⟨w6.heap.size, 2, none⟩ = some (.int .i64 0) := kp11.cell 2; have z0 : w11.cell? ⟨w.heap.size + 2, 0, none⟩ = some (.slice none 0 0) := kr11.cell 0; have z1 : w11.cell? ⟨w.heap.size + 2, 1, none⟩ = some (.slice none 0 0) := kr11.cell 1; have z2 : w11.cell? ⟨w.heap.size + 2, 2, none⟩ = some (.int .i64 0) := kr11.cell 2; have fz := fun i => kr11.frozen i; have fp := fun i => kp11.frozen i)
        have hB11 := hB10.trans (hb11.mono (by omega))
        have kx12 := (kr11.far (p := ⟨w6.heap.size, 0, none⟩) (by simp; omega) (.slice A9 (10 + n5 + n8) c9)).set3 (.slice A9 (10 + n5 + n8) c9) (.slice none 0 0) (.int .i64 0)
        obtain ⟨d0, d1, d2⟩ := set3_cells kx12
        have rb9 : RB (fun b => w.heap.size + 3 ≤ b ∧ b ≠ w6.heap.size) w11 (.slice A9 (10 + n5 + n8) c9) _ := RB.mk_ o11.rd o11.cap (by omega) (fun h0 ga ha => by
          subst ha
          have h1 := World.ownsRow.lt o11 _ rfl
          refine ⟨by omega, fun h => ?_⟩
          rcases hat11 with h2 | h2
          · obtain ⟨gb, hgb, hgc⟩ := ownB_block (b := ga.block) (A := A7) (n := 10 + n5) (c := c7) (fun hn => hn (by simpa [Value.ownBlock] using h2))
            exact ROW.out gb hgb (hgc.trans h)
          · have h3 : ga.block = w10.heap.size := by simpa [Value.ownBlock] using h2
            have h4 := hb10.size
            have h5 := hb9.size
            omega)
        have hkf : Kp (fun b => w.heap.size + 3 ≤ b ∧ b ≠ w6.heap.size) w11 ((((w11.setCell ⟨w6.heap.size, 0, none⟩ (.slice A9 (10 + n5 + n8) c9)).setCell ⟨w.heap.size + 2, 0, none⟩ (.slice A9 (10 + n5 + n8) c9)).setCell ⟨w.heap.size + 2, 1, none⟩ (.slice none 0 0)).setCell ⟨w.heap.size + 2, 2, none⟩ (.int .i64 0)) :=
          ((Kp.refl _ _).setCell (fun _ h => h.2 rfl) _).trans (kp_set3 (fun h => by have := h.1; omega) _ _ _)
        refine bodyPost_ret (v := .agg #[.slice A9 (10 + n5 + n8) c9, .slice none 0 0, .int .i64 0]) (by simp [results, Try.results54, go_sem, d0, d1, d2]) rfl ?_
        refine ⟨⟨_, _, rfl, ?_⟩, below_set3 (hB11.setCell (by simp; omega) _) (by omega) _ _ _⟩
        rw [HN.out]
        exact ⟨(rb9.kp hkf).mono (by decide) fun b hb _ => by omega, RSl.nil_ _ _ _⟩
end Go.Proofs.Ytikkknaofiafhaa
