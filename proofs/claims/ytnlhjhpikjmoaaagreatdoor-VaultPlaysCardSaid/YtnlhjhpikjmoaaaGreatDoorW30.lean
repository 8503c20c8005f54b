/- (*Log).Append: the plain function; its early ways out; a disk's blocks hold cells. -/
import Derived.Test.YtnlhjhpikjmoaaaGreatDoorW29
namespace Go.Proofs.YtnlhjhpikjmoaaaGreatDoor
open Go.RowKit
def isC (w : World) (b : Nat) : Prop := ∃ o : Obj, w.heap[b]? = some o ∧ o.isCells = true
theorem isC_blk {w : World} {g : Nat} {T : TypeId} {C : Array Value} (h : Blk w g T C) : isC w g := ⟨_, h, rfl⟩
theorem isC.kp {ok : Nat → Prop} {w w' : World} {b : Nat} (h : isC w b) (hk : Kp ok w w') (hb : ok b) : isC w' b := by
  obtain ⟨o, ho, hc⟩ := h
  exact ⟨o, (hk.block b (Array.getElem?_eq_some_iff.1 ho).1 hb).trans ho, hc⟩
theorem isC.lt {w : World} {b : Nat} (h : isC w b) : b < w.heap.size := by
  obtain ⟨o, ho, hc⟩ := h
  exact (Array.getElem?_eq_some_iff.1 ho).1
theorem OwnL.isC {α : Type} {E : Rel α} {okd : Nat → Prop} {base : Nat} {T : TypeId} {w : World} {v : Value} {l : List α} (h : OwnL E okd base T w v l) (b : Nat) (hb : v.ownBlock = some b) : isC w b := by
  obtain ⟨css, ho, _⟩ := h
  rcases ho.2 with ⟨rfl, _⟩ | ⟨g, cap, cur, rfl, hg, hh, r⟩
  · cases hb
  · have : g = b := Option.some.inj hb
    subst this
    exact ⟨_, hh, rfl⟩
theorem DiskR.tight {ft : Nat → Prop} {w : World} {g : Nat} {d : DskD} (h : DiskR ft w g d) : DiskR (fun b => ft b ∧ isC w b) w g d := by
  obtain ⟨kb, vw, h1, h2, h3, h4, h5, h6, h7, h8, h9, h10⟩ := h
  exact ⟨kb, vw, h1, h2, h3, h4, h5, h6, ⟨h7, isC_blk h1⟩, ⟨h8, isC_blk h2⟩, fun b hb => ⟨h9 b hb, h3.isC b hb⟩, h10⟩
def partB (b : List UInt8) (k : Nat) : List UInt8 := ((recB b).drop (48 * k)).take 48
def stepA (b : List UInt8) (turn ring : Nat) (s : DskD × Nat × Int) (k : Nat) : DskD × Nat × Int :=
  if s.2.2 ≠ 0 then s else ((s.1.write ((2 + s.2.1 : Nat) : Int) (secB turn (partB b k))).1, (s.2.1 + 1) % ring, (s.1.write ((2 + s.2.1 : Nat) : Int) (secB turn (partB b k))).2)
def stA (b : List UInt8) (turn ring : Nat) (d : DskD) (at_ : Nat) (pre : List Nat) : DskD × Nat × Int := pre.foldl (stepA b turn ring) (d, at_, 0)
theorem stA_snoc (b : List UInt8) (turn ring : Nat) (d : DskD) (at_ : Nat) (pre : List Nat) (k : Nat) : stA b turn ring d at_ (pre ++ [k]) = stepA b turn ring (stA b turn ring d at_ pre) k := by
  unfold stA
  rw [List.foldl_append]
  rfl
theorem stepA_stop {b : List UInt8} {turn ring : Nat} : ∀ (l : List Nat) (s : DskD × Nat × Int), s.2.2 ≠ 0 → l.foldl (stepA b turn ring) s = s
  | [], _, _ => rfl
  | k :: l, s, h => by
    rw [List.foldl_cons, show stepA b turn ring s k = s by unfold stepA; rw [if_pos h]]
    exact stepA_stop l s h
theorem stA_stop {b : List UInt8} {turn ring : Nat} {d : DskD} {at_ : Nat} {m k : Nat} (hk : k ≤ m) (h : (stA b turn ring d at_ (List.range k)).2.2 ≠ 0) : stA b turn ring d at_ (List.range m) = stA b turn ring d at_ (List.range k) := by
  obtain ⟨j, rfl⟩ : ∃ j, m = k + j := ⟨m - k, by omega⟩
  rw [List.range_add]
  unfold stA at *
  rw [List.foldl_append]
  exact stepA_stop _ _ h
def appendL (l : LogD) (d : DskD) (b : List UInt8) : LogD × DskD × Int :=
  if 32768 < b.length then (l, d, 10) else
  if rdyE l d ≠ 0 then (rdy l d, d, 3) else
  if d.kept.length < l.used + secN b.length + 2 then (l, d, 4) else
  let s := stA b l.turn (d.kept.length - 2) d l.end_ (List.range (secN b.length))
  if s.2.2 ≠ 0 then ({ l with dead := l.dead || s.2.2 == 3 }, s.1, s.2.2) else ({ took l b (d.kept.length - 2) with waits := true }, s.1, 0)
theorem write_kept (d : DskD) (p : Int) (b : List UInt8) : (d.write p b).1.kept = d.kept := by
  unfold DskD.write
  split
  · rfl
  split
  · rfl
  · unfold DskD.hit
    split <;> rfl
theorem write_wait (d : DskD) (p : Int) (b : List UInt8) : (d.write p b).1.wait.length ≤ d.wait.length + 1 := by
  unfold DskD.write
  split
  · exact Nat.le_succ _
  split
  · exact Nat.le_succ _
  · unfold DskD.hit
    split <;> simp
theorem stepA_facts {b : List UInt8} {turn ring : Nat} (hr : 0 < ring) (s : DskD × Nat × Int) (k : Nat) : (stepA b turn ring s k).1.kept = s.1.kept ∧ (stepA b turn ring s k).1.wait.length ≤ s.1.wait.length + 1 ∧ ((stepA b turn ring s k).2.1 = s.2.1 ∨ (stepA b turn ring s k).2.1 < ring) := by
  unfold stepA
  split
  · exact ⟨rfl, Nat.le_succ _, .inl rfl⟩
  · exact ⟨write_kept _ _ _, write_wait _ _ _, .inr (Nat.mod_lt _ hr)⟩
theorem fold_facts {b : List UInt8} {turn ring : Nat} (hr : 0 < ring) : ∀ (pre : List Nat) (s : DskD × Nat × Int), (pre.foldl (stepA b turn ring) s).1.kept = s.1.kept ∧ (pre.foldl (stepA b turn ring) s).1.wait.length ≤ s.1.wait.length + pre.length ∧ ((pre.foldl (stepA b turn ring) s).2.1 = s.2.1 ∨ (pre.foldl (stepA b turn ring) s).2.1 < ring)
  | [], s => ⟨rfl, Nat.le_refl _, .inl rfl⟩
  | k :: pre, s => by
    obtain ⟨h1, h2, h3⟩ := stepA_facts (b := b) (turn := turn) hr s k
    obtain ⟨g1, g2, g3⟩ := fold_facts (b := b) (turn := turn) hr pre (stepA b turn ring s k)
    rw [List.foldl_cons]
    refine ⟨g1.trans h1, by rw [List.length_cons]; omega, ?_⟩
    rcases g3 with g3 | g3
    · rw [g3]; exact h3
    · exact .inr g3
theorem stA_facts (b : List UInt8) (turn : Nat) {ring : Nat} (hr : 0 < ring) (d : DskD) (at_ : Nat) (pre : List Nat) : (stA b turn ring d at_ pre).1.kept = d.kept ∧ (stA b turn ring d at_ pre).1.wait.length ≤ d.wait.length + pre.length ∧ ((stA b turn ring d at_ pre).2.1 = at_ ∨ (stA b turn ring d at_ pre).2.1 < ring) := fold_facts hr pre _
theorem recB_len (b : List UInt8) : (recB b).length = b.length + 3 := by unfold recB; simp
theorem partB_len (b : List UInt8) (k : Nat) : (partB b k).length = ckN (b.length + 3) k := by
  unfold partB ckN
  rw [List.length_take, List.length_drop, recB_len]
theorem secB_put (t : Nat) (p : List UInt8) (hp : p.length ≤ 48) : putN (splice (putN (List.replicate 64 0) 0 t) 8 p) 56 t = secB t p := by
  have h8 := be8_length t
  have e1 : putN (List.replicate 64 0) 0 t = be8 t ++ List.replicate 56 0 := by
    unfold putN
    simp
  have e2 : splice (be8 t ++ List.replicate 56 (0 : UInt8)) 8 p = be8 t ++ p ++ List.replicate (56 - p.length) 0 := by
    unfold splice
    rw [List.take_append_of_le_length (by omega), List.take_of_length_le (by omega), List.drop_append, List.drop_of_length_le (by omega), List.nil_append, h8, List.drop_replicate, List.append_assoc]
    congr 3
    omega
  rw [e1, e2]
  unfold putN secB
  rw [List.take_append, List.take_of_length_le (show (be8 t ++ p).length ≤ 56 by rw [List.length_append]; omega), List.take_replicate, List.drop_of_length_le (by simp; omega), List.append_nil]
  simp only [List.length_append, h8]
  congr 2
  rw [show min (56 - (8 + p.length)) (56 - p.length) = 48 - p.length by omega]
theorem splice_len {α : Type} (L : List α) (off : Nat) (cs : List α) (h : off + cs.length ≤ L.length) : (splice L off cs).length = L.length := length_splice L off cs h
theorem bs_splice (L : List UInt8) (off : Nat) (cs : List UInt8) : splice (bs L) off (bs cs) = bs (splice L off cs) := by
  unfold splice bs
  simp
set_option maxRecDepth 100000 in
set_option maxHeartbeats 3200000 in
theorem append_early {f : Nat → Prop} {gl gd : Nat} {l : LogD} {d : DskD} {w : World} (A : Option Addr) (c : Nat) (b : List UInt8) (h : Both f w gl gd l d) (hfl : ∀ x, f x → x < w.heap.size) (hlen : b.length ≤ 1000000) (he : 32768 < b.length ∨ rdyE l d ≠ 0 ∨ d.kept.length < l.used + secN b.length + 2) :
    Calls Tryz.prog 73 #[.pointer (some ⟨gl, 0, none⟩), .slice A b.length c] w fun e w' => e = .returned (.int .i64 (appendL l d b).2.2) ∧ Both (fun x => f x ∨ w.heap.size ≤ x) w' gl gd (appendL l d b).1 (appendL l d b).2.1 ∧ Kp (fun x => ¬ f x) w w' := by
  obtain ⟨R, hR⟩ : ∃ R, R = appendL l d b := ⟨_, rfl⟩
  rw [← hR]
  by_cases h1 : 32768 < b.length
  · have hRR : R = (l, d, 10) := by rw [hR, appendL, if_pos h1]
    have HRR := Lib.hid hRR
    have HB := Lib.hid h
    have z1 : decide (32768 < (b.length : Int)) = true := decide_eq_true (by omega)
    have z2 : decide (32768 < b.length) = true := decide_eq_true h1
    clear hRR hR he h1 h
    go_enter Tryz.func73, Tryz.ntmps73
    go_wp2
    have hB2 : Below w.heap.size w ((w.alloc (.cells #[.pointer (some ⟨gl, 0, none⟩)] 69)).alloc (.cells #[.int .i64 10] 40)) := ((Below.refl _ _).alloc (Nat.le_refl _) _).alloc (by simp) _
    have hk : Blk ((w.alloc (.cells #[.pointer (some ⟨gl, 0, none⟩)] 69)).alloc (.cells #[.int .i64 10] 40)) (w.heap.size + 1) 40 #[.int .i64 10] := Blk.new_ (by simp)
    have hl := errno_load _ _ _ _ (hk.cell 0)
    refine bodyPost_ret (v := .int .i64 10) ?_ rfl ⟨by rw [HRR.out], by rw [HRR.out]; exact (HB.out.below hB2).mono fun b hb _ => .inl hb, .of_below hB2⟩
    simp [results, Tryz.results73, Act.put, Sem.run_bind, Sem.run_pure, asAddr_ok, hl]
  have h1' : b.length ≤ 32768 := by omega
  have z1 : decide (32768 < (b.length : Int)) = false := decide_eq_false (by omega)
  have z2 : decide (32768 < b.length) = false := decide_eq_false h1
  have hfg := h.glf
  obtain ⟨_, _, _, _, hgl⟩ := h.cells
  by_cases h2 : rdyE l d ≠ 0
  · have hr3 : rdyE l d = 3 := (rdyE_or l d).elim id fun e => absurd e.1 h2
    have hRR : R = (rdy l d, d, 3) := by rw [hR, appendL, if_neg h1, if_pos h2]
    have HRR := Lib.hid hRR
    have HRD := Lib.hid (fun (w : World) (h : Both f w gl gd l d) => ready_b h)
    rw [hr3] at HRD
    have HB := Lib.hid h
    clear hRR hR he h1 h2 h hr3
    go_enter Tryz.func73, Tryz.ntmps73
    go_upto_region 5 with fail
    refine name_world (fun w1 => Below w.heap.size w w1 ∧ w.heap.size + 2 ≤ w1.heap.size ∧ Blk w1 w.heap.size 69 #[.pointer (some ⟨gl, 0, none⟩)] ∧ Blk w1 (w.heap.size + 1) 40 #[.int .i64 0]) ⟨((Below.refl _ _).alloc (Nat.le_refl _) _).alloc (by simp) _, by simp, (Blk.new w _ _).alloc _, Blk.new_ (by simp)⟩ ?_
    rintro w1 ⟨hB1, hz1, kl, kr⟩
    obtain ⟨bl, hbl⟩ : ∃ bl, bl = w.heap.size := ⟨_, rfl⟩
    obtain ⟨br, hbr⟩ : ∃ br, br = w.heap.size + 1 := ⟨_, rfl⟩
    have hn1 : bl ≠ gl := by omega
    have hn2 : br ≠ gl := by omega
    rw [← hbr, ← hbl]
    rw [← hbl] at kl
    rw [← hbr] at kr
    have HBL := Lib.hid hbl
    have HBR := Lib.hid hbr
    clear hbl hbr
    have cl : w1.cell? ⟨bl, 0, none⟩ = some (.pointer (some ⟨gl, 0, none⟩)) := kl.cell 0
    go_wp2_with fail
    refine (HRD.out _ (HB.out.below hB1)).mono ?_
    rintro e w2 ⟨rfl, hB2, hK2⟩
    have kr2 := kr.kp hK2 hn2
    have fr := fun i => kr2.frozen i
    have cr : w2.cell? ⟨br, 0, none⟩ = some (.int .i64 0) := kr2.cell 0
    have hfr : ∀ x, f x → x ≠ br := fun x hx e => by have := hfl x hx; have := HBR.out; omega
    have hk3 : Kp (fun x => x ≠ br) w2 (w2.setCell ⟨br, 0, none⟩ (.int .i64 3)) := (Kp.refl _ _).setCell (fun _ h => h rfl) _
    have hBf : Both (fun x => f x ∨ w.heap.size ≤ x) (w2.setCell ⟨br, 0, none⟩ (.int .i64 3)) gl gd (rdy l d) d := (hB2.kp hk3 hfr).mono fun b hb _ => .inl hb
    have hKf : Kp (fun x => ¬ f x) w (w2.setCell ⟨br, 0, none⟩ (.int .i64 3)) := ((Kp.of_below hB1).thenW hK2 fun b _ hn e => hn (e ▸ hfg)).thenW hk3 fun b hb _ e => by have := HBR.out; omega
    have hkz := kr2.set_ 0 (.int .i64 3)
    have HBf := Lib.hid hBf
    have HKf := Lib.hid hKf
    have hcz : (w2.setCell ⟨br, 0, none⟩ (.int .i64 3)).cell? ⟨br, 0, none⟩ = some (.int .i64 3) := hkz.cell 0
    have hl := errno_load _ _ _ _ hcz
    have HLD := Lib.hid hl
    clear cl hBf hKf hB2 hkz hcz hl hk3
    go_wp2
    refine bodyPost_ret (v := .int .i64 3) ?_ rfl ⟨by rw [HRR.out], by rw [HRR.out]; exact HBf.out, HKf.out⟩
    have hl := HLD.out
    simp [results, Tryz.results73, Act.put, Sem.run_bind, Sem.run_pure, asAddr_ok, hl]
  have hr0 : rdyE l d = 0 ∧ rdy l d = l := (rdyE_or l d).resolve_left fun e => h2 (by rw [e]; decide)
  have hful : d.kept.length < l.used + secN b.length + 2 := he.elim (fun e => absurd e h1) fun e => e.elim (fun e => absurd e h2) id
  have hRR : R = (l, d, 4) := by rw [hR, appendL, if_neg h1, if_neg h2, if_pos hful]
  have HRR := Lib.hid hRR
  have HRD := Lib.hid (fun (w : World) (h : Both f w gl gd l d) => ready_b h)
  rw [hr0.1, hr0.2] at HRD
  have HB := Lib.hid h
  have huse := h.ok.1.used
  have HSE := Lib.hid (fun (w : World) => sectors_any b.length (by omega) w)
  obtain ⟨S, hS⟩ : ∃ S, S = secN b.length := ⟨_, rfl⟩
  rw [← hS] at HSE hful
  have z5 : decide ((d.kept.length : Int) - 2 < (l.used : Int) + (S : Int)) = true := decide_eq_true (by omega)
  have hS2 : S ≤ 65536 := by rw [hS]; unfold secN; omega
  have HRG := Lib.hid (fun (w : World) (h : Both f w gl gd l d) => ring_b h)
  have hklen := h.ok.2.2
  clear hRR hR he h1 h2 h hr0 hS
  go_enter Tryz.func73, Tryz.ntmps73
  go_upto_region 5 with fail
  refine name_world (fun w1 => Below w.heap.size w w1 ∧ w.heap.size + 2 ≤ w1.heap.size ∧ Blk w1 w.heap.size 69 #[.pointer (some ⟨gl, 0, none⟩)] ∧ Blk w1 (w.heap.size + 1) 40 #[.int .i64 0]) ⟨((Below.refl _ _).alloc (Nat.le_refl _) _).alloc (by simp) _, by simp, (Blk.new w _ _).alloc _, Blk.new_ (by simp)⟩ ?_
  rintro w1 ⟨hB1, hz1, kl, kr⟩
  obtain ⟨bl, hbl⟩ : ∃ bl, bl = w.heap.size := ⟨_, rfl⟩
  obtain ⟨br, hbr⟩ : ∃ br, br = w.heap.size + 1 := ⟨_, rfl⟩
  have hn1 : bl ≠ gl := by omega
  have hn2 : br ≠ gl := by omega
  rw [← hbr, ← hbl]
  rw [← hbl] at kl
  rw [← hbr] at kr
  have HBL := Lib.hid hbl
  have HBR := Lib.hid hbr
  clear hbl hbr
  have cl : w1.cell? ⟨bl, 0, none⟩ = some (.pointer (some ⟨gl, 0, none⟩)) := kl.cell 0
  go_wp2_with fail
  refine (HRD.out _ (HB.out.below hB1)).mono ?_
  rintro e w2 ⟨rfl, hB2, hK2⟩
  have kr2 := kr.kp hK2 hn2
  have kl2 := kl.kp hK2 hn1
  have q0 : ∀ s : Later w2, s.val.cell? ⟨bl, 0, none⟩ = some (.pointer (some ⟨gl, 0, none⟩)) := Later.cell (kl2.cell 0)
  obtain ⟨vr, vp, hbk, _⟩ := hB2.cells
  have q7 : ∀ s : Later w2, s.val.cell? ⟨gl, 7, none⟩ = some (.int .i64 (l.used : Int)) := Later.cell (hbk.cell 7)
  clear cl
  go_upto_region 8 with fail
  refine wp_seqL [6, 9] (by as_aux_lemma => kernel_rfl) (by as_aux_lemma => kernel_rfl) fun w3 hb3 => ?_
  refine seqL_pre 6 (by kernel_rfl) ?_
  simp only [List.take_succ_cons, List.take_zero, List.drop_succ_cons, List.drop_zero]
  repeat (go_big_quiet_step (fail))
  refine wpQuiet_nil ?_
  refine seqL_wild hb3 rfl rfl fun K hK => ?_
  unfold Gives
  go_simp
  refine (HSE.out _).mono ?_
  rintro e w4 ⟨rfl, rfl⟩
  refine ⟨_, rfl, hK _ _ ((Below.refl _ _)) fun hb4 => ?_⟩
  clear hK
  clear K
  simp only [Act.put, List.setIfInBounds_toArray, List.set_cons_succ, List.set_cons_zero]
  refine seqL_pre 2 (by kernel_rfl) ?_
  simp only [List.take_succ_cons, List.take_zero, List.drop_succ_cons, List.drop_zero]
  repeat (go_big_quiet_step (fail))
  refine wpQuiet_nil ?_
  refine seqL_wild hb4 rfl rfl fun K hK => ?_
  unfold Gives
  go_simp
  refine (HRG.out _ (hB2.below hb4)).mono ?_
  rintro e w5 ⟨rfl, rfl⟩
  refine ⟨_, rfl, hK _ _ ((Below.refl _ _)) fun hb5 => ?_⟩
  clear hK
  clear K
  simp only [Act.put, List.setIfInBounds_toArray, List.set_cons_succ, List.set_cons_zero]
  refine seqL_pre 1 (by kernel_rfl) ?_
  simp only [List.take_succ_cons, List.take_zero, List.drop_succ_cons, List.drop_zero]
  repeat (go_big_quiet_step (fail))
  refine wpQuiet_nil ?_
  refine seqL_nil ?_
  have hB5 := hB2.below hb5
  have kr5 := kr2.below hb5 kr2.lt
  have fr := fun i => kr5.frozen i
  have cr : w5.cell? ⟨br, 0, none⟩ = some (.int .i64 0) := kr5.cell 0
  have hfr : ∀ x, f x → x ≠ br := fun x hx e => by have := hfl x hx; have := HBR.out; omega
  have hk3 : Kp (fun x => x ≠ br) w5 (w5.setCell ⟨br, 0, none⟩ (.int .i64 4)) := (Kp.refl _ _).setCell (fun _ h => h rfl) _
  have hBf : Both (fun x => f x ∨ w.heap.size ≤ x) (w5.setCell ⟨br, 0, none⟩ (.int .i64 4)) gl gd l d := (hB5.kp hk3 hfr).mono fun b hb _ => .inl hb
  have hKf : Kp (fun x => ¬ f x) w (w5.setCell ⟨br, 0, none⟩ (.int .i64 4)) := (((Kp.of_below hB1).thenW hK2 fun b _ hn e => hn (e ▸ hfg)).trans (.of_below hb5)).thenW hk3 fun b hb _ e => by have := HBR.out; omega
  have hkz := kr5.set_ 0 (.int .i64 4)
  have HBf := Lib.hid hBf
  have HKf := Lib.hid hKf
  have hcz : (w5.setCell ⟨br, 0, none⟩ (.int .i64 4)).cell? ⟨br, 0, none⟩ = some (.int .i64 4) := hkz.cell 0
  have HLD := Lib.hid (errno_load _ _ _ _ hcz)
  clear q0 q7 hBf hKf hB2 hB5 hkz hcz hk3
  first | rw [z5] | skip
  go_wp2
  refine bodyPost_ret (v := .int .i64 4) ?_ rfl ⟨by rw [HRR.out], by rw [HRR.out]; exact HBf.out, HKf.out⟩
  have hl := HLD.out
  simp [results, Tryz.results73, Act.put, Sem.run_bind, Sem.run_pure, asAddr_ok, hl]
theorem KqC.trans_ {b0 b1 : Nat} {A B C : World} (h : KqC b0 b1 A B) (k : KqC b0 b1 B C) : KqC b0 b1 A C := ⟨fun u hu => k.1 u (h.1 u hu), fun u hu => k.2 u (h.2 u hu)⟩
theorem KqC.put_ {b0 b1 : Nat} (W : World) (l : Nat) (o' : Obj) (h0 : b0 ≠ l) (h1 : b1 ≠ l) : KqC b0 b1 W (W.putObj l o') :=
  ⟨fun u hu => (World.cell?_of_block (w := W) (World.putObj_heap_other (fun e => h0 (by omega)))).trans hu, fun u hu => (World.cell?_of_block (w := W) (World.putObj_heap_other (fun e => h1 (by omega)))).trans hu⟩
theorem KqC.kp_ {b0 b1 : Nat} {ok : Nat → Prop} {W W' : World} (hk : Kp ok W W') (h0 : ok b0) (h1 : ok b1) : KqC b0 b1 W W' := ⟨fun _ hu => hk.cell (p := ⟨b0, 0, none⟩) h0 hu, fun _ hu => hk.cell (p := ⟨b1, 0, none⟩) h1 hu⟩
structure RndI (fl fd : Nat → Prop) (B gl gd bat br : Nat) (l : LogD) (s : DskD × Nat × Int) (w9 W : World) : Prop where
  log : LogR fl W gl gd l
  disk : ∃ fdW : Nat → Prop, (∀ x, fdW x → fd x ∨ (B ≤ x ∧ isC W x)) ∧ DiskR fdW W gd s.1
  at_ : Blk W bat 3 #[.int .i64 (s.2.1 : Int)]
  res : Blk W br 40 #[.int .i64 0]
  keep : Kp (fun x => x < B ∧ ¬ fd x ∧ x ≠ gl ∧ x ≠ bat ∧ x ≠ br) w9 W
  good : s.2.2 = 0
structure RndX (fl fd : Nat → Prop) (B gl gd bat br : Nat) (l : LogD) (s : DskD × Nat × Int) (w9 W : World) : Prop where
  log : LogR fl W gl gd { l with dead := l.dead || s.2.2 == 3 }
  disk : ∃ fdW : Nat → Prop, (∀ x, fdW x → fd x ∨ (B ≤ x ∧ isC W x)) ∧ DiskR fdW W gd s.1
  res : Blk W br 40 #[.int .i64 s.2.2]
  keep : Kp (fun x => x < B ∧ ¬ fd x ∧ x ≠ gl ∧ x ≠ bat ∧ x ≠ br) w9 W
  bad : s.2.2 ≠ 0
section
variable {fl fd : Nat → Prop} {B gl gd bat br : Nat} {l : LogD} {s : DskD × Nat × Int} {w9 W W' : World}
theorem disk_own {x : DskD} (h : ∃ fdW : Nat → Prop, (∀ x, fdW x → fd x ∨ (B ≤ x ∧ isC W x)) ∧ DiskR fdW W gd x) {ok : Nat → Prop} (hk : Kp ok W W') (hB : ∀ x, x < B → ok x) (hC : ∀ x, isC W x → ok x) (hfd : ∀ x, fd x → x < B) : ∃ fdW : Nat → Prop, (∀ x, fdW x → fd x ∨ (B ≤ x ∧ isC W' x)) ∧ DiskR fdW W' gd x := by
  obtain ⟨fdW, h1, h2⟩ := h
  exact ⟨fdW, fun x hx => (h1 x hx).imp id fun h => ⟨h.1, h.2.kp hk (hC x h.2)⟩, h2.kp hk fun x hx => (h1 x hx).elim (fun h => hB x (hfd x h)) fun h => hC x h.2⟩
theorem disk_at {z : Nat} {x : DskD} (h : ∃ fdW : Nat → Prop, (∀ x, fdW x → fd x ∨ (B ≤ x ∧ isC W x)) ∧ DiskR fdW W gd x) (hk : Kp (fun y => y ≠ z) W W') (hz : z < B) (hfd : ∀ x, fd x → x ≠ z) : ∃ fdW : Nat → Prop, (∀ x, fdW x → fd x ∨ (B ≤ x ∧ isC W' x)) ∧ DiskR fdW W' gd x := by
  obtain ⟨fdW, h1, h2⟩ := h
  exact ⟨fdW, fun y hy => (h1 y hy).imp id fun h => ⟨h.1, h.2.kp hk (by have := h.1; omega)⟩, h2.kp hk fun y hy => (h1 y hy).elim (hfd y) fun h => by have := h.1; omega⟩
theorem RndI.own (h : RndI fl fd B gl gd bat br l s w9 W) {ok : Nat → Prop} (hk : Kp ok W W') (hB : ∀ x, x < B → ok x) (hC : ∀ x, isC W x → ok x) (hfl : ∀ x, fl x → x < B) (hfd : ∀ x, fd x → x < B) (h1 : bat < B) (h2 : br < B) : RndI fl fd B gl gd bat br l s w9 W' :=
  ⟨h.log.kp hk fun x hx => hB x (hfl x hx), disk_own h.disk hk hB hC hfd, h.at_.kp hk (hB _ h1), h.res.kp hk (hB _ h2), h.keep.thenW hk fun x _ hx => hB x hx.1, h.good⟩
theorem RndX.own (h : RndX fl fd B gl gd bat br l s w9 W) {ok : Nat → Prop} (hk : Kp ok W W') (hB : ∀ x, x < B → ok x) (hC : ∀ x, isC W x → ok x) (hfl : ∀ x, fl x → x < B) (hfd : ∀ x, fd x → x < B) (h2 : br < B) : RndX fl fd B gl gd bat br l s w9 W' :=
  ⟨h.log.kp hk fun x hx => hB x (hfl x hx), disk_own h.disk hk hB hC hfd, h.res.kp hk (hB _ h2), h.keep.thenW hk fun x _ hx => hB x hx.1, h.bad⟩
theorem kp_row {row : Option Nat} (hg : W.grownBy W' row) : Kp (fun x => some x ≠ row) W W' := .of_grown hg fun _ h => h
theorem row_lt {row : Option Nat} (hr : ∀ r, row = some r → B ≤ r ∧ ∃ o : Obj, W.heap[r]? = some o ∧ o.isCells = false) : (∀ x, x < B → some x ≠ row) ∧ (∀ x, isC W x → some x ≠ row) :=
  ⟨fun x hx e => by have := (hr x e.symm).1; omega, fun x ⟨o, ho, hc⟩ e => by
    obtain ⟨_, o', ho', hc'⟩ := hr x e.symm
    rw [ho] at ho'
    cases ho'
    rw [hc] at hc'
    cases hc'⟩
theorem keepsFrom_of {ok : Nat → Prop} (hk : Kp ok W W') (h : ∀ x, B ≤ x → ¬ isC W x → ok x) : KeepsFrom B W W' :=
  ⟨hk.size, fun k o hB ho hc => (hk.block k (Array.getElem?_eq_some_iff.1 ho).1 (h k hB fun ⟨o', ho', hc'⟩ => by rw [ho] at ho'; cases ho'; rw [hc] at hc'; cases hc')).trans ho⟩
end
end Go.Proofs.YtnlhjhpikjmoaaaGreatDoor
