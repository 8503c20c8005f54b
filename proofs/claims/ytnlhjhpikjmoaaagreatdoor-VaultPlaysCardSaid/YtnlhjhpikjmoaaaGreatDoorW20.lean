/- Contracts: slices.Clone of lists of bytes, of numbers.
Contract: wal.readHead.
Contract: (*Log).Records.
Contract: (*Log).Sync.
A head's sector as bytes. No walk.
Contracts: a nil log.
(*Log).tell: the plain function, its first two ways out.
(*Log).tell: 64 zero bytes made; a number laid keeps the length; a log's blocks narrowed. -/
import Derived.Test.YtnlhjhpikjmoaaaGreatDoorS0
namespace Go.Proofs.YtnlhjhpikjmoaaaGreatDoor
open Go.RowKit
theorem chunksNat {ok ok' : Nat → Prop} {w w' : World} : ∀ {css : List (List Value)} {l : List Nat}, Chunks rNat ok w css l → Chunks rNat ok' w' css l
  | [], [], _ => trivial
  | _ :: _, _ :: _, h => ⟨h.1, chunksNat h.2⟩
  | [], _ :: _, h => h.elim
  | _ :: _, [], h => h.elim
theorem OwnL.empty_ {α : Type} (E : Rel α) (okd : Nat → Prop) (base : Nat) (T : TypeId) (w : World) (hb : base ≤ w.heap.size) : OwnL E okd base T (w.alloc (.cells #[] T)) (.slice (some ⟨w.heap.size, 0, none⟩) 0 0) [] :=
  ⟨[], World.ownsRow_made w #[] 0 hb (by decide) (by simp), trivial⟩
set_option maxRecDepth 100000 in
set_option maxHeartbeats 3200000 in
theorem cloneNat_any {ok : Nat → Prop} (v : Value) (l : List Nat) (w : World) (h : RSl rNat ok w v l) (hl : l.length ≤ 1000000) :
    Calls Tryz.prog 60 #[v] w fun e w' => (∃ v', e = .returned v' ∧ OwnL rNat (fun _ => False) w.heap.size 3 w' v' l) ∧ Below w.heap.size w w' := by
  obtain ⟨A, n, c, css, rfl, hc, hn, _, hrd, hch, _⟩ := h
  subst hn
  have hE := fun (x : Option Addr) (w : World) => Lib.run_eql_slice_nil (P := Tryz.prog) w 53 3 x l.length c 0 0 Tryz.underlying53
  rcases A with _ | ad
  · have hl0 : l = [] := by
      rcases Nat.eq_zero_or_pos l.length with h0 | h0
      · exact List.eq_nil_of_length_eq_zero h0
      · obtain ⟨_, _, h, _⟩ := hrd.2 h0
        cases h
    subst hl0
    clear hE
    have hE := fun (w : World) => Lib.run_eql_slice_nil (P := Tryz.prog) w 53 3 none 0 c 0 0 Tryz.underlying53
    show Calls Tryz.prog _ #[.slice none 0 c] w _
    go_enter Tryz.func60, Tryz.ntmps60
    go_wp2
    go_ret
    exact ⟨⟨_, rfl, OwnL.nil_ _ _ _ _ _⟩, Below.refl _ _⟩
  · have hal : Below w.heap.size w (w.alloc (.cells #[] 3)) := (Below.refl _ _).alloc (Nat.le_refl _) _
    have ho := OwnL.empty_ rNat (fun _ => False) w.heap.size 3 w (Nat.le_refl _)
    go_enter Tryz.func60, Tryz.ntmps60
    go_wp2_with (at_builtin; go_loud (refine wp_app (E := rNat) (okd := fun _ => False) Tryz.rowNat (by decide) rfl _ _ rfl (.slice (some ⟨w.heap.size, 0, none⟩) 0 0) [] _ rfl ho (some ad) c l css rfl (hrd.below hal) (chunksNat hch) (by show (0 + l.length) * 8 ≤ _; omega) (by show 0 + l.length ≤ _; omega) (by simp) ?_); intro v' w5 hown5 hk5 hv5)
    go_ret
    exact ⟨⟨v', rfl, by simpa using hown5⟩, hal.trans (hk5.below (by simp) fun b hb e => by have := Option.some.inj e; simp at this; omega)⟩
set_option maxRecDepth 100000 in
set_option maxHeartbeats 3200000 in
theorem cloneBs_any {ok : Nat → Prop} (v : Value) (l : List (List UInt8)) (w : World) (h : RSl rBs ok w v l) (hl : l.length ≤ 1000000) :
    Calls Tryz.prog 59 #[v] w fun e w' => (∃ v', e = .returned v' ∧ OwnL rBs ok w.heap.size 25 w' v' l) ∧ Below w.heap.size w w' := by
  obtain ⟨A, n, c, css, rfl, hc, hn, _, hrd, hch, _⟩ := h
  subst hn
  have hE := fun (x : Option Addr) (w : World) => Lib.run_eql_slice_nil (P := Tryz.prog) w 44 25 x l.length c 0 0 Tryz.underlying44
  rcases A with _ | ad
  · have hl0 : l = [] := by
      rcases Nat.eq_zero_or_pos l.length with h0 | h0
      · exact List.eq_nil_of_length_eq_zero h0
      · obtain ⟨_, _, h, _⟩ := hrd.2 h0
        cases h
    subst hl0
    clear hE
    have hE := fun (w : World) => Lib.run_eql_slice_nil (P := Tryz.prog) w 44 25 none 0 c 0 0 Tryz.underlying44
    show Calls Tryz.prog _ #[.slice none 0 c] w _
    go_enter Tryz.func59, Tryz.ntmps59
    go_wp2
    go_ret
    exact ⟨⟨_, rfl, OwnL.nil_ _ _ _ _ _⟩, Below.refl _ _⟩
  · have hal : Below w.heap.size w (w.alloc (.cells #[] 25)) := (Below.refl _ _).alloc (Nat.le_refl _) _
    have hcc : Chunks rBs (fun b => ok b ∧ some b ≠ (Value.slice (some ⟨w.heap.size, 0, none⟩) 0 0).ownBlock) (w.alloc (.cells #[] 25)) css l := (hch.mono (ok' := fun b => (ok b ∧ some b ≠ (Value.slice (some ⟨w.heap.size, 0, none⟩) 0 0).ownBlock)) fun b hb hlt => ⟨hb, fun e => by have := Option.some.inj e; simp at this; omega⟩).kp (.of_below hal)
    have ho := OwnL.empty_ rBs ok w.heap.size 25 w (Nat.le_refl _)
    go_enter Tryz.func59, Tryz.ntmps59
    go_wp2_with (at_builtin; go_loud (refine wp_app (E := rBs) (okd := ok) Tryz.rowBs (by decide) rfl _ _ rfl (.slice (some ⟨w.heap.size, 0, none⟩) 0 0) [] _ rfl ho (some ad) c l css rfl (hrd.below hal) (hcc) (by show (0 + l.length) * 24 ≤ _; omega) (by show 0 + l.length ≤ _; omega) (by simp) ?_); intro v' w5 hown5 hk5 hv5)
    go_ret
    exact ⟨⟨v', rfl, by simpa using hown5⟩, hal.trans (hk5.below (by simp) fun b hb e => by have := Option.some.inj e; simp at this; omega)⟩
end Go.Proofs.YtnlhjhpikjmoaaaGreatDoor
namespace Go.Proofs.YtnlhjhpikjmoaaaGreatDoor
open Go.RowKit
structure HeadD where
  turn : Nat
  first : Nat
  next : Nat
  start : Nat
  end_ : Nat
def hdCs (h : HeadD) : Array Value := #[.int .u64 (h.turn : Int), .int .u64 (h.first : Int), .int .u64 (h.next : Int), .int .u64 (h.start : Int), .int .u64 (h.end_ : Int)]
theorem Tryz.infoHead : (Tryz.prog.info? 99).map (·.size) = some 5 := by kernel_rfl
theorem hd_all (h : HeadD) : (hdCs h).all (·.oneCell') = true := by simp [hdCs, Value.oneCell']
def rdN (b : List UInt8) (k : Nat) : Nat := beNat ((b.drop k).take 8)
def readH (b : List UInt8) : HeadD := ⟨rdN b 0, rdN b 8, rdN b 16, rdN b 24, rdN b 32⟩
theorem take_at {bb off n c k : Nat} (lb : List UInt8) (w : World) (hcell : ∀ j (h : j < lb.length), w.cell? ⟨bb, off + j, none⟩ = some (.int .u8 ((lb[j]).toNat : Int))) (hk : k + 8 ≤ lb.length) (hn : 8 ≤ n) (hc : n ≤ c) :
    Calls Tryz.prog 77 #[.slice (some ⟨bb, off + k, none⟩) n c] w fun e w' => e = .returned (.int .u64 ((rdN lb k : Nat) : Int)) ∧ w' = w :=
  wtake_any bb (off + k) n c (lb.drop k) w (fun j h _ => by
    have hj : k + j < lb.length := by rw [List.length_drop] at h; omega
    rw [Nat.add_assoc, hcell (k + j) hj, List.getElem_drop]) (by rw [List.length_drop]; omega) hn hc
set_option maxRecDepth 100000 in
set_option maxHeartbeats 6400000 in
theorem readHead_any (bb off c : Nat) (lb : List UInt8) (w : World) (h64 : lb.length = 64) (hc : 64 ≤ c) (hcell : ∀ j (h : j < lb.length), w.cell? ⟨bb, off + j, none⟩ = some (.int .u8 ((lb[j]).toNat : Int))) :
    Calls Tryz.prog 49 #[.slice (some ⟨bb, off, none⟩) 64 c] w fun e w' => e = .returned (.tuple #[.agg (hdCs (readH lb)), .bool (((rdN lb 0 : Nat) : Int) == ((rdN lb 56 : Nat) : Int))]) ∧ Below w.heap.size w w' := by
  have hbl : bb < w.heap.size := World.block_lt_of_cell? w ⟨bb, off + 0, none⟩ (hcell 0 (by omega))
  have HCW := Lib.hid (fun (w' : World) (hb : Below w.heap.size w w') j (h : j < lb.length) => (hb.cell (p := ⟨bb, off + j, none⟩) hbl).trans (hcell j h))
  clear hcell
  go_enter Tryz.func49, Tryz.ntmps49
  go_upto_region 1 with fail
  refine name_world (fun w1 => Below w.heap.size w w1 ∧ w.heap.size < w1.heap.size ∧ Blk w1 w.heap.size 99 #[.int .u64 0, .int .u64 0, .int .u64 0, .int .u64 0, .int .u64 0]) ⟨(Below.refl _ _).alloc (Nat.le_refl _) _, by simp, Blk.new _ _ _⟩ ?_
  rintro w1 ⟨hB1, hz1, k1⟩
  refine wp_seqV (fun _ => False) 16 [1, 4, 7, 10, 13, 16] [15] (by as_aux_lemma => kernel_rfl) (by as_aux_lemma => kernel_rfl) fun w4 hb4 => ?_
  refine seqV_pre 1 (by kernel_rfl) ?_
  simp only [List.take_succ_cons, List.take_zero, List.drop_succ_cons, List.drop_zero]
  repeat (go_big_quiet_step (fail))
  refine wpQuiet_nil ?_
  refine seqV_new hb4 rfl rfl fun w5 hb5 hB5 K hK => ?_
  unfold Gives
  go_simp
  refine (take_at (k := 0) lb w5 (HCW.out _ (hB1.trans (hB5.mono hB1.size))) (by omega) (by omega) hc).mono ?_
  rintro e w6 ⟨rfl, rfl⟩
  refine ⟨_, rfl, hK _ _ ((Below.refl _ _)) fun hB6 => ?_⟩
  clear hK
  clear K
  simp only [Act.put, List.setIfInBounds_toArray, List.set_cons_succ, List.set_cons_zero]
  refine seqV_pre 2 (by kernel_rfl) ?_
  simp only [List.take_succ_cons, List.take_zero, List.drop_succ_cons, List.drop_zero]
  repeat (go_big_quiet_step (fail))
  refine wpQuiet_nil ?_
  refine seqV_new hB6 rfl rfl fun w7 hb7 hB7 K hK => ?_
  unfold Gives
  go_simp
  refine (take_at (k := 8) lb w7 (HCW.out _ (hB1.trans (hB7.mono hB1.size))) (by omega) (by omega) (by omega)).mono ?_
  rintro e w8 ⟨rfl, rfl⟩
  refine ⟨_, rfl, hK _ _ ((Below.refl _ _)) fun hB8 => ?_⟩
  clear hK
  clear K
  simp only [Act.put, List.setIfInBounds_toArray, List.set_cons_succ, List.set_cons_zero]
  refine seqV_pre 2 (by kernel_rfl) ?_
  simp only [List.take_succ_cons, List.take_zero, List.drop_succ_cons, List.drop_zero]
  repeat (go_big_quiet_step (fail))
  refine wpQuiet_nil ?_
  refine seqV_new hB8 rfl rfl fun w9 hb9 hB9 K hK => ?_
  unfold Gives
  go_simp
  refine (take_at (k := 16) lb w9 (HCW.out _ (hB1.trans (hB9.mono hB1.size))) (by omega) (by omega) (by omega)).mono ?_
  rintro e w10 ⟨rfl, rfl⟩
  refine ⟨_, rfl, hK _ _ ((Below.refl _ _)) fun hB10 => ?_⟩
  clear hK
  clear K
  simp only [Act.put, List.setIfInBounds_toArray, List.set_cons_succ, List.set_cons_zero]
  refine seqV_pre 2 (by kernel_rfl) ?_
  simp only [List.take_succ_cons, List.take_zero, List.drop_succ_cons, List.drop_zero]
  repeat (go_big_quiet_step (fail))
  refine wpQuiet_nil ?_
  refine seqV_new hB10 rfl rfl fun w11 hb11 hB11 K hK => ?_
  unfold Gives
  go_simp
  refine (take_at (k := 24) lb w11 (HCW.out _ (hB1.trans (hB11.mono hB1.size))) (by omega) (by omega) (by omega)).mono ?_
  rintro e w12 ⟨rfl, rfl⟩
  refine ⟨_, rfl, hK _ _ ((Below.refl _ _)) fun hB12 => ?_⟩
  clear hK
  clear K
  simp only [Act.put, List.setIfInBounds_toArray, List.set_cons_succ, List.set_cons_zero]
  refine seqV_pre 2 (by kernel_rfl) ?_
  simp only [List.take_succ_cons, List.take_zero, List.drop_succ_cons, List.drop_zero]
  repeat (go_big_quiet_step (fail))
  refine wpQuiet_nil ?_
  refine seqV_new hB12 rfl rfl fun w13 hb13 hB13 K hK => ?_
  unfold Gives
  go_simp
  refine (take_at (k := 32) lb w13 (HCW.out _ (hB1.trans (hB13.mono hB1.size))) (by omega) (by omega) (by omega)).mono ?_
  rintro e w14 ⟨rfl, rfl⟩
  refine ⟨_, rfl, hK _ _ ((Below.refl _ _)) fun hB14 => ?_⟩
  clear hK
  clear K
  simp only [Act.put, List.setIfInBounds_toArray, List.set_cons_succ, List.set_cons_zero]
  refine seqV_pre 1 (by kernel_rfl) ?_
  simp only [List.take_succ_cons, List.take_zero, List.drop_succ_cons, List.drop_zero]
  repeat (go_big_quiet_step (fail))
  refine wpQuiet_nil ?_
  refine seqV_lay (fun g => .pointer (some ⟨g, 0, none⟩)) 99 #[.int .u64 0, .int .u64 0, .int .u64 0, .int .u64 0, .int .u64 0] rfl rfl (fun s => by go_simp <;> rfl) fun gb wl hgl hMl kl hbl => ?_
  simp only [Act.put, List.setIfInBounds_toArray, List.set_cons_succ, List.set_cons_zero]
  have hBl := hB14.trans (hbl.mono hB14.size)
  refine seqV_chg (Kp.ofBelow hBl) rfl rfl fun K hK => ?_
  refine gives_st (k := 0) rfl (hdCs (readH lb)) rfl rfl kl (Nat.le_refl _) Tryz.infoHead (hd_all _) ?_
  have kb8 := kl.setCells (hdCs (readH lb)) rfl
  refine hK _ _ ((Kp.setCells (a := wl) (b := gb) (fun _ => keep_not hgl (.inr rfl)) (hdCs (readH lb)).toList 0 (Kp.refl _ _))) fun hK8 => ?_
  clear hK
  clear K
  simp only [Act.put, List.setIfInBounds_toArray, List.set_cons_succ, List.set_cons_zero]
  generalize hwr : World.setCells wl gb 0 (hdCs (readH lb)).toList = w8 at kb8 hK8 ⊢
  clear hwr
  refine seqV_nil ?_
  have hB8 := hB1.trans (hK8.toBelow.mono hB1.size)
  have k18 := k1.below hK8.toBelow k1.lt
  have hgne : gb ≠ w.heap.size := by have := k1.lt; omega
  have l0 : ∀ s : LaterB w8 (fun b => b = w.heap.size), s.val.cell? ⟨gb, 0, none⟩ = some (.int .u64 ((rdN lb 0 : Nat) : Int)) := LaterB.cell (kb8.cell 0) hgne
  go_upto_region 2 with fail
  refine wp_seqB (fun b => b = w.heap.size) 7 [5, 7] (by as_aux_lemma => kernel_rfl) (by as_aux_lemma => kernel_rfl) fun wa hba => ?_
  refine seqB_still (.agg (hdCs (readH lb))) rfl rfl (fun s => still_ld (g := gb) (k := 0) rfl rfl (kb8.kp s.kp hgne).range Tryz.underlying99 rfl Tryz.infoHead) ?_
  simp only [Act.put, List.setIfInBounds_toArray, List.set_cons_succ, List.set_cons_zero]
  refine seqB_pre 4 (by kernel_rfl) ?_
  simp only [List.take_succ_cons, List.take_zero, List.drop_succ_cons, List.drop_zero]
  repeat (go_big_quiet_step (fail))
  refine wpQuiet_nil ?_
  refine seqB_wild0 hba rfl rfl fun K hK => ?_
  unfold Gives
  go_simp
  refine (take_at (k := 56) lb wa (HCW.out _ (hB8.trans (hba.mono hB8.size))) (by omega) (by omega) (by omega)).mono ?_
  rintro e wb ⟨rfl, rfl⟩
  refine ⟨_, rfl, hK _ _ ((Below.refl _ _)) fun hbb => ?_⟩
  clear hK
  clear K
  simp only [Act.put, List.setIfInBounds_toArray, List.set_cons_succ, List.set_cons_zero]
  refine seqB_pre 1 (by kernel_rfl) ?_
  simp only [List.take_succ_cons, List.take_zero, List.drop_succ_cons, List.drop_zero]
  repeat (go_big_quiet_step (fail))
  refine wpQuiet_nil ?_
  have k1b := k18.below hbb k18.lt
  refine seqB_wild (Kp.of_below hbb) rfl rfl fun K hK => ?_
  refine gives_st (k := 0) rfl (hdCs (readH lb)) rfl rfl k1b (Nat.le_refl _) Tryz.infoHead (hd_all _) ?_
  have k1c := k1b.setCells (hdCs (readH lb)) rfl
  have hst := Kp.setCells (ok := fun b => ¬ b = w.heap.size) (a := wb) (b := w.heap.size) (fun _ hh => hh rfl) (hdCs (readH lb)).toList 0 (Kp.refl _ _)
  have hBc := below_setCells (B := w.heap.size) (b := w.heap.size) (Nat.le_refl _) (hdCs (readH lb)).toList 0 (hB8.trans (hbb.mono hB8.size))
  generalize hwr : World.setCells wb w.heap.size 0 (hdCs (readH lb)).toList = wc at k1c hst hBc ⊢
  clear hwr
  refine hK _ _ (hst) fun hKc => ?_
  clear hK
  clear K
  simp only [Act.put, List.setIfInBounds_toArray, List.set_cons_succ, List.set_cons_zero]
  refine seqB_pre 1 (by kernel_rfl) ?_
  simp only [List.take_succ_cons, List.take_zero, List.drop_succ_cons, List.drop_zero]
  repeat (go_big_quiet_step (fail))
  refine wpQuiet_nil ?_
  refine seqB_nil ?_
  have lv := k1c.loadVar (P := Tryz.prog) Tryz.underlying99 rfl Tryz.infoHead
  clear l0
  go_wp2
  refine bodyPost_ret (v := .tuple #[.agg (hdCs (readH lb)), .bool (((rdN lb 0 : Nat) : Int) == ((rdN lb 56 : Nat) : Int))]) ?_ rfl ⟨rfl, hBc⟩
  simp [results, Tryz.results49, Act.put, Sem.run_bind, Sem.run_pure, asAddr_ok, lv]
end Go.Proofs.YtnlhjhpikjmoaaaGreatDoor
namespace Go.Proofs.YtnlhjhpikjmoaaaGreatDoor
open Go.RowKit
set_option maxRecDepth 100000 in
set_option maxHeartbeats 6400000 in
theorem records_any {fl : Nat → Prop} {gl gd : Nat} {l : LogD} {w : World} (h : LogR fl w gl gd l) (hn : l.recs.length ≤ 1000000) :
    Calls Tryz.prog 53 #[.pointer (some ⟨gl, 0, none⟩)] w fun e w' => (∃ v, e = .returned v ∧ RSl rBs (fun b => w.heap.size ≤ b) w' v l.recs) ∧ Below w.heap.size w w' := by
  obtain ⟨vr, vp, h1, h2, h3, h4, h5, h6, h7, h8, h9, h10⟩ := h
  obtain ⟨c0, c1, c2, c3, c4, _⟩ := lg_cells h1
  have hrs : RSl rBs (fun _ => True) w vr l.recs := h2.rslP (show l.recs.length * 24 ≤ _ by omega) (fun _ _ _ => trivial) fun _ _ => trivial
  obtain ⟨A, c, rfl, _, _⟩ := hrs.form
  clear h2 h3 h6 h8 h9
  go_enter Tryz.func53, Tryz.ntmps53
  go_wp2
  go_loopw [3, 13] (fun v j wr => ∃ i : Nat, i ≤ l.recs.length ∧ j = .int .i64 (i : Int) ∧ Below w.heap.size w wr ∧ OwnL rBs (fun b => w.heap.size ≤ b) w.heap.size 25 wr v (l.recs.take i)) (fun _ j _ => l.recs.length - (intOf j).toNat)
  case atStart => exact ⟨0, by omega, rfl, Below.refl _ _, OwnL.nil_ _ _ _ _ _⟩
  case round =>
    obtain ⟨i, hi, rfl, hb, hown⟩ := hrel
    by_cases hlt : i < l.recs.length
    · have u0 : decide ((i : Int) < (l.recs.length : Int)) = true := decide_eq_true (by omega)
      obtain ⟨b9, off9, c9, cs9, hv9, _, ⟨v9, rfl, hr9⟩, hcell9⟩ := (hrs.below hb).at_ hlt
      simp only [Value.slice.injEq, true_and] at hv9
      obtain ⟨rfl, rfl⟩ := hv9
      obtain ⟨rc, hrc⟩ : ∃ rc, rc = l.recs[i] := ⟨_, rfl⟩
      rw [← hrc] at hr9
      have htk : l.recs.take (i + 1) = l.recs.take i ++ [rc] := by rw [List.take_succ_eq_append_getElem hlt, hrc]
      have HTK := Lib.hid htk
      obtain ⟨A9, d9, rfl, _, _⟩ := hr9.form
      have q0 : wr.cell? ⟨b9, off9 + i * 1, none⟩ = some (.slice A9 rc.length d9) := hcell9 0 _ rfl
      have q1 : wr.cell? ⟨b9, off9 + i, none⟩ = some (.slice A9 rc.length d9) := by simpa using q0
      have hlt2 : (l.recs.take i).length = i := by rw [List.length_take]; omega
      have HLT := Lib.hid hlt2
      have hzs : w.heap.size ≤ wr.heap.size := hb.size
      clear htk hrc hcell9 hlt2
      go_wp2_with fail
      refine (clone_rb _ rc _ hr9).mono ?_
      rintro e w2 ⟨⟨v2, rfl, hv2⟩, hb2⟩
      have hown2 := hown.below hb2
      have hlt12 := hown.lt
      have hB2 := hb.trans (hb2.mono hb.size)
      obtain ⟨A2, d2, rfl, _, _⟩ := hv2.form
      have hv2' : RB (fun b => w.heap.size ≤ b ∧ some b ≠ u3.ownBlock) w2 (.slice A2 rc.length d2) rc := hv2.mono (by decide) fun b hb' _ => ⟨by omega, fun e => by have := (hlt12 b e.symm).2; omega⟩
      have HL12 := Lib.hid hlt12
      clear hlt12
      go_upto_region 7 with (at_builtin; go_loud (refine wp_app1 (E := rBs) (okd := fun b => w.heap.size ≤ b) Tryz.rowBs (by decide) rfl _ _ rfl u3 (l.recs.take i) w2 #[.slice A2 rc.length d2] rc rfl hown2 rfl ⟨_, rfl, hv2'⟩ (by rw [HLT.out]; show (i + 1) * 24 ≤ _; omega) (by rw [HLT.out]; omega) hB2.size ?_); intro v' w5 hown5 hk5 hv5)
      have hbel := hown2.bel hk5 hB2.size
      go_wp2
      go_roundw
      case rel => exact ⟨i + 1, by omega, by go_num, hB2.trans (hbel.mono (Nat.le_refl _)), by rw [HTK.out]; exact hown5⟩
      case measure => simp [intOf]; omega
    · have u0 : decide ((i : Int) < (l.recs.length : Int)) = false := decide_eq_false (by omega)
      rw [List.take_of_length_le (by omega)] at hown
      have hfin : RSl rBs (fun b => w.heap.size ≤ b) wr u3 l.recs := hown.rsl (by decide) (show l.recs.length * 24 ≤ _ by omega) (fun b h => h) (fun b h => h)
      clear hown
      go_wp2
      go_ret
      exact ⟨⟨_, rfl, hfin⟩, hb⟩
end Go.Proofs.YtnlhjhpikjmoaaaGreatDoor
namespace Go.Proofs.YtnlhjhpikjmoaaaGreatDoor
open Go.RowKit
def syncL (l : LogD) (d : DskD) : LogD × DskD × Int :=
  if rdyE l d ≠ 0 then (rdy l d, d, 3) else if l.waits = false then (l, d, 0) else
  if d.flush.2 ≠ 0 then ({ l with dead := l.dead || d.flush.2 == 3 }, d.flush.1, d.flush.2) else ({ l with dead := l.dead || d.flush.2 == 3, waits := false }, d.flush.1, 0)
theorem LogR.setWaits {fl : Nat → Prop} {gl gd : Nat} {l : LogD} {w : World} (h : LogR fl w gl gd l) (x : Bool) : LogR fl (w.setCell ⟨gl, 8, none⟩ (.bool x)) gl gd { l with waits := x } := by
  obtain ⟨vr, vp, hb, h2, h3, h4, h5, h6, h7, h8, h9, h10⟩ := h
  have hkp : Kp (fun b => b ≠ gl) w (w.setCell ⟨gl, 8, none⟩ (.bool x)) := (Kp.refl _ _).setCell (fun _ h => h rfl) _
  exact ⟨vr, vp, hb.set_ 8 (.bool x), h2.kp hkp (fun b hb => hb.2.1) (fun b hb e => h4 (by rw [hb, e])), h3.kp hkp (fun _ h => h.elim) (fun b hb e => h5 (by rw [hb, e])), h4, h5, h6, h7, h8, h9, ⟨h10.turn, h10.first, h10.recs, h10.places, h10.placed, h10.end_, h10.used⟩⟩
theorem LogR.ftl {fl : Nat → Prop} {gl gd : Nat} {l : LogD} {w : World} (h : LogR fl w gl gd l) : fl gl := by
  obtain ⟨vr, vp, hb, h2, h3, h4, h5, h6, h7, _⟩ := h
  exact h7
theorem rdyE_or (l : LogD) (d : DskD) : rdyE l d = 3 ∨ (rdyE l d = 0 ∧ rdy l d = l) := by
  unfold rdyE rdy
  split
  · exact .inl rfl
  · exact .inr ⟨rfl, rfl⟩
set_option maxRecDepth 100000 in
set_option maxHeartbeats 3200000 in
theorem sync_any {fl fd : Nat → Prop} {gl gd : Nat} {l : LogD} {d : DskD} {w : World} (h : LogR fl w gl gd l) (hd : DiskR fd w gd d) (hdis : ∀ b, fd b → ¬ fl b) :
    Calls Tryz.prog 62 #[.pointer (some ⟨gl, 0, none⟩)] w fun e w' => e = .returned (.int .i64 (syncL l d).2.2) ∧ LogR fl w' gl gd (syncL l d).1 ∧ DiskR fd w' gd (syncL l d).2.1 ∧ Kp (fun b => ¬ fl b ∧ ¬ fd b) w w' := by
  have hfl := h.ftl
  have HR := Lib.hid (ready_any h hd)
  rcases rdyE_or l d with he | ⟨he, hrd⟩
  · have hs : syncL l d = (rdy l d, d, 3) := by unfold syncL; rw [if_pos (by rw [he]; decide)]
    rw [hs]
    rw [he] at HR
    clear hs he
    go_enter Tryz.func62, Tryz.ntmps62
    go_wp2_with fail
    refine HR.out.mono ?_
    rintro e w1 ⟨rfl, hL1, hK1⟩
    go_wp2
    go_ret
    exact ⟨rfl, hL1, hd.kp hK1 fun b hb e => hdis b hb (e ▸ hfl), hK1.mono fun b hb e => hb.1 (e ▸ hfl)⟩
  rw [he, hrd] at HR
  by_cases hw : l.waits = false
  · have hs : syncL l d = (l, d, 0) := by unfold syncL; rw [if_neg (by rw [he]; decide), if_pos hw]
    rw [hs]
    have HW := Lib.hid hw
    clear hs he hrd hw
    go_enter Tryz.func62, Tryz.ntmps62
    go_wp2_with fail
    refine HR.out.mono ?_
    rintro e w1 ⟨rfl, hL1, hK1⟩
    have hL := hL1
    obtain ⟨vr, vp, hb, _⟩ := hL1
    have c8 : w1.cell? ⟨gl, 8, none⟩ = some (.bool false) := by rw [← HW.out]; exact hb.cell 8
    clear hb
    go_wp2
    go_ret
    exact ⟨rfl, hL, hd.kp hK1 fun b hb e => hdis b hb (e ▸ hfl), hK1.mono fun b hb e => hb.1 (e ▸ hfl)⟩
  have hwt : l.waits = true := by simpa using hw
  obtain ⟨f, hf⟩ : ∃ f, f = d.flush := ⟨_, rfl⟩
  have hs : syncL l d = if f.2 ≠ 0 then ({ l with dead := l.dead || f.2 == 3 }, f.1, f.2) else ({ l with dead := l.dead || f.2 == 3, waits := false }, f.1, 0) := by
    unfold syncL
    rw [if_neg (by rw [he]; decide), if_neg hw, ← hf]
  rw [hs]
  have HW := Lib.hid hwt
  have HFl := Lib.hid (fun (w1 : World) (h1 : DiskR fd w1 gd d) => dFlush_any h1)
  rw [← hf] at HFl
  obtain ⟨d1, E⟩ := f
  simp only at HFl ⊢
  clear hs he hrd hw hwt hf
  by_cases hE : E = 0
  · subst hE
    rw [if_neg (by decide)]
    go_enter Tryz.func62, Tryz.ntmps62
    go_wp2_with fail
    refine HR.out.mono ?_
    rintro e w1 ⟨rfl, hL1, hK1⟩
    have hd1 := hd.kp hK1 fun b hb e => hdis b hb (e ▸ hfl)
    have hL := hL1
    obtain ⟨vr, vp, hb, _⟩ := hL1
    have c8 : w1.cell? ⟨gl, 8, none⟩ = some (.bool true) := by rw [← HW.out]; exact hb.cell 8
    have c0 : w1.cell? ⟨gl, 0, none⟩ = some (.pointer (some ⟨gd, 0, none⟩)) := hb.cell 0
    clear hb
    go_wp2_with fail
    refine (HFl.out _ hd1).mono ?_
    rintro e w2 ⟨rfl, hd2, hK2⟩
    have hL2 := hL.kp hK2 fun b hb e => hdis b e hb
    clear c8 c0
    go_wp2_with fail
    refine (met_any hL2 0).mono ?_
    rintro e w3 ⟨rfl, hL3, hK3⟩
    have hd3 := hd2.kp hK3 fun b hb e => hdis b hb (e ▸ hfl)
    have hL4 := hL3.setWaits false
    have hK4 : Kp (fun b => b ≠ gl) w3 (w3.setCell ⟨gl, 8, none⟩ (.bool false)) := (Kp.refl _ _).setCell (fun _ h => h rfl) _
    have hKz : Kp (fun b => ¬ fl b ∧ ¬ fd b) w (w3.setCell ⟨gl, 8, none⟩ (.bool false)) := (((hK1.mono fun b hb e => hb.1 (e ▸ hfl)).trans (hK2.mono fun b hb => hb.2)).trans (hK3.mono fun b hb e => hb.1 (e ▸ hfl))).trans (hK4.mono fun b hb e => hb.1 (e ▸ hfl))
    have hd4 := hd3.kp hK4 fun b hb e => hdis b hb (e ▸ hfl)
    obtain ⟨vr3, vp3, hb3, _⟩ := hL3
    have fg := fun i => hb3.frozen i
    have c83 : w3.cell? ⟨gl, 8, none⟩ = some (.bool l.waits) := hb3.cell 8
    clear hb3
    go_wp2
    go_ret
    exact ⟨rfl, hL4, hd4, hKz⟩
  · rw [if_pos hE]
    have t1 : (E == 0) = false := by simpa using hE
    have t2 : decide (E = 0) = false := decide_eq_false hE
    go_enter Tryz.func62, Tryz.ntmps62
    go_wp2_with fail
    refine HR.out.mono ?_
    rintro e w1 ⟨rfl, hL1, hK1⟩
    have hd1 := hd.kp hK1 fun b hb e => hdis b hb (e ▸ hfl)
    have hL := hL1
    obtain ⟨vr, vp, hb, _⟩ := hL1
    have c8 : w1.cell? ⟨gl, 8, none⟩ = some (.bool true) := by rw [← HW.out]; exact hb.cell 8
    have c0 : w1.cell? ⟨gl, 0, none⟩ = some (.pointer (some ⟨gd, 0, none⟩)) := hb.cell 0
    clear hb
    go_wp2_with fail
    refine (HFl.out _ hd1).mono ?_
    rintro e w2 ⟨rfl, hd2, hK2⟩
    have hL2 := hL.kp hK2 fun b hb e => hdis b e hb
    clear c8 c0
    go_wp2_with fail
    refine (met_any hL2 E).mono ?_
    rintro e w3 ⟨rfl, hL3, hK3⟩
    have hd3 := hd2.kp hK3 fun b hb e => hdis b hb (e ▸ hfl)
    have hKz : Kp (fun b => ¬ fl b ∧ ¬ fd b) w w3 := ((hK1.mono fun b hb e => hb.1 (e ▸ hfl)).trans (hK2.mono fun b hb => hb.2)).trans (hK3.mono fun b hb e => hb.1 (e ▸ hfl))
    go_wp2
    go_ret
    exact ⟨rfl, hL3, hd3, hKz⟩
end Go.Proofs.YtnlhjhpikjmoaaaGreatDoor
namespace Go.Proofs.YtnlhjhpikjmoaaaGreatDoor
open Go.RowKit
def hdB (t f n s e : Nat) : List UInt8 := be8 t ++ be8 f ++ be8 n ++ be8 s ++ be8 e ++ List.replicate 16 0 ++ be8 t
theorem hdB_put (t f n s e : Nat) : putN (putN (putN (putN (putN (putN (List.replicate 64 0) 0 t) 8 f) 16 n) 24 s) 32 e) 56 t = hdB t f n s e := by
  simp only [putN, hdB, be8]
  rfl
theorem hdB_len (t f n s e : Nat) : (hdB t f n s e).length = 64 := rfl
def secB (turn : Nat) (part : List UInt8) : List UInt8 := be8 turn ++ part ++ List.replicate (48 - part.length) 0 ++ be8 turn
theorem secB_len (turn : Nat) (part : List UInt8) (h : part.length ≤ 48) : (secB turn part).length = 64 := by
  unfold secB
  simp only [List.length_append, be8_length, List.length_replicate]
  omega
def recB (b : List UInt8) : List UInt8 := [UInt8.ofNat (b.length / 65536), UInt8.ofNat (b.length / 256), UInt8.ofNat b.length] ++ b
end Go.Proofs.YtnlhjhpikjmoaaaGreatDoor
namespace Go.Proofs.YtnlhjhpikjmoaaaGreatDoor
open Go.RowKit
theorem errno_load (w : World) (g o : Nat) (v : Value) (hc : w.cell? ⟨g, o, none⟩ = some v) : (loadVar 40 ⟨g, o, none⟩).run Tryz.prog w = .ok v w := by
  have hu : Tryz.prog.underlying 40 = some (.int .i64) := by kernel_rfl
  simp [loadVar, isAgg, underlying, hu, hc, Result.andThen]
theorem append_nil (A : Option Addr) (n c : Nat) (w : World) : Calls Tryz.prog 73 #[.pointer none, .slice A n c] w fun e w' => e = .returned (.int .i64 2) ∧ Below w.heap.size w w' := by
  go_enter Tryz.func73, Tryz.ntmps73
  go_wp2
  have hB : Below w.heap.size w ((w.alloc (.cells #[.pointer none] 69)).alloc (.cells #[.int .i64 2] 40)) := ((Below.refl _ _).alloc (Nat.le_refl _) _).alloc (by simp) _
  have hk : Blk ((w.alloc (.cells #[.pointer none] 69)).alloc (.cells #[.int .i64 2] 40)) (w.heap.size + 1) 40 #[.int .i64 2] := Blk.new_ (by simp)
  have hc := hk.cell 0
  refine bodyPost_ret (v := .int .i64 2) ?_ rfl ⟨rfl, hB⟩
  have hl := errno_load _ _ _ _ hc
  simp [results, Tryz.results73, Act.put, Sem.run_bind, Sem.run_pure, asAddr_ok, hl]
end Go.Proofs.YtnlhjhpikjmoaaaGreatDoor
namespace Go.Proofs.YtnlhjhpikjmoaaaGreatDoor
open Go.RowKit
def tellB (l : LogD) (n : Nat) : List UInt8 := hdB (l.turn + 1) (l.first + n) (l.first + l.recs.length) (if h : n < l.places.length then l.places[n] else l.end_) l.end_
def secSum (rs : List (List UInt8)) : Nat := (rs.map fun r => secN r.length).sum
def tellL (l : LogD) (d : DskD) (n : Nat) : LogD × DskD × Int :=
  if d.kept.length < 3 then (l, d, 0) else
  if d.flush.2 ≠ 0 then (l, d.flush.1, d.flush.2) else
  let p := d.flush.1.write (((l.turn + 1) % 2 : Nat) : Int) (tellB l n)
  if p.2 ≠ 0 then (l, p.1, p.2) else
  if p.1.flush.2 ≠ 0 then (l, p.1.flush.1, p.1.flush.2) else
  ({ l with turn := l.turn + 1, first := l.first + n, recs := l.recs.drop n, places := l.places.drop n, used := l.used - secSum (l.recs.take n) }, p.1.flush.1, 0)
set_option maxRecDepth 100000 in
set_option maxHeartbeats 3200000 in
theorem tell_small {fl fd : Nat → Prop} {gl gd : Nat} {l : LogD} {d : DskD} {w : World} (n : Nat) (h : LogR fl w gl gd l) (hd : DiskR fd w gd d) (hs : d.kept.length < 3) :
    Calls Tryz.prog 51 #[.pointer (some ⟨gl, 0, none⟩), .int .i64 (n : Int)] w fun e w' => e = .returned (.int .i64 0) ∧ w' = w := by
  have HR := Lib.hid (ring_any h hd)
  have t1 : decide ((d.kept.length : Int) - 2 < 1) = true := decide_eq_true (by omega)
  have t2 : decide ((d.kept.length : Int) - 2 ≤ 0) = true := decide_eq_true (by omega)
  go_enter Tryz.func51, Tryz.ntmps51
  go_wp2_with fail
  refine HR.out.mono ?_
  rintro e w1 ⟨rfl, rfl⟩
  go_wp2
  go_ret
  exact ⟨rfl, rfl⟩
set_option maxRecDepth 100000 in
set_option maxHeartbeats 3200000 in
theorem tell_flush {fl fd : Nat → Prop} {gl gd : Nat} {l : LogD} {d : DskD} {w : World} (n : Nat) (h : LogR fl w gl gd l) (hd : DiskR fd w gd d) (hs : ¬ d.kept.length < 3) (hf : d.flush.2 ≠ 0) :
    Calls Tryz.prog 51 #[.pointer (some ⟨gl, 0, none⟩), .int .i64 (n : Int)] w fun e w' => e = .returned (.int .i64 d.flush.2) ∧ DiskR fd w' gd d.flush.1 ∧ Kp (fun b => ¬ fd b) w w' := by
  have HR := Lib.hid (ring_any h hd)
  have HF := Lib.hid (dFlush_any hd)
  obtain ⟨vr, vp, hb, _⟩ := h
  have c0 : w.cell? ⟨gl, 0, none⟩ = some (.pointer (some ⟨gd, 0, none⟩)) := hb.cell 0
  have t1 : decide ((d.kept.length : Int) - 2 < 1) = false := decide_eq_false (by omega)
  have t2 : decide ((d.kept.length : Int) - 2 ≤ 0) = false := decide_eq_false (by omega)
  obtain ⟨E, hE⟩ : ∃ E, E = d.flush.2 := ⟨_, rfl⟩
  rw [← hE] at HF hf
  rw [← hE]
  have t3 : (E == 0) = false := by simpa using hf
  have t4 : decide (E = 0) = false := decide_eq_false hf
  clear hb hE hd
  go_enter Tryz.func51, Tryz.ntmps51
  go_wp2_with fail
  refine HR.out.mono ?_
  rintro e w1 ⟨rfl, rfl⟩
  go_wp2_with fail
  refine HF.out.mono ?_
  rintro e w2 ⟨rfl, hd2, hK2⟩
  go_wp2
  go_ret
  exact ⟨rfl, hd2, hK2⟩
end Go.Proofs.YtnlhjhpikjmoaaaGreatDoor
namespace Go.Proofs.YtnlhjhpikjmoaaaGreatDoor
open Go.RowKit
theorem Tryz.infoU8z : (Tryz.prog.info? 5).map (fun i => (i.zero, i.size, i.bytes)) = some (some (.int .u8 0), 1, 1) := by kernel_rfl
theorem made_bytes (n : Nat) : madeCells #[.int .u8 0] (n * 1) = (bs (List.replicate n 0)).toArray := by
  apply Array.ext
  · simp [madeCells, bs]
  · intro i h1 h2
    simp [madeCells, bs, Nat.mod_one]
theorem make64 (w : World) : (Instr.makeSlice 25 (.int .i64 64) (.int .i64 64)).run Tryz.prog w = .ok (.slice (some ⟨w.heap.size, 0, none⟩) 64 64) (w.alloc (.cells (bs (List.replicate 64 0)).toArray 5)) := by
  obtain ⟨i, hi, hz, hs, hb⟩ := info_parts Tryz.infoU8z
  have hm := run_make (P := Tryz.prog) w 25 5 i _ Tryz.underlying25 hi hz .i64 .i64 64 64 (by omega) (Int.le_refl _) (by rw [hb]; omega) (by omega)
  rw [hm, hs, ← made_bytes]
  rfl
theorem putN_len {l : List UInt8} {off v : Nat} (h : off + 8 ≤ l.length) : (putN l off v).length = l.length := by
  unfold putN
  rw [List.length_append, List.length_append, be8_length, List.length_take, List.length_drop]
  omega
theorem LogR.mono {ft ft' : Nat → Prop} {w : World} {gl gd : Nat} {l : LogD} (h : LogR ft w gl gd l) (hm : ∀ b, ft b → b < w.heap.size → ft' b) : LogR ft' w gl gd l := by
  obtain ⟨vr, vp, h1, h2, h3, h4, h5, h6, h7, h8, h9, h10⟩ := h
  have hl2 := fun b hb => (h2.lt b hb).2
  have hl3 := fun b hb => (h3.lt b hb).2
  obtain ⟨css, ho, hch⟩ := h2
  exact ⟨vr, vp, h1, ⟨css, ho, hch.mono fun b hb hlt => ⟨⟨hm _ hb.1.1 hlt, hb.1.2⟩, hb.2⟩⟩, h3, h4, h5, h6, hm _ h7 h1.lt, fun b hb => hm _ (h8 b hb) (hl2 b hb), fun b hb => hm _ (h9 b hb) (hl3 b hb), h10⟩
end Go.Proofs.YtnlhjhpikjmoaaaGreatDoor
