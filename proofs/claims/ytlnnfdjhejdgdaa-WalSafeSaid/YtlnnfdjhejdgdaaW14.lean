/- Contract: wal.readHead. -/
import Derived.Test.YtlnnfdjhejdgdaaW13
namespace Go.Proofs.Ytlnnfdjhejdgdaa
open Go.RowKit

structure HeadD where
  turn : Nat
  first : Nat
  next : Nat
  start : Nat
  end_ : Nat
def hdCs (h : HeadD) : Array Value := #[.int .u64 (h.turn : Int), .int .u64 (h.first : Int), .int .u64 (h.next : Int), .int .u64 (h.start : Int), .int .u64 (h.end_ : Int)]
theorem Try.infoHead : (Try.prog.info? 66).map (·.size) = some 5 := by kernel_rfl
theorem hd_all (h : HeadD) : (hdCs h).all (·.oneCell') = true := by simp [hdCs, Value.oneCell']
def rdN (b : List UInt8) (k : Nat) : Nat := beNat ((b.drop k).take 8)
def readH (b : List UInt8) : HeadD := ⟨rdN b 0, rdN b 8, rdN b 16, rdN b 24, rdN b 32⟩
theorem take_at {bb off n c k : Nat} (lb : List UInt8) (w : World) (hcell : ∀ j (h : j < lb.length), w.cell? ⟨bb, off + j, none⟩ = some (.int .u8 ((lb[j]).toNat : Int))) (hk : k + 8 ≤ lb.length) (hn : 8 ≤ n) (hc : n ≤ c) :
    Calls Try.prog 51 #[.slice (some ⟨bb, off + k, none⟩) n c] w fun e w' => e = .returned (.int .u64 ((rdN lb k : Nat) : Int)) ∧ w' = w :=
  wtake_any bb (off + k) n c (lb.drop k) w (fun j h _ => by
    have hj : k + j < lb.length := by rw [List.length_drop] at h; omega
    rw [Nat.add_assoc, hcell (k + j) hj, List.getElem_drop]) (by rw [List.length_drop]; omega) hn hc
set_option maxRecDepth 100000 in
set_option maxHeartbeats 6400000 in
theorem readHead_any (bb off c : Nat) (lb : List UInt8) (w : World) (h64 : lb.length = 64) (hc : 64 ≤ c) (hcell : ∀ j (h : j < lb.length), w.cell? ⟨bb, off + j, none⟩ = some (.int .u8 ((lb[j]).toNat : Int))) :
    Calls Try.prog 30 #[.slice (some ⟨bb, off, none⟩) 64 c] w fun e w' => e = .returned (.tuple #[.agg (hdCs (readH lb)), .bool (((rdN lb 0 : Nat) : Int) == ((rdN lb 56 : Nat) : Int))]) ∧ Below w.heap.size w w' := by
  have hbl : bb < w.heap.size := World.block_lt_of_cell? w ⟨bb, off + 0, none⟩ (hcell 0 (by omega))
  have HCW := Lib.hid (fun (w' : World) (hb : Below w.heap.size w w') j (h : j < lb.length) => (hb.cell (p := ⟨bb, off + j, none⟩) hbl).trans (hcell j h))
  clear hcell
  go_enter Try.func30, Try.ntmps30
  go_upto_region 1 with fail
  refine name_world (fun w1 => Below w.heap.size w w1 ∧ w.heap.size < w1.heap.size ∧ Blk w1 w.heap.size 66 #[.int .u64 0, .int .u64 0, .int .u64 0, .int .u64 0, .int .u64 0]) ⟨(Below.refl _ _).alloc (Nat.le_refl _) _, by simp, Blk.new _ _ _⟩ ?_
  rintro w1 ⟨hB1, hz1, k1⟩
  refine wp_seqV (fun _ => False) 16 [1, 4, 7, 10, 13, 16] [15] (by as_aux_lemma => kernel_rfl) (by as_aux_lemma => kernel_rfl) fun w4 hb4 => ?_
  refine seqV_pre 1 (by kernel_rfl) ?_
  simp only [List.take_succ_cons, List.take_zero, List.drop_succ_cons, List.drop_zero]
  repeat (go_big_quiet_step (fail))
  refine wpQuiet_nil ?_
  refine seqV_new hb4 rfl rfl fun w5 hb5 hB5 K hK => ?_
  unfold Gives
  go_simp
  refine (take_at (k := 0) lb w5 (HCW.out _ (hB1.trans (hB5.mono hB1.size))) (by omega) (by omega) hc).mono ?_
  rintro e w6 ⟨rfl, rfl⟩
  refine ⟨_, rfl, hK _ _ ((Below.refl _ _)) fun hB6 => ?_⟩
  clear hK
  clear K
  simp only [Act.put, List.setIfInBounds_toArray, List.set_cons_succ, List.set_cons_zero]
  refine seqV_pre 2 (by kernel_rfl) ?_
  simp only [List.take_succ_cons, List.take_zero, List.drop_succ_cons, List.drop_zero]
  repeat (go_big_quiet_step (fail))
  refine wpQuiet_nil ?_
  refine seqV_new hB6 rfl rfl fun w7 hb7 hB7 K hK => ?_
  unfold Gives
  go_simp
  refine (take_at (k := 8) lb w7 (HCW.out _ (hB1.trans (hB7.mono hB1.size))) (by omega) (by omega) (by omega)).mono ?_
  rintro e w8 ⟨rfl, rfl⟩
  refine ⟨_, rfl, hK _ _ ((Below.refl _ _)) fun hB8 => ?_⟩
  clear hK
  clear K
  simp only [Act.put, List.setIfInBounds_toArray, List.set_cons_succ, List.set_cons_zero]
  refine seqV_pre 2 (by kernel_rfl) ?_
  simp only [List.take_succ_cons, List.take_zero, List.drop_succ_cons, List.drop_zero]
  repeat (go_big_quiet_step (fail))
  refine wpQuiet_nil ?_
  refine seqV_new hB8 rfl rfl fun w9 hb9 hB9 K hK => ?_
  unfold Gives
  go_simp
  refine (take_at (k := 16) lb w9 (HCW.out _ (hB1.trans (hB9.mono hB1.size))) (by omega) (by omega) (by omega)).mono ?_
  rintro e w10 ⟨rfl, rfl⟩
  refine ⟨_, rfl, hK _ _ ((Below.refl _ _)) fun hB10 => ?_⟩
  clear hK
  clear K
  simp only [Act.put, List.setIfInBounds_toArray, List.set_cons_succ, List.set_cons_zero]
  refine seqV_pre 2 (by kernel_rfl) ?_
  simp only [List.take_succ_cons, List.take_zero, List.drop_succ_cons, List.drop_zero]
  repeat (go_big_quiet_step (fail))
  refine wpQuiet_nil ?_
  refine seqV_new hB10 rfl rfl fun w11 hb11 hB11 K hK => ?_
  unfold Gives
  go_simp
  refine (take_at (k := 24) lb w11 (HCW.out _ (hB1.trans (hB11.mono hB1.size))) (by omega) (by omega) (by omega)).mono ?_
  rintro e w12 ⟨rfl, rfl⟩
  refine ⟨_, rfl, hK _ _ ((Below.refl _ _)) fun hB12 => ?_⟩
  clear hK
  clear K
  simp only [Act.put, List.setIfInBounds_toArray, List.set_cons_succ, List.set_cons_zero]
  refine seqV_pre 2 (by kernel_rfl) ?_
  simp only [List.take_succ_cons, List.take_zero, List.drop_succ_cons, List.drop_zero]
  repeat (go_big_quiet_step (fail))
  refine wpQuiet_nil ?_
  refine seqV_new hB12 rfl rfl fun w13 hb13 hB13 K hK => ?_
  unfold Gives
  go_simp
  refine (take_at (k := 32) lb w13 (HCW.out _ (hB1.trans (hB13.mono hB1.size))) (by omega) (by omega) (by omega)).mono ?_
  rintro e w14 ⟨rfl, rfl⟩
  refine ⟨_, rfl, hK _ _ ((Below.refl _ _)) fun hB14 => ?_⟩
  clear hK
  clear K
  simp only [Act.put, List.setIfInBounds_toArray, List.set_cons_succ, List.set_cons_zero]
  refine seqV_pre 1 (by kernel_rfl) ?_
  simp only [List.take_succ_cons, List.take_zero, List.drop_succ_cons, List.drop_zero]
  repeat (go_big_quiet_step (fail))
  refine wpQuiet_nil ?_
  refine seqV_lay (fun g => .pointer (some ⟨g, 0, none⟩)) 66 #[.int .u64 0, .int .u64 0, .int .u64 0, .int .u64 0, .int .u64 0] rfl rfl (fun s => by go_simp <;> rfl) fun gb wl hgl hMl kl hbl => ?_
  simp only [Act.put, List.setIfInBounds_toArray, List.set_cons_succ, List.set_cons_zero]
  have hBl := hB14.trans (hbl.mono hB14.size)
  refine seqV_chg (Kp.ofBelow hBl) rfl rfl fun K hK => ?_
  refine gives_st (k := 0) rfl (hdCs (readH lb)) rfl rfl kl (Nat.le_refl _) Try.infoHead (hd_all _) ?_
  have kb8 := kl.setCells (hdCs (readH lb)) rfl
  refine hK _ _ ((Kp.setCells (a := wl) (b := gb) (fun _ => keep_not hgl (.inr rfl)) (hdCs (readH lb)).toList 0 (Kp.refl _ _))) fun hK8 => ?_
  clear hK
  clear K
  simp only [Act.put, List.setIfInBounds_toArray, List.set_cons_succ, List.set_cons_zero]
  generalize hwr : World.setCells wl gb 0 (hdCs (readH lb)).toList = w8 at kb8 hK8 ⊢
  clear hwr
  refine seqV_nil ?_
  have hB8 := hB1.trans (hK8.toBelow.mono hB1.size)
  have k18 := k1.below hK8.toBelow k1.lt
  have hgne : gb ≠ w.heap.size := by have := k1.lt; omega
  have l0 : ∀ s : LaterB w8 (fun b => b = w.heap.size), s.val.cell? ⟨gb, 0, none⟩ = some (.int .u64 ((rdN lb 0 : Nat) : Int)) := LaterB.cell (kb8.cell 0) hgne
  go_upto_region 2 with fail
  refine wp_seqB (fun b => b = w.heap.size) 7 [5, 7] (by as_aux_lemma => kernel_rfl) (by as_aux_lemma => kernel_rfl) fun wa hba => ?_
  refine seqB_still (.agg (hdCs (readH lb))) rfl rfl (fun s => still_ld (g := gb) (k := 0) rfl rfl (kb8.kp s.kp hgne).range Try.underlying66 rfl Try.infoHead) ?_
  simp only [Act.put, List.setIfInBounds_toArray, List.set_cons_succ, List.set_cons_zero]
  refine seqB_pre 4 (by kernel_rfl) ?_
  simp only [List.take_succ_cons, List.take_zero, List.drop_succ_cons, List.drop_zero]
  repeat (go_big_quiet_step (fail))
  refine wpQuiet_nil ?_
  refine seqB_wild0 hba rfl rfl fun K hK => ?_
  unfold Gives
  go_simp
  refine (take_at (k := 56) lb wa (HCW.out _ (hB8.trans (hba.mono hB8.size))) (by omega) (by omega) (by omega)).mono ?_
  rintro e wb ⟨rfl, rfl⟩
  refine ⟨_, rfl, hK _ _ ((Below.refl _ _)) fun hbb => ?_⟩
  clear hK
  clear K
  simp only [Act.put, List.setIfInBounds_toArray, List.set_cons_succ, List.set_cons_zero]
  refine seqB_pre 1 (by kernel_rfl) ?_
  simp only [List.take_succ_cons, List.take_zero, List.drop_succ_cons, List.drop_zero]
  repeat (go_big_quiet_step (fail))
  refine wpQuiet_nil ?_
  have k1b := k18.below hbb k18.lt
  refine seqB_wild (Kp.of_below hbb) rfl rfl fun K hK => ?_
  refine gives_st (k := 0) rfl (hdCs (readH lb)) rfl rfl k1b (Nat.le_refl _) Try.infoHead (hd_all _) ?_
  have k1c := k1b.setCells (hdCs (readH lb)) rfl
  have hst := Kp.setCells (ok := fun b => ¬ b = w.heap.size) (a := wb) (b := w.heap.size) (fun _ hh => hh rfl) (hdCs (readH lb)).toList 0 (Kp.refl _ _)
  have hBc := below_setCells (B := w.heap.size) (b := w.heap.size) (Nat.le_refl _) (hdCs (readH lb)).toList 0 (hB8.trans (hbb.mono hB8.size))
  generalize hwr : World.setCells wb w.heap.size 0 (hdCs (readH lb)).toList = wc at k1c hst hBc ⊢
  clear hwr
  refine hK _ _ (hst) fun hKc => ?_
  clear hK
  clear K
  simp only [Act.put, List.setIfInBounds_toArray, List.set_cons_succ, List.set_cons_zero]
  refine seqB_pre 1 (by kernel_rfl) ?_
  simp only [List.take_succ_cons, List.take_zero, List.drop_succ_cons, List.drop_zero]
  repeat (go_big_quiet_step (fail))
  refine wpQuiet_nil ?_
  refine seqB_nil ?_
  have lv := k1c.loadVar (P := Try.prog) Try.underlying66 rfl Try.infoHead
  clear l0
  go_wp2
  refine bodyPost_ret (v := .tuple #[.agg (hdCs (readH lb)), .bool (((rdN lb 0 : Nat) : Int) == ((rdN lb 56 : Nat) : Int))]) ?_ rfl ⟨rfl, hBc⟩
  simp [results, Try.results30, Act.put, Sem.run_bind, Sem.run_pure, asAddr_ok, lv]
end Go.Proofs.Ytlnnfdjhejdgdaa
