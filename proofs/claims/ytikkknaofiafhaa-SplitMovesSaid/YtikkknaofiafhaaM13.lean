/- Contracts: (*Shard).Run at the kinds that law 22 asks for. -/
import Derived.Test.YtikkknaofiafhaaM12
import Derived.Test.YtikkknaofiafhaaP12
namespace Go.Proofs.Ytikkknaofiafhaa
open Go.RowKit

theorem ShTook.carry {g : Nat} {o1 o2 l T over f1 f2 gone : Value} {n : Int} {f t : List UInt8} {ps : List PairD} {E : Int} {w w1 w2 wz : World} (h : ShTook g o1 o2 l T over f1 f2 gone n f t ps E w1 w2) (hK : Kp (fun b => b ≠ w.heap.size + 1) w2 wz) (hg : w.heap.size + 1 ≠ g) (hz : w.heap.size + 2 ≤ w1.heap.size) : ShTook g o1 o2 l T over f1 f2 gone n f t ps E w wz := by
  unfold ShTook at h ⊢
  split
  · rename_i hE
    rw [if_pos hE] at h
    obtain ⟨v1, v2, vl, L, m, h1, h2, h3, h4, h5⟩ := h
    exact ⟨v1, v2, vl, L, m, h1, h2.kp hK hg.symm, ((h3.mono (ok' := fun b => w.heap.size + 2 ≤ b) (by decide) fun b h _ => Nat.le_trans hz h).kp (hK.mono fun b h => by intro e; omega)).mono (by decide) (fun b h _ => by omega),
      ((h4.mono (ok' := fun b => w.heap.size + 2 ≤ b) (by decide) fun b h _ => Nat.le_trans hz h).kp (hK.mono fun b h => by intro e; omega)).mono (by decide) (fun b h _ => by omega), ((h5.mono (ok' := fun b => w.heap.size + 2 ≤ b) (by decide) fun b h _ => Nat.le_trans hz h).kp (hK.mono fun b h => by intro e; omega)).mono (by decide) (fun b h _ => by omega)⟩
  · rename_i hE
    rw [if_neg hE] at h
    exact h.kp hK hg.symm
theorem ShGave.carry {ok : Nat → Prop} {g : Nat} {o1 o2 l T over f1 f2 gone : Value} {n : Int} {k lu : List UInt8} {ls : List PairD} {E : Int} {w w1 w2 wz : World} (h : ShGave (fun b => ok b ∧ b < w.heap.size) g o1 o2 l T over f1 f2 gone n k lu ls E w1 w2) (hK : Kp (fun b => b ≠ w.heap.size + 1) w2 wz) (hg : w.heap.size + 1 ≠ g) (hz : w.heap.size + 2 ≤ w1.heap.size) : ShGave ok g o1 o2 l T over f1 f2 gone n k lu ls E w wz := by
  unfold ShGave at h ⊢
  split
  · rename_i hE
    rw [if_pos hE] at h
    obtain ⟨o2', l', f1', f2', gone', h1, h2, h3⟩ := h
    exact ⟨o2', l', f1', f2', gone', h1.kp hK hg.symm, ((h2.mono (ok' := fun b => w.heap.size + 2 ≤ b) (by decide) fun b h _ => Nat.le_trans hz h).kp (hK.mono fun b h => by intro e; omega)).mono (by decide) (fun b h _ => by omega),
      ((h3.mono (ok' := fun b => (ok b ∧ b < w.heap.size) ∨ w.heap.size + 2 ≤ b) (by decide) fun b h _ => h.imp id fun h => Nat.le_trans hz h).kp (hK.mono fun b h => by intro e; exact h.elim (fun h => by omega) fun h => by omega)).mono (by decide) fun b h _ => h.elim (fun h => .inl h.1) fun h => .inr (by omega)⟩
  · rename_i hE
    rw [if_neg hE] at h
    exact h.kp hK hg.symm

set_option maxRecDepth 100000 in
set_option maxHeartbeats 12800000 in
theorem runPrep_any {ok ok2 : Nat → Prop} (g : Nat) (o1 o2 l f1 f2 gone ws : Value) (n : Int) (lf lu k : List UInt8) (C : Array Value) (w : World) (hg : Blk w g 90 (shCs o1 o2 l nl n nl f1 f2 gone)) (h1 : RB ok w o1 lf) (h2 : RB ok w o2 lu) (c2 : C[2]? = some (.int .u64 9)) (c10 : C[10]? = some nl) (c11 : C[11]? = some nl) (c12 : C[12]? = some ws) (hw : RSl rWr ok2 w ws [k]) (hC : C.size = 25) (c0 : C[0]? = some (.int .i64 3)) :
    Calls Try.prog 37 #[.pointer (some ⟨g, 0, none⟩), .agg C] w fun e w' => e = .returned (.agg (repCs (preE lf lu k) nl)) ∧ Kp (fun b => b ≠ g) w w' ∧ ShPre g o1 o2 l f1 f2 gone n (preE lf lu k) k w w' := by
  have hgl := hg.lt
  go_enter Try.func37, Try.ntmps37
  go_upto_region 1 with fail
  refine name_world (fun w1 => Below w.heap.size w w1 ∧ w.heap.size + 2 ≤ w1.heap.size ∧ Blk w1 w.heap.size 60 C ∧ Blk w1 (w.heap.size + 1) 70 (repCs 0 nl))
    ⟨((Below.refl _ _).alloc (Nat.le_refl _) _).alloc (by simp) _, by simp, (Blk.new w _ _).alloc _, Blk.new_ (by simp)⟩ ?_
  rintro w1 ⟨hB1, hz1, k1, k4⟩
  have kg := hg.below hB1 hgl
  have q0 : w1.cell? ⟨w.heap.size, 0, none⟩ = some (.int .i64 3) := (k1.cell 0).trans c0
  go_upto_region 7 with fail
  clear q0
  refine wp_region_split 1 ?_
  simp only [List.take_succ_cons, List.take_zero, List.drop_succ_cons, List.drop_zero]
  go_wp2
  show wpList _ _ _ _ _ _
  refine wpList_loadG rfl rfl rfl k1 Try.underlying60 rfl (by rw [hC]; exact Try.infoCmd) ?_
  simp only [Act.put, List.setIfInBounds_toArray, List.set_cons_succ, List.set_cons_zero]
  refine wpList_split 1 ?_
  simp only [List.take_succ_cons, List.take_zero, List.drop_succ_cons, List.drop_zero]
  go_wp2_with fail
  refine (shPrep_any g o1 o2 l f1 f2 gone ws n lf lu k C _ kg (h1.below hB1) (h2.below hB1) hC c2 c10 c11 c12 (hw.below hB1)).mono ?_
  rintro e w2 ⟨rfl, hk2, T, kg2, hT2⟩
  have k4r := k4.kp hk2 (show w.heap.size + 1 ≠ g by omega)
  have hz2 := Nat.le_trans hz1 hk2.size
  have hK2 := (Kp.of_below hB1 (ok := fun b => b ≠ g)).trans hk2
  go_wp2
  show wpList _ _ _ _ _ _
  refine wpList_split 1 ?_
  simp only [List.take_succ_cons, List.take_zero, List.drop_succ_cons, List.drop_zero]
  go_wp2
  show wpList _ _ _ _ _ _
  refine wpList_storeB rfl rfl (repCs (preE lf lu k) nl) rfl rfl k4r rfl Try.infoRep (repCs_one rfl) ?_
  intro k4s
  have lv := Blk.loadVar k4s Try.underlying70 rfl Try.infoRep
  have hKr := Kp.setCells (ok := fun b => b ≠ g) (a := w) (b := w.heap.size + 1) (fun h => by omega) ((repCs (preE lf lu k) nl)).toList 0 hK2
  have hKz := Kp.setCells (ok := fun b => b ≠ w.heap.size + 1) (a := w2) (b := w.heap.size + 1) (fun _ h => h rfl) ((repCs (preE lf lu k) nl)).toList 0 (Kp.refl _ _)
  generalize hwr : World.setCells w2 (w.heap.size + 1) 0 ((repCs (preE lf lu k) nl)).toList = wz at k4s lv hKr hKz ⊢
  clear hwr
  have hgz : w.heap.size + 1 ≠ g := by omega
  go_wp2
  refine bodyPost_ret (v := .agg ((repCs (preE lf lu k) nl))) ?_ rfl ?_
  · simp [results, Try.results37, Act.put, Sem.run_bind, Sem.run_pure, asAddr_ok, lv]
  · exact ⟨rfl, hKr, _, kg2.kp hKz hgz.symm, ((hT2.mono (ok' := fun b => w.heap.size + 2 ≤ b) (by decide) fun b h _ => Nat.le_trans hz1 h).kp (hKz.mono fun b h => by intro e; omega)).mono (by decide) fun b h _ => by omega⟩

set_option maxRecDepth 100000 in
set_option maxHeartbeats 12800000 in
theorem runRes_any {ok : Nat → Prop} (g : Nat) (o1 o2 l vT f1 f2 gone : Value) (n : Int) (h : Option (List UInt8)) (C : Array Value) (w : World) (hg : Blk w g 90 (shCs o1 o2 l vT n nl f1 f2 gone)) (hT : RSl rHe ok w vT h.toList) (c2 : C[2]? = some (.int .u64 9)) (c6 : C[6]? = some (.bool false)) (hC : C.size = 25) (c0 : C[0]? = some (.int .i64 4)) :
    Calls Try.prog 37 #[.pointer (some ⟨g, 0, none⟩), .agg C] w fun e w' => (∃ R, e = .returned (.agg R)) ∧ Kp (fun b => b ≠ g) w w' ∧ ∃ over, Blk w' g 90 (shCs o1 o2 l nl n over f1 f2 gone) := by
  have hgl := hg.lt
  go_enter Try.func37, Try.ntmps37
  go_upto_region 1 with fail
  refine name_world (fun w1 => Below w.heap.size w w1 ∧ w.heap.size + 2 ≤ w1.heap.size ∧ Blk w1 w.heap.size 60 C ∧ Blk w1 (w.heap.size + 1) 70 (repCs 0 nl))
    ⟨((Below.refl _ _).alloc (Nat.le_refl _) _).alloc (by simp) _, by simp, (Blk.new w _ _).alloc _, Blk.new_ (by simp)⟩ ?_
  rintro w1 ⟨hB1, hz1, k1, k4⟩
  have kg := hg.below hB1 hgl
  have q0 : w1.cell? ⟨w.heap.size, 0, none⟩ = some (.int .i64 4) := (k1.cell 0).trans c0
  go_upto_region 9 with fail
  clear q0
  refine wp_region_split 1 ?_
  simp only [List.take_succ_cons, List.take_zero, List.drop_succ_cons, List.drop_zero]
  go_wp2
  show wpList _ _ _ _ _ _
  refine wpList_loadG rfl rfl rfl k1 Try.underlying60 rfl (by rw [hC]; exact Try.infoCmd) ?_
  simp only [Act.put, List.setIfInBounds_toArray, List.set_cons_succ, List.set_cons_zero]
  refine wpList_split 1 ?_
  simp only [List.take_succ_cons, List.take_zero, List.drop_succ_cons, List.drop_zero]
  go_wp2_with fail
  refine (shRes_any g o1 o2 l vT f1 f2 gone n h C _ kg (hT.below hB1) hC c2 c6).mono ?_
  rintro e w2 ⟨rfl, hk2, over, kg2⟩
  have k4r := k4.kp hk2 (show w.heap.size + 1 ≠ g by omega)
  have hz2 := Nat.le_trans hz1 hk2.size
  have hK2 := (Kp.of_below hB1 (ok := fun b => b ≠ g)).trans hk2
  go_wp2
  show wpList _ _ _ _ _ _
  refine wpList_split 1 ?_
  simp only [List.take_succ_cons, List.take_zero, List.drop_succ_cons, List.drop_zero]
  go_wp2
  show wpList _ _ _ _ _ _
  refine wpList_storeB rfl rfl (repCs 0 nl) rfl rfl k4r rfl Try.infoRep (repCs_one rfl) ?_
  intro k4s
  have lv := Blk.loadVar k4s Try.underlying70 rfl Try.infoRep
  have hKr := Kp.setCells (ok := fun b => b ≠ g) (a := w) (b := w.heap.size + 1) (fun h => by omega) ((repCs 0 nl)).toList 0 hK2
  have hKz := Kp.setCells (ok := fun b => b ≠ w.heap.size + 1) (a := w2) (b := w.heap.size + 1) (fun _ h => h rfl) ((repCs 0 nl)).toList 0 (Kp.refl _ _)
  generalize hwr : World.setCells w2 (w.heap.size + 1) 0 ((repCs 0 nl)).toList = wz at k4s lv hKr hKz ⊢
  clear hwr
  have hgz : w.heap.size + 1 ≠ g := by omega
  go_wp2
  refine bodyPost_ret (v := .agg ((repCs 0 nl))) ?_ rfl ?_
  · simp [results, Try.results37, Act.put, Sem.run_bind, Sem.run_pure, asAddr_ok, lv]
  · exact ⟨⟨_, rfl⟩, hKr, _, kg2.kp hKz hgz.symm⟩

set_option maxRecDepth 100000 in
set_option maxHeartbeats 12800000 in
theorem runTake_any {ok ok2 : Nat → Prop} (g : Nat) (o1 o2 l T over f1 f2 gone fr ut pv : Value) (n : Int) (lf lu f t : List UInt8) (ps : List PairD) (C : Array Value) (w : World) (hg : Blk w g 90 (shCs o1 o2 l T n over f1 f2 gone)) (h1 : RB ok w o1 lf) (h2 : RB ok w o2 lu) (c8 : C[8]? = some fr) (c9 : C[9]? = some ut) (c10 : C[10]? = some pv) (h3 : RB ok2 w fr f) (h4 : RB ok2 w ut t) (h5 : RSl rPair ok2 w pv ps) (hps : ps.length ≤ 1000) (hok2 : ∀ b, ok2 b → b ≠ g) (hC : C.size = 25) (c0 : C[0]? = some (.int .i64 6)) :
    Calls Try.prog 37 #[.pointer (some ⟨g, 0, none⟩), .agg C] w fun e w' => e = .returned (.agg (repCs (takeE lf lu f t ps) nl)) ∧ Kp (fun b => b ≠ g) w w' ∧ ShTook g o1 o2 l T over f1 f2 gone n f t ps (takeE lf lu f t ps) w w' := by
  have hgl := hg.lt
  go_enter Try.func37, Try.ntmps37
  go_upto_region 1 with fail
  refine name_world (fun w1 => Below w.heap.size w w1 ∧ w.heap.size + 2 ≤ w1.heap.size ∧ Blk w1 w.heap.size 60 C ∧ Blk w1 (w.heap.size + 1) 70 (repCs 0 nl))
    ⟨((Below.refl _ _).alloc (Nat.le_refl _) _).alloc (by simp) _, by simp, (Blk.new w _ _).alloc _, Blk.new_ (by simp)⟩ ?_
  rintro w1 ⟨hB1, hz1, k1, k4⟩
  have kg := hg.below hB1 hgl
  have q0 : w1.cell? ⟨w.heap.size, 0, none⟩ = some (.int .i64 6) := (k1.cell 0).trans c0
  go_upto_region 13 with fail
  clear q0
  refine wp_region_split 1 ?_
  simp only [List.take_succ_cons, List.take_zero, List.drop_succ_cons, List.drop_zero]
  go_wp2
  show wpList _ _ _ _ _ _
  refine wpList_loadG rfl rfl rfl k1 Try.underlying60 rfl (by rw [hC]; exact Try.infoCmd) ?_
  simp only [Act.put, List.setIfInBounds_toArray, List.set_cons_succ, List.set_cons_zero]
  refine wpList_split 1 ?_
  simp only [List.take_succ_cons, List.take_zero, List.drop_succ_cons, List.drop_zero]
  go_wp2_with fail
  refine (shTake_any g o1 o2 l T over f1 f2 gone fr ut pv n lf lu f t ps C _ kg (h1.below hB1) (h2.below hB1) hC c8 c9 c10 (h3.below hB1) (h4.below hB1) (h5.below hB1) hps hok2).mono ?_
  rintro e w2 ⟨rfl, hk2, hS⟩
  have k4r := k4.kp hk2 (show w.heap.size + 1 ≠ g by omega)
  have hz2 := Nat.le_trans hz1 hk2.size
  have hK2 := (Kp.of_below hB1 (ok := fun b => b ≠ g)).trans hk2
  go_wp2
  show wpList _ _ _ _ _ _
  refine wpList_split 1 ?_
  simp only [List.take_succ_cons, List.take_zero, List.drop_succ_cons, List.drop_zero]
  go_wp2
  show wpList _ _ _ _ _ _
  refine wpList_storeB rfl rfl (repCs (takeE lf lu f t ps) nl) rfl rfl k4r rfl Try.infoRep (repCs_one rfl) ?_
  intro k4s
  have lv := Blk.loadVar k4s Try.underlying70 rfl Try.infoRep
  have hKr := Kp.setCells (ok := fun b => b ≠ g) (a := w) (b := w.heap.size + 1) (fun h => by omega) ((repCs (takeE lf lu f t ps) nl)).toList 0 hK2
  have hKz := Kp.setCells (ok := fun b => b ≠ w.heap.size + 1) (a := w2) (b := w.heap.size + 1) (fun _ h => h rfl) ((repCs (takeE lf lu f t ps) nl)).toList 0 (Kp.refl _ _)
  generalize hwr : World.setCells w2 (w.heap.size + 1) 0 ((repCs (takeE lf lu f t ps) nl)).toList = wz at k4s lv hKr hKz ⊢
  clear hwr
  have hgz : w.heap.size + 1 ≠ g := by omega
  go_wp2
  refine bodyPost_ret (v := .agg ((repCs (takeE lf lu f t ps) nl))) ?_ rfl ?_
  · simp [results, Try.results37, Act.put, Sem.run_bind, Sem.run_pure, asAddr_ok, lv]
  · exact ⟨rfl, hKr, hS.carry hKz hgz hz1⟩

set_option maxRecDepth 100000 in
set_option maxHeartbeats 12800000 in
theorem runGive_any {ok ok2 : Nat → Prop} (g : Nat) (o1 o2 l vT over f1 f2 gone kv : Value) (n : Int) (lf lu k : List UInt8) (h : Option (List UInt8)) (ls : List PairD) (C : Array Value) (w : World) (hg : Blk w g 90 (shCs o1 o2 l vT n over f1 f2 gone)) (h1 : RB ok w o1 lf) (h2 : RB ok w o2 lu) (hl : RSl rPair ok w l ls) (hT : RSl rHe ok w vT h.toList) (hls : ls.length ≤ 1000) (hok : ∀ b, ok b → b ≠ g) (c7 : C[7]? = some kv) (hk : RB ok2 w kv k) (hok2 : ∀ b, ok2 b → b ≠ g) (hC : C.size = 25) (c0 : C[0]? = some (.int .i64 5)) :
    Calls Try.prog 37 #[.pointer (some ⟨g, 0, none⟩), .agg C] w fun e w' => GivePost ok g o1 o2 l vT over f1 f2 gone n k lu ls (giveE lf lu k h ls) w e w' := by
  have hgl := hg.lt
  have hl0 : RSl rPair (fun b => ok b ∧ b < w.heap.size) w l ls := hl.mono (by decide) fun b h h2 => ⟨h, h2⟩
  have h10 := h1.mono (ok' := fun b => ok b ∧ b < w.heap.size) (by decide) fun b h h2 => ⟨h, h2⟩
  have h20 := h2.mono (ok' := fun b => ok b ∧ b < w.heap.size) (by decide) fun b h h2 => ⟨h, h2⟩
  have hT0 := hT.mono (ok' := fun b => ok b ∧ b < w.heap.size) (by decide) fun b h h2 => ⟨h, h2⟩
  go_enter Try.func37, Try.ntmps37
  go_upto_region 1 with fail
  refine name_world (fun w1 => Below w.heap.size w w1 ∧ w.heap.size + 2 ≤ w1.heap.size ∧ Blk w1 w.heap.size 60 C ∧ Blk w1 (w.heap.size + 1) 70 (repCs 0 nl))
    ⟨((Below.refl _ _).alloc (Nat.le_refl _) _).alloc (by simp) _, by simp, (Blk.new w _ _).alloc _, Blk.new_ (by simp)⟩ ?_
  rintro w1 ⟨hB1, hz1, k1, k4⟩
  have kg := hg.below hB1 hgl
  have q0 : w1.cell? ⟨w.heap.size, 0, none⟩ = some (.int .i64 5) := (k1.cell 0).trans c0
  go_upto_region 11 with fail
  clear q0
  refine wp_region_split 1 ?_
  simp only [List.take_succ_cons, List.take_zero, List.drop_succ_cons, List.drop_zero]
  go_wp2
  show wpList _ _ _ _ _ _
  refine wpList_loadG rfl rfl rfl k1 Try.underlying60 rfl (by rw [hC]; exact Try.infoCmd) ?_
  simp only [Act.put, List.setIfInBounds_toArray, List.set_cons_succ, List.set_cons_zero]
  refine wpList_split 1 ?_
  simp only [List.take_succ_cons, List.take_zero, List.drop_succ_cons, List.drop_zero]
  go_wp2_with fail
  refine (shGive_any (ok := fun b => ok b ∧ b < w.heap.size) g o1 o2 l vT over f1 f2 gone kv n lf lu k h ls C _ kg (h10.below hB1) (h20.below hB1) (hl0.below hB1) (hT0.below hB1) hls (fun b hb => hok b hb.1) hC c7 (hk.below hB1) hok2).mono ?_
  rintro e w2 ⟨⟨R, rfl, hR1, hR⟩, hk2, hS⟩
  have k4r := k4.kp hk2 (show w.heap.size + 1 ≠ g by omega)
  have hz2 := Nat.le_trans hz1 hk2.size
  have hK2 := (Kp.of_below hB1 (ok := fun b => b ≠ g)).trans hk2
  go_wp2
  show wpList _ _ _ _ _ _
  refine wpList_storeB rfl rfl R rfl rfl k4r (by rw [hR.size]; rfl) (by rw [hR.size]; exact Try.infoRep) hR1 ?_
  intro k4s
  have lv := Blk.loadVar k4s Try.underlying70 rfl (by rw [hR.size]; exact Try.infoRep)
  have hKr := Kp.setCells (ok := fun b => b ≠ g) (a := w) (b := w.heap.size + 1) (fun h => by omega) (R).toList 0 hK2
  have hKz := Kp.setCells (ok := fun b => b ≠ w.heap.size + 1) (a := w2) (b := w.heap.size + 1) (fun _ h => h rfl) (R).toList 0 (Kp.refl _ _)
  generalize hwr : World.setCells w2 (w.heap.size + 1) 0 (R).toList = wz at k4s lv hKr hKz ⊢
  clear hwr
  have hgz : w.heap.size + 1 ≠ g := by omega
  go_wp2
  refine bodyPost_ret (v := .agg (R)) ?_ rfl ?_
  · simp [results, Try.results37, Act.put, Sem.run_bind, Sem.run_pure, asAddr_ok, lv]
  · exact ⟨⟨_, rfl, hR1, (hR.mono (ok' := fun b => w.heap.size + 2 ≤ b) fun b h _ => Nat.le_trans hz1 h).kp (hKz.mono fun b h => by intro e; omega) |>.mono fun b h _ => by omega⟩, hKr, hS.carry hKz hgz hz1⟩
end Go.Proofs.Ytikkknaofiafhaa
