/- Contract: ref14's Moved, as law 22 calls it. -/
import Derived.Test.YtikkknaofiafhaaM14
namespace Go.Proofs.Ytikkknaofiafhaa
open Go.RowKit

theorem gives_app' {α : Type} {E : Rel α} {okd : Nat → Prop} {base : Nat} {P : Program} {tS tE : TypeId} (hT : RowTy P tS tE E.sz E.wt) (hsz : 0 < E.sz) {o : Oper} {a : Act} {Φ : Value → World → Prop} (s x : Operand)
    (ho : o.op = .call { callee := .builtin .append, args := #[s, x], argTypes := #[tS, tS] })
    (v : Value) (l : List α) (w : World) (hs : a.eval s = v) (hown : OwnL E okd base tE w v l)
    (vx : Value) (l2 : List α) (hx : a.eval x = vx) (hr : RSl E (fun b => okd b ∧ some b ≠ v.ownBlock) w vx l2)
    (hlen : (l.length + l2.length) * E.wt ≤ 140737488355328) (hlen2 : l.length + l2.length ≤ 140737488355328) (hbase : base ≤ w.heap.size)
    (h : ∀ v' w', OwnL E okd base tE w' v' (l ++ l2) → Kp (fun b => some b ≠ v.ownBlock) w w' → (v'.ownBlock = v.ownBlock ∨ v'.ownBlock = some w.heap.size) → Φ v' w') : Gives P o a w Φ := by
  obtain ⟨A, n, c, css, rfl, _, hn, _, hrd, hch, _⟩ := hr
  subst hn
  exact gives_app0' hT hsz s x ho v l w hs hown A c l2 css hx hrd hch hlen hlen2 hbase h
theorem RSl.one_blk {α : Type} {E : Rel α} {ok : Nat → Prop} {w : World} {g : Nat} {T : TypeId} {cs : Array Value} {d : α} (h : Blk w g T cs) (hd : E.rel ok w cs.toList d) (ho : ok g) (hb : E.wt ≤ 140737488351232) :
    RSl E ok w (.slice (some ⟨g, 0, none⟩) 1 1) [d] := by
  refine ⟨_, 1, 1, [cs.toList], rfl, Nat.le_refl _, rfl, by omega, ?_, Chunks.single hd, fun _ a ha => by cases ha; exact ho⟩
  refine ⟨by have := E.len hd; simpa using this, fun _ => ⟨g, 0, rfl, fun j u hu => ?_⟩⟩
  rw [Nat.zero_add, h.cell j]
  simpa using hu
def rdm (k : List UInt8) : RouteD := ⟨2, 1, [⟨2, [120]⟩, ⟨3, k⟩], 0, []⟩

set_option maxRecDepth 100000 in
set_option maxHeartbeats 12800000 in
theorem moved_any {ok : Nat → Prop} (a c : Value) (k : List UInt8) (w : World) (hr : RouteR ok w a c (rdc k)) :
    Calls Try.prog 152 #[.agg (routeCs (rdc k) a c), .int .i64 3] w fun e w' => (∃ a' c', e = .returned (.tuple #[.agg (routeCs (rdm k) a' c'), .int .i64 0]) ∧ RouteR (fun b => w.heap.size ≤ b) w' a' c' (rdm k)) ∧ Below w.heap.size w w' := by
  obtain ⟨A, cc, rfl, hc, hbd⟩ := hr.s.form
  obtain ⟨A2, cc2, rfl, _, hbd2⟩ := hr.c.form
  simp only [show (rdc k).s.length = 1 from rfl, show (rdc k).c.length = k.length from rfl] at *
  go_enter Try.func152, Try.ntmps152
  go_upto_region 1 with fail
  refine name_world (fun w1 => Below w.heap.size w w1 ∧ w.heap.size + 2 ≤ w1.heap.size ∧ Blk w1 w.heap.size 42 (routeCs (rdc k) (.slice A 1 cc) (.slice A2 k.length cc2)) ∧ Blk w1 (w.heap.size + 1) 42 (routeCs rdZ nl nl))
    ⟨((Below.refl _ _).alloc (Nat.le_refl _) _).alloc (by simp) _, by simp, (Blk.new w _ _).alloc _, Blk.new_ (by simp)⟩ ?_
  rintro w1 ⟨hB1, hz1, k1, k2⟩
  obtain ⟨r0, r1, r2, r3, r4⟩ := route_cells k1
  simp only [rdc] at r0 r1 r3
  go_wp2_with fail
  refine (refAt_any (rdc k) _ _ 2 _ (hr.below hB1)).mono ?_
  rintro e w2 ⟨rfl, hb2⟩
  rw [show atG (rdc k).s 2 0 = 0 from rfl]
  have hB2 := hB1.trans (hb2.mono hB1.size)
  have k12 := k1.below hb2 k1.lt
  have k22 := k2.below hb2 k2.lt
  clear r0 r1 r2 r3 r4 k1 k2
  obtain ⟨r0, r1, r2, r3, r4⟩ := route_cells k12
  simp only [rdc] at r0 r1 r3
  go_wp2_with fail
  refine (refAt_any (rdc k) _ _ 3 _ (hr.below hB2)).mono ?_
  rintro e w3 ⟨rfl, hb3⟩
  rw [show atG (rdc k).s 3 0 = -1 from rfl]
  have hB3 := hB2.trans (hb3.mono hB2.size)
  have k13 := k12.below hb3 k12.lt
  have k23 := k22.below hb3 k22.lt
  clear r0 r1 r2 r3 r4 k12 k22
  obtain ⟨r0, r1, r2, r3, r4⟩ := route_cells k13
  simp only [rdc] at r0 r1 r3
  go_wp2_with fail
  refine (copied_any (rdc k) _ _ _ (hr.below hB3)).mono ?_
  rintro e w4 ⟨⟨a4, x4, rfl, hr4⟩, hb4⟩
  obtain ⟨B1, d1, rfl, _, _⟩ := hr4.s.form
  obtain ⟨B2, d2, rfl, _, _⟩ := hr4.c.form
  simp only [show (rdc k).s.length = 1 from rfl, show (rdc k).c.length = k.length from rfl] at *
  have hB4 := hB3.trans (hb4.mono hB3.size)
  have k24 := k23.below hb4 k23.lt
  have hz3 : w.heap.size + 2 ≤ w3.heap.size := k23.lt
  have hz34 : w3.heap.size ≤ w4.heap.size := hb4.size
  clear r0 r1 r2 r3 r4 k13 k23
  unfold routeCs
  go_upto_region 7 with fail
  refine name_world (fun w5 => Below w.heap.size w w5 ∧ w4.heap.size < w5.heap.size ∧ Blk w5 (w.heap.size + 1) 42 (routeCs rdZ nl nl) ∧ Blk w5 w4.heap.size 42 (routeCs (rdc k) (.slice B1 1 d1) (.slice B2 k.length d2)) ∧ RouteR (fun b => w3.heap.size ≤ b ∧ b ≠ w4.heap.size) w5 (.slice B1 1 d1) (.slice B2 k.length d2) (rdc k))
    ⟨hB4.alloc hB4.size _, by simp, k24.alloc _, Blk.new_ rfl, ?_⟩ ?_
  · exact (hr4.mono (ok' := fun b => w3.heap.size ≤ b ∧ b ≠ w4.heap.size) fun b h hlt => ⟨h, by omega⟩).below ((Below.refl _ _).alloc (Nat.le_refl _) _)
  rintro w5 ⟨hB5, hz5, k25, k5, hr5⟩
  obtain ⟨gx, hgx⟩ : ∃ gx, gx = w4.heap.size := ⟨_, rfl⟩
  rw [← hgx] at hz5 k5 hr5 ⊢
  have hgx0 : w.heap.size + 2 ≤ gx := by omega
  have hz3g : w3.heap.size ≤ gx := by omega
  clear hgx hb4 hz34 hB4
  obtain ⟨r0, r1, r2, r3, r4⟩ := route_laters k5
  simp only [rdc] at r0 r1 r3
  refine wp_seqV (fun b => b = gx) 19 [5, 11, 17, 19] [10] (by as_aux_lemma => kernel_rfl) (by as_aux_lemma => kernel_rfl) fun w6 hb6 => ?_
  refine seqV_pre 1 (by kernel_rfl) ?_
  simp only [List.take_succ_cons, List.take_zero, List.drop_succ_cons, List.drop_zero]
  repeat (go_big_quiet_step (fail))
  refine wpQuiet_nil ?_
  refine seqV_pre0 1 (by kernel_rfl) (by kernel_rfl) ?_
  simp only [List.take_succ_cons, List.take_zero, List.drop_succ_cons, List.drop_zero]
  repeat (go_big_quiet_step (fail))
  refine wpQuiet_nil ?_
  refine seqV_pre 3 (by kernel_rfl) ?_
  simp only [List.take_succ_cons, List.take_zero, List.drop_succ_cons, List.drop_zero]
  repeat (go_big_quiet_step (fail))
  refine wpQuiet_nil ?_
  refine seqV_new hb6 rfl rfl fun w7 hb7 hB7 K hK => ?_
  have hz5w : w5.heap.size ≤ w7.heap.size := hB7.size
  have hs7 : RSl rOwner (fun b => w3.heap.size ≤ b ∧ b ≠ gx) w7 (.slice B1 1 d1) [⟨2, [120]⟩] := hr5.s.below hB7
  refine gives_app' (E := rOwner) Try.rowOwner (by decide) _ _ rfl nl [] _ rfl (OwnL.nil_ rOwner (fun b => w3.heap.size ≤ b ∧ b ≠ gx) w5.heap.size 104 _) (.slice B1 1 d1) [⟨2, [120]⟩] rfl (hs7.mono (by decide) fun b hb2 _ => ⟨hb2, fun e => by cases e⟩) (by decide) (by decide) hz5w fun v8 w8 hown8 hk8 ho8 => ?_
  have hbb8 := hk8.below (Nat.le_refl _) fun b _ h => by cases h
  refine hK _ _ hbb8 fun hB8 => ?_
  clear hK
  clear K
  obtain ⟨A8, c8, rfl, _⟩ := hown8.form
  simp only [Act.put, List.setIfInBounds_toArray, List.set_cons_succ, List.set_cons_zero]
  refine seqV_pre 2 (by kernel_rfl) ?_
  simp only [List.take_succ_cons, List.take_zero, List.drop_succ_cons, List.drop_zero]
  repeat (go_big_quiet_step (fail))
  refine wpQuiet_nil ?_
  refine seqV_pre0 1 (by kernel_rfl) (by kernel_rfl) ?_
  simp only [List.take_succ_cons, List.take_zero, List.drop_succ_cons, List.drop_zero]
  repeat (go_big_quiet_step (fail))
  refine wpQuiet_nil ?_
  refine seqV_pre 1 (by kernel_rfl) ?_
  simp only [List.take_succ_cons, List.take_zero, List.drop_succ_cons, List.drop_zero]
  repeat (go_big_quiet_step (fail))
  refine wpQuiet_nil ?_
  refine seqV_lay (fun g => .slice (some ⟨g, 0, none⟩) 1 1) 104 #[.int .i64 3, .slice B2 k.length d2] rfl rfl (fun s => by go_simp <;> rfl) fun gb w9 hg9 hM9 k9 hb9 => ?_
  simp only [Act.put, List.setIfInBounds_toArray, List.set_cons_succ, List.set_cons_zero]
  have hB9 := hB8.trans (hb9.mono hB8.size)
  have hown9 := hown8.below hb9
  have hlt8 := hown8.lt
  have hgb8 : some gb ≠ (Value.slice A8 ([] ++ [(⟨2, [120]⟩ : OwnerD)]).length c8).ownBlock := fun e => by
    have h2 := hlt8 gb e.symm
    rcases ho8 with h | h
    · rw [h] at e; cases e
    · rw [h] at e
      cases e
      exact hM9 (.inr ⟨Nat.le_refl _, h2.2⟩)
  refine seqV_own hB9 rfl rfl fun K hK => ?_
  have hz35 : w3.heap.size ≤ w5.heap.size := by omega
  have hc9 := (hr5.c.mono (ok' := fun b => (w3.heap.size ≤ b ∧ b ≠ gx) ∧ b < w5.heap.size) (by decide) fun b h h2 => ⟨h, h2⟩).below hB9
  have hx9 := RSl.one_blk (E := rOwner) (ok := fun b => (w3.heap.size ≤ b ∧ b ≠ gx) ∧ some b ≠ (Value.slice A8 ([] ++ [(⟨2, [120]⟩ : OwnerD)]).length c8).ownBlock) (d := ⟨3, k⟩) k9 ⟨_, rfl, hc9.mono (by decide) fun b h h2 => ⟨h.1, fun e => by have := (hlt8 b e.symm).1; have := h.2; omega⟩, (show I64 3 from ⟨by decide, by decide⟩)⟩ ⟨⟨by omega, by omega⟩, hgb8⟩ (by decide)
  have hz9 : w5.heap.size ≤ w9.heap.size := hB9.size
  refine gives_app' (E := rOwner) Try.rowOwner (by decide) _ _ rfl (Value.slice A8 ([] ++ [(⟨2, [120]⟩ : OwnerD)]).length c8) ([] ++ [(⟨2, [120]⟩ : OwnerD)]) _ rfl hown9 (.slice (some ⟨gb, 0, none⟩) 1 1) [⟨3, k⟩] rfl hx9 (by show (1 + 1) * 32 ≤ _; omega) (by show 1 + 1 ≤ _; omega) hz9 fun v10 w10 hown10 hk10 ho10 => ?_
  have hmine8 : ∀ b, (Value.slice A8 ([] ++ [(⟨2, [120]⟩ : OwnerD)]).length c8).ownBlock = some b → w7.heap.size ≤ b ∧ b < w8.heap.size := fun b hb => by
    have h2 := hlt8 b hb
    rcases ho8 with h | h
    · rw [h] at hb; cases hb
    · rw [h] at hb; cases hb; exact ⟨Nat.le_refl _, h2.2⟩
  have hkk : Kp (keepB w5 (fun _ => False) (fun b => mineV (fun _ => False) w7 w8 b ∨ b = gb)) w9 w10 := hk10.mono fun b hb e => by
    have h2 := hmine8 b e.symm
    rcases hb with hb | hb
    · omega
    · exact hb.2 (.inl (.inr h2))
  refine hK _ _ hkk fun hB10 => ?_
  clear hK
  clear K
  obtain ⟨A10, c10, rfl, _⟩ := hown10.form
  simp only [Act.put, List.setIfInBounds_toArray, List.set_cons_succ, List.set_cons_zero]
  refine seqV_pre 1 (by kernel_rfl) ?_
  simp only [List.take_succ_cons, List.take_zero, List.drop_succ_cons, List.drop_zero]
  repeat (go_big_quiet_step (fail))
  refine wpQuiet_nil ?_
  refine seqV_pre0 1 (by kernel_rfl) (by kernel_rfl) ?_
  simp only [List.take_succ_cons, List.take_zero, List.drop_succ_cons, List.drop_zero]
  repeat (go_big_quiet_step (fail))
  refine wpQuiet_nil ?_
  refine seqV_pre 3 (by kernel_rfl) ?_
  simp only [List.take_succ_cons, List.take_zero, List.drop_succ_cons, List.drop_zero]
  repeat (go_big_quiet_step (fail))
  refine wpQuiet_nil ?_
  have hz10 : w5.heap.size ≤ w10.heap.size := hB10.size
  have hlt10 := hown10.lt
  have hmine10 : ∀ b, (Value.slice A10 ([] ++ [(⟨2, [120]⟩ : OwnerD)] ++ [(⟨3, k⟩ : OwnerD)]).length c10).ownBlock = some b → (w7.heap.size ≤ b ∧ b < w8.heap.size) ∨ (w9.heap.size ≤ b ∧ b < w10.heap.size) := fun b hb => by
    have h2 := hlt10 b hb
    rcases ho10 with h | h
    · rw [h] at hb; exact .inl (hmine8 b hb)
    · rw [h] at hb; cases hb; exact .inr ⟨Nat.le_refl _, h2.2⟩
  refine seqV_own hB10 rfl rfl fun K hK => ?_
  refine gives_app' (E := rOwner) Try.rowOwner (by decide) _ _ rfl (Value.slice A10 ([] ++ [(⟨2, [120]⟩ : OwnerD)] ++ [(⟨3, k⟩ : OwnerD)]).length c10) ([] ++ [(⟨2, [120]⟩ : OwnerD)] ++ [(⟨3, k⟩ : OwnerD)]) _ rfl hown10 (.slice (if d1 = 1 then B1 else Option.map (fun x => ⟨x.block, x.off + 2, none⟩) B1) 0 (d1 - 1)) [] rfl (RSl.empty _ _ _ _ _) (by show (2 + 0) * 32 ≤ _; omega) (by show 2 + 0 ≤ _; omega) hz10 fun v11 w11 hown11 hk11 ho11 => ?_
  have hkk2 : Kp (keepB w5 (fun _ => False) (mineV (fun b => mineV (fun _ => False) w7 w8 b ∨ b = gb) w9 w10)) w10 w11 := hk11.mono fun b hb e => by
    have h2 := hmine10 b e.symm
    have h3 := (hlt10 b e.symm).1
    rcases hb with hb | hb
    · omega
    · exact hb.2 (h2.elim (fun h => .inl (.inl (.inr h))) .inr)
  refine hK _ _ hkk2 fun hB11 => ?_
  clear hK
  clear K
  rw [List.append_nil] at hown11
  obtain ⟨A11, c11, rfl, _⟩ := hown11.form
  simp only [Act.put, List.setIfInBounds_toArray, List.set_cons_succ, List.set_cons_zero]
  refine seqV_pre 1 (by kernel_rfl) ?_
  simp only [List.take_succ_cons, List.take_zero, List.drop_succ_cons, List.drop_zero]
  repeat (go_big_quiet_step (fail))
  refine wpQuiet_nil ?_
  have k511 := k5.below hB11 k5.lt
  have fz := fun i => k511.frozen i
  have z2 : w11.cell? ⟨gx, 2, none⟩ = some (.slice B1 1 d1) := k511.cell 2
  refine seqV_chg (Kp.of_below hB11) rfl rfl fun K hK => ?_
  unfold Gives
  go_simp
  obtain ⟨M, hM⟩ : ∃ M, M = mineV (mineV (fun b => mineV (fun _ => False) w7 w8 b ∨ b = gb) w9 w10) w10 w11 := ⟨_, rfl⟩
  have nk : ¬ keepB w5 (fun b => b = gx) M gx := keep_bad k5.lt rfl
  rw [← hM] at hK
  refine hK _ _ ((Kp.refl _ _).setCell (p := ⟨gx, 2, none⟩) (fun _ => nk) _) fun hK12 => ?_
  clear hK
  clear K
  simp only [Act.put, List.setIfInBounds_toArray, List.set_cons_succ, List.set_cons_zero]
  refine seqV_nil ?_
  have hr11 : RSl rOwner (fun b => w3.heap.size ≤ b ∧ b ≠ gx) w11 (.slice A11 2 c11) (rdm k).s := hown11.rsl (by decide) (by show 2 * 32 ≤ _; omega) (fun b h => ⟨by omega, by omega⟩) (fun b h => h)
  have hkq : Kp (fun b => b ≠ gx) w11 (w11.setCell ⟨gx, 2, none⟩ (.slice A11 2 c11)) := (Kp.refl _ _).setCell (fun _ h => h rfl) _
  have kq2 := k511.set_ 2 (.slice A11 2 c11)
  have hr12 := hr11.kp (hkq.mono fun b h => h.2)
  have k2q := (k25.below hB11 k25.lt).far (p := ⟨gx, 2, none⟩) (show w.heap.size + 1 ≠ gx by omega) (.slice A11 2 c11)
  have hBq : Below w.heap.size w (w11.setCell ⟨gx, 2, none⟩ (.slice A11 2 c11)) := (hB5.trans (hB11.mono hB5.size)).setCell (show w.heap.size ≤ gx by omega) _
  clear r0 r1 r2 r3 r4 z2 fz hM nk hkk hkk2 hmine8 hmine10 hlt8 hlt10 hgb8 hM9
  go_upto_region 8 with fail
  refine name_world (fun w12 => Below w.heap.size w w12 ∧ Blk w12 (w.heap.size + 1) 42 (routeCs rdZ nl nl) ∧ Blk w12 gx 42 (routeCs (rdc k) (.slice A11 2 c11) (.slice B2 k.length d2)) ∧ RSl rOwner (fun b => w3.heap.size ≤ b ∧ b ≠ gx) w12 (.slice A11 2 c11) (rdm k).s)
    ⟨hBq, k2q, by simpa [routeCs] using kq2, hr12⟩ ?_
  clear hBq k2q kq2 hr12 hkq hr11 hown11 hk11 hK12 k511 hB11 ho11
  rintro w12 ⟨hB12, k212, kx12, hr12⟩
  obtain ⟨r0, r1, r2, r3, r4⟩ := route_cells kx12
  simp only [rdc] at r0 r1 r3
  have fz := fun i => kx12.frozen i
  go_upto_region 10 with fail
  have hkp : Kp (fun b => w3.heap.size ≤ b ∧ b ≠ gx) w12 (((w12.setCell ⟨gx, 3, none⟩ (.int .i64 0)).setCell ⟨gx, 4, none⟩ nl).setCell ⟨gx, 0, none⟩ (.int .i64 2)) :=
    (((Kp.refl _ _).setCell (fun _ h => h.2 rfl) _).setCell (fun _ h => h.2 rfl) _).setCell (fun _ h => h.2 rfl) _
  refine name_world (fun w9 => Below w.heap.size w w9 ∧ Blk w9 (w.heap.size + 1) 42 (routeCs rdZ nl nl) ∧ Blk w9 gx 42 (routeCs (rdm k) (.slice A11 2 c11) nl) ∧ RSl rOwner (fun b => w3.heap.size ≤ b) w9 (.slice A11 2 c11) (rdm k).s)
    ⟨((hB12.setCell (by simp; omega) _).setCell (by simp; omega) _).setCell (by simp; omega) _, ((k212.far (by simp; omega) _).far (by simp; omega) _).far (by simp; omega) _, ?_, (hr12.kp hkp).mono (by decide) fun b h _ => h.1⟩ ?_
  · have := ((kx12.set_ 3 (.int .i64 0)).set_ 4 nl).set_ 0 (.int .i64 2)
    simpa [routeCs, rdm, rdc] using this
  rintro wq ⟨hBw, k27, k7, o7⟩
  refine wp_region_list ?_
  refine wpList_loadB rfl rfl rfl k7 Try.underlying42 rfl Try.infoRoutes ?_
  refine wpList_storeB rfl rfl (routeCs (rdm k) (.slice A11 2 c11) nl) rfl rfl k27 rfl Try.infoRoutes routeCs_one ?_
  intro k8
  have lv := route_res k8
  have hk8 := Kp.setCells (ok := fun b => w.heap.size + 2 ≤ b) (a := wq) (b := w.heap.size + 1) (fun _ h => by have : w.heap.size + 2 ≤ w.heap.size + 1 := h; omega) (routeCs (rdm k) (.slice A11 2 c11) nl).toList 0 (Kp.refl _ _)
  have hBe := below_setCells (B := w.heap.size) (a := w) (b := w.heap.size + 1) (by omega) (routeCs (rdm k) (.slice A11 2 c11) nl).toList 0 hBw
  generalize hwr : World.setCells wq (w.heap.size + 1) 0 (routeCs (rdm k) (.slice A11 2 c11) nl).toList = wz at k8 lv hk8 hBe ⊢
  clear hwr
  have o8 := ((o7.mono (ok' := fun b => w.heap.size + 2 ≤ b) (by decide) fun b h _ => Nat.le_trans hz3 h).kp hk8).mono (ok' := fun b => w.heap.size ≤ b) (by decide) fun b h _ => by omega
  go_wp2
  all_goals
    refine bodyPost_ret (v := .tuple #[.agg (routeCs (rdm k) (.slice A11 2 c11) nl), .int .i64 0]) ?_ rfl ⟨⟨_, _, rfl, o8, RSl.nil_ _ _ _, (show I64 2 from ⟨by decide, by decide⟩), (show I64 1 from ⟨by decide, by decide⟩), (show I64 0 from ⟨by decide, by decide⟩)⟩, hBe⟩
    simp [results, Try.results152, Act.put, Sem.run_bind, Sem.run_pure, asAddr_ok, lv]
end Go.Proofs.Ytikkknaofiafhaa
