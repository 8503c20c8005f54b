/- Lists of one's own: a prefix; an element stored; what lies behind a prefix turned. slices.Clone, IndexFunc, DeleteFunc of entries.
Contracts: slices.DeleteFunc of entries, over a list of one's own.
Contracts: vault.change. -/
import Derived.Test.YtnlhjhpikjmoaaaGreatDoorB5
import Derived.Test.YtnlhjhpikjmoaaaGreatDoorB9
import Derived.Lib.SliceRun
namespace Go.Proofs.YtnlhjhpikjmoaaaGreatDoor
open Go.RowKit
section
variable {α : Type} {E : Rel α} {okd ok : Nat → Prop} {base : Nat} {T : TypeId} {w w' : World} {v : Value} {l : List α}
theorem OwnL.open_ {A : Option Addr} {n c : Nat} (h : OwnL E okd base T w (.slice A n c) l) (hn : 0 < n) : ∃ g cur css, A = some ⟨g, 0, none⟩ ∧ base ≤ g ∧ Blk w g T cur ∧ n ≤ c ∧ c ≤ maxLen ∧ cur.size = c * E.sz ∧ cur.toList.take (n * E.sz) = css.flatten ∧ Chunks E (fun b => okd b ∧ b ≠ g) w css l ∧ l.length = n := by
  obtain ⟨A', c', he, _⟩ := h.form
  simp only [Value.slice.injEq] at he
  obtain ⟨_, hnl, _⟩ := he
  obtain ⟨css, ho, hch⟩ := h
  rcases ho.2 with ⟨h3, h4⟩ | ⟨g, cap, cur, h3, h4, h5, h6, h7, h8, h9⟩
  · omega
  · obtain ⟨rfl, rfl⟩ : A = some ⟨g, 0, none⟩ ∧ c = cap := by
      simp only [Value.slice.injEq] at h3
      exact ⟨h3.1, h3.2.2⟩
    refine ⟨g, cur, css, rfl, h4, h5, by omega, h7, h8, by rw [← h9, hnl], hch.mono fun b hb _ => ⟨hb.1, fun e => hb.2 (by rw [e]; rfl)⟩, hnl.symm⟩
theorem OwnL.mk_ {g n c : Nat} {cur : Array Value} {css : List (List Value)} (hb : base ≤ g) (hk : Blk w g T cur) (hn : n ≤ c) (hc : c ≤ maxLen) (hs : cur.size = c * E.sz) (ht : cur.toList.take (n * E.sz) = css.flatten) (hch : Chunks E (fun b => okd b ∧ b ≠ g) w css l) (hl : l.length = n) : OwnL E okd base T w (.slice (some ⟨g, 0, none⟩) n c) l := by
  subst hl
  exact ⟨css, ⟨hch.flat, .inr ⟨g, c, cur, rfl, hb, hk, hn, hc, hs, ht⟩⟩, hch.mono fun b hb _ => ⟨hb.1, fun e => hb.2 (Option.some.inj e)⟩⟩
theorem setCells_list {g : Nat} {C : Array Value} (h : Blk w g T C) (o : Nat) (vs : List Value) (hs : o + vs.length ≤ C.size) : ∃ C', Blk (w.setCells g o vs) g T C' ∧ C'.toList = C.toList.take o ++ vs ++ C.toList.drop (o + vs.length) := by
  refine ⟨_, h.setCells_at vs o, ?_⟩
  rw [foldl_set_at vs o vs.length C (Nat.le_refl _) (by simpa using hs), List.take_length]
theorem OwnL.set_ {g n c : Nat} (h : OwnL E okd base T w (.slice (some ⟨g, 0, none⟩) n c) l) {i : Nat} (hi : i < n) {cs : List Value} {d : α} (hd : E.rel (fun b => okd b ∧ b ≠ g) w cs d) :
    OwnL E okd base T (w.setCells g (i * E.sz) cs) (.slice (some ⟨g, 0, none⟩) n c) (l.set i d) ∧ Kp (fun b => b ≠ g) w (w.setCells g (i * E.sz) cs) := by
  obtain ⟨g', cur, css, hg, hb, hk, hnc, hcm, hsz, htk, hch, hl⟩ := h.open_ (by omega)
  obtain rfl : g = g' := by simpa using hg
  have hcl : cs.length = E.sz := E.len hd
  have hkp : Kp (fun b => b ≠ g) w (w.setCells g (i * E.sz) cs) := Kp.setCells (b := g) (fun _ h => h rfl) _ _ (Kp.refl _ _)
  have hiE : i * E.sz + E.sz ≤ n * E.sz := by rw [← Nat.succ_mul]; exact Nat.mul_le_mul_right _ hi
  have hnE : n * E.sz ≤ c * E.sz := Nat.mul_le_mul_right _ hnc
  obtain ⟨C', hk', hC'⟩ := setCells_list hk (i * E.sz) cs (by omega)
  have hlen : css.length = n := by rw [hch.length, hl]
  obtain ⟨t1, t2⟩ := hch.take i
  obtain ⟨d1, d2⟩ := hch.drop (i + 1)
  refine ⟨OwnL.mk_ hb hk' hnc hcm ?_ (css := css.set i cs) ?_ ?_ (by rw [List.length_set, hl]), hkp⟩
  · rw [← Array.length_toList, hC', List.length_append, List.length_append, List.length_take, List.length_drop, Array.length_toList]
    omega
  · rw [List.set_eq_take_append_cons_drop, if_pos (by omega), List.flatten_append, List.flatten_cons, ← t2, ← d2, hC', ← htk, hcl]
    have e1 : (cur.toList.take (n * E.sz)).take (i * E.sz) = cur.toList.take (i * E.sz) := by rw [List.take_take, Nat.min_eq_left (by omega)]
    have e2 : (i + 1) * E.sz = i * E.sz + E.sz := Nat.succ_mul _ _
    have e3 : (cur.toList.take (i * E.sz)).length = i * E.sz := by rw [List.length_take, Array.length_toList]; omega
    rw [e1, e2, List.append_assoc, List.take_append, e3, List.take_append, hcl, List.take_take, Nat.min_eq_right (by omega)]
    congr 1
    congr 1
    · exact List.take_of_length_le (by omega)
    · rw [List.drop_take]
      congr 1
      omega
  · have hc2 := hch.kp (hkp.mono fun b hb => hb.2)
    rw [List.set_eq_take_append_cons_drop, if_pos (by omega), List.set_eq_take_append_cons_drop, if_pos (by omega)]
    exact (hc2.take i).1.append ⟨E.kp (hkp.mono fun b hb => hb.2) hd, (hc2.drop (i + 1)).1⟩
theorem OwnL.tail_ {g n c : Nat} (h : OwnL E okd base T w (.slice (some ⟨g, 0, none⟩) n c) l) {k : Nat} (hkn : k ≤ n) (hn0 : 0 < n) (vs : List Value) (hv : k * E.sz + vs.length ≤ c * E.sz) :
    OwnL E okd base T (w.setCells g (k * E.sz) vs) (.slice (some ⟨g, 0, none⟩) k c) (l.take k) ∧ Kp (fun b => b ≠ g) w (w.setCells g (k * E.sz) vs) := by
  obtain ⟨g', cur, css, hg, hb, hk, hnc, hcm, hsz, htk, hch, hl⟩ := h.open_ hn0
  obtain rfl : g = g' := by simpa using hg
  have hkp : Kp (fun b => b ≠ g) w (w.setCells g (k * E.sz) vs) := Kp.setCells (b := g) (fun _ h => h rfl) _ _ (Kp.refl _ _)
  obtain ⟨C', hk', hC'⟩ := setCells_list hk (k * E.sz) vs (by omega)
  have hkE : k * E.sz ≤ n * E.sz := Nat.mul_le_mul_right _ hkn
  obtain ⟨t1, t2⟩ := hch.take k
  refine ⟨OwnL.mk_ hb hk' (by omega) hcm ?_ (css := css.take k) ?_ (t1.kp (hkp.mono fun b hb => hb.2)) (by rw [List.length_take]; omega), hkp⟩
  · rw [← Array.length_toList, hC', List.length_append, List.length_append, List.length_take, List.length_drop, Array.length_toList]
    omega
  · have e3 : (cur.toList.take (k * E.sz)).length = k * E.sz := by rw [List.length_take, Array.length_toList]; have : n * E.sz ≤ c * E.sz := Nat.mul_le_mul_right _ hnc; omega
    rw [hC', List.append_assoc, List.take_append_of_le_length (by omega), List.take_take, Nat.min_self, ← t2, ← htk, List.take_take, Nat.min_eq_left hkE]
end
theorem cloneEnt_any {ok : Nat → Prop} (v : Value) (l : List VEnt) (w : World) (h : RSl rEnt ok w v l) (hl : l.length ≤ 1000000) :
    Calls Tryz.prog 90 #[v] w fun e w' => (∃ v', e = .returned v' ∧ OwnL rEnt ok w.heap.size 50 w' v' l) ∧ Below w.heap.size w w' := by
  obtain ⟨A, n, c, css, rfl, hc, hn, _, hrd, hch, _⟩ := h
  subst hn
  have hE := fun (x : Option Addr) (w : World) => Lib.run_eql_slice_nil (P := Tryz.prog) w 28 50 x l.length c 0 0 Tryz.underlying28
  rcases A with _ | ad
  · have hl0 : l = [] := by
      rcases Nat.eq_zero_or_pos l.length with h0 | h0
      · exact List.eq_nil_of_length_eq_zero h0
      · obtain ⟨_, _, h, _⟩ := hrd.2 h0
        cases h
    subst hl0
    clear hE
    have hE := fun (w : World) => Lib.run_eql_slice_nil (P := Tryz.prog) w 28 50 none 0 c 0 0 Tryz.underlying28
    show Calls Tryz.prog _ #[.slice none 0 c] w _
    go_enter Tryz.func90, Tryz.ntmps90
    go_wp2
    go_ret
    exact ⟨⟨_, rfl, OwnL.nil_ _ _ _ _ _⟩, Below.refl _ _⟩
  · have hal : Below w.heap.size w (w.alloc (.cells #[] 50)) := (Below.refl _ _).alloc (Nat.le_refl _) _
    have hcc : Chunks rEnt (fun b => ok b ∧ some b ≠ (Value.slice (some ⟨w.heap.size, 0, none⟩) 0 0).ownBlock) (w.alloc (.cells #[] 50)) css l := (hch.mono (ok' := fun b => (ok b ∧ some b ≠ (Value.slice (some ⟨w.heap.size, 0, none⟩) 0 0).ownBlock)) fun b hb hlt => ⟨hb, fun e => by have := Option.some.inj e; simp at this; omega⟩).kp (.of_below hal)
    have ho := OwnL.empty_ rEnt ok w.heap.size 50 w (Nat.le_refl _)
    go_enter Tryz.func90, Tryz.ntmps90
    go_wp2_with (at_builtin; go_loud (refine wp_app (E := rEnt) (okd := ok) Tryz.rowEnt (by decide) rfl _ _ rfl (.slice (some ⟨w.heap.size, 0, none⟩) 0 0) [] _ rfl ho (some ad) c l css rfl (hrd.below hal) (hcc) (by show (0 + l.length) * 40 ≤ _; omega) (by show 0 + l.length ≤ _; omega) (by simp) ?_); intro v' w5 hown5 hk5 hv5)
    go_ret
    exact ⟨⟨v', rfl, by simpa using hown5⟩, hal.trans (hk5.below (by simp) fun b hb e => by have := Option.some.inj e; simp at this; omega)⟩
theorem chg1_any (gs si : Nat) {w : World} (hc : w.cell? ⟨gs, 0, none⟩ = some (.int .u64 (si : Int))) (a b : Nat) (A : Option Addr) (n c : Nat) :
    Calls Tryz.prog 103 #[.agg #[.int .u64 (a : Int), .int .u64 (b : Int), .slice A n c], .pointer (some ⟨gs, 0, none⟩)] w fun e w' => e = .returned (.bool (decide (b ≤ si))) ∧ Below w.heap.size w w' := by
  have hlt := World.block_lt_of_cell? w _ hc
  obtain ⟨q, hq⟩ : ∃ q, q = decide (b ≤ si) := ⟨_, rfl⟩
  have z1 : decide ((b : Int) ≤ (si : Int)) = q := by rw [hq]; congr 1; rw [eq_iff_iff]; omega
  have z2 : decide (b ≤ si) = q := hq.symm
  have HC := Lib.hid hc
  rw [← hq]
  clear hq hc
  go_enter Tryz.func103, Tryz.ntmps103
  go_upto_region 1 with fail
  obtain ⟨g, hg⟩ : ∃ g, g = w.heap.size := ⟨_, rfl⟩
  refine name_world (fun w1 => w1.cell? ⟨g, 1, none⟩ = some (.int .u64 (b : Int)) ∧ w1.cell? ⟨gs, 0, none⟩ = some (.int .u64 (si : Int)) ∧ Below w.heap.size w w1) ⟨by rw [hg]; exact (Blk.new w 50 #[.int .u64 (a : Int), .int .u64 (b : Int), .slice A n c]).cell 1, (World.cell?_alloc_lt _ _ ⟨gs, 0, none⟩ hlt).trans HC.out, (Below.refl _ _).alloc (Nat.le_refl _) _⟩ ?_
  rintro w1 ⟨c1, c2, hB1⟩
  rw [← hg]
  clear hg
  go_wp2
  go_ret
  exact ⟨by first | rfl | (rw [z2]) | (rw [z1]), hB1⟩
def ClosP (k : FuncId) (cap : Value) (p : VEnt → Bool) (w : World) : Prop :=
  ∀ (a b : Nat) (A : Option Addr) (n c : Nat) (e : VEnt), e.term = a → e.idx = b → Calls Tryz.prog k #[.agg #[.int .u64 (a : Int), .int .u64 (b : Int), .slice A n c], cap] w fun x w' => x = .returned (.bool (p e)) ∧ Below w.heap.size w w'
set_option maxRecDepth 100000 in
set_option maxHeartbeats 3200000 in
theorem indexEntC_any {cap : Value} {p : VEnt → Bool} {ok : Nat → Prop} {w : World} {v : Value} {l : List VEnt} (h : RSl rEnt ok w v l) (hl : l.length ≤ 1000000) (hC : ∀ w', Below w.heap.size w w' → ClosP 103 cap p w') :
    Calls Tryz.prog 104 #[v, .func (.func 103) #[] #[cap]] w fun e w' => (∃ r : Int, e = .returned (.int .i64 r) ∧ ((r = -1 ∧ ∀ x ∈ l, p x = false) ∨ ∃ i : Nat, r = (i : Int) ∧ i < l.length ∧ (∀ x, l[i]? = some x → p x = true) ∧ ∀ x ∈ l.take i, p x = false)) ∧ Below w.heap.size w w' := by
  obtain ⟨A, c, rfl, hc, hsl⟩ := h.form
  obtain ⟨m, hm⟩ : ∃ m, m = l.length := ⟨_, rfl⟩
  rw [← hm] at h hc hl ⊢
  have HM := Lib.hid hm
  have HR := Lib.hid h
  have HC := Lib.hid hC
  clear hm h hC hsl
  go_enter Tryz.func104, Tryz.ntmps104
  go_upto_region 2 with fail
  go_loopw [8] (fun vi wr => ∃ i : Nat, i ≤ m ∧ vi = .int .i64 (i : Int) ∧ Below w.heap.size w wr ∧ Hid (∀ x ∈ l.take i, p x = false)) (fun vi _ => m - (intOf vi).toNat)
  case atStart => exact ⟨0, by omega, rfl, Below.refl _ _, Lib.hid (by simp)⟩
  case round =>
    obtain ⟨i, hi, rfl, hb, HP⟩ := hrel
    by_cases hlt : i < m
    · have hil : i < l.length := by rw [← HM.out]; exact hlt
      obtain ⟨b5, off5, c5, cs5, hv5, _, ⟨vd, rfl, hvd, ht64, hi64⟩, hcell5⟩ := (HR.out.below hb).at_ hil
      rw [← HM.out] at hv5
      obtain ⟨rfl, rfl⟩ : A = some ⟨b5, off5, none⟩ ∧ c = c5 := by simpa using hv5
      obtain ⟨A6, c6, rfl, hf6⟩ := hvd.form
      obtain ⟨dl, hdl⟩ : ∃ dl, dl = l[i].data.length := ⟨_, rfl⟩
      obtain ⟨e, he⟩ : ∃ e, e = l[i] := ⟨_, rfl⟩
      rw [← hdl, ← he] at hcell5
      have q0 : wr.cell? ⟨b5, off5 + i * 3, none⟩ = some (.int .u64 (e.term : Int)) := hcell5 0 _ rfl
      have q1 : wr.cell? ⟨b5, off5 + i * 3 + 1, none⟩ = some (.int .u64 (e.idx : Int)) := by have := hcell5 1 _ rfl; rwa [Nat.add_assoc]
      have q2 : wr.cell? ⟨b5, off5 + i * 3 + 2, none⟩ = some (.slice A6 dl c6) := by have := hcell5 2 _ rfl; rwa [Nat.add_assoc]
      have HCC := Lib.hid (HC.out wr hb e.term e.idx A6 dl c6 e rfl rfl)
      obtain ⟨q, hq⟩ : ∃ q, q = p e := ⟨_, rfl⟩
      rw [← hq] at HCC
      have HQ := Lib.hid hq
      have HE := Lib.hid he
      clear hcell5 hv5 hvd hf6 hdl ht64 hi64 he hq
      go_wp2_with fail
      refine HCC.out.mono ?_
      rintro x w2 ⟨rfl, hB2⟩
      have hbz := hb.trans (hB2.mono hb.size)
      clear q0 q1 q2 HCC
      cases q
      · go_wp2
        go_roundw
        case rel =>
          refine ⟨i + 1, by omega, by go_num, hbz, Lib.hid ?_⟩
          intro x hx
          rw [List.take_succ_eq_append_getElem hil, List.mem_append, List.mem_singleton] at hx
          rcases hx with hx | rfl
          · exact HP.out x hx
          · rw [← HE.out]; exact HQ.out.symm
        case measure => simp [intOf]; omega
      · go_wp2
        go_ret
        refine ⟨⟨_, rfl, .inr ⟨i, rfl, hlt, fun x hx => ?_, HP.out⟩⟩, hbz⟩
        rw [List.getElem?_eq_getElem hil] at hx
        rw [← Option.some.inj hx, ← HE.out]
        exact HQ.out.symm
    · obtain rfl : i = m := by omega
      go_wp2
      go_ret
      refine ⟨⟨_, rfl, .inl ⟨rfl, fun x hx => HP.out x ?_⟩⟩, hb⟩
      rw [List.take_of_length_le (by rw [← HM.out]; omega)]
      exact hx
set_option maxRecDepth 100000 in
set_option maxHeartbeats 3200000 in
theorem indexEntR_any {cap : Value} {p : VEnt → Bool} {ok : Nat → Prop} {w : World} {v : Value} {l : List VEnt} (h : RSl rEnt ok w v l) (hl : l.length ≤ 1000000) (hC : ∀ w', Below w.heap.size w w' → ClosP 91 cap p w') :
    Calls Tryz.prog 104 #[v, .func (.func 91) #[] #[cap]] w fun e w' => (∃ r : Int, e = .returned (.int .i64 r) ∧ ((r = -1 ∧ ∀ x ∈ l, p x = false) ∨ ∃ i : Nat, r = (i : Int) ∧ i < l.length ∧ (∀ x, l[i]? = some x → p x = true) ∧ ∀ x ∈ l.take i, p x = false)) ∧ Below w.heap.size w w' := by
  obtain ⟨A, c, rfl, hc, hsl⟩ := h.form
  obtain ⟨m, hm⟩ : ∃ m, m = l.length := ⟨_, rfl⟩
  rw [← hm] at h hc hl ⊢
  have HM := Lib.hid hm
  have HR := Lib.hid h
  have HC := Lib.hid hC
  clear hm h hC hsl
  go_enter Tryz.func104, Tryz.ntmps104
  go_upto_region 2 with fail
  go_loopw [8] (fun vi wr => ∃ i : Nat, i ≤ m ∧ vi = .int .i64 (i : Int) ∧ Below w.heap.size w wr ∧ Hid (∀ x ∈ l.take i, p x = false)) (fun vi _ => m - (intOf vi).toNat)
  case atStart => exact ⟨0, by omega, rfl, Below.refl _ _, Lib.hid (by simp)⟩
  case round =>
    obtain ⟨i, hi, rfl, hb, HP⟩ := hrel
    by_cases hlt : i < m
    · have hil : i < l.length := by rw [← HM.out]; exact hlt
      obtain ⟨b5, off5, c5, cs5, hv5, _, ⟨vd, rfl, hvd, ht64, hi64⟩, hcell5⟩ := (HR.out.below hb).at_ hil
      rw [← HM.out] at hv5
      obtain ⟨rfl, rfl⟩ : A = some ⟨b5, off5, none⟩ ∧ c = c5 := by simpa using hv5
      obtain ⟨A6, c6, rfl, hf6⟩ := hvd.form
      obtain ⟨dl, hdl⟩ : ∃ dl, dl = l[i].data.length := ⟨_, rfl⟩
      obtain ⟨e, he⟩ : ∃ e, e = l[i] := ⟨_, rfl⟩
      rw [← hdl, ← he] at hcell5
      have q0 : wr.cell? ⟨b5, off5 + i * 3, none⟩ = some (.int .u64 (e.term : Int)) := hcell5 0 _ rfl
      have q1 : wr.cell? ⟨b5, off5 + i * 3 + 1, none⟩ = some (.int .u64 (e.idx : Int)) := by have := hcell5 1 _ rfl; rwa [Nat.add_assoc]
      have q2 : wr.cell? ⟨b5, off5 + i * 3 + 2, none⟩ = some (.slice A6 dl c6) := by have := hcell5 2 _ rfl; rwa [Nat.add_assoc]
      have HCC := Lib.hid (HC.out wr hb e.term e.idx A6 dl c6 e rfl rfl)
      obtain ⟨q, hq⟩ : ∃ q, q = p e := ⟨_, rfl⟩
      rw [← hq] at HCC
      have HQ := Lib.hid hq
      have HE := Lib.hid he
      clear hcell5 hv5 hvd hf6 hdl ht64 hi64 he hq
      go_wp2_with fail
      refine HCC.out.mono ?_
      rintro x w2 ⟨rfl, hB2⟩
      have hbz := hb.trans (hB2.mono hb.size)
      clear q0 q1 q2 HCC
      cases q
      · go_wp2
        go_roundw
        case rel =>
          refine ⟨i + 1, by omega, by go_num, hbz, Lib.hid ?_⟩
          intro x hx
          rw [List.take_succ_eq_append_getElem hil, List.mem_append, List.mem_singleton] at hx
          rcases hx with hx | rfl
          · exact HP.out x hx
          · rw [← HE.out]; exact HQ.out.symm
        case measure => simp [intOf]; omega
      · go_wp2
        go_ret
        refine ⟨⟨_, rfl, .inr ⟨i, rfl, hlt, fun x hx => ?_, HP.out⟩⟩, hbz⟩
        rw [List.getElem?_eq_getElem hil] at hx
        rw [← Option.some.inj hx, ← HE.out]
        exact HQ.out.symm
    · obtain rfl : i = m := by omega
      go_wp2
      go_ret
      refine ⟨⟨_, rfl, .inl ⟨rfl, fun x hx => HP.out x ?_⟩⟩, hb⟩
      rw [List.take_of_length_le (by rw [← HM.out]; omega)]
      exact hx
theorem wpList_stMid {P : Program} {ops : Array Oper} {rest : List Oper} {o : Oper} {a : Act} {Q : Exit → Act → World → Prop} {w : World} {g k : Nat} {T : TypeId} {A C B : Array Value} (hgd : o.guard = none) {ty : TypeId} {x y : Operand} (ho : o.op = .store ty x y) (cs : Array Value) (hx : a.eval x = .pointer (some ⟨g, k, none⟩)) (hy : a.eval y = .agg cs) (hk : Blk w g T (A ++ C ++ B)) (hkA : k = A.size) (hs : cs.size = C.size) (hi : (P.info? ty).map (·.size) = some cs.size) (h1 : cs.all (·.oneCell') = true)
    (h : Blk (w.setCells g k cs.toList) g T (A ++ cs ++ B) → wpList P ops Q rest a (w.setCells g k cs.toList)) (hdst : o.dst = none) : wpList P ops Q (o :: rest) a w := by
  subst hkA
  refine wpList_store_mid hgd ty x y ho g A.size cs hx hy ?_ hi h1 ?_
  · exact hk.there_at A.size cs.size (by simp [hs])
  · rw [hdst]
    exact h (hk.setCells_mid cs hs)
theorem Tryz.infoSnap : (Tryz.prog.info? 27).map (·.size) = some 3 := by kernel_rfl
theorem snap_all (a b : Nat) (A : Option Addr) (n c : Nat) : (#[.int .u64 (a : Int), .int .u64 (b : Int), .slice A n c] : Array Value).all (·.oneCell') = true := by simp [Value.oneCell']
end Go.Proofs.YtnlhjhpikjmoaaaGreatDoor
namespace Go.Proofs.YtnlhjhpikjmoaaaGreatDoor
open Go.RowKit
theorem run_clear_any {P : Program} {n : Nat} (w : World) (t e ty : TypeId) (z : Value) (Z : Array Value) (ht : P.underlying t = some (.slice e)) (hv : ∀ w, (zeroValue e).run P w = .ok z w) (hz : z.cells = Z) (h1 : ∀ v ∈ (Builtin.zeroCells Z n).toList, v.oneCell' = true) (b o c : Nat) (hn : 0 < n)
    (hc : ∀ j, j < (Builtin.zeroCells Z n).toList.length → (w.cell? ⟨b, o + j, none⟩).isSome = true) (hf : ∀ j, j < (Builtin.zeroCells Z n).toList.length → w.frozen? ⟨b, o + j, none⟩ = false) :
    (Builtin.clear_ #[t] ty #[.slice (some ⟨b, o, none⟩) n c]).run P w = .ok (.tuple #[]) (w.setCells b o (Builtin.zeroCells Z n).toList) := by
  have hst := run_storeCells_cells (P := P) b o (Builtin.zeroCells Z n).toList 0 w (by simpa using hc) (by simpa using hf) h1
  simp only [Nat.add_zero] at hst
  obtain ⟨m, rfl⟩ : ∃ m, n = m + 1 := ⟨n - 1, by omega⟩
  simp [Builtin.clear_, run_underlying ht, hv, hz, hst]
theorem zeroCells_len (Z : Array Value) (n : Nat) : (Builtin.zeroCells Z n).toList.length = n * Z.size := by simp [Builtin.zeroCells]
def entZ : Array Value := #[.int .u64 0, .int .u64 0, .slice none 0 0]
theorem Tryz.zeroEnt (w : World) : (zeroValue 50).run Tryz.prog w = .ok (.agg entZ) w := by kernel_rfl
theorem entZ_one (n : Nat) : ∀ v ∈ (Builtin.zeroCells entZ n).toList, v.oneCell' = true := by
  intro v hv
  simp only [Builtin.zeroCells, Array.toList_map, List.mem_map] at hv
  obtain ⟨i, _, rfl⟩ := hv
  have h3 : i % entZ.size < 3 := Nat.mod_lt _ (by decide)
  match i % entZ.size, h3 with
  | 0, _ => rfl
  | 1, _ => rfl
  | 2, _ => rfl
theorem Tryz.infoEnt : (Tryz.prog.info? 50).map (·.size) = some 3 := by kernel_rfl
theorem filter_take {α : Type} (l : List α) (q : α → Bool) {i : Nat} (h : i < l.length) : (l.take (i + 1)).filter q = (l.take i).filter q ++ (if q l[i] = true then [l[i]] else []) := by
  rw [List.take_succ_eq_append_getElem h, List.filter_append]
  congr 1
  by_cases hq : q l[i] = true <;> simp [hq]
set_option maxRecDepth 100000 in
set_option maxHeartbeats 6400000 in
theorem deleteEntC_any {cap : Value} {p : VEnt → Bool} {okd : Nat → Prop} {base : Nat} {w : World} {v : Value} {l : List VEnt} (h : OwnL rEnt okd base 50 w v l) (hl : l.length ≤ 1000000) (hC : ∀ w', Kp (fun b => some b ≠ v.ownBlock) w w' → ClosP 103 cap p w') :
    Calls Tryz.prog 89 #[v, .func (.func 103) #[] #[cap]] w fun e w' => (∃ v', e = .returned v' ∧ v'.ownBlock = v.ownBlock ∧ OwnL rEnt okd base 50 w' v' (l.filter fun x => !p x)) ∧ Kp (fun b => some b ≠ v.ownBlock) w w' := by
  have hidx := indexEntC_any (p := p) (cap := cap) (h.rsl (ok := fun _ => True) (by decide) (by show l.length * 40 ≤ _; omega) (fun _ _ => trivial) (fun _ _ => trivial)) hl fun w' hb => hC w' (.of_below hb)
  obtain ⟨A, c, rfl, hc⟩ := h.form
  obtain ⟨m, hm⟩ : ∃ m, m = l.length := ⟨_, rfl⟩
  rw [← hm] at h hc hl hidx hC ⊢
  have HI := Lib.hid hidx
  have HM := Lib.hid hm
  have HO := Lib.hid h
  have HC := Lib.hid hC
  clear hidx hm h hC
  go_enter Tryz.func89, Tryz.ntmps89
  go_wp2_with fail
  refine HI.out.mono ?_
  rintro e w1 ⟨⟨r, rfl, hr⟩, hB1⟩
  clear HI
  rcases hr with ⟨rfl, hall⟩ | ⟨i, rfl, hil, hpi, hpre⟩
  · have HF := Lib.hid (show (l.filter fun x => !p x) = l by
      rw [List.filter_eq_self]
      intro x hx
      rw [hall x hx]
      rfl)
    clear hall
    go_wp2
    go_ret
    exact ⟨⟨_, rfl, rfl, by rw [HF.out]; exact HO.out.below hB1⟩, .of_below hB1⟩
  · have him : i < m := hil
    have hil : i < l.length := by rw [← HM.out]; exact him
    obtain ⟨g, cur, css, hA, _⟩ := HO.out.open_ (by omega)
    subst hA
    have z1 : ((i : Int) == -1) = false := by rw [beq_eq_false_iff_ne]; omega
    have HS := Lib.hid (show l.take i = (l.take (i + 1)).filter (fun x => !p x) ∧ True from ⟨by
      rw [filter_take l _ hil, hpi _ (List.getElem?_eq_getElem hil), if_neg (by decide), List.append_nil, List.filter_eq_self.2]
      intro x hx
      rw [hpre x hx]
      rfl, trivial⟩)
    have HO1 := Lib.hid (HO.out.below hB1)
    have hK1 : Kp (fun b => b ≠ g) w w1 := .of_below hB1
    have hgl := (HO.out.lt g rfl).2
    have HK1 := Lib.hid hK1
    clear hpi hpre hK1
    go_upto_region 5 with fail
    go_loopw [5, 6] (fun vi vj wr => ∃ (k j : Nat) (D : List VEnt), k < j ∧ j ≤ m ∧ vi = .int .i64 (k : Int) ∧ vj = .int .i64 (j : Int) ∧ Hid (OwnL rEnt okd base 50 wr (.slice (some ⟨g, 0, none⟩) m c) D ∧ Kp (fun b => b ≠ g) w wr ∧ D.length = m ∧ D.take k = (l.take j).filter (fun x => !p x) ∧ D.drop j = l.drop j)) (fun _ vj _ => m - (intOf vj).toNat)
    case atStart => exact ⟨i, i + 1, l, by omega, by omega, by go_num, by go_num, Lib.hid ⟨HO1.out, HK1.out, HM.out.symm, HS.out.1, rfl⟩⟩
    case round =>
      obtain ⟨k, j, D, hkj, hjm, rfl, rfl, HP⟩ := hrel
      by_cases hlt : j < m
      · have hjl : j < l.length := by rw [← HM.out]; exact hlt
        have hjD : j < D.length := by rw [HP.out.2.2.1]; exact hlt
        have heq : D[j] = l[j] := by
          have h1 := congrArg (fun q => q[0]?) HP.out.2.2.2.2
          simpa [List.getElem?_drop, hjD, hjl] using h1
        have hrs : RSl rEnt (fun _ => True) wr (.slice (some ⟨g, 0, none⟩) m c) D := HP.out.1.rsl (by decide) (by rw [HP.out.2.2.1]; show m * 40 ≤ _; omega) (fun _ _ => trivial) (fun _ _ => trivial)
        obtain ⟨g', cur', css', hg', _, hkb, _, hcm', hsz', htk', hch', hDl⟩ := HP.out.1.open_ (by omega)
        obtain rfl : g = g' := by simpa using hg'
        obtain ⟨cs, hcs, hcf⟩ := hch'.get j hjD
        rw [heq] at hcs
        obtain ⟨vd, rfl, hvd, ht64, hi64⟩ := hcs
        obtain ⟨A6, c6, rfl, hf6⟩ := hvd.form
        have hcell : ∀ q u, ([.int .u64 ((l[j]).term : Int), .int .u64 ((l[j]).idx : Int), .slice A6 (l[j]).data.length c6] : List Value)[q]? = some u → wr.cell? ⟨g, j * 3 + q, none⟩ = some u := fun q u hu => by
          have hq3 : q < 3 := (List.getElem?_eq_some_iff.1 hu).1
          have h1 := hcf q u hu
          rw [← htk'] at h1
          rw [hkb.cell (j * 3 + q), ← Array.getElem?_toList]
          rw [List.getElem?_take, if_pos (by show j * 3 + q < m * 3; omega)] at h1
          exact h1
        obtain ⟨e, he⟩ : ∃ e, e = l[j] := ⟨_, rfl⟩
        have HVD := Lib.hid hvd
        rw [← he] at hcell HVD ht64 hi64 heq
        obtain ⟨dl, hdl⟩ : ∃ dl, dl = e.data.length := ⟨_, rfl⟩
        rw [← hdl] at hcell HVD
        have q0 : wr.cell? ⟨g, j * 3, none⟩ = some (.int .u64 (e.term : Int)) := hcell 0 _ rfl
        have q1 : wr.cell? ⟨g, j * 3 + 1, none⟩ = some (.int .u64 (e.idx : Int)) := hcell 1 _ rfl
        have q2 : wr.cell? ⟨g, j * 3 + 2, none⟩ = some (.slice A6 dl c6) := hcell 2 _ rfl
        have HE := Lib.hid he
        have H64 := Lib.hid (And.intro ht64 hi64)
        clear hcell hcf htk' hch' hDl hsz' hcm' hkb hg' hvd hf6 hdl he heq ht64 hi64 hrs
        go_upto_region 8 with fail
        obtain ⟨we, hwe⟩ : ∃ we, we = wr.heap.size := ⟨_, rfl⟩
        refine name_world (fun w2 => Blk w2 we 50 #[.int .u64 (e.term : Int), .int .u64 (e.idx : Int), .slice A6 dl c6] ∧ Below wr.heap.size wr w2) ⟨by rw [hwe]; exact Blk.new _ _ _, (Below.refl _ _).alloc (Nat.le_refl _) _⟩ ?_
        rintro w2 ⟨hbe, hB2⟩
        rw [← hwe]
        have HWE := Lib.hid hwe
        have e0 : w2.cell? ⟨we, 0, none⟩ = some (.int .u64 (e.term : Int)) := hbe.cell 0
        have e1 : w2.cell? ⟨we, 1, none⟩ = some (.int .u64 (e.idx : Int)) := hbe.cell 1
        have e2 : w2.cell? ⟨we, 2, none⟩ = some (.slice A6 dl c6) := hbe.cell 2
        have hKw2 : Kp (fun b => b ≠ g) w w2 := HP.out.2.1.trans (.of_below hB2)
        have HCC := Lib.hid (HC.out w2 (hKw2.mono fun b hb e => hb (by rw [e]; rfl)) e.term e.idx A6 dl c6 e rfl rfl)
        obtain ⟨q, hq⟩ : ∃ q, q = p e := ⟨_, rfl⟩
        rw [← hq] at HCC
        have HQ := Lib.hid hq
        have HBE := Lib.hid hbe
        have HB2 := Lib.hid hB2
        clear q0 q1 q2 hwe hq hbe hB2 hKw2
        go_wp2_with fail
        refine HCC.out.mono ?_
        rintro x w3 ⟨rfl, hB3⟩
        have HB3 := Lib.hid (HB2.out.trans (hB3.mono HB2.out.size))
        have hbe3 := HBE.out.below hB3 HBE.out.lt
        clear e0 e1 e2 HCC hB3
        cases q
        · have e0 : w3.cell? ⟨we, 0, none⟩ = some (.int .u64 (e.term : Int)) := hbe3.cell 0
          have e1 : w3.cell? ⟨we, 1, none⟩ = some (.int .u64 (e.idx : Int)) := hbe3.cell 1
          have e2 : w3.cell? ⟨we, 2, none⟩ = some (.slice A6 dl c6) := hbe3.cell 2
          have hkm : k < m := by omega
          clear hbe3
          go_upto_region 9 with fail
          refine wp_region_split 4 ?_
          simp only [List.take_succ_cons, List.take_zero, List.drop_succ_cons, List.drop_zero]
          go_wp2
          show wpList _ _ _ _ _ _
          have hoS := (HP.out.1.below HB3.out).set_ hkm (d := e) (cs := [.int .u64 (e.term : Int), .int .u64 (e.idx : Int), .slice A6 dl c6]) ⟨_, rfl, RSl.below (RSl.mono (by decide) (fun b hb _ => hb) HVD.out) HB3.out, H64.out.1, H64.out.2⟩
          have HOS := Lib.hid hoS
          have hth : w3.there g (k * 3) 3 := by
            obtain ⟨g2, cur2, css2, hg2, _, hkb2, hnc2, _, hsz2, _⟩ := (HP.out.1.below HB3.out).open_ (by omega)
            obtain rfl : g = g2 := by simpa using hg2
            exact hkb2.there_at (k * 3) 3 (by rw [hsz2]; show k * 3 + 3 ≤ c * 3; omega)
          clear hoS e0 e1 e2
          refine wpList_store_mid rfl _ _ _ rfl g (k * 3) #[.int .u64 (e.term : Int), .int .u64 (e.idx : Int), .slice A6 dl c6] rfl rfl hth Tryz.infoEnt (by simp [Value.oneCell']) ?_
          show wpList _ _ _ _ _ (w3.setCells g (k * rEnt.sz) [.int .u64 (e.term : Int), .int .u64 (e.idx : Int), .slice A6 dl c6])
          have HX := HOS.out
          have HNW := Lib.hid (show OwnL rEnt okd base 50 (w3.setCells g (k * rEnt.sz) [.int .u64 (e.term : Int), .int .u64 (e.idx : Int), .slice A6 dl c6]) (.slice (some ⟨g, 0, none⟩) m c) (D.set k e) ∧ Kp (fun b => b ≠ g) w (w3.setCells g (k * rEnt.sz) [.int .u64 (e.term : Int), .int .u64 (e.idx : Int), .slice A6 dl c6]) ∧ (D.set k e).length = m ∧ (D.set k e).take (k + 1) = (l.take (j + 1)).filter (fun x => !p x) ∧ (D.set k e).drop (j + 1) = l.drop (j + 1) from
            ⟨HX.1, (HP.out.2.1.trans (.of_below HB3.out)).trans HX.2, by rw [List.length_set]; exact HP.out.2.2.1, by
              have hkD : k < D.length := by rw [HP.out.2.2.1]; exact hkm
              rw [filter_take l _ hjl, ← HE.out, ← HQ.out, if_pos (by decide), ← HP.out.2.2.2.1]
              rw [List.take_succ_eq_append_getElem (by rw [List.length_set]; exact hkD), List.getElem_set_self, List.take_set_of_le (Nat.le_refl _)], by
              rw [List.drop_set_of_lt (by omega)]
              have := congrArg (List.drop 1) HP.out.2.2.2.2
              rwa [List.drop_drop, List.drop_drop] at this⟩)
          clear HX HOS
          generalize w3.setCells g (k * rEnt.sz) [.int .u64 (e.term : Int), .int .u64 (e.idx : Int), .slice A6 dl c6] = w4 at HNW ⊢
          go_wp2
          go_roundw
          case rel => exact ⟨k + 1, j + 1, D.set k e, by omega, by omega, by go_num, by go_num, HNW⟩
          case measure => simp [intOf]; omega
        · go_wp2
          go_roundw
          case rel =>
            refine ⟨k, j + 1, D, by omega, by omega, rfl, by go_num, Lib.hid ⟨HP.out.1.below HB3.out, HP.out.2.1.trans (.of_below HB3.out), HP.out.2.2.1, ?_, ?_⟩⟩
            · rw [filter_take l _ hjl, ← HE.out, ← HQ.out, if_neg (by decide), List.append_nil]
              exact HP.out.2.2.2.1
            · have := congrArg (List.drop 1) HP.out.2.2.2.2
              rwa [List.drop_drop, List.drop_drop] at this
          case measure => simp [intOf]; omega
      · obtain rfl : j = m := by omega
        obtain ⟨g', cur', css', hg', _, hkb, hnc', hcm', hsz', htk', hch', hDl⟩ := HP.out.1.open_ (by omega)
        obtain rfl : g = g' := by simpa using hg'
        have hsz3 : cur'.size = c * 3 := hsz'
        have z0 : decide (c = k) = false := decide_eq_false (by omega)
        have z4 : ¬ c = k := by omega
        have hzl := zeroCells_len entZ (j - k)
        have hz3 : entZ.size = 3 := rfl
        rw [hz3] at hzl
        have hcl : ∀ ty, (Builtin.clear_ #[28] ty #[.slice (some ⟨g, k * 3, none⟩) (j - k) (c - k)]).run Tryz.prog wr = .ok (.tuple #[]) (wr.setCells g (k * 3) (Builtin.zeroCells entZ (j - k)).toList) := fun ty =>
          run_clear_any wr _ _ ty _ _ Tryz.underlying28 Tryz.zeroEnt rfl (entZ_one _) g (k * 3) (c - k) (by omega)
            (fun q hq => by have hq : q < (Builtin.zeroCells entZ (j - k)).toList.length := hq; rw [hzl] at hq; rw [hkb.cell (k * 3 + q), Array.getElem?_eq_getElem (by omega)]; rfl) (fun q _ => hkb.frozen _)
        have HT := Lib.hid (HP.out.1.tail_ (k := k) (by omega) (by omega) (Builtin.zeroCells entZ (j - k)).toList (by rw [hzl]; show k * 3 + (j - k) * 3 ≤ c * 3; omega))
        have HD := Lib.hid (show D.take k = l.filter fun x => !p x by rw [HP.out.2.2.2.1, List.take_of_length_le (by rw [← HM.out]; exact Nat.le_refl _)])
        have HKW := Lib.hid HP.out.2.1
        clear hkb hsz' htk' hch' hDl hzl hz3 hsz3 hg' HP
        go_wp2
        go_ret
        refine ⟨⟨_, rfl, rfl, ?_⟩, (HKW.out.trans HT.out.2).mono fun b hb e => hb (by rw [e]; rfl)⟩
        rw [← HD.out]
        exact HT.out.1
set_option maxRecDepth 100000 in
set_option maxHeartbeats 6400000 in
theorem deleteEntR_any {cap : Value} {p : VEnt → Bool} {okd : Nat → Prop} {base : Nat} {w : World} {v : Value} {l : List VEnt} (h : OwnL rEnt okd base 50 w v l) (hl : l.length ≤ 1000000) (hC : ∀ w', Kp (fun b => some b ≠ v.ownBlock) w w' → ClosP 91 cap p w') :
    Calls Tryz.prog 89 #[v, .func (.func 91) #[] #[cap]] w fun e w' => (∃ v', e = .returned v' ∧ v'.ownBlock = v.ownBlock ∧ OwnL rEnt okd base 50 w' v' (l.filter fun x => !p x)) ∧ Kp (fun b => some b ≠ v.ownBlock) w w' := by
  have hidx := indexEntR_any (p := p) (cap := cap) (h.rsl (ok := fun _ => True) (by decide) (by show l.length * 40 ≤ _; omega) (fun _ _ => trivial) (fun _ _ => trivial)) hl fun w' hb => hC w' (.of_below hb)
  obtain ⟨A, c, rfl, hc⟩ := h.form
  obtain ⟨m, hm⟩ : ∃ m, m = l.length := ⟨_, rfl⟩
  rw [← hm] at h hc hl hidx hC ⊢
  have HI := Lib.hid hidx
  have HM := Lib.hid hm
  have HO := Lib.hid h
  have HC := Lib.hid hC
  clear hidx hm h hC
  go_enter Tryz.func89, Tryz.ntmps89
  go_wp2_with fail
  refine HI.out.mono ?_
  rintro e w1 ⟨⟨r, rfl, hr⟩, hB1⟩
  clear HI
  rcases hr with ⟨rfl, hall⟩ | ⟨i, rfl, hil, hpi, hpre⟩
  · have HF := Lib.hid (show (l.filter fun x => !p x) = l by
      rw [List.filter_eq_self]
      intro x hx
      rw [hall x hx]
      rfl)
    clear hall
    go_wp2
    go_ret
    exact ⟨⟨_, rfl, rfl, by rw [HF.out]; exact HO.out.below hB1⟩, .of_below hB1⟩
  · have him : i < m := hil
    have hil : i < l.length := by rw [← HM.out]; exact him
    obtain ⟨g, cur, css, hA, _⟩ := HO.out.open_ (by omega)
    subst hA
    have z1 : ((i : Int) == -1) = false := by rw [beq_eq_false_iff_ne]; omega
    have HS := Lib.hid (show l.take i = (l.take (i + 1)).filter (fun x => !p x) ∧ True from ⟨by
      rw [filter_take l _ hil, hpi _ (List.getElem?_eq_getElem hil), if_neg (by decide), List.append_nil, List.filter_eq_self.2]
      intro x hx
      rw [hpre x hx]
      rfl, trivial⟩)
    have HO1 := Lib.hid (HO.out.below hB1)
    have hK1 : Kp (fun b => b ≠ g) w w1 := .of_below hB1
    have hgl := (HO.out.lt g rfl).2
    have HK1 := Lib.hid hK1
    clear hpi hpre hK1
    go_upto_region 5 with fail
    go_loopw [5, 6] (fun vi vj wr => ∃ (k j : Nat) (D : List VEnt), k < j ∧ j ≤ m ∧ vi = .int .i64 (k : Int) ∧ vj = .int .i64 (j : Int) ∧ Hid (OwnL rEnt okd base 50 wr (.slice (some ⟨g, 0, none⟩) m c) D ∧ Kp (fun b => b ≠ g) w wr ∧ D.length = m ∧ D.take k = (l.take j).filter (fun x => !p x) ∧ D.drop j = l.drop j)) (fun _ vj _ => m - (intOf vj).toNat)
    case atStart => exact ⟨i, i + 1, l, by omega, by omega, by go_num, by go_num, Lib.hid ⟨HO1.out, HK1.out, HM.out.symm, HS.out.1, rfl⟩⟩
    case round =>
      obtain ⟨k, j, D, hkj, hjm, rfl, rfl, HP⟩ := hrel
      by_cases hlt : j < m
      · have hjl : j < l.length := by rw [← HM.out]; exact hlt
        have hjD : j < D.length := by rw [HP.out.2.2.1]; exact hlt
        have heq : D[j] = l[j] := by
          have h1 := congrArg (fun q => q[0]?) HP.out.2.2.2.2
          simpa [List.getElem?_drop, hjD, hjl] using h1
        have hrs : RSl rEnt (fun _ => True) wr (.slice (some ⟨g, 0, none⟩) m c) D := HP.out.1.rsl (by decide) (by rw [HP.out.2.2.1]; show m * 40 ≤ _; omega) (fun _ _ => trivial) (fun _ _ => trivial)
        obtain ⟨g', cur', css', hg', _, hkb, _, hcm', hsz', htk', hch', hDl⟩ := HP.out.1.open_ (by omega)
        obtain rfl : g = g' := by simpa using hg'
        obtain ⟨cs, hcs, hcf⟩ := hch'.get j hjD
        rw [heq] at hcs
        obtain ⟨vd, rfl, hvd, ht64, hi64⟩ := hcs
        obtain ⟨A6, c6, rfl, hf6⟩ := hvd.form
        have hcell : ∀ q u, ([.int .u64 ((l[j]).term : Int), .int .u64 ((l[j]).idx : Int), .slice A6 (l[j]).data.length c6] : List Value)[q]? = some u → wr.cell? ⟨g, j * 3 + q, none⟩ = some u := fun q u hu => by
          have hq3 : q < 3 := (List.getElem?_eq_some_iff.1 hu).1
          have h1 := hcf q u hu
          rw [← htk'] at h1
          rw [hkb.cell (j * 3 + q), ← Array.getElem?_toList]
          rw [List.getElem?_take, if_pos (by show j * 3 + q < m * 3; omega)] at h1
          exact h1
        obtain ⟨e, he⟩ : ∃ e, e = l[j] := ⟨_, rfl⟩
        have HVD := Lib.hid hvd
        rw [← he] at hcell HVD ht64 hi64 heq
        obtain ⟨dl, hdl⟩ : ∃ dl, dl = e.data.length := ⟨_, rfl⟩
        rw [← hdl] at hcell HVD
        have q0 : wr.cell? ⟨g, j * 3, none⟩ = some (.int .u64 (e.term : Int)) := hcell 0 _ rfl
        have q1 : wr.cell? ⟨g, j * 3 + 1, none⟩ = some (.int .u64 (e.idx : Int)) := hcell 1 _ rfl
        have q2 : wr.cell? ⟨g, j * 3 + 2, none⟩ = some (.slice A6 dl c6) := hcell 2 _ rfl
        have HE := Lib.hid he
        have H64 := Lib.hid (And.intro ht64 hi64)
        clear hcell hcf htk' hch' hDl hsz' hcm' hkb hg' hvd hf6 hdl he heq ht64 hi64 hrs
        go_upto_region 8 with fail
        obtain ⟨we, hwe⟩ : ∃ we, we = wr.heap.size := ⟨_, rfl⟩
        refine name_world (fun w2 => Blk w2 we 50 #[.int .u64 (e.term : Int), .int .u64 (e.idx : Int), .slice A6 dl c6] ∧ Below wr.heap.size wr w2) ⟨by rw [hwe]; exact Blk.new _ _ _, (Below.refl _ _).alloc (Nat.le_refl _) _⟩ ?_
        rintro w2 ⟨hbe, hB2⟩
        rw [← hwe]
        have HWE := Lib.hid hwe
        have e0 : w2.cell? ⟨we, 0, none⟩ = some (.int .u64 (e.term : Int)) := hbe.cell 0
        have e1 : w2.cell? ⟨we, 1, none⟩ = some (.int .u64 (e.idx : Int)) := hbe.cell 1
        have e2 : w2.cell? ⟨we, 2, none⟩ = some (.slice A6 dl c6) := hbe.cell 2
        have hKw2 : Kp (fun b => b ≠ g) w w2 := HP.out.2.1.trans (.of_below hB2)
        have HCC := Lib.hid (HC.out w2 (hKw2.mono fun b hb e => hb (by rw [e]; rfl)) e.term e.idx A6 dl c6 e rfl rfl)
        obtain ⟨q, hq⟩ : ∃ q, q = p e := ⟨_, rfl⟩
        rw [← hq] at HCC
        have HQ := Lib.hid hq
        have HBE := Lib.hid hbe
        have HB2 := Lib.hid hB2
        clear q0 q1 q2 hwe hq hbe hB2 hKw2
        go_wp2_with fail
        refine HCC.out.mono ?_
        rintro x w3 ⟨rfl, hB3⟩
        have HB3 := Lib.hid (HB2.out.trans (hB3.mono HB2.out.size))
        have hbe3 := HBE.out.below hB3 HBE.out.lt
        clear e0 e1 e2 HCC hB3
        cases q
        · have e0 : w3.cell? ⟨we, 0, none⟩ = some (.int .u64 (e.term : Int)) := hbe3.cell 0
          have e1 : w3.cell? ⟨we, 1, none⟩ = some (.int .u64 (e.idx : Int)) := hbe3.cell 1
          have e2 : w3.cell? ⟨we, 2, none⟩ = some (.slice A6 dl c6) := hbe3.cell 2
          have hkm : k < m := by omega
          clear hbe3
          go_upto_region 9 with fail
          refine wp_region_split 4 ?_
          simp only [List.take_succ_cons, List.take_zero, List.drop_succ_cons, List.drop_zero]
          go_wp2
          show wpList _ _ _ _ _ _
          have hoS := (HP.out.1.below HB3.out).set_ hkm (d := e) (cs := [.int .u64 (e.term : Int), .int .u64 (e.idx : Int), .slice A6 dl c6]) ⟨_, rfl, RSl.below (RSl.mono (by decide) (fun b hb _ => hb) HVD.out) HB3.out, H64.out.1, H64.out.2⟩
          have HOS := Lib.hid hoS
          have hth : w3.there g (k * 3) 3 := by
            obtain ⟨g2, cur2, css2, hg2, _, hkb2, hnc2, _, hsz2, _⟩ := (HP.out.1.below HB3.out).open_ (by omega)
            obtain rfl : g = g2 := by simpa using hg2
            exact hkb2.there_at (k * 3) 3 (by rw [hsz2]; show k * 3 + 3 ≤ c * 3; omega)
          clear hoS e0 e1 e2
          refine wpList_store_mid rfl _ _ _ rfl g (k * 3) #[.int .u64 (e.term : Int), .int .u64 (e.idx : Int), .slice A6 dl c6] rfl rfl hth Tryz.infoEnt (by simp [Value.oneCell']) ?_
          show wpList _ _ _ _ _ (w3.setCells g (k * rEnt.sz) [.int .u64 (e.term : Int), .int .u64 (e.idx : Int), .slice A6 dl c6])
          have HX := HOS.out
          have HNW := Lib.hid (show OwnL rEnt okd base 50 (w3.setCells g (k * rEnt.sz) [.int .u64 (e.term : Int), .int .u64 (e.idx : Int), .slice A6 dl c6]) (.slice (some ⟨g, 0, none⟩) m c) (D.set k e) ∧ Kp (fun b => b ≠ g) w (w3.setCells g (k * rEnt.sz) [.int .u64 (e.term : Int), .int .u64 (e.idx : Int), .slice A6 dl c6]) ∧ (D.set k e).length = m ∧ (D.set k e).take (k + 1) = (l.take (j + 1)).filter (fun x => !p x) ∧ (D.set k e).drop (j + 1) = l.drop (j + 1) from
            ⟨HX.1, (HP.out.2.1.trans (.of_below HB3.out)).trans HX.2, by rw [List.length_set]; exact HP.out.2.2.1, by
              have hkD : k < D.length := by rw [HP.out.2.2.1]; exact hkm
              rw [filter_take l _ hjl, ← HE.out, ← HQ.out, if_pos (by decide), ← HP.out.2.2.2.1]
              rw [List.take_succ_eq_append_getElem (by rw [List.length_set]; exact hkD), List.getElem_set_self, List.take_set_of_le (Nat.le_refl _)], by
              rw [List.drop_set_of_lt (by omega)]
              have := congrArg (List.drop 1) HP.out.2.2.2.2
              rwa [List.drop_drop, List.drop_drop] at this⟩)
          clear HX HOS
          generalize w3.setCells g (k * rEnt.sz) [.int .u64 (e.term : Int), .int .u64 (e.idx : Int), .slice A6 dl c6] = w4 at HNW ⊢
          go_wp2
          go_roundw
          case rel => exact ⟨k + 1, j + 1, D.set k e, by omega, by omega, by go_num, by go_num, HNW⟩
          case measure => simp [intOf]; omega
        · go_wp2
          go_roundw
          case rel =>
            refine ⟨k, j + 1, D, by omega, by omega, rfl, by go_num, Lib.hid ⟨HP.out.1.below HB3.out, HP.out.2.1.trans (.of_below HB3.out), HP.out.2.2.1, ?_, ?_⟩⟩
            · rw [filter_take l _ hjl, ← HE.out, ← HQ.out, if_neg (by decide), List.append_nil]
              exact HP.out.2.2.2.1
            · have := congrArg (List.drop 1) HP.out.2.2.2.2
              rwa [List.drop_drop, List.drop_drop] at this
          case measure => simp [intOf]; omega
      · obtain rfl : j = m := by omega
        obtain ⟨g', cur', css', hg', _, hkb, hnc', hcm', hsz', htk', hch', hDl⟩ := HP.out.1.open_ (by omega)
        obtain rfl : g = g' := by simpa using hg'
        have hsz3 : cur'.size = c * 3 := hsz'
        have z0 : decide (c = k) = false := decide_eq_false (by omega)
        have z4 : ¬ c = k := by omega
        have hzl := zeroCells_len entZ (j - k)
        have hz3 : entZ.size = 3 := rfl
        rw [hz3] at hzl
        have hcl : ∀ ty, (Builtin.clear_ #[28] ty #[.slice (some ⟨g, k * 3, none⟩) (j - k) (c - k)]).run Tryz.prog wr = .ok (.tuple #[]) (wr.setCells g (k * 3) (Builtin.zeroCells entZ (j - k)).toList) := fun ty =>
          run_clear_any wr _ _ ty _ _ Tryz.underlying28 Tryz.zeroEnt rfl (entZ_one _) g (k * 3) (c - k) (by omega)
            (fun q hq => by have hq : q < (Builtin.zeroCells entZ (j - k)).toList.length := hq; rw [hzl] at hq; rw [hkb.cell (k * 3 + q), Array.getElem?_eq_getElem (by omega)]; rfl) (fun q _ => hkb.frozen _)
        have HT := Lib.hid (HP.out.1.tail_ (k := k) (by omega) (by omega) (Builtin.zeroCells entZ (j - k)).toList (by rw [hzl]; show k * 3 + (j - k) * 3 ≤ c * 3; omega))
        have HD := Lib.hid (show D.take k = l.filter fun x => !p x by rw [HP.out.2.2.2.1, List.take_of_length_le (by rw [← HM.out]; exact Nat.le_refl _)])
        have HKW := Lib.hid HP.out.2.1
        clear hkb hsz' htk' hch' hDl hzl hz3 hsz3 hg' HP
        go_wp2
        go_ret
        refine ⟨⟨_, rfl, rfl, ?_⟩, (HKW.out.trans HT.out.2).mono fun b hb e => hb (by rw [e]; rfl)⟩
        rw [← HD.out]
        exact HT.out.1
end Go.Proofs.YtnlhjhpikjmoaaaGreatDoor
namespace Go.Proofs.YtnlhjhpikjmoaaaGreatDoor
open Go.RowKit
theorem changeV_es (l : VLog) (i t : Nat) (d : List UInt8) : (changeV l i t d).es = match (l.es.filter fun e => !decide (e.idx ≤ i)) with
    | [] => []
    | e :: r => if e.idx = i + 1 then e :: r else [] := by
  have : (fun e : VEnt => !decide (e.idx ≤ i)) = fun e => decide (i < e.idx) := by
    funext e
    rw [← decide_not]
    congr 1
    rw [eq_iff_iff]
    omega
  rw [this]
  rfl
set_option maxRecDepth 100000 in
set_option maxHeartbeats 6400000 in
theorem change_any {ok ok2 : Nat → Prop} {w : World} {vsd ves usd : Value} {l : VLog} (h : VLm ok w vsd ves l) (i t : Nat) (hi : i ≤ 4611686018427387904) {d : List UInt8} (hd : RB ok2 w usd d) (hn : l.es.length ≤ 1000000) :
    Calls Tryz.prog 88 #[.agg (vlCs l vsd ves), .agg #[.int .u64 (i : Int), .int .u64 (t : Int), usd]] w fun e w' => (∃ v', e = .returned (.agg (vlCs (changeV l i t d) usd v')) ∧ OwnL rEnt (fun b => ok b ∧ b < w.heap.size) w.heap.size 50 w' v' (changeV l i t d).es) ∧ Below w.heap.size w w' := by
  have hes := h.es.mono (by decide) (ok' := fun b => ok b ∧ b < w.heap.size) fun b h1 h2 => ⟨h1, h2⟩
  obtain ⟨As, cs, rfl, _, _⟩ := h.sd.form
  obtain ⟨Ae, ce, rfl, _, _⟩ := h.es.form
  obtain ⟨Ad, cd, rfl, _, _⟩ := hd.form
  obtain ⟨m, hm⟩ : ∃ m, m = l.es.length := ⟨_, rfl⟩
  obtain ⟨ms, hms⟩ : ∃ ms, ms = l.sd.length := ⟨_, rfl⟩
  obtain ⟨md, hmd⟩ : ∃ md, md = d.length := ⟨_, rfl⟩
  obtain ⟨L, hL⟩ : ∃ L, L = l.es.filter fun e => !decide (e.idx ≤ i) := ⟨_, rfl⟩
  have hce := changeV_es l i t d
  rw [← hL] at hce
  have hLl : L.length ≤ m := by rw [hL, hm]; exact List.length_filter_le _ _
  rw [← hm, ← hms, ← hmd]
  rw [← hm] at hes hn
  have HL := Lib.hid hL
  have HCE := Lib.hid hce
  have HM := Lib.hid hm
  have HES := Lib.hid hes
  have HI := Lib.hid hi
  clear h hes hd hm hms hmd hL hce hi
  obtain ⟨g, hg⟩ : ∃ g, g = w.heap.size := ⟨_, rfl⟩
  have hmf : ∀ (fn : Fn) (first cap : Array Value) (w : World), (Instr.makeFunc fn first cap).run Tryz.prog w = .ok (.func fn first cap) w := fun _ _ _ _ => rfl
  unfold vlCs
  go_enter Tryz.func88, Tryz.ntmps88
  go_upto_region 1 with fail
  refine name_world (fun w1 => Blk w1 g 30 #[.int .u64 (l.term : Int), .int .i64 l.vote, .int .u64 (l.si : Int), .int .u64 (l.st : Int), .slice As ms cs, .slice Ae m ce] ∧ Blk w1 (g + 1) 27 #[.int .u64 (i : Int), .int .u64 (t : Int), .slice Ad md cd] ∧ Blk w1 (g + 2) 30 #[.int .u64 0, .int .i64 0, .int .u64 0, .int .u64 0, .slice none 0 0, .slice none 0 0] ∧ Below g w w1 ∧ w1.heap.size = g + 3) ⟨by rw [hg]; exact ((Blk.new _ _ _).alloc _).alloc _, by rw [hg]; exact (Blk.new_ (by simp)).alloc _, by rw [hg]; exact Blk.new_ (by simp), by rw [hg]; exact (((Below.refl _ _).alloc (Nat.le_refl _) _).alloc (by simp) _).alloc (by simp; omega) _, by rw [hg]; simp⟩ ?_
  rintro w1 ⟨k1, k2, k3, hB1, hz1⟩
  have hes1 := HES.out.below (hg ▸ hB1)
  have HCL := Lib.hid (cloneEnt_any (.slice Ae m ce) l.es w1 hes1 (by rw [← HM.out]; exact hn))
  rw [← hg]
  have HG := Lib.hid hg
  have HK1 := Lib.hid k1
  have HK2 := Lib.hid k2
  have HK3 := Lib.hid k3
  have c5 : w1.cell? ⟨g, 5, none⟩ = some (.slice Ae m ce) := k1.cell 5
  clear hg k1 k2 k3 hes1
  go_wp2_with fail
  refine HCL.out.mono ?_
  rintro e w2 ⟨⟨v2, rfl, hv2⟩, hB2⟩
  have hlt2 := hv2.lt
  have hz2 := hB2.size
  have k22 := HK2.out.below hB2 HK2.out.lt
  have hDL := deleteEntC_any (cap := .pointer (some ⟨g + 1, 0, none⟩)) (p := fun e => decide (e.idx ≤ i)) hv2 (by rw [← HM.out]; exact hn) fun w' hk => by
    intro a b A n c e ha hb
    have hc : w'.cell? ⟨g + 1, 0, none⟩ = some (.int .u64 (i : Int)) := (k22.kp hk fun e => by have := hlt2 _ e.symm; omega).cell 0
    have := chg1_any (g + 1) i hc a b A n c
    rw [← hb] at this ⊢
    exact this
  rw [← HL.out] at hDL
  obtain ⟨A2, c2, rfl, _⟩ := hv2.form
  rw [← HM.out] at hDL hlt2 ⊢
  have HDL := Lib.hid hDL
  have HB2 := Lib.hid hB2
  clear hDL hv2 HCL k22 c5 hB2
  go_wp2_with fail
  refine HDL.out.mono ?_
  rintro e w3 ⟨⟨v3, rfl, hob, hv3⟩, hK3⟩
  obtain ⟨A3, c3, rfl, hc3⟩ := hv3.form
  have hlt3 := hv3.lt
  have hz3 := hK3.size
  have hK13 : Kp (fun b => b < g + 3) w1 w3 := (Kp.of_belowB HB2.out fun b hb _ => by omega).thenW hK3 fun b _ hb e => by have := hlt2 _ e.symm; omega
  have hB3 : Below g w w3 := hB1.trans (hK13.below (by omega) fun b hb => by omega)
  have k13 := HK1.out.kp hK13 (by show g < g + 3; omega)
  have k23 := HK2.out.kp hK13 (by show g + 1 < g + 3; omega)
  have k33 := HK3.out.kp hK13 (by show g + 2 < g + 3; omega)
  obtain ⟨n3, hn3⟩ : ∃ n3, n3 = L.length := ⟨_, rfl⟩
  rw [← hn3] at hv3 hc3 hlt3 ⊢
  have f5 : w3.frozen? ⟨g, 5, none⟩ = false := k13.frozen 5
  have p5 : w3.cell? ⟨g, 5, none⟩ = some (.slice Ae m ce) := k13.cell 5
  have hown3 : ∀ b, (Value.slice A3 n3 c3).ownBlock = some b → g + 3 ≤ b := fun b hb => by
    have := hlt2 b (hob.symm.trans (by cases A3 <;> exact hb))
    omega
  have HV3 := Lib.hid hv3
  have HN3 := Lib.hid hn3
  clear hv3 hn3 HDL
  go_upto_region 2 with fail
  refine name_world (fun w4 => Blk w4 g 30 #[.int .u64 (l.term : Int), .int .i64 l.vote, .int .u64 (l.si : Int), .int .u64 (l.st : Int), .slice As ms cs, .slice A3 n3 c3] ∧ Blk w4 (g + 1) 27 #[.int .u64 (i : Int), .int .u64 (t : Int), .slice Ad md cd] ∧ Blk w4 (g + 2) 30 #[.int .u64 0, .int .i64 0, .int .u64 0, .int .u64 0, .slice none 0 0, .slice none 0 0] ∧ Below g w w4 ∧ g + 3 ≤ w4.heap.size ∧ Hid (OwnL rEnt (fun b => ok b ∧ b < w.heap.size) (g + 3) 50 w4 (.slice A3 n3 c3) L)) ⟨k13.set_ 5 _, k23.far (p := ⟨g, 5, none⟩) (by show g + 1 ≠ g; omega) _, k33.far (p := ⟨g, 5, none⟩) (by show g + 2 ≠ g; omega) _, hB3.setCell (Nat.le_refl _) _, by simp; omega, Lib.hid ?_⟩ ?_
  · have := HV3.out.kp ((Kp.refl (fun b => b ≠ g) w3).setCell (p := ⟨g, 5, none⟩) (fun _ h => h rfl) (.slice A3 n3 c3)) (fun b hb => by have := hb.2; have := HG.out; omega) (fun b hb => by have := hown3 b hb; omega)
    rw [hz1] at this
    exact this
  rintro w4 ⟨k14, k24, k34, hB4, hz4, HV4⟩
  have p5 : ∀ s : Later w4, s.val.cell? ⟨g, 5, none⟩ = some (.slice A3 n3 c3) := Later.cell (k14.cell 5)
  have p6 : ∀ s : Later w4, s.val.cell? ⟨g + 1, 0, none⟩ = some (.int .u64 (i : Int)) := Later.cell (k24.cell 0)
  obtain ⟨hb, hhb⟩ : ∃ hb : Bool, hb = (L[0]?).any (fun e => !decide (e.idx = i + 1)) := ⟨_, rfl⟩
  have HHB := Lib.hid hhb
  have HK14 := Lib.hid k14
  have HK24 := Lib.hid k24
  have HK34 := Lib.hid k34
  clear hhb k14 k24 k34 k13 k23 k33 HV3 HK1 HK2 HK3 HB2 hK3 hK13 hB3 f5
  go_cut [25] (fun v wx => v = .bool hb ∧ Below w4.heap.size w4 wx)
  case first =>
    by_cases h0 : 0 < n3
    · have z1 : decide ((n3 : Int) > 0) = true := decide_eq_true (by omega)
      have hLl0 : 0 < L.length := by rw [← HN3.out]; exact h0
      obtain ⟨b5, off5, c5, cs5, hv5, _, ⟨vd, rfl, hvd, ht64, hi64⟩, hcell5⟩ := (HV4.out.rsl (ok := fun _ => True) (by decide) (by have := HN3.out; show L.length * 40 ≤ _; omega) (fun _ _ => trivial) (fun _ _ => trivial)).at_ hLl0
      rw [← HN3.out] at hv5
      obtain ⟨rfl, rfl⟩ : A3 = some ⟨b5, off5, none⟩ ∧ c3 = c5 := by simpa using hv5
      obtain ⟨e, he⟩ : ∃ e, e = L[0] := ⟨_, rfl⟩
      rw [← he] at hcell5
      have q1 : ∀ s : Later w4, s.val.cell? ⟨b5, off5 + 1, none⟩ = some (.int .u64 (e.idx : Int)) := Later.cell (by simpa using hcell5 1 _ rfl)
      obtain ⟨x, hx⟩ : ∃ x : Bool, x = ((e.idx : Int) != (i : Int) + 1) := ⟨_, rfl⟩
      have HX := Lib.hid (show hb = x by
        have h1 : L[0]? = some e := by rw [he]; exact List.getElem?_eq_getElem hLl0
        rw [HHB.out, hx, h1]
        show (!decide (e.idx = i + 1)) = _
        by_cases hq : e.idx = i + 1
        · rw [show ((e.idx : Int) != (i : Int) + 1) = false by rw [bne_eq_false_iff_eq]; omega, decide_eq_true hq]; rfl
        · rw [show ((e.idx : Int) != (i : Int) + 1) = true by rw [bne_iff_ne]; omega, decide_eq_false hq]; rfl)
      have z5 : ((e.idx : Int) != (i : Int) + 1) = x := hx.symm
      have hw : IntKind.u64.wrap ((i : Int) + 1) = (i : Int) + 1 := by rw [IntKind.wrap_u64]; have := HI.out; omega
      clear hcell5 hv5 hvd ht64 hi64 he hx
      refine wp_seqL [] (by as_aux_lemma => kernel_rfl) (by as_aux_lemma => kernel_rfl) fun w2 hb2 => ?_
      refine seqL_pre 15 (by kernel_rfl) ?_
      simp only [List.take_succ_cons, List.take_zero, List.drop_succ_cons, List.drop_zero]
      repeat (go_big_quiet_step (fail))
      refine wpQuiet_nil ?_
      refine seqL_nil ?_
      go_wp2
      go_meet
      exact ⟨by rw [HX.out], hb2⟩
    · obtain rfl : n3 = 0 := by omega
      clear h0
      have HX := Lib.hid (show hb = false by
        rw [HHB.out, List.getElem?_eq_none (by rw [← HN3.out]; omega)]
        rfl)
      refine wp_seqL [] (by as_aux_lemma => kernel_rfl) (by as_aux_lemma => kernel_rfl) fun w2 hb2 => ?_
      refine seqL_pre 15 (by kernel_rfl) ?_
      simp only [List.take_succ_cons, List.take_zero, List.drop_succ_cons, List.drop_zero]
      repeat (go_big_quiet_step (fail))
      refine wpQuiet_nil ?_
      refine seqL_nil ?_
      go_wp2
      go_meet
      exact ⟨by rw [HX.out], hb2⟩
  obtain ⟨rfl, hB5⟩ := hcut
  obtain ⟨w5, rfl⟩ : ∃ w5, w5 = wc := ⟨_, rfl⟩
  have hce := HCE.out
  have hes : (changeV l i t d).es = if hb = true then [] else L := by
    rw [hce, HHB.out]
    cases L with
    | nil => rfl
    | cons e r =>
      by_cases hq : e.idx = i + 1
      · simp [hq]
      · simp [hq]
  have HESF := Lib.hid hes
  have hz5 := hB5.size
  have k15 := HK14.out.below hB5 HK14.out.lt
  have k25 := HK24.out.below hB5 HK24.out.lt
  have k35 := HK34.out.below hB5 HK34.out.lt
  have HV5 := Lib.hid (HV4.out.below hB5)
  have hB05 : Below g w w5 := hB4.trans (hB5.mono (by omega))
  clear hce hes p5 p6 HK14 HK24 HK34 HV4
  go_upto_if 25 with fail
  go_cut [2] (fun v wx => v = .pointer (some ⟨g, 0, none⟩) ∧ ∃ (A : Option Addr) (n c : Nat), Blk wx g 30 #[.int .u64 (l.term : Int), .int .i64 l.vote, .int .u64 (l.si : Int), .int .u64 (l.st : Int), .slice As ms cs, .slice A n c] ∧ Blk wx (g + 1) 27 #[.int .u64 (i : Int), .int .u64 (t : Int), .slice Ad md cd] ∧ Blk wx (g + 2) 30 #[.int .u64 0, .int .i64 0, .int .u64 0, .int .u64 0, .slice none 0 0, .slice none 0 0] ∧ Below g w wx ∧ g + 3 ≤ wx.heap.size ∧ Hid (OwnL rEnt (fun b => ok b ∧ b < w.heap.size) (g + 3) 50 wx (.slice A n c) (changeV l i t d).es))
  case first =>
    cases hb
    · go_wp2
      go_meet
      exact ⟨rfl, A3, n3, c3, k15, k25, k35, hB05, by omega, Lib.hid (by rw [HESF.out]; exact HV5.out)⟩
    · have f5 : w5.frozen? ⟨g, 5, none⟩ = false := k15.frozen 5
      have p5 : w5.cell? ⟨g, 5, none⟩ = some (.slice A3 n3 c3) := k15.cell 5
      go_wp2
      go_meet
      exact ⟨rfl, none, 0, 0, k15.set_ 5 _, k25.far (p := ⟨g, 5, none⟩) (by show g + 1 ≠ g; omega) _, k35.far (p := ⟨g, 5, none⟩) (by show g + 2 ≠ g; omega) _, hB05.setCell (Nat.le_refl _) _, by simp; omega, Lib.hid (by rw [HESF.out]; exact OwnL.nil_ _ _ _ _ _)⟩
  obtain ⟨rfl, A6, n6, c6, k16, k26, k36, hB6, hz6, HV6⟩ := hcut
  obtain ⟨w6, rfl⟩ : ∃ w6, w6 = wc := ⟨_, rfl⟩
  clear k15 k25 k35 HV5
  go_upto_region 4 with fail
  refine wp_region_lit ?_
  refine wpList_ld (g := g + 1) (k := 0) (cs := #[.int .u64 (i : Int), .int .u64 (t : Int), .slice Ad md cd]) rfl rfl rfl k26.range Tryz.underlying27 rfl Tryz.infoSnap ?_
  refine wpList_split 1 ?_
  simp only [List.take_succ_cons, List.take_zero, List.drop_succ_cons, List.drop_zero]
  go_wp2
  show wpList _ _ _ _ _ _
  have hkM : Blk w6 g 30 (#[.int .u64 (l.term : Int), .int .i64 l.vote] ++ #[.int .u64 (l.si : Int), .int .u64 (l.st : Int), .slice As ms cs] ++ #[.slice A6 n6 c6]) := k16
  refine wpList_stMid (C := #[.int .u64 (l.si : Int), .int .u64 (l.st : Int), .slice As ms cs]) rfl rfl #[.int .u64 (i : Int), .int .u64 (t : Int), .slice Ad md cd] rfl rfl hkM rfl rfl Tryz.infoSnap (snap_all _ _ _ _ _) ?_ rfl
  intro k9
  have hK9 : Kp (fun b => ¬ b = g) w6 (World.setCells w6 g 2 (#[.int .u64 (i : Int), .int .u64 (t : Int), .slice Ad md cd] : Array Value).toList) := Kp.setCells (b := g) (fun _ h => h rfl) _ 2 (Kp.refl _ _)
  generalize hwz : World.setCells w6 g 2 (#[.int .u64 (i : Int), .int .u64 (t : Int), .slice Ad md cd] : Array Value).toList = w7 at k9 hK9 ⊢
  have k17 : Blk w7 g 30 (vlCs (changeV l i t d) (.slice Ad md cd) (.slice A6 n6 c6)) := k9
  have k37 := k36.kp hK9 (by show ¬ g + 2 = g; omega)
  have hown6 := HV6.out.lt
  have HV7 := Lib.hid (HV6.out.kp hK9 (fun b hb e => by have := hb.2; have := HG.out; omega) (fun b hb e => by have := hown6 b hb; omega))
  have hB7 : Below g w w7 := hB6.trans (hK9.below (by have := hB6.size; omega) fun b hb => by omega)
  have hz7 := hK9.size
  clear hwz hkM k16 k26 k36 k9 hK9 HV6
  obtain ⟨R, hR⟩ : ∃ R : Array Value, R = vlCs (changeV l i t d) (.slice Ad md cd) (.slice A6 n6 c6) := ⟨_, rfl⟩
  have hinf : (Tryz.prog.info? 30).map (·.size) = some R.size := by rw [hR]; exact Tryz.infoLog
  have hR1 : R.all (·.oneCell') = true := by rw [hR]; exact vl_all _ _ _ _ _ _ _
  have hR6 : R.size = 6 := by rw [hR]; rfl
  rw [← hR] at k17
  have HR := Lib.hid hR
  clear hR
  go_upto_region 5 with fail
  refine wp_region_lit ?_
  refine wpList_ld (g := g) (k := 0) (cs := R) rfl rfl rfl k17.range Tryz.underlying30 rfl hinf ?_
  refine wpList_st rfl rfl R rfl rfl k37 hR6.symm hinf hR1 ?_ rfl
  intro k9
  have hK9 : Kp (fun b => ¬ b = g + 2) w7 (World.setCells w7 (g + 2) 0 R.toList) := Kp.setCells (b := g + 2) (fun _ h => h rfl) _ 0 (Kp.refl _ _)
  generalize hwz : World.setCells w7 (g + 2) 0 R.toList = w8 at k9 hK9 ⊢
  have lv := k9.loadVar (P := Tryz.prog) Tryz.underlying30 rfl hinf
  have HV8 := Lib.hid (HV7.out.kp hK9 (fun b hb e => by have := hb.2; have := HG.out; omega) (fun b hb e => by have := hown6 b hb; omega))
  have hB8 : Below g w w8 := hB7.trans (hK9.below (by have := hB6.size; omega) fun b hb => by omega)
  clear hwz k17 k37
  go_wp2
  refine bodyPost_ret (v := .agg R) ?_ rfl ⟨⟨.slice A6 n6 c6, by rw [HR.out]; rfl, ?_⟩, by rw [← HG.out]; exact hB8⟩
  · simp [results, Tryz.results88, Act.put, Sem.run_bind, Sem.run_pure, asAddr_ok, lv]
  · obtain ⟨css, ho, hch⟩ := HV8.out
    refine ⟨css, ⟨ho.1, ho.2.imp id ?_⟩, hch⟩
    rintro ⟨g0, cap, cur, a1, a2, a3⟩
    exact ⟨g0, cap, cur, a1, by have := HG.out; omega, a3⟩
end Go.Proofs.YtnlhjhpikjmoaaaGreatDoor
