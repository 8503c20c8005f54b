/- Contract: same.Put. -/
import Derived.Test.YtikkknaofiafhaaM2
import Derived.Test.YtikkknaofiafhaaReg9
namespace Go.Proofs.Ytikkknaofiafhaa
open Go.RowKit

def restP : List PairD → PairD → List PairD
  | [], _ => []
  | q :: r, p => if q.k = p.k then r else q :: r
def putL : List PairD → PairD → List PairD
  | [], p => [p]
  | q :: r, p => if Op.bytesLess q.k p.k = true then q :: putL r p else p :: restP (q :: r) p
theorem putL_at : ∀ {l : List PairD} {p : PairD} (k : Nat), k ≤ l.length → (∀ i (h : i < l.length), i < k → Op.bytesLess l[i].k p.k = true) → (∀ h : k < l.length, Op.bytesLess l[k].k p.k = false) → putL l p = l.take k ++ [p] ++ restP (l.drop k) p
  | [], p, 0, _, _, _ => rfl
  | [], _, _ + 1, h, _, _ => by simp at h
  | q :: r, p, 0, _, _, h => by
    have h0 : Op.bytesLess q.k p.k = false := h (by simp)
    unfold putL
    rw [if_neg (by rw [h0]; decide)]
    rfl
  | q :: r, p, k + 1, hk, ha, h => by
    have h0 : Op.bytesLess q.k p.k = true := ha 0 (by simp) (by omega)
    unfold putL
    rw [if_pos h0, putL_at (l := r) k (by simpa using hk) (fun i hi hik => by have := ha (i + 1) (by simpa using hi) (by omega); simpa using this) (fun hh => by have := h (by simpa using hh); simpa using this)]
    rfl
theorem restP_cons (q : PairD) (r : List PairD) (p : PairD) : restP (q :: r) p = if q.k = p.k then r else q :: r := rfl
theorem restP_len (l : List PairD) (p : PairD) : (restP l p).length ≤ l.length := by
  cases l with
  | nil => exact Nat.le_refl _
  | cons q r =>
    show (if q.k = p.k then r else q :: r).length ≤ _
    split <;> simp
theorem putL_len : ∀ (l : List PairD) (p : PairD), (putL l p).length ≤ l.length + 1
  | [], _ => by simp [putL]
  | q :: r, p => by
    unfold putL
    split
    · have := putL_len r p; simp; omega
    · have := restP_len (q :: r) p
      simp only [List.length_cons] at this ⊢
      omega

theorem RSl.empty {α : Type} (E : Rel α) (ok : Nat → Prop) (w : World) (A : Option Addr) (c : Nat) : RSl E ok w (.slice A 0 c) [] := ⟨A, 0, c, [], rfl, Nat.zero_le _, rfl, by simp, ⟨by simp, fun h => absurd h (by omega)⟩, trivial, fun h => absurd h (by omega)⟩
set_option maxRecDepth 100000 in
set_option maxHeartbeats 3200000 in
theorem put_any {ok : Nat → Prop} (v a b : Value) (l : List PairD) (p : PairD) (w : World) (hr : RSl rPair ok w v l) (h1 : RB ok w a p.k) (h2 : RB ok w b p.v) (hn : I64 p.n) (hlen : l.length ≤ 1000000) :
    Calls Try.prog 40 #[v, .agg #[a, b, .int .i64 p.n]] w fun e w' => (∃ v', e = .returned v' ∧ RSl rPair (fun b => ok b ∨ w.heap.size ≤ b) w' v' (putL l p)) ∧ Below w.heap.size w w' := by
  obtain ⟨A0, c0, rfl, hc0, _⟩ := hr.form
  obtain ⟨A8, c8, rfl, _, _⟩ := h1.form
  obtain ⟨A9, c9, rfl, _, _⟩ := h2.form
  have hr0 : RSl rPair (fun b => ok b ∧ b < w.heap.size) w (.slice A0 l.length c0) l := hr.mono (by decide) fun b h h2 => ⟨h, h2⟩
  have x1 : RB (fun b => ok b ∧ b < w.heap.size) w (.slice A8 p.k.length c8) p.k := h1.mono (by decide) fun b h h2 => ⟨h, h2⟩
  have x2 : RB (fun b => ok b ∧ b < w.heap.size) w (.slice A9 p.v.length c9) p.v := h2.mono (by decide) fun b h h2 => ⟨h, h2⟩
  go_enter Try.func40, Try.ntmps40
  go_wp2
  go_loopw [5] (fun j wr => ∃ k : Nat, k ≤ l.length ∧ j = .int .i64 (k : Int) ∧ Below w.heap.size w wr ∧ Blk wr w.heap.size 98 #[.slice A8 p.k.length c8, .slice A9 p.v.length c9, .int .i64 p.n] ∧ ∀ i (h : i < l.length), i < k → Op.bytesLess l[i].k p.k = true) (fun j _ => l.length - (intOf j).toNat)
  case atStart => exact ⟨0, by omega, rfl, (Below.refl _ _).alloc (Nat.le_refl _) _, Blk.new _ _ _, fun _ _ h => by omega⟩
  case round =>
    obtain ⟨k, hk', rfl, hb, kb, hall⟩ := hrel
    have HALL := Lib.hid hall
    clear hall
    have hzr : w.heap.size + 1 ≤ wr.heap.size := kb.lt
    have s0 : ∀ s : Later wr, s.val.cell? ⟨w.heap.size, 0, none⟩ = some (.slice A8 p.k.length c8) := kb.later rfl
    have v2 : ∀ s : Later wr, (convert 27 9 (.slice A8 p.k.length c8)).run Try.prog s.val = .ok (.string (str p.k)) s.val := fun s => rb_str (h1.below (hb.trans (s.below.mono hb.size)))
    by_cases hlt : k < l.length
    · obtain ⟨bb, off, c, cs, hv, hbb, ⟨a1, a2, rfl, ha1, ha2, hi64⟩, hcell⟩ := (hr0.below hb).at_ hlt
      simp only [Value.slice.injEq, true_and] at hv
      obtain ⟨rfl, rfl⟩ := hv
      have q0 := hcell 0 _ rfl
      simp only [Nat.add_zero, show rPair.sz = 3 from rfl] at q0
      clear hcell
      obtain ⟨A1, c1, rfl, hc1, _⟩ := ha1.form
      obtain ⟨q, hq⟩ : ∃ q, q = l[k] := ⟨_, rfl⟩
      rw [← hq] at q0 ha1
      have HQ := Lib.hid hq
      clear hq
      have l0 := Later.cell q0
      have v1 : ∀ s : Later wr, (convert 27 9 (.slice A1 q.k.length c1)).run Try.prog s.val = .ok (.string (str q.k)) s.val := fun s => rb_str (ha1.below s.below)
      obtain ⟨B, hB⟩ : ∃ b, b = Op.bytesLess q.k p.k := ⟨_, rfl⟩
      have t1 : Op.bytesLess (str q.k).toList (str p.k).toList = B := by rw [str_toList, str_toList, hB]
      have HB := Lib.hid hB
      clear hB q0
      cases B
      · go_wp2
        refine wp_later_many [(2, Sp.val (.int .i64 (l.length : Int)))] [2] (by as_aux_lemma => kernel_rfl) (by as_aux_lemma => kernel_rfl) ?_
        intro vv hv
        have e2 : vv 2 = .int .i64 (l.length : Int) := hv 2 (by decide)
        refine many_pre 2 (by decide) ?_
        simp only [List.take_succ_cons, List.take_zero, List.drop_succ_cons, List.drop_zero]
        repeat (go_big_quiet_step (fail))
        refine wpQuiet_nil (many_wild (by decide) rfl ?_ ?_)
        · intro s _
          unfold Gives
          go_simp
          exact ⟨rfl, Below.refl _ _⟩
        intro a' ha'
        subst ha'
        simp only [Act.put, List.setIfInBounds_toArray, List.set_cons_succ, List.set_cons_zero]
        rw [e2]
        refine many_pre 13 (by decide) ?_
        simp only [List.take_succ_cons, List.take_zero, List.drop_succ_cons, List.drop_zero]
        repeat (go_big_quiet_step (fail))
        refine wpQuiet_nil (many_end ?_)
        intro s2 _
        clear e2 hv
        have hb2 := hb.trans (s2.below.mono hb.size)
        have kb2 := kb.below s2.below kb.lt
        have ha12 := ha1.below s2.below
        have m0 := l0 s2
        clear s0 v1 v2 l0 ha1
        have s0 : ∀ s : Later s2.val, s.val.cell? ⟨w.heap.size, 0, none⟩ = some (.slice A8 p.k.length c8) := kb2.later rfl
        have l0 := Later.cell m0
        go_wp2
        obtain ⟨D, hD⟩ : ∃ d, d = decide (q.k = p.k) := ⟨_, rfl⟩
        have HD := Lib.hid hD
        clear hD
        have hpos : 0 < l.length - k := by omega
        refine wp_later_many [(1, Sp.val (.int .i64 ((l.length - k : Nat) : Int))), (10, Sp.val (.bool D))] [1, 10] (by as_aux_lemma => kernel_rfl) (by as_aux_lemma => kernel_rfl) ?_
        intro vv hv
        have e1 : vv 1 = .int .i64 ((l.length - k : Nat) : Int) := hv 1 (by decide)
        have e10 : vv 10 = .bool D := hv 10 (by decide)
        refine many_pre 1 (by decide) ?_
        simp only [List.take_succ_cons, List.take_zero, List.drop_succ_cons, List.drop_zero]
        repeat (go_big_quiet_step (fail))
        refine wpQuiet_nil (many_wild (by decide) rfl ?_ ?_)
        · intro s _
          unfold Gives
          go_simp
          exact ⟨rfl, Below.refl _ _⟩
        intro a' ha'
        subst ha'
        simp only [Act.put, List.setIfInBounds_toArray, List.set_cons_succ, List.set_cons_zero]
        rw [e1]
        refine many_pre 8 (by decide) ?_
        simp only [List.take_succ_cons, List.take_zero, List.drop_succ_cons, List.drop_zero]
        repeat (go_big_quiet_step (fail))
        refine wpQuiet_nil (many_wild (by decide) rfl ?_ ?_)
        · intro s _
          unfold Gives
          go_simp
          refine (bytes_rb _ _ q.k p.k _ (ha12.below s.below) (h1.below (hb2.trans (s.below.mono hb2.size)))).mono ?_
          rintro e w4 ⟨rfl, hww⟩
          subst hww
          exact ⟨_, rfl, by rw [HD.out]; rfl, Below.refl _ _⟩
        intro a' ha'
        subst ha'
        simp only [Act.put, List.setIfInBounds_toArray, List.set_cons_succ, List.set_cons_zero]
        rw [e10]
        refine many_pre 1 (by decide) ?_
        simp only [List.take_succ_cons, List.take_zero, List.drop_succ_cons, List.drop_zero]
        repeat (go_big_quiet_step (fail))
        refine wpQuiet_nil (many_end ?_)
        intro s3 _
        have hbZ := hb2.trans (s3.below.mono hb2.size)
        have kbZ := kb2.below s3.below kb2.lt
        clear e1 e10 hv s0 l0 m0 ha12
        have hd := hr0.drop (k := k) hk'
        rw [if_neg (by omega)] at hd
        have hdc : l.drop k = q :: l.drop (k + 1) := by rw [List.drop_eq_getElem_cons hlt, ← HQ.out]
        have HPL := putL_at k hk' HALL.out (fun h => by rw [← HQ.out, ← HB.out])
        rw [hdc] at HPL
        cases D
        · obtain ⟨RL, hRL⟩ : ∃ q, q = l.drop k := ⟨_, rfl⟩
          have HP0 : putL l p = l.take k ++ [p] ++ RL := by
            rw [HPL, hRL, hdc]
            rw [restP_cons, if_neg (of_decide_eq_false HD.out.symm)]
          have HP := Lib.hid HP0
          clear HP0
          have hrl : RL.length ≤ 1000000 := by rw [hRL, List.length_drop]; omega
          have hrest : RSl rPair (fun b => ok b ∧ b < w.heap.size) w (.slice (some ⟨bb, off + k * 3, none⟩) (l.length - k) (c0 - k)) RL := by
            rw [hRL]
            simpa [Addr.add_lit, show rPair.sz = 3 from rfl] using hd
          clear hRL hd hdc HPL
          go_upto_region 7 with fail
          refine name_world (fun w7 => Below w.heap.size w w7 ∧ Blk w7 w.heap.size 98 #[.slice A8 p.k.length c8, .slice A9 p.v.length c9, .int .i64 p.n]) ⟨hbZ, kbZ⟩ ?_
          clear hbZ kbZ
          rintro w7 ⟨hb7, kb7⟩
          have hz7 : w.heap.size + 1 ≤ w7.heap.size := kb7.lt
          have s0 : ∀ s : Later w7, s.val.cell? ⟨w.heap.size, 0, none⟩ = some (.slice A8 p.k.length c8) := kb7.later rfl
          have s1 : ∀ s : Later w7, s.val.cell? ⟨w.heap.size, 1, none⟩ = some (.slice A9 p.v.length c9) := kb7.later rfl
          have s2 : ∀ s : Later w7, s.val.cell? ⟨w.heap.size, 2, none⟩ = some (.int .i64 p.n) := kb7.later rfl
          have hokd : ∀ b, (ok b ∧ b < w.heap.size) → b < w7.heap.size := fun b h => by omega
          have hmm : ∀ b, (ok b ∧ b < w.heap.size) → b < w7.heap.size → (ok b ∧ b < w.heap.size) ∧ b < w7.heap.size := fun b h h2 => ⟨h, h2⟩
          have rt := ((hr0.below hb7).take hk').mono (by decide) hmm
          have rd := (hrest.below hb7).mono (by decide) hmm
          have hlt1 : (l.take k).length ≤ 1000000 := by rw [List.length_take]; omega
          refine wp_ins rPair (fun b => ok b ∧ b < w.heap.size) 98 ⟨3, 5, 6, 8, l.take k, p, RL⟩ [3, 5, 6, 8] rfl (by as_aux_lemma => kernel_rfl) (by as_aux_lemma => kernel_rfl) ?_
          intro vv hv
          clear hv
          refine manyi_pre 3 (by decide) ?_ (by kernel_rfl)
          simp only [List.take_succ_cons, List.take_zero, List.drop_succ_cons, List.drop_zero]
          repeat (go_big_quiet_step (fail))
          refine wpQuiet_nil (manyi_a Try.rowPair (by decide) (.tmp 44) rfl rfl (by as_aux_lemma => kernel_rfl) (by as_aux_lemma => kernel_rfl) rfl rfl _ rfl rt hokd (by show (l.take k).length * 56 ≤ _; omega) (by show (l.take k).length ≤ _; omega) ?_)
          intro a' ha'
          subst ha'
          simp only [Act.put, List.setIfInBounds_toArray, List.set_cons_succ, List.set_cons_zero]
          refine manyi_pre 1 (by decide) ?_ (by kernel_rfl)
          simp only [List.take_succ_cons, List.take_zero, List.drop_succ_cons, List.drop_zero]
          repeat (go_big_quiet_step (fail))
          refine wpQuiet_nil (manyi_b #[.slice A8 p.k.length c8, .slice A9 p.v.length c9, .int .i64 p.n] rfl rfl (by as_aux_lemma => kernel_rfl) (by as_aux_lemma => kernel_rfl) rfl (fun s => ⟨_, _, rfl, x1.below (hb7.trans (s.below.mono hb7.size)), x2.below (hb7.trans (s.below.mono hb7.size)), hn⟩) (fun s => by unfold Gives; go_simp) ?_)
          intro a' ha'
          subst ha'
          simp only [Act.put, List.setIfInBounds_toArray, List.set_cons_succ, List.set_cons_zero]
          refine manyi_c Try.rowPair (by decide) (.tmp 45) (.tmp 47) rfl rfl (by as_aux_lemma => kernel_rfl) (by as_aux_lemma => kernel_rfl) rfl rfl rfl rfl hokd (by show ((l.take k).length + 1) * 56 ≤ _; omega) (by show (l.take k).length + 1 ≤ _; omega) ?_
          intro a' ha'
          subst ha'
          simp only [Act.put, List.setIfInBounds_toArray, List.set_cons_succ, List.set_cons_zero]
          refine manyi_pre 1 (by decide) ?_ (by kernel_rfl)
          simp only [List.take_succ_cons, List.take_zero, List.drop_succ_cons, List.drop_zero]
          repeat (go_big_quiet_step (fail))
          refine wpQuiet_nil (manyi_d Try.rowPair (by decide) (.tmp 48) (.tmp 49) rfl rfl (by as_aux_lemma => kernel_rfl) rfl rfl rfl _ rfl rd hokd (by show ((l.take k).length + 1 + RL.length) * 56 ≤ _; omega) (by show (l.take k).length + 1 + RL.length ≤ _; omega) ?_)
          intro a' ha'
          subst ha'
          simp only [Act.put, List.setIfInBounds_toArray, List.set_cons_succ, List.set_cons_zero]
          refine manyi_pre 1 (by decide) ?_ (by kernel_rfl)
          simp only [List.take_succ_cons, List.take_zero, List.drop_succ_cons, List.drop_zero]
          repeat (go_big_quiet_step (fail))
          refine wpQuiet_nil (manyi_end rfl ?_)
          intro w8 hb8 ho8
          go_wp2
          go_ret
          refine ⟨⟨_, rfl, ?_⟩, hb7.trans (hb8.mono hb7.size)⟩
          rw [HP.out]
          exact ho8.rsl (by decide) (by rw [List.length_append, List.length_append]; show ((l.take k).length + 1 + RL.length) * 56 ≤ _; omega) (fun b h => .inr (by omega)) (fun b h => .inl h.1)
        · obtain ⟨RL, hRL⟩ : ∃ q, q = l.drop (k + 1) := ⟨_, rfl⟩
          have HP0 : putL l p = l.take k ++ [p] ++ RL := by
            rw [HPL, hRL]
            rw [restP_cons, if_pos (of_decide_eq_true HD.out.symm)]
          have HP := Lib.hid HP0
          clear HP0
          have hrl : RL.length ≤ 1000000 := by rw [hRL, List.length_drop]; omega
          clear hd hdc HPL
          have hd2 := hr0.drop (k := k + 1) (by omega)
          rw [← hRL] at hd2
          by_cases hck : c0 = k + 1
          · subst hck
            have hRL0 : RL = [] := by rw [hRL]; exact List.drop_eq_nil_of_le (by omega)
            have hrest : RSl rPair (fun b => ok b ∧ b < w.heap.size) w (.slice (some ⟨bb, off + k * 3, none⟩) (l.length - k - 1) 0) RL := by
              rw [show l.length - k - 1 = 0 by omega, hRL0]
              exact RSl.empty _ _ _ _ _
            clear hRL hRL0 hd2
            go_upto_region 7 with fail
            refine name_world (fun w7 => Below w.heap.size w w7 ∧ Blk w7 w.heap.size 98 #[.slice A8 p.k.length c8, .slice A9 p.v.length c9, .int .i64 p.n]) ⟨hbZ, kbZ⟩ ?_
            clear hbZ kbZ
            rintro w7 ⟨hb7, kb7⟩
            have hz7 : w.heap.size + 1 ≤ w7.heap.size := kb7.lt
            have s0 : ∀ s : Later w7, s.val.cell? ⟨w.heap.size, 0, none⟩ = some (.slice A8 p.k.length c8) := kb7.later rfl
            have s1 : ∀ s : Later w7, s.val.cell? ⟨w.heap.size, 1, none⟩ = some (.slice A9 p.v.length c9) := kb7.later rfl
            have s2 : ∀ s : Later w7, s.val.cell? ⟨w.heap.size, 2, none⟩ = some (.int .i64 p.n) := kb7.later rfl
            have hokd : ∀ b, (ok b ∧ b < w.heap.size) → b < w7.heap.size := fun b h => by omega
            have hmm : ∀ b, (ok b ∧ b < w.heap.size) → b < w7.heap.size → (ok b ∧ b < w.heap.size) ∧ b < w7.heap.size := fun b h h2 => ⟨h, h2⟩
            have rt := ((hr0.below hb7).take hk').mono (by decide) hmm
            have rd := (hrest.below hb7).mono (by decide) hmm
            have hlt1 : (l.take k).length ≤ 1000000 := by rw [List.length_take]; omega
            refine wp_ins rPair (fun b => ok b ∧ b < w.heap.size) 98 ⟨3, 5, 6, 8, l.take k, p, RL⟩ [3, 5, 6, 8] rfl (by as_aux_lemma => kernel_rfl) (by as_aux_lemma => kernel_rfl) ?_
            intro vv hv
            clear hv
            refine manyi_pre 3 (by decide) ?_ (by kernel_rfl)
            simp only [List.take_succ_cons, List.take_zero, List.drop_succ_cons, List.drop_zero]
            repeat (go_big_quiet_step (fail))
            refine wpQuiet_nil (manyi_a Try.rowPair (by decide) (.tmp 44) rfl rfl (by as_aux_lemma => kernel_rfl) (by as_aux_lemma => kernel_rfl) rfl rfl _ rfl rt hokd (by show (l.take k).length * 56 ≤ _; omega) (by show (l.take k).length ≤ _; omega) ?_)
            intro a' ha'
            subst ha'
            simp only [Act.put, List.setIfInBounds_toArray, List.set_cons_succ, List.set_cons_zero]
            refine manyi_pre 1 (by decide) ?_ (by kernel_rfl)
            simp only [List.take_succ_cons, List.take_zero, List.drop_succ_cons, List.drop_zero]
            repeat (go_big_quiet_step (fail))
            refine wpQuiet_nil (manyi_b #[.slice A8 p.k.length c8, .slice A9 p.v.length c9, .int .i64 p.n] rfl rfl (by as_aux_lemma => kernel_rfl) (by as_aux_lemma => kernel_rfl) rfl (fun s => ⟨_, _, rfl, x1.below (hb7.trans (s.below.mono hb7.size)), x2.below (hb7.trans (s.below.mono hb7.size)), hn⟩) (fun s => by unfold Gives; go_simp) ?_)
            intro a' ha'
            subst ha'
            simp only [Act.put, List.setIfInBounds_toArray, List.set_cons_succ, List.set_cons_zero]
            refine manyi_c Try.rowPair (by decide) (.tmp 45) (.tmp 47) rfl rfl (by as_aux_lemma => kernel_rfl) (by as_aux_lemma => kernel_rfl) rfl rfl rfl rfl hokd (by show ((l.take k).length + 1) * 56 ≤ _; omega) (by show (l.take k).length + 1 ≤ _; omega) ?_
            intro a' ha'
            subst ha'
            simp only [Act.put, List.setIfInBounds_toArray, List.set_cons_succ, List.set_cons_zero]
            refine manyi_pre 1 (by decide) ?_ (by kernel_rfl)
            simp only [List.take_succ_cons, List.take_zero, List.drop_succ_cons, List.drop_zero]
            repeat (go_big_quiet_step (fail))
            refine wpQuiet_nil (manyi_d Try.rowPair (by decide) (.tmp 48) (.tmp 49) rfl rfl (by as_aux_lemma => kernel_rfl) rfl rfl rfl _ rfl rd hokd (by show ((l.take k).length + 1 + RL.length) * 56 ≤ _; omega) (by show (l.take k).length + 1 + RL.length ≤ _; omega) ?_)
            intro a' ha'
            subst ha'
            simp only [Act.put, List.setIfInBounds_toArray, List.set_cons_succ, List.set_cons_zero]
            refine manyi_pre 1 (by decide) ?_ (by kernel_rfl)
            simp only [List.take_succ_cons, List.take_zero, List.drop_succ_cons, List.drop_zero]
            repeat (go_big_quiet_step (fail))
            refine wpQuiet_nil (manyi_end rfl ?_)
            intro w8 hb8 ho8
            go_wp2
            go_ret
            refine ⟨⟨_, rfl, ?_⟩, hb7.trans (hb8.mono hb7.size)⟩
            rw [HP.out]
            exact ho8.rsl (by decide) (by rw [List.length_append, List.length_append]; show ((l.take k).length + 1 + RL.length) * 56 ≤ _; omega) (fun b h => .inr (by omega)) (fun b h => .inl h.1)
          · rw [if_neg hck] at hd2
            have hck2 : ¬ (c0 - k = 1) := by omega
            have hrest : RSl rPair (fun b => ok b ∧ b < w.heap.size) w (.slice (some ⟨bb, off + k * 3 + 3, none⟩) (l.length - k - 1) (c0 - k - 1)) RL := by
              rw [show off + k * 3 + 3 = off + (k + 1) * 3 by omega, show l.length - k - 1 = l.length - (k + 1) by omega, show c0 - k - 1 = c0 - (k + 1) by omega]
              simpa [Addr.add_lit, show rPair.sz = 3 from rfl] using hd2
            clear hRL hd2
            go_upto_region 7 with fail
            refine name_world (fun w7 => Below w.heap.size w w7 ∧ Blk w7 w.heap.size 98 #[.slice A8 p.k.length c8, .slice A9 p.v.length c9, .int .i64 p.n]) ⟨hbZ, kbZ⟩ ?_
            clear hbZ kbZ
            rintro w7 ⟨hb7, kb7⟩
            have hz7 : w.heap.size + 1 ≤ w7.heap.size := kb7.lt
            have s0 : ∀ s : Later w7, s.val.cell? ⟨w.heap.size, 0, none⟩ = some (.slice A8 p.k.length c8) := kb7.later rfl
            have s1 : ∀ s : Later w7, s.val.cell? ⟨w.heap.size, 1, none⟩ = some (.slice A9 p.v.length c9) := kb7.later rfl
            have s2 : ∀ s : Later w7, s.val.cell? ⟨w.heap.size, 2, none⟩ = some (.int .i64 p.n) := kb7.later rfl
            have hokd : ∀ b, (ok b ∧ b < w.heap.size) → b < w7.heap.size := fun b h => by omega
            have hmm : ∀ b, (ok b ∧ b < w.heap.size) → b < w7.heap.size → (ok b ∧ b < w.heap.size) ∧ b < w7.heap.size := fun b h h2 => ⟨h, h2⟩
            have rt := ((hr0.below hb7).take hk').mono (by decide) hmm
            have rd := (hrest.below hb7).mono (by decide) hmm
            have hlt1 : (l.take k).length ≤ 1000000 := by rw [List.length_take]; omega
            refine wp_ins rPair (fun b => ok b ∧ b < w.heap.size) 98 ⟨3, 5, 6, 8, l.take k, p, RL⟩ [3, 5, 6, 8] rfl (by as_aux_lemma => kernel_rfl) (by as_aux_lemma => kernel_rfl) ?_
            intro vv hv
            clear hv
            refine manyi_pre 3 (by decide) ?_ (by kernel_rfl)
            simp only [List.take_succ_cons, List.take_zero, List.drop_succ_cons, List.drop_zero]
            repeat (go_big_quiet_step (fail))
            refine wpQuiet_nil (manyi_a Try.rowPair (by decide) (.tmp 44) rfl rfl (by as_aux_lemma => kernel_rfl) (by as_aux_lemma => kernel_rfl) rfl rfl _ rfl rt hokd (by show (l.take k).length * 56 ≤ _; omega) (by show (l.take k).length ≤ _; omega) ?_)
            intro a' ha'
            subst ha'
            simp only [Act.put, List.setIfInBounds_toArray, List.set_cons_succ, List.set_cons_zero]
            refine manyi_pre 1 (by decide) ?_ (by kernel_rfl)
            simp only [List.take_succ_cons, List.take_zero, List.drop_succ_cons, List.drop_zero]
            repeat (go_big_quiet_step (fail))
            refine wpQuiet_nil (manyi_b #[.slice A8 p.k.length c8, .slice A9 p.v.length c9, .int .i64 p.n] rfl rfl (by as_aux_lemma => kernel_rfl) (by as_aux_lemma => kernel_rfl) rfl (fun s => ⟨_, _, rfl, x1.below (hb7.trans (s.below.mono hb7.size)), x2.below (hb7.trans (s.below.mono hb7.size)), hn⟩) (fun s => by unfold Gives; go_simp) ?_)
            intro a' ha'
            subst ha'
            simp only [Act.put, List.setIfInBounds_toArray, List.set_cons_succ, List.set_cons_zero]
            refine manyi_c Try.rowPair (by decide) (.tmp 45) (.tmp 47) rfl rfl (by as_aux_lemma => kernel_rfl) (by as_aux_lemma => kernel_rfl) rfl rfl rfl rfl hokd (by show ((l.take k).length + 1) * 56 ≤ _; omega) (by show (l.take k).length + 1 ≤ _; omega) ?_
            intro a' ha'
            subst ha'
            simp only [Act.put, List.setIfInBounds_toArray, List.set_cons_succ, List.set_cons_zero]
            refine manyi_pre 1 (by decide) ?_ (by kernel_rfl)
            simp only [List.take_succ_cons, List.take_zero, List.drop_succ_cons, List.drop_zero]
            repeat (go_big_quiet_step (fail))
            refine wpQuiet_nil (manyi_d Try.rowPair (by decide) (.tmp 48) (.tmp 49) rfl rfl (by as_aux_lemma => kernel_rfl) rfl rfl rfl _ rfl rd hokd (by show ((l.take k).length + 1 + RL.length) * 56 ≤ _; omega) (by show (l.take k).length + 1 + RL.length ≤ _; omega) ?_)
            intro a' ha'
            subst ha'
            simp only [Act.put, List.setIfInBounds_toArray, List.set_cons_succ, List.set_cons_zero]
            refine manyi_pre 1 (by decide) ?_ (by kernel_rfl)
            simp only [List.take_succ_cons, List.take_zero, List.drop_succ_cons, List.drop_zero]
            repeat (go_big_quiet_step (fail))
            refine wpQuiet_nil (manyi_end rfl ?_)
            intro w8 hb8 ho8
            go_wp2
            go_ret
            refine ⟨⟨_, rfl, ?_⟩, hb7.trans (hb8.mono hb7.size)⟩
            rw [HP.out]
            exact ho8.rsl (by decide) (by rw [List.length_append, List.length_append]; show ((l.take k).length + 1 + RL.length) * 56 ≤ _; omega) (fun b h => .inr (by omega)) (fun b h => .inl h.1)
      · go_wp2
        refine wp_later_many [(2, Sp.val (.int .i64 (l.length : Int)))] [2] (by as_aux_lemma => kernel_rfl) (by as_aux_lemma => kernel_rfl) ?_
        intro vv hv
        have e2 : vv 2 = .int .i64 (l.length : Int) := hv 2 (by decide)
        refine many_pre 2 (by decide) ?_
        simp only [List.take_succ_cons, List.take_zero, List.drop_succ_cons, List.drop_zero]
        repeat (go_big_quiet_step (fail))
        refine wpQuiet_nil (many_wild (by decide) rfl ?_ ?_)
        · intro s _
          unfold Gives
          go_simp
          exact ⟨rfl, Below.refl _ _⟩
        intro a' ha'
        subst ha'
        simp only [Act.put, List.setIfInBounds_toArray, List.set_cons_succ, List.set_cons_zero]
        rw [e2]
        refine many_pre 13 (by decide) ?_
        simp only [List.take_succ_cons, List.take_zero, List.drop_succ_cons, List.drop_zero]
        repeat (go_big_quiet_step (fail))
        refine wpQuiet_nil (many_end ?_)
        intro s2 _
        have hb2 := hb.trans (s2.below.mono hb.size)
        have kb2 := kb.below s2.below kb.lt
        clear e2 hv s0 v1 v2 l0
        go_wp2
        go_roundw
        case rel => exact ⟨k + 1, by omega, by go_num, hb2, kb2, fun i hi hik => by
          rcases Nat.lt_succ_iff_lt_or_eq.1 hik with h | rfl
          · exact HALL.out i hi h
          · rw [← HQ.out, ← HB.out]⟩
        case measure => simp [intOf]; omega
    · have hke : k = l.length := by omega
      subst hke
      go_wp2
      refine wp_later_many [(2, Sp.val (.int .i64 (l.length : Int)))] [2] (by as_aux_lemma => kernel_rfl) (by as_aux_lemma => kernel_rfl) ?_
      intro vv hv
      have e2 : vv 2 = .int .i64 (l.length : Int) := hv 2 (by decide)
      refine many_pre 2 (by decide) ?_
      simp only [List.take_succ_cons, List.take_zero, List.drop_succ_cons, List.drop_zero]
      repeat (go_big_quiet_step (fail))
      refine wpQuiet_nil (many_wild (by decide) rfl ?_ ?_)
      · intro s _
        unfold Gives
        go_simp
        exact ⟨rfl, Below.refl _ _⟩
      intro a' ha'
      subst ha'
      simp only [Act.put, List.setIfInBounds_toArray, List.set_cons_succ, List.set_cons_zero]
      rw [e2]
      refine many_pre 13 (by decide) ?_
      simp only [List.take_succ_cons, List.take_zero, List.drop_succ_cons, List.drop_zero]
      repeat (go_big_quiet_step (fail))
      refine wpQuiet_nil (many_end ?_)
      intro s2 _
      clear e2 hv s0 v2
      have hb2 := hb.trans (s2.below.mono hb.size)
      have kb2 := kb.below s2.below kb.lt
      have HPL := putL_at l.length hk' HALL.out (fun h => absurd h (by omega))
      rw [List.drop_length] at HPL
      obtain ⟨RL, hRL⟩ : ∃ q : List PairD, q = [] := ⟨_, rfl⟩
      have HP0 : putL l p = l.take l.length ++ [p] ++ RL := by rw [HPL, hRL]; rfl
      have HP := Lib.hid HP0
      have hrl : RL.length ≤ 1000000 := by rw [hRL]; simp
      clear HP0 HPL
      by_cases hck : c0 = l.length
      · subst hck
        have hrest : RSl rPair (fun b => ok b ∧ b < w.heap.size) w (.slice A0 0 0) RL := by rw [hRL]; exact RSl.empty _ _ _ _ _
        clear hRL
        go_wp2
        refine wp_later_many [(1, Sp.val (.int .i64 0)), (10, Sp.val (.bool false))] [1, 10] (by as_aux_lemma => kernel_rfl) (by as_aux_lemma => kernel_rfl) ?_
        intro vv hv
        have e1 : vv 1 = .int .i64 0 := hv 1 (by decide)
        refine many_pre 1 (by decide) ?_
        simp only [List.take_succ_cons, List.take_zero, List.drop_succ_cons, List.drop_zero]
        repeat (go_big_quiet_step (fail))
        refine wpQuiet_nil (many_wild (by decide) rfl ?_ ?_)
        · intro s _
          unfold Gives
          go_simp
          exact ⟨rfl, Below.refl _ _⟩
        intro a' ha'
        subst ha'
        simp only [Act.put, List.setIfInBounds_toArray, List.set_cons_succ, List.set_cons_zero]
        rw [e1]
        refine many_pre 8 (by decide) ?_
        simp only [List.take_succ_cons, List.take_zero, List.drop_succ_cons, List.drop_zero]
        repeat (go_big_quiet_step (fail))
        refine wpQuiet_nil (many_skip rfl ?_)
        intro a' ha'
        subst ha'
        simp only [Act.put, List.setIfInBounds_toArray, List.set_cons_succ, List.set_cons_zero]
        refine many_pre 1 (by decide) ?_
        simp only [List.take_succ_cons, List.take_zero, List.drop_succ_cons, List.drop_zero]
        repeat (go_big_quiet_step (fail))
        refine wpQuiet_nil (many_end ?_)
        intro s3 _
        have hbZ := hb2.trans (s3.below.mono hb2.size)
        have kbZ := kb2.below s3.below kb2.lt
        clear e1 hv
        go_upto_region 7 with fail
        refine name_world (fun w7 => Below w.heap.size w w7 ∧ Blk w7 w.heap.size 98 #[.slice A8 p.k.length c8, .slice A9 p.v.length c9, .int .i64 p.n]) ⟨hbZ, kbZ⟩ ?_
        clear hbZ kbZ
        rintro w7 ⟨hb7, kb7⟩
        have hz7 : w.heap.size + 1 ≤ w7.heap.size := kb7.lt
        have s0 : ∀ s : Later w7, s.val.cell? ⟨w.heap.size, 0, none⟩ = some (.slice A8 p.k.length c8) := kb7.later rfl
        have s1 : ∀ s : Later w7, s.val.cell? ⟨w.heap.size, 1, none⟩ = some (.slice A9 p.v.length c9) := kb7.later rfl
        have s2 : ∀ s : Later w7, s.val.cell? ⟨w.heap.size, 2, none⟩ = some (.int .i64 p.n) := kb7.later rfl
        have hokd : ∀ b, (ok b ∧ b < w.heap.size) → b < w7.heap.size := fun b h => by omega
        have hmm : ∀ b, (ok b ∧ b < w.heap.size) → b < w7.heap.size → (ok b ∧ b < w.heap.size) ∧ b < w7.heap.size := fun b h h2 => ⟨h, h2⟩
        have rt := ((hr0.below hb7).take hk').mono (by decide) hmm
        have rd := (hrest.below hb7).mono (by decide) hmm
        have hlt1 : (l.take l.length).length ≤ 1000000 := by rw [List.length_take]; omega
        refine wp_ins rPair (fun b => ok b ∧ b < w.heap.size) 98 ⟨3, 5, 6, 8, l.take l.length, p, RL⟩ [3, 5, 6, 8] rfl (by as_aux_lemma => kernel_rfl) (by as_aux_lemma => kernel_rfl) ?_
        intro vv hv
        clear hv
        refine manyi_pre 3 (by decide) ?_ (by kernel_rfl)
        simp only [List.take_succ_cons, List.take_zero, List.drop_succ_cons, List.drop_zero]
        repeat (go_big_quiet_step (fail))
        refine wpQuiet_nil (manyi_a Try.rowPair (by decide) (.tmp 44) rfl rfl (by as_aux_lemma => kernel_rfl) (by as_aux_lemma => kernel_rfl) rfl rfl _ rfl rt hokd (by show (l.take l.length).length * 56 ≤ _; omega) (by show (l.take l.length).length ≤ _; omega) ?_)
        intro a' ha'
        subst ha'
        simp only [Act.put, List.setIfInBounds_toArray, List.set_cons_succ, List.set_cons_zero]
        refine manyi_pre 1 (by decide) ?_ (by kernel_rfl)
        simp only [List.take_succ_cons, List.take_zero, List.drop_succ_cons, List.drop_zero]
        repeat (go_big_quiet_step (fail))
        refine wpQuiet_nil (manyi_b #[.slice A8 p.k.length c8, .slice A9 p.v.length c9, .int .i64 p.n] rfl rfl (by as_aux_lemma => kernel_rfl) (by as_aux_lemma => kernel_rfl) rfl (fun s => ⟨_, _, rfl, x1.below (hb7.trans (s.below.mono hb7.size)), x2.below (hb7.trans (s.below.mono hb7.size)), hn⟩) (fun s => by unfold Gives; go_simp) ?_)
        intro a' ha'
        subst ha'
        simp only [Act.put, List.setIfInBounds_toArray, List.set_cons_succ, List.set_cons_zero]
        refine manyi_c Try.rowPair (by decide) (.tmp 45) (.tmp 47) rfl rfl (by as_aux_lemma => kernel_rfl) (by as_aux_lemma => kernel_rfl) rfl rfl rfl rfl hokd (by show ((l.take l.length).length + 1) * 56 ≤ _; omega) (by show (l.take l.length).length + 1 ≤ _; omega) ?_
        intro a' ha'
        subst ha'
        simp only [Act.put, List.setIfInBounds_toArray, List.set_cons_succ, List.set_cons_zero]
        refine manyi_pre 1 (by decide) ?_ (by kernel_rfl)
        simp only [List.take_succ_cons, List.take_zero, List.drop_succ_cons, List.drop_zero]
        repeat (go_big_quiet_step (fail))
        refine wpQuiet_nil (manyi_d Try.rowPair (by decide) (.tmp 48) (.tmp 49) rfl rfl (by as_aux_lemma => kernel_rfl) rfl rfl rfl _ rfl rd hokd (by show ((l.take l.length).length + 1 + RL.length) * 56 ≤ _; omega) (by show (l.take l.length).length + 1 + RL.length ≤ _; omega) ?_)
        intro a' ha'
        subst ha'
        simp only [Act.put, List.setIfInBounds_toArray, List.set_cons_succ, List.set_cons_zero]
        refine manyi_pre 1 (by decide) ?_ (by kernel_rfl)
        simp only [List.take_succ_cons, List.take_zero, List.drop_succ_cons, List.drop_zero]
        repeat (go_big_quiet_step (fail))
        refine wpQuiet_nil (manyi_end rfl ?_)
        intro w8 hb8 ho8
        go_wp2
        go_ret
        refine ⟨⟨_, rfl, ?_⟩, hb7.trans (hb8.mono hb7.size)⟩
        rw [HP.out]
        exact ho8.rsl (by decide) (by rw [List.length_append, List.length_append]; show ((l.take l.length).length + 1 + RL.length) * 56 ≤ _; omega) (fun b h => .inr (by omega)) (fun b h => .inl h.1)
      · have hrest : RSl rPair (fun b => ok b ∧ b < w.heap.size) w (.slice (Option.map (fun x => x.add (l.length * 3)) A0) 0 (c0 - l.length)) RL := by rw [hRL]; exact RSl.empty _ _ _ _ _
        clear hRL
        go_wp2
        refine wp_later_many [(1, Sp.val (.int .i64 0)), (10, Sp.val (.bool false))] [1, 10] (by as_aux_lemma => kernel_rfl) (by as_aux_lemma => kernel_rfl) ?_
        intro vv hv
        have e1 : vv 1 = .int .i64 0 := hv 1 (by decide)
        refine many_pre 1 (by decide) ?_
        simp only [List.take_succ_cons, List.take_zero, List.drop_succ_cons, List.drop_zero]
        repeat (go_big_quiet_step (fail))
        refine wpQuiet_nil (many_wild (by decide) rfl ?_ ?_)
        · intro s _
          unfold Gives
          go_simp
          exact ⟨rfl, Below.refl _ _⟩
        intro a' ha'
        subst ha'
        simp only [Act.put, List.setIfInBounds_toArray, List.set_cons_succ, List.set_cons_zero]
        rw [e1]
        refine many_pre 8 (by decide) ?_
        simp only [List.take_succ_cons, List.take_zero, List.drop_succ_cons, List.drop_zero]
        repeat (go_big_quiet_step (fail))
        refine wpQuiet_nil (many_skip rfl ?_)
        intro a' ha'
        subst ha'
        simp only [Act.put, List.setIfInBounds_toArray, List.set_cons_succ, List.set_cons_zero]
        refine many_pre 1 (by decide) ?_
        simp only [List.take_succ_cons, List.take_zero, List.drop_succ_cons, List.drop_zero]
        repeat (go_big_quiet_step (fail))
        refine wpQuiet_nil (many_end ?_)
        intro s3 _
        have hbZ := hb2.trans (s3.below.mono hb2.size)
        have kbZ := kb2.below s3.below kb2.lt
        clear e1 hv
        go_upto_region 7 with fail
        refine name_world (fun w7 => Below w.heap.size w w7 ∧ Blk w7 w.heap.size 98 #[.slice A8 p.k.length c8, .slice A9 p.v.length c9, .int .i64 p.n]) ⟨hbZ, kbZ⟩ ?_
        clear hbZ kbZ
        rintro w7 ⟨hb7, kb7⟩
        have hz7 : w.heap.size + 1 ≤ w7.heap.size := kb7.lt
        have s0 : ∀ s : Later w7, s.val.cell? ⟨w.heap.size, 0, none⟩ = some (.slice A8 p.k.length c8) := kb7.later rfl
        have s1 : ∀ s : Later w7, s.val.cell? ⟨w.heap.size, 1, none⟩ = some (.slice A9 p.v.length c9) := kb7.later rfl
        have s2 : ∀ s : Later w7, s.val.cell? ⟨w.heap.size, 2, none⟩ = some (.int .i64 p.n) := kb7.later rfl
        have hokd : ∀ b, (ok b ∧ b < w.heap.size) → b < w7.heap.size := fun b h => by omega
        have hmm : ∀ b, (ok b ∧ b < w.heap.size) → b < w7.heap.size → (ok b ∧ b < w.heap.size) ∧ b < w7.heap.size := fun b h h2 => ⟨h, h2⟩
        have rt := ((hr0.below hb7).take hk').mono (by decide) hmm
        have rd := (hrest.below hb7).mono (by decide) hmm
        have hlt1 : (l.take l.length).length ≤ 1000000 := by rw [List.length_take]; omega
        refine wp_ins rPair (fun b => ok b ∧ b < w.heap.size) 98 ⟨3, 5, 6, 8, l.take l.length, p, RL⟩ [3, 5, 6, 8] rfl (by as_aux_lemma => kernel_rfl) (by as_aux_lemma => kernel_rfl) ?_
        intro vv hv
        clear hv
        refine manyi_pre 3 (by decide) ?_ (by kernel_rfl)
        simp only [List.take_succ_cons, List.take_zero, List.drop_succ_cons, List.drop_zero]
        repeat (go_big_quiet_step (fail))
        refine wpQuiet_nil (manyi_a Try.rowPair (by decide) (.tmp 44) rfl rfl (by as_aux_lemma => kernel_rfl) (by as_aux_lemma => kernel_rfl) rfl rfl _ rfl rt hokd (by show (l.take l.length).length * 56 ≤ _; omega) (by show (l.take l.length).length ≤ _; omega) ?_)
        intro a' ha'
        subst ha'
        simp only [Act.put, List.setIfInBounds_toArray, List.set_cons_succ, List.set_cons_zero]
        refine manyi_pre 1 (by decide) ?_ (by kernel_rfl)
        simp only [List.take_succ_cons, List.take_zero, List.drop_succ_cons, List.drop_zero]
        repeat (go_big_quiet_step (fail))
        refine wpQuiet_nil (manyi_b #[.slice A8 p.k.length c8, .slice A9 p.v.length c9, .int .i64 p.n] rfl rfl (by as_aux_lemma => kernel_rfl) (by as_aux_lemma => kernel_rfl) rfl (fun s => ⟨_, _, rfl, x1.below (hb7.trans (s.below.mono hb7.size)), x2.below (hb7.trans (s.below.mono hb7.size)), hn⟩) (fun s => by unfold Gives; go_simp) ?_)
        intro a' ha'
        subst ha'
        simp only [Act.put, List.setIfInBounds_toArray, List.set_cons_succ, List.set_cons_zero]
        refine manyi_c Try.rowPair (by decide) (.tmp 45) (.tmp 47) rfl rfl (by as_aux_lemma => kernel_rfl) (by as_aux_lemma => kernel_rfl) rfl rfl rfl rfl hokd (by show ((l.take l.length).length + 1) * 56 ≤ _; omega) (by show (l.take l.length).length + 1 ≤ _; omega) ?_
        intro a' ha'
        subst ha'
        simp only [Act.put, List.setIfInBounds_toArray, List.set_cons_succ, List.set_cons_zero]
        refine manyi_pre 1 (by decide) ?_ (by kernel_rfl)
        simp only [List.take_succ_cons, List.take_zero, List.drop_succ_cons, List.drop_zero]
        repeat (go_big_quiet_step (fail))
        refine wpQuiet_nil (manyi_d Try.rowPair (by decide) (.tmp 48) (.tmp 49) rfl rfl (by as_aux_lemma => kernel_rfl) rfl rfl rfl _ rfl rd hokd (by show ((l.take l.length).length + 1 + RL.length) * 56 ≤ _; omega) (by show (l.take l.length).length + 1 + RL.length ≤ _; omega) ?_)
        intro a' ha'
        subst ha'
        simp only [Act.put, List.setIfInBounds_toArray, List.set_cons_succ, List.set_cons_zero]
        refine manyi_pre 1 (by decide) ?_ (by kernel_rfl)
        simp only [List.take_succ_cons, List.take_zero, List.drop_succ_cons, List.drop_zero]
        repeat (go_big_quiet_step (fail))
        refine wpQuiet_nil (manyi_end rfl ?_)
        intro w8 hb8 ho8
        go_wp2
        go_ret
        refine ⟨⟨_, rfl, ?_⟩, hb7.trans (hb8.mono hb7.size)⟩
        rw [HP.out]
        exact ho8.rsl (by decide) (by rw [List.length_append, List.length_append]; show ((l.take l.length).length + 1 + RL.length) * 56 ≤ _; omega) (fun b h => .inr (by omega)) (fun b h => .inl h.1)
end Go.Proofs.Ytikkknaofiafhaa
