/- Contracts: (*Vault).read. -/
import Derived.Test.YtnlhjhpikjmoaaaGreatDoorB23
namespace Go.Proofs.YtnlhjhpikjmoaaaGreatDoor
open Go.RowKit
theorem RB.noty {ok : Nat → Prop} {w : World} {v : Value} {l : List UInt8} {g : Nat} {T : TypeId} {cs : Array Value} (h : RB ok w v l) (hk : Blk w g T cs) (hcs : ∀ (j : Nat) (x : Int), cs[j]? ≠ some (.int .u8 x)) : RB (fun b => ok b ∧ b ≠ g) w v l := by
  obtain ⟨A, c, rfl, hc, hm, hrd, ho⟩ := h.open_
  refine RB.mk_ hrd hc hm fun h0 a ha => ⟨ho h0 a ha, fun e => ?_⟩
  obtain ⟨b, off, hA, hcell⟩ := hrd.2 h0
  rw [hA] at ha
  cases ha
  obtain rfl : b = g := e
  have h1 := hcell 0 (.int .u8 (l[0].toNat : Int)) (by rw [bs, List.getElem?_map, List.getElem?_eq_getElem h0]; rfl)
  rw [Nat.add_zero, hk.cell off] at h1
  exact hcs _ _ h1
theorem OwnL.noty {okd : Nat → Prop} {base : Nat} {T T2 : TypeId} {w : World} {v : Value} {l : List VEnt} {g : Nat} {cs : Array Value} (h : OwnL rEnt okd base T w v l) (hk : Blk w g T2 cs) (hcs : ∀ (j : Nat) (x : Int), cs[j]? ≠ some (.int .u8 x)) : OwnL rEnt (fun b => okd b ∧ b ≠ g) base T w v l := by
  obtain ⟨css, ho, hch⟩ := h
  refine ⟨css, ho, ?_⟩
  clear ho
  generalize hP : (fun b => okd b ∧ some b ≠ v.ownBlock) = P at hch
  induction css generalizing l with
  | nil => cases l with
    | nil => trivial
    | cons a r => exact hch.elim
  | cons c css ih => cases l with
    | nil => exact hch.elim
    | cons a r =>
      refine ⟨?_, ih hch.2⟩
      obtain ⟨vd, h1, h2, h3⟩ := hch.1
      subst hP
      exact ⟨vd, h1, (RB.noty h2 hk hcs).mono (by decide) fun b hb _ => ⟨⟨hb.1.1, hb.2⟩, hb.1.2⟩, h3⟩
theorem vlt_noty (p : Value) (hp : ∀ x, p ≠ .int .u8 x) (l : VLog) (A : Option Addr) (n c : Nat) (A2 : Option Addr) (n2 c2 : Nat) (j : Nat) (x : Int) : (#[p, .int .u64 (l.term : Int), .int .i64 l.vote, .int .u64 (l.si : Int), .int .u64 (l.st : Int), .slice A n c, .slice A2 n2 c2] : Array Value)[j]? ≠ some (.int .u8 x) := by
  match j with
  | 0 => simpa using hp x
  | 1 => simp
  | 2 => simp
  | 3 => simp
  | 4 => simp
  | 5 => simp
  | 6 => simp
  | j + 7 => simp
theorem vlCs_noty (l : VLog) (A : Option Addr) (n c : Nat) (A2 : Option Addr) (n2 c2 : Nat) (j : Nat) (x : Int) : (vlCs l (.slice A n c) (.slice A2 n2 c2))[j]? ≠ some (.int .u8 x) := by
  match j with
  | 0 => simp [vlCs]
  | 1 => simp [vlCs]
  | 2 => simp [vlCs]
  | 3 => simp [vlCs]
  | 4 => simp [vlCs]
  | 5 => simp [vlCs]
  | j + 6 => simp [vlCs]
theorem build_reader (x : Addr) (t1 t2 t3 t4 : Int) (A1 : Option Addr) (n1 c1 : Nat) (A2 : Option Addr) (n2 c2 : Nat) (w : World) : (Instr.build 111 #[(0, .pointer (some x)), (1, .agg #[.int .u64 t1, .int .i64 t2, .int .u64 t3, .int .u64 t4, .slice A1 n1 c1, .slice A2 n2 c2])]).run Tryz.prog w = .ok (.agg #[.pointer (some x), .int .u64 t1, .int .i64 t2, .int .u64 t3, .int .u64 t4, .slice A1 n1 c1, .slice A2 n2 c2, .bool false, .bool false, .bool false]) w := by kernel_rfl
theorem Rdr.mono {ok ok' : Nat → Prop} {w : World} {gr : Nat} {rest : List UInt8} (h : Rdr ok w gr rest) (hm : ∀ b, ok b → b < w.heap.size → ok' b) : Rdr ok' w gr rest := by
  obtain ⟨A, c, at_, b, h1, h2, h3, h4⟩ := h
  exact ⟨A, c, at_, b, h1, h2.mono (by decide) fun b hb hlt => ⟨hm b hb.1 hlt, hb.2⟩, h3, h4⟩
structure RdV (gv gl gx : Nat) (B : Nat) (w3 w : World) (S : RS) (vsd ves nsd nes : Value) : Prop where
  vb : Blk w gv 74 #[.pointer (some ⟨gl, 0, none⟩), .int .u64 (S.log.term : Int), .int .i64 S.log.vote, .int .u64 (S.log.si : Int), .int .u64 (S.log.st : Int), vsd, ves]
  vl : VLm (fun b => B ≤ b ∧ b ≠ gx ∧ some b ≠ nes.ownBlock) w vsd ves S.log
  xb : Blk w gx 30 (vlCs S.next nsd nes)
  sd : RB (fun b => some b ≠ nes.ownBlock ∧ b ≠ gx ∧ b ≠ gv) w nsd S.next.sd
  es : OwnL rEnt (fun b => b ≠ gx ∧ b ≠ gv) 0 50 w nes S.next.es
  own : ∀ k, nes.ownBlock = some k → w3.heap.size ≤ k
  kp : Kp (fun b => b ≠ gv ∧ b ≠ gx) w3 w
  term : S.next.term < 18446744073709551616
  vote : I64 S.next.vote
  si : S.next.si ≤ 4611686018427387904
  st : S.next.st < 18446744073709551616
  len : S.next.es.length ≤ 400000
  len2 : S.log.es.length ≤ 400000
  si2 : S.log.si ≤ 4611686018427387904
set_option maxRecDepth 100000 in
set_option maxHeartbeats 12800000 in
theorem vread_any {f : Nat → Prop} {w : World} {gv gl gd n T first : Nat} {gs : List (List Th)} (hb : Blk w gv 74 #[.pointer (some ⟨gl, 0, none⟩), .int .u64 0, .int .i64 0, .int .u64 0, .int .u64 0, .slice none 0 0, .slice none 0 0]) (h : LogS f w gl gd n T first (gs.map flatT) []) (hfv : ¬ f gv) (hfb : ∀ x, f x → x < w.heap.size)
    (hgood : goodR ⟨VLog.zero, VLog.zero, first, first, first, first⟩ gs) (hl : gs.length ≤ 65536) (h64 : first + 70000 < 18446744073709551616) :
    Calls Tryz.prog 33 #[.pointer (some ⟨gv, 0, none⟩)] w fun e w' => (∃ S : RS, S = gs.foldl stepR ⟨VLog.zero, VLog.zero, first, first, first, first⟩ ∧ e = .returned (.tuple #[.int .u64 (S.first : Int), .int .u64 (S.whole : Int), .nilIface]) ∧ ∃ vsd ves, Blk w' gv 74 #[.pointer (some ⟨gl, 0, none⟩), .int .u64 (S.log.term : Int), .int .i64 S.log.vote, .int .u64 (S.log.si : Int), .int .u64 (S.log.st : Int), vsd, ves] ∧ VLm (fun b => w.heap.size ≤ b) w' vsd ves S.log) ∧ Kp (fun b => b ≠ gv) w w' := by
  obtain ⟨m, hm⟩ : ∃ m, m = gs.length := ⟨_, rfl⟩
  rw [← hm] at hl
  have HM := Lib.hid hm
  have HL := Lib.hid h
  have HG := Lib.hid hgood
  have H64 := Lib.hid h64
  have HB := Lib.hid hb
  have HFB := Lib.hid hfb
  have hgvl := hb.lt
  have HF := Lib.hid (first_opU h.u)
  have c0 : w.cell? ⟨gv, 0, none⟩ = some (.pointer (some ⟨gl, 0, none⟩)) := hb.cell 0
  obtain ⟨s0, hs0⟩ : ∃ s0 : RS, s0 = ⟨VLog.zero, VLog.zero, first, first, first, first⟩ := ⟨_, rfl⟩
  rw [← hs0] at HG ⊢
  have HS0 := Lib.hid hs0
  clear hm h hgood h64 hb hs0 hfb
  go_enter Tryz.func33, Tryz.ntmps33
  go_wp2_with fail
  refine HF.out.mono ?_
  rintro e w1 ⟨rfl, rfl⟩
  clear c0
  go_upto_region 4 with fail
  obtain ⟨gx, hgx⟩ : ∃ gx, gx = w1.heap.size := ⟨_, rfl⟩
  refine name_world (fun w2 => Blk w2 gx 30 (vlCs VLog.zero (.slice none 0 0) (.slice none 0 0)) ∧ Below w1.heap.size w1 w2 ∧ gx < w2.heap.size) ⟨by rw [hgx]; exact Blk.new _ _ _, (Below.refl _ _).alloc (Nat.le_refl _) _, by rw [hgx]; simp⟩ ?_
  rintro w2 ⟨kx, hB2, hxl⟩
  rw [← hgx]
  have HGX := Lib.hid hgx
  clear hgx
  have hv2 := HB.out.below hB2 hgvl
  have c0 : w2.cell? ⟨gv, 0, none⟩ = some (.pointer (some ⟨gl, 0, none⟩)) := hv2.cell 0
  have HRC := Lib.hid (records_opU (HL.out.below hB2).u)
  have HKX := Lib.hid kx
  have HV2 := Lib.hid hv2
  clear kx hv2
  go_wp2_with fail
  refine HRC.out.mono ?_
  rintro e w3 ⟨⟨v3, rfl, hv3⟩, hB3⟩
  rw [List.append_nil] at hv3
  obtain ⟨A3, c3, rfl, hc3, _⟩ := hv3.form
  rw [List.length_map, ← HM.out] at hv3 hc3 ⊢
  have HV3 := Lib.hid (hv3.mono (by decide) (ok' := fun b => w2.heap.size ≤ b ∧ b < w3.heap.size) fun b h1 h2 => ⟨h1, h2⟩)
  have hz2 := hB2.size
  have hz3 := hB3.size
  have HI0 := Lib.hid (show RdV gv gl gx w1.heap.size w3 w3 s0 (.slice none 0 0) (.slice none 0 0) (.slice none 0 0) (.slice none 0 0) by
    rw [HS0.out]
    exact ⟨HV2.out.below hB3 HV2.out.lt, vm_zero _ _, HKX.out.below hB3 HKX.out.lt, RSl.nil_ _ _ _, OwnL.nil_ _ _ _ _ _, fun k hk => (by cases hk), Kp.refl _ _, (show VLog.zero.term < _ by decide), (show I64 VLog.zero.vote from ⟨by decide, by decide⟩), (show VLog.zero.si ≤ _ by decide), (show VLog.zero.st < _ by decide), (by show 0 ≤ _; omega), (by show 0 ≤ _; omega), (show VLog.zero.si ≤ _ by decide)⟩)
  have HLW := Lib.hid (HL.out.below (hB2.trans (hB3.mono hz2)))
  have HE0 := Lib.hid (show s0.first = first ∧ s0.from_ = first ∧ s0.whole = first ∧ s0.n = first by rw [HS0.out]; exact ⟨rfl, rfl, rfl, rfl⟩)
  clear hv3 HRC HF c0 HB HKX HV2
  go_upto_region 5 with fail
  go_loopw [5, 6, 7, 26] (fun v5 v6 v7 vi wr => ∃ (i : Nat) (S : RS) (vsd ves nsd nes : Value), i ≤ m ∧ vi = .int .i64 (i : Int) ∧ v5 = .int .u64 (S.first : Int) ∧ v6 = .int .u64 (S.from_ : Int) ∧ v7 = .int .u64 (S.whole : Int) ∧ Hid (S = (gs.take i).foldl stepR s0 ∧ S.n = first + i) ∧ Hid (RdV gv gl gx w1.heap.size w3 wr S vsd ves nsd nes)) (fun _ _ _ vi _ => m - (intOf vi).toNat)
  case atStart => exact ⟨0, s0, _, _, _, _, by omega, rfl, by rw [HE0.out.1], by rw [HE0.out.2.1], by rw [HE0.out.2.2.1], Lib.hid ⟨rfl, HE0.out.2.2.2⟩, HI0⟩
  case round =>
    obtain ⟨i, S, vsd, ves, nsd, nes, him, rfl, rfl, rfl, rfl, HS, HP⟩ := hrel
    by_cases hlt : i < m
    · have hil : i < (gs.map flatT).length := by rw [List.length_map, ← HM.out]; exact hlt
      have hilg : i < gs.length := by rw [← HM.out]; exact hlt
      obtain ⟨b5, off5, c5, cs5, hv5, _, ⟨v5, rfl, hr5⟩, hcell5⟩ := (HV3.out.kp (HP.out.kp.mono fun b hb => ⟨by have := HGX.out; omega, by omega⟩)).at_ hil
      rw [List.length_map, ← HM.out] at hv5
      obtain ⟨rfl, rfl⟩ : A3 = some ⟨b5, off5, none⟩ ∧ c3 = c5 := by simpa using hv5
      obtain ⟨g, hg⟩ : ∃ g, g = gs[i] := ⟨_, rfl⟩
      have hrg : (gs.map flatT)[i] = flatT g := by rw [List.getElem_map, hg]
      rw [hrg] at hr5
      obtain ⟨A5, d5, rfl, _, _⟩ := hr5.form
      obtain ⟨k5, hk5⟩ : ∃ k5, k5 = (flatT g).length := ⟨_, rfl⟩
      rw [← hk5] at hr5 hcell5
      have q5 : wr.cell? ⟨b5, off5 + i * 1, none⟩ = some (.slice A5 k5 d5) := hcell5 0 _ rfl
      have q6 : wr.cell? ⟨b5, off5 + i, none⟩ = some (.slice A5 k5 d5) := by simpa using q5
      have c0 : wr.cell? ⟨gv, 0, none⟩ = some (.pointer (some ⟨gl, 0, none⟩)) := HP.out.vb.cell 0
      have HLR := Lib.hid (HLW.out.kp HP.out.kp (fun x hx => ⟨fun e => hfv (e ▸ hx), fun e => by have := HFB.out x hx; have := HGX.out; omega⟩))
      have HF := Lib.hid (first_opU HLR.out.u)
      have hgd := goodR_at HG.out (i := i) (g := g) (by rw [hg]; exact List.getElem?_eq_getElem hilg)
      rw [← HS.out.1] at hgd
      have HGD := Lib.hid hgd
      have HST := Lib.hid (show (gs.take (i + 1)).foldl stepR s0 = stepR S g by rw [List.take_succ_eq_append_getElem hilg, List.foldl_append, ← HS.out.1, ← hg]; rfl)
      have HR5 := Lib.hid hr5
      have HK5 := Lib.hid hk5
      have hw1 : IntKind.u64.wrap (i : Int) = (i : Int) := by rw [IntKind.wrap_u64]; omega
      have hw2 : IntKind.u64.wrap ((first : Int) + (i : Int)) = (first : Int) + (i : Int) := by rw [IntKind.wrap_u64]; have := H64.out; omega
      have hw3 : IntKind.u64.wrap ((first : Int) + (i : Int) + 1) = (first : Int) + (i : Int) + 1 := by rw [IntKind.wrap_u64]; have := H64.out; omega
      clear hcell5 hv5 hg hrg hr5 hk5 hgd
      go_upto_region 7 with fail
      go_wp2_with fail
      refine HF.out.mono ?_
      rintro e w4 ⟨rfl, rfl⟩
      go_upto_region 8 with fail
      obtain ⟨An, cn, hnsd, _⟩ := HP.out.sd.form
      obtain ⟨Ak, ck, hnes, _⟩ := HP.out.es.form
      obtain ⟨l1, hl1⟩ : ∃ l1, l1 = S.next.sd.length := ⟨_, rfl⟩
      obtain ⟨l2, hl2⟩ : ∃ l2, l2 = S.next.es.length := ⟨_, rfl⟩
      rw [← hl1] at hnsd
      rw [← hl2] at hnes
      subst hnsd hnes
      have HLN := Lib.hid (And.intro hl1 hl2)
      have kx : Blk w4 gx 30 #[.int .u64 (S.next.term : Int), .int .i64 S.next.vote, .int .u64 (S.next.si : Int), .int .u64 (S.next.st : Int), .slice An l1 cn, .slice Ak l2 ck] := HP.out.xb
      have hgxl := kx.lt
      clear q5 q6 c0 hw1 hw2 hl1 hl2
      refine wp_seqL [1, 4] (by as_aux_lemma => kernel_rfl) (by as_aux_lemma => kernel_rfl) fun wA hbA => ?_
      refine seqL_pre 1 (by kernel_rfl) ?_
      simp only [List.take_succ_cons, List.take_zero, List.drop_succ_cons, List.drop_zero]
      repeat (go_big_quiet_step (fail))
      refine wpQuiet_nil ?_
      refine seqL_wild hbA rfl rfl fun K hK => ?_
      unfold Gives
      go_simp
      refine (rNew_any (RSl.below HR5.out hbA)).mono ?_
      rintro e wB ⟨⟨gr, rfl, hgr, hrd⟩, hBB⟩
      refine ⟨_, rfl, hK _ _ (hBB) fun hBB' => ?_⟩
      clear hK
      clear K
      simp only [Act.put, List.setIfInBounds_toArray, List.set_cons_succ, List.set_cons_zero]
      refine seqL_still (.agg #[.int .u64 (S.next.term : Int), .int .i64 S.next.vote, .int .u64 (S.next.si : Int), .int .u64 (S.next.st : Int), .slice An l1 cn, .slice Ak l2 ck]) rfl rfl (fun s => still_ld (g := gx) (k := 0) rfl rfl (kx.below s.below kx.lt).range Tryz.underlying30 rfl Tryz.infoLog) ?_
      refine seqL_still (.agg #[.pointer (some ⟨gr, 0, none⟩), .int .u64 (S.next.term : Int), .int .i64 S.next.vote, .int .u64 (S.next.si : Int), .int .u64 (S.next.st : Int), .slice An l1 cn, .slice Ak l2 ck, .bool false, .bool false, .bool false]) rfl rfl (fun s => still_build [(0, .pointer (some ⟨gr, 0, none⟩)), (1, .agg #[.int .u64 (S.next.term : Int), .int .i64 S.next.vote, .int .u64 (S.next.si : Int), .int .u64 (S.next.st : Int), .slice An l1 cn, .slice Ak l2 ck])] rfl rfl (build_reader _ _ _ _ _ _ _ _ _ _ _ _)) ?_
      have hgrl : gr < wB.heap.size := by
        obtain ⟨_, _, _, _, hkk, _⟩ := hrd
        exact hkk.lt
      refine seqL_wild hBB' rfl rfl fun K hK => ?_
      unfold Gives
      go_simp
      have hal : Below wB.heap.size wB (wB.alloc (.cells #[.pointer (some ⟨gr, 0, none⟩), .int .u64 (S.next.term : Int), .int .i64 S.next.vote, .int .u64 (S.next.si : Int), .int .u64 (S.next.st : Int), .slice An l1 cn, .slice Ak l2 ck, .bool false, .bool false, .bool false] 111)) := (Below.refl _ _).alloc (Nat.le_refl _) _
      refine hK _ _ hal fun hbC => ?_
      clear hK
      clear K
      simp only [Act.put, List.setIfInBounds_toArray, List.set_cons_succ, List.set_cons_zero]
      refine seqL_pre 1 (by kernel_rfl) ?_
      simp only [List.take_succ_cons, List.take_zero, List.drop_succ_cons, List.drop_zero]
      repeat (go_big_quiet_step (fail))
      refine wpQuiet_nil ?_
      refine seqL_nil ?_
      obtain ⟨gz, hgz⟩ : ∃ gz, gz = wB.heap.size := ⟨_, rfl⟩
      have kz0 : Blk (wB.alloc (.cells #[.pointer (some ⟨gr, 0, none⟩), .int .u64 (S.next.term : Int), .int .i64 S.next.vote, .int .u64 (S.next.si : Int), .int .u64 (S.next.st : Int), .slice An l1 cn, .slice Ak l2 ck, .bool false, .bool false, .bool false] 111)) gz 111 (rdCs gr ⟨S.next, false, false⟩ (.slice An l1 cn) (.slice Ak l2 ck)) := by rw [hgz]; exact Blk.new _ _ _
      have hrd' := hrd.below hal
      have hzC : gz < (wB.alloc (.cells #[.pointer (some ⟨gr, 0, none⟩), .int .u64 (S.next.term : Int), .int .i64 S.next.vote, .int .u64 (S.next.si : Int), .int .u64 (S.next.st : Int), .slice An l1 cn, .slice Ak l2 ck, .bool false, .bool false, .bool false] 111)).heap.size := kz0.lt
      have hzA := hbA.size
      have hzB := hBB.size
      rw [← hgz] at hgrl ⊢
      clear hgz hal hrd
      generalize wB.alloc (.cells #[.pointer (some ⟨gr, 0, none⟩), .int .u64 (S.next.term : Int), .int .i64 S.next.vote, .int .u64 (S.next.si : Int), .int .u64 (S.next.st : Int), .slice An l1 cn, .slice Ak l2 ck, .bool false, .bool false, .bool false] 111) = wC at kz0 hrd' hzC hbC ⊢
      have holt := HP.out.es.lt
      have hgz4 : w4.heap.size ≤ gz := by omega
      have HRI := Lib.hid (show RdI (fun b => wA.heap.size ≤ b ∧ b < wC.heap.size ∧ b ≠ gz) (Value.slice Ak l2 ck).ownBlock wC.heap.size gz gr wC ⟨S.next, false, false⟩ (flatT g) (.slice An l1 cn) (.slice Ak l2 ck) from
        ⟨kz0, by
          obtain ⟨A, c, at_, b, h1, h2, h3, h4⟩ := hrd'
          refine ⟨A, c, at_, b, h1, ?_, h3, h4⟩
          exact (RB.noty h2 kz0 (fun j x => by
            match j with
            | 0 => simp [rdCs]
            | 1 => simp [rdCs]
            | 2 => simp [rdCs]
            | 3 => simp [rdCs]
            | 4 => simp [rdCs]
            | 5 => simp [rdCs]
            | 6 => simp [rdCs]
            | 7 => simp [rdCs]
            | 8 => simp [rdCs]
            | 9 => simp [rdCs]
            | j + 10 => simp [rdCs])).mono (by decide) fun b hb hlt => ⟨⟨hb.1.1, hlt, hb.2⟩, hb.1.2⟩,
          (RSl.below (HP.out.sd.mono (by decide) (ok' := fun b => some b ≠ (Value.slice Ak l2 ck).ownBlock ∧ b < w4.heap.size) fun b hb hlt => ⟨hb.1, hlt⟩) hbC).mono (by decide) fun b hb _ => ⟨⟨by have := hb.2; omega, by have := hb.2; omega⟩, hb.1⟩,
          (HP.out.es.monoW (okd' := fun b => DE gz gr b) fun b hb hlt => ⟨by omega, by omega⟩).below hbC, .inl rfl, HP.out.term, HP.out.vote, HP.out.si, HP.out.st⟩)
      have HAL := Lib.hid (rall_any HRI.out (by omega) (fun h => by have := (holt _ h).2; omega) (fun h => by have := (holt _ h).2; omega) (fun b hb => ⟨hb.2.1, hb.2.2, fun e => by have := (holt b e.symm).2; have := hb.1; omega⟩)
        ((HP.out.vl.mono (ok' := fun b => (w1.heap.size ≤ b ∧ b ≠ gx ∧ some b ≠ (Value.slice Ak l2 ck).ownBlock) ∧ b < w4.heap.size) fun b hb hlt => ⟨hb, hlt⟩).below hbC |>.mono fun b hb hlt => ⟨hlt, by have := hb.2; omega, by have := hb.2; omega, hb.1.2.2⟩)
        HGD.out.1 HP.out.len HP.out.len2 HGD.out.2.1 HP.out.si2 (fun k hk => by have := (holt k hk).2; have := hbC.size; omega))
      have kvC := HP.out.vb.below hbC HP.out.vb.lt
      have HPC := Lib.hid hbC
      obtain ⟨L1, hL1⟩ : ∃ L1 : Array Value, L1 = vlCs S.log vsd ves := ⟨_, rfl⟩
      have hinfL : (Tryz.prog.info? 30).map (·.size) = some L1.size := by rw [hL1]; exact Tryz.infoLog
      have hrg : wC.rangeAt gv 1 L1.toList := kvC.rangeW 1 _ fun j v hv => by
        rw [hL1] at hv
        match j, hv with
        | 0, hv => exact hv
        | 1, hv => exact hv
        | 2, hv => exact hv
        | 3, hv => exact hv
        | 4, hv => exact hv
        | 5, hv => exact hv
        | j + 6, hv => simp [vlCs] at hv
      rw [← hL1] at HAL
      have hgvne : gv ≠ gr ∧ gv ≠ gz ∧ gx ≠ gr ∧ gx ≠ gz := by have := HP.out.vb.lt; exact ⟨by omega, by omega, by omega, by omega⟩
      clear kz0 hrd' hbA hBB hBB' hbC kx hL1
      go_upto_region 9 with fail
      refine wp_region_split 4 ?_
      simp only [List.take_succ_cons, List.take_zero, List.drop_succ_cons, List.drop_zero]
      go_wp2
      show wpList _ _ _ _ _ _
      refine wpList_ld (g := gv) (k := 1) (cs := L1) rfl rfl rfl hrg Tryz.underlying30 rfl hinfL ?_
      go_wp2_with fail
      refine HAL.out.mono ?_
      rintro e wD ⟨⟨vd, rfl⟩, ⟨vsd2, ves2, hRD, hz2', hgr2⟩, hKD⟩
      obtain ⟨r, hr⟩ : ∃ r, r = g.foldl (stepT S.log) ⟨S.next, false, false⟩ := ⟨_, rfl⟩
      have hgd := HGD.out
      rw [← hr] at hRD hgd
      have HGD2 := Lib.hid hgd
      have hstr : stepR S g = if r.ended = true then ⟨r.cur, r.cur, if r.begun = true then S.n else S.from_, if r.begun = true then S.n else S.from_, S.n + 1, S.n + 1⟩ else ⟨S.log, r.cur, if r.begun = true then S.n else S.from_, S.first, S.whole, S.n + 1⟩ := by rw [hr]; rfl
      have HSR := Lib.hid hstr
      clear hstr hr hgd
      obtain ⟨A6, c6, hv6, _⟩ := hRD.sd.form
      obtain ⟨A7, c7, hv7, _⟩ := hRD.es.form
      obtain ⟨l6, hl6⟩ : ∃ l6, l6 = r.cur.sd.length := ⟨_, rfl⟩
      obtain ⟨l7, hl7⟩ : ∃ l7, l7 = r.cur.es.length := ⟨_, rfl⟩
      rw [← hl6] at hv6
      rw [← hl7] at hv7
      subst hv6 hv7
      have HL67 := Lib.hid (And.intro hl6 hl7)
      clear hl6 hl7
      have cz0 : wD.cell? ⟨gz, 0, none⟩ = some (.pointer (some ⟨gr, 0, none⟩)) := hRD.blk.cell 0
      have HEN := Lib.hid (rEnd_any hRD.rdr)
      have hzw := HP.out.kp.size
      have hzC4 := HPC.out.size
      have hzD := hKD.size
      have hO3 := HP.out.own
      have hxown : some gx ≠ (Value.slice Ak l2 ck).ownBlock := fun e => by have := hO3 gx e.symm; omega
      have hvown : some gv ≠ (Value.slice Ak l2 ck).ownBlock := fun e => by have := hO3 gv e.symm; omega
      have hkxD := (HP.out.xb.below HPC.out HP.out.xb.lt).kp hKD ⟨hgvne.2.2.2, hgvne.2.2.1, hxown⟩
      have hkvD := kvC.kp hKD ⟨hgvne.2.1, hgvne.1, hvown⟩
      have HRD := Lib.hid hRD
      have HKD := Lib.hid hKD
      clear hRD hKD HAL hrg kvC
      go_upto_region 10 with fail
      go_wp2_with fail
      refine HEN.out.mono ?_
      rintro e wE ⟨rfl, hBE⟩
      have hRE := HRD.out.below hBE
      have hkxE := hkxD.below hBE hkxD.lt
      have hkvE := hkvD.below hBE hkvD.lt
      have cz7 : wE.cell? ⟨gz, 7, none⟩ = some (.bool false) := hRE.blk.cell 7
      have hzE := hBE.size
      obtain ⟨Av, cv, hvv, _⟩ := HP.out.vl.sd.form
      obtain ⟨Aw, cw, hvw, _⟩ := HP.out.vl.es.form
      have hsdE := RB.noty (RB.noty hRE.sd hkxE (vlCs_noty _ _ _ _ _ _ _)) (by rw [hvv, hvw] at hkvE; exact hkvE) (vlt_noty _ (fun x h => by cases h) _ _ _ _ _ _ _)
      have hesE := OwnL.noty (OwnL.noty hRE.es hkxE (vlCs_noty _ _ _ _ _ _ _)) (by rw [hvv, hvw] at hkvE; exact hkvE) (vlt_noty _ (fun x h => by cases h) _ _ _ _ _ _ _)
      have HSE := Lib.hid (And.intro hsdE hesE)
      have hrgz : wE.rangeAt gz 1 (vlCs r.cur (.slice A6 l6 c6) (.slice A7 l7 c7)).toList := hRE.blk.rangeW 1 _ fun j v hv => by
        match j, hv with
        | 0, hv => exact hv
        | 1, hv => exact hv
        | 2, hv => exact hv
        | 3, hv => exact hv
        | 4, hv => exact hv
        | 5, hv => exact hv
        | j + 6, hv => simp [vlCs] at hv
      have HRE := Lib.hid hRE
      clear hsdE hesE hRE cz0 HEN hkxD hkvD
      go_upto_region 12 with fail
      clear cz7
      refine wp_region_split 3 ?_
      simp only [List.take_succ_cons, List.take_zero, List.drop_succ_cons, List.drop_zero]
      go_wp2
      show wpList _ _ _ _ _ _
      refine wpList_ld (g := gz) (k := 1) (cs := vlCs r.cur (.slice A6 l6 c6) (.slice A7 l7 c7)) rfl rfl rfl hrgz Tryz.underlying30 rfl Tryz.infoLog ?_
      refine wpList_st rfl rfl (vlCs r.cur (.slice A6 l6 c6) (.slice A7 l7 c7)) rfl rfl hkxE rfl Tryz.infoLog (vl_all _ _ _ _ _ _ _) ?_ rfl
      intro k9
      have hK9 : Kp (fun b => ¬ b = gx) wE (World.setCells wE gx 0 (vlCs r.cur (.slice A6 l6 c6) (.slice A7 l7 c7)).toList) := Kp.setCells (b := gx) (fun _ h => h rfl) _ 0 (Kp.refl _ _)
      generalize hwz : World.setCells wE gx 0 (vlCs r.cur (.slice A6 l6 c6) (.slice A7 l7 c7)).toList = wF at k9 hK9 ⊢
      have kzF := HRE.out.blk.kp hK9 (fun e => hgvne.2.2.2 e.symm)
      have kvF := hkvE.kp hK9 (by have := HGX.out; omega)
      have hsdF : RB (fun b => (((DE gz gr b ∧ some b ≠ (Value.slice A7 l7 c7).ownBlock) ∧ b ≠ gx) ∧ b ≠ gv)) wF (.slice A6 l6 c6) r.cur.sd := RSl.kp (hK9.mono fun b hb => hb.1.2) HSE.out.1
      have hownx : (Value.slice A7 l7 c7).ownBlock ≠ some gx := fun e => by
        rcases HRE.out.own with h | h
        · exact hxown (e.symm.trans h)
        · have := h gx e
          omega
      have hesF := HSE.out.2.kp hK9 (fun b hb => hb.1.2) (fun b hb e => hownx (e ▸ hb))
      have HX := Lib.hid (And.intro k9 (And.intro kvF (And.intro hsdF hesF)))
      have HK9 := Lib.hid hK9
      have cz8 : wF.cell? ⟨gz, 8, none⟩ = some (.bool r.begun) := kzF.cell 8
      have cz9 : wF.cell? ⟨gz, 9, none⟩ = some (.bool r.ended) := kzF.cell 9
      have hvlF : VLm (fun b => w1.heap.size ≤ b ∧ b ≠ gx ∧ some b ≠ (Value.slice A7 l7 c7).ownBlock) wF vsd ves S.log := by
        have h1 := (HP.out.vl.mono (ok' := fun b => (w1.heap.size ≤ b ∧ b ≠ gx ∧ some b ≠ (Value.slice Ak l2 ck).ownBlock) ∧ b < w4.heap.size) fun b hb hlt => ⟨hb, hlt⟩).below HPC.out
        have h2 := ((h1.kp (HKD.out.mono fun b hb => ⟨by have := hb.2; omega, by have := hb.2; omega, hb.1.2.2⟩)).below hBE).kp (HK9.out.mono fun b hb => hb.1.2.1)
        refine h2.mono fun b hb _ => ⟨hb.1.1, hb.1.2.1, fun e => ?_⟩
        rcases HRE.out.own with h | h
        · exact hb.1.2.2 (e.trans h)
        · have := h b e.symm
          have := hb.2
          omega
      have HVF := Lib.hid hvlF
      have HKF := Lib.hid (show Kp (fun b => b ≠ gv ∧ b ≠ gx) w3 wF from ((((HP.out.kp.trans (.of_below HPC.out)).thenW HKD.out fun b hb _ => ⟨by omega, by omega, fun e => by have := hO3 b e.symm; omega⟩).trans (.of_below hBE)).trans (HK9.out.mono fun b hb => hb.2)))
      have HOF := Lib.hid (show ∀ k, (Value.slice A7 l7 c7).ownBlock = some k → w3.heap.size ≤ k from fun k hk => by
        rcases HRE.out.own with h | h
        · exact hO3 k (h ▸ hk)
        · have := h k hk
          omega)
      have hn : S.n = first + i := HS.out.2
      have hnI : (first : Int) + (i : Int) = ((first + i : Nat) : Int) := by omega
      clear hwz k9 kvF hsdF hesF hvlF hkxE hkvE hrgz kzF hvv hvw hK9
      obtain ⟨fr, hfr⟩ : ∃ fr, fr = if r.begun = true then S.n else S.from_ := ⟨_, rfl⟩
      have HFR := Lib.hid hfr
      rw [← hfr] at HSR
      clear hfr
      obtain ⟨bg, hbg⟩ : ∃ bg, bg = r.begun := ⟨_, rfl⟩
      obtain ⟨be, hbe⟩ : ∃ be, be = r.ended := ⟨_, rfl⟩
      rw [← hbg] at cz8 HFR
      rw [← hbe] at cz9 HSR
      have HGE := Lib.hid (show be = true → rightV r.cur = true by rw [hbe]; exact HGD2.out.2.2.1)
      clear hbg hbe
      simp only [Act.put, List.setIfInBounds_toArray, List.set_cons_succ, List.set_cons_zero]
      go_upto_region 13 with fail
      go_cut [70] (fun v wx => v = .bool bg ∧ wx = wF)
      case first =>
        go_wp2
        go_meet
        exact ⟨rfl, rfl⟩
      obtain ⟨rfl, hwx⟩ := hcut
      rw [hwx]
      clear hwx
      go_upto_if 70 with fail
      go_cut [6] (fun v wx => v = .int .u64 (fr : Int) ∧ wx = wF)
      case first =>
        cases bg
        · have HE := Lib.hid (show fr = S.from_ from HFR.out)
          go_wp2
          go_meet
          exact ⟨by rw [HE.out], rfl⟩
        · have HE := Lib.hid (show (fr : Int) = (first : Int) + (i : Int) by rw [show fr = S.n from HFR.out, hn]; omega)
          clear hn hnI
          go_wp2
          go_meet
          exact ⟨by rw [HE.out], rfl⟩
      obtain ⟨rfl, hwx⟩ := hcut
      rw [hwx]
      clear hwx cz8
      cases be
      · have hS' : stepR S g = ⟨S.log, r.cur, fr, S.first, S.whole, S.n + 1⟩ := HSR.out
        have HN := Lib.hid (show (stepR S g = (gs.take (i + 1)).foldl stepR s0 ∧ (stepR S g).n = first + (i + 1)) ∧ RdV gv gl gx w1.heap.size w3 wF (stepR S g) vsd ves (.slice A6 l6 c6) (.slice A7 l7 c7) by
          refine ⟨⟨HST.out.symm, by rw [hS']; show S.n + 1 = _; omega⟩, ?_⟩
          rw [hS']
          exact ⟨HX.out.2.1, HVF.out, HX.out.1, HX.out.2.2.1.mono (by decide) fun b hb _ => ⟨hb.1.1.2, hb.1.2, hb.2⟩, (HX.out.2.2.2.monoW fun b hb _ => ⟨hb.1.2, hb.2⟩), HOF.out, HKF.out, HRE.out.term, HRE.out.vote, HRE.out.si, HRE.out.st, HGD2.out.2.2.2.1, HP.out.len2, HP.out.si2⟩)
        have HS' := Lib.hid hS'
        clear hS' hn hnI
        go_wp2
        go_roundw
        case rel => exact ⟨i + 1, stepR S g, vsd, ves, _, _, by omega, by go_num, by rw [HS'.out], by rw [HS'.out], by rw [HS'.out], Lib.hid HN.out.1, Lib.hid HN.out.2⟩
        case measure => simp [intOf]; omega
      · have hS' : stepR S g = ⟨r.cur, r.cur, fr, fr, S.n + 1, S.n + 1⟩ := HSR.out
        have HS' := Lib.hid hS'
        have hvmF : VLm (fun _ => True) wF (.slice A6 l6 c6) (.slice A7 l7 c7) r.cur := ⟨HX.out.2.2.1.mono (by decide) fun _ _ _ => trivial, HX.out.2.2.2.rslO (by have := HGD2.out.2.2.2.1; show r.cur.es.length * 40 ≤ _; omega) (fun _ _ => trivial) (fun _ _ => trivial), HRE.out.term, HRE.out.vote, by have := HRE.out.si; omega, HRE.out.st⟩
        have HRT := Lib.hid (vright_any hvmF)
        rw [HGE.out rfl] at HRT
        have HVM := Lib.hid hvmF
        have hkxF := HX.out.1
        obtain ⟨R1, hR1⟩ : ∃ R1 : Array Value, R1 = vlCs r.cur (.slice A6 l6 c6) (.slice A7 l7 c7) := ⟨_, rfl⟩
        have hinfR : (Tryz.prog.info? 30).map (·.size) = some R1.size := by rw [hR1]; exact Tryz.infoLog
        rw [← hR1] at HRT hkxF
        have HR1 := Lib.hid hR1
        have HHN := Lib.hid (And.intro hn hnI)
        clear hS' hvmF hR1 hn hnI
        go_upto_region 16 with fail
        refine wp_region_lit ?_
        refine wpList_ld (g := gx) (k := 0) (cs := R1) rfl rfl rfl hkxF.range Tryz.underlying30 rfl hinfR ?_
        go_wp2_with fail
        refine HRT.out.mono ?_
        rintro e wG ⟨rfl, hBG⟩
        have hkxG := hkxF.below hBG hkxF.lt
        have HOW := Lib.hid (own_any (HVM.out.below hBG) (by have := HGD2.out.2.2.2.1; omega))
        rw [← HR1.out] at HOW
        have hzG := hBG.size
        clear HRT cz9
        go_upto_region 18 with fail
        refine wp_region_split 1 ?_
        simp only [List.take_succ_cons, List.take_zero, List.drop_succ_cons, List.drop_zero]
        go_wp2
        show wpList _ _ _ _ _ _
        refine wpList_ld (g := gx) (k := 0) (cs := R1) rfl rfl rfl hkxG.range Tryz.underlying30 rfl hinfR ?_
        refine wpList_split 6 ?_
        simp only [List.take_succ_cons, List.take_zero, List.drop_succ_cons, List.drop_zero]
        go_wp2_with fail
        refine HOW.out.mono ?_
        rintro e wH ⟨⟨v8, e8, rfl, hmH⟩, hBH⟩
        obtain ⟨A8, c8, rfl, _⟩ := hmH.sd.form
        obtain ⟨A9, c9, rfl, _⟩ := hmH.es.form
        have kvH := (HX.out.2.1.below hBG HX.out.2.1.lt).below hBH (by have := HX.out.2.1.lt; omega)
        have HMH := Lib.hid hmH
        have hzH := hBH.size
        clear hmH HOW
        go_wp2
        show wpList _ _ _ _ _ _
        have hkM : Blk wH gv 74 (#[.pointer (some ⟨gl, 0, none⟩)] ++ vlCs S.log vsd ves ++ #[]) := kvH
        refine wpList_stMid (C := vlCs S.log vsd ves) rfl rfl (vlCs r.cur (.slice A8 r.cur.sd.length c8) (.slice A9 r.cur.es.length c9)) rfl rfl hkM rfl rfl Tryz.infoLog (vl_all _ _ _ _ _ _ _) ?_ rfl
        intro k9
        have hK9 : Kp (fun b => ¬ b = gv) wH (World.setCells wH gv 1 (vlCs r.cur (.slice A8 r.cur.sd.length c8) (.slice A9 r.cur.es.length c9)).toList) := Kp.setCells (b := gv) (fun _ h => h rfl) _ 1 (Kp.refl _ _)
        generalize hwz : World.setCells wH gv 1 (vlCs r.cur (.slice A8 r.cur.sd.length c8) (.slice A9 r.cur.es.length c9)).toList = wz at k9 hK9 ⊢
        have hgvF := HX.out.2.1.lt
        have hgxF := HX.out.1.lt
        have hgvx : ¬ gx = gv := by have := HGX.out; omega
        have hownz := HX.out.2.2.2.lt
        have hov : (Value.slice A7 l7 c7).ownBlock ≠ some gv := fun e => by have := HOF.out gv e; omega
        have hn := HHN.out.1
        have hzKF := HKF.out.size
        have HN := Lib.hid (show (stepR S g = (gs.take (i + 1)).foldl stepR s0 ∧ (stepR S g).n = first + (i + 1)) ∧ RdV gv gl gx w1.heap.size w3 wz (stepR S g) (.slice A8 r.cur.sd.length c8) (.slice A9 r.cur.es.length c9) (.slice A6 l6 c6) (.slice A7 l7 c7) by
          refine ⟨⟨HST.out.symm, by rw [HS'.out]; show S.n + 1 = _; omega⟩, ?_⟩
          rw [HS'.out]
          refine ⟨k9, (HMH.out.kp (hK9.mono fun b (hb : wG.heap.size ≤ b) => by omega)).mono fun b (hb : wG.heap.size ≤ b) _ => ⟨by omega, by omega, fun e => by have := (hownz b e.symm).2; omega⟩, ((HX.out.1.below hBG HX.out.1.lt).below hBH (by omega)).kp hK9 hgvx, ?_, ?_, HOF.out, ((HKF.out.trans (.of_below hBG)).trans (.of_below hBH)).trans (hK9.mono fun b hb => hb.1), HRE.out.term, HRE.out.vote, HRE.out.si, HRE.out.st, HGD2.out.2.2.2.1, HGD2.out.2.2.2.1, HGD2.out.2.2.2.2⟩
          · exact (RSl.kp (hK9.mono fun b hb => hb.2) (RSl.below (RSl.below HX.out.2.2.1 hBG) hBH)).mono (by decide) fun b hb _ => ⟨hb.1.1.2, hb.1.2, hb.2⟩
          · exact ((((HX.out.2.2.2.below hBG).below hBH).kp hK9 (fun b hb => hb.2) (fun b hb e => hov (e ▸ hb))).monoW fun b hb _ => ⟨hb.1.2, hb.2⟩))
        have hnI2 : (first : Int) + (i : Int) + 1 = ((S.n + 1 : Nat) : Int) := by omega
        have HNI := Lib.hid hnI2
        clear hwz k9 hK9 hkM kvH hn hnI2 hownz
        go_wp2
        go_roundw
        case rel => exact ⟨i + 1, stepR S g, _, _, _, _, by omega, by go_num, by rw [HS'.out], by rw [HS'.out], by rw [HS'.out, HNI.out], Lib.hid HN.out.1, Lib.hid HN.out.2⟩
        case measure => simp [intOf]; omega
    · obtain rfl : i = m := by omega
      have htk : gs.take i = gs := List.take_of_length_le (by rw [← HM.out]; exact Nat.le_refl _)
      have HSZ := Lib.hid (show S = gs.foldl stepR s0 by rw [HS.out.1, htk])
      clear htk
      have HBZ := Lib.hid (And.intro hB2 hB3)
      go_wp2
      refine bodyPost_ret (v := .tuple #[.int .u64 (S.first : Int), .int .u64 (S.whole : Int), .nilIface]) ?_ rfl ⟨⟨S, HSZ.out, rfl, vsd, ves, HP.out.vb, HP.out.vl.mono fun b hb _ => hb.1⟩, (((Kp.of_below HBZ.out.1).trans (.of_below HBZ.out.2)).thenW HP.out.kp fun b hb hd => ⟨hd, by have := HGX.out; omega⟩)⟩
      simp [results, Tryz.results33, Act.put, Sem.run_bind, Sem.run_pure, asAddr_ok]
end Go.Proofs.YtnlhjhpikjmoaaaGreatDoor
