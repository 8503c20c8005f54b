/- Contracts: (*reader).all: what a record's things do. -/
import Derived.Test.YtnlhjhpikjmoaaaGreatDoorA11
namespace Go.Proofs.YtnlhjhpikjmoaaaGreatDoor
open Go.RowKit
def rdCs (gr : Nat) (s : RdS) (vsd ves : Value) : Array Value := #[.pointer (some ⟨gr, 0, none⟩), .int .u64 (s.cur.term : Int), .int .i64 s.cur.vote, .int .u64 (s.cur.si : Int), .int .u64 (s.cur.st : Int), vsd, ves, .bool false, .bool s.begun, .bool s.ended]
def DD (gz gr : Nat) (own0 : Option Nat) (b : Nat) : Prop := b ≠ gz ∧ b ≠ gr ∧ some b ≠ own0
def DE (gz gr : Nat) (b : Nat) : Prop := b ≠ gz ∧ b ≠ gr
structure RdI (okr : Nat → Prop) (own0 : Option Nat) (n1 gz gr : Nat) (w : World) (s : RdS) (rest : List UInt8) (vsd ves : Value) : Prop where
  blk : Blk w gz 111 (rdCs gr s vsd ves)
  rdr : Rdr okr w gr rest
  sd : RB (fun b => DE gz gr b ∧ some b ≠ ves.ownBlock) w vsd s.cur.sd
  es : OwnL rEnt (DE gz gr) 0 50 w ves s.cur.es
  own : ves.ownBlock = own0 ∨ ∀ k, ves.ownBlock = some k → n1 ≤ k
  term : s.cur.term < 18446744073709551616
  vote : I64 s.cur.vote
  si : s.cur.si ≤ 4611686018427387904
  st : s.cur.st < 18446744073709551616
section
variable {okr : Nat → Prop} {own0 : Option Nat} {n1 gz gr : Nat} {w w' : World} {s s' : RdS} {rest rest' : List UInt8} {vsd ves vsd' ves' : Value}
theorem RdI.lt (h : RdI okr own0 n1 gz gr w s rest vsd ves) : gz < w.heap.size := h.blk.lt
theorem RdI.below (h : RdI okr own0 n1 gz gr w s rest vsd ves) (hb : Below w.heap.size w w') : RdI okr own0 n1 gz gr w' s rest vsd ves :=
  ⟨h.blk.below hb h.blk.lt, h.rdr.below hb, RSl.below h.sd hb, h.es.below hb, h.own, h.term, h.vote, h.si, h.st⟩
theorem RdI.rd (h : RdI okr own0 n1 gz gr w s rest vsd ves) (hne : gz ≠ gr) (hg : ves.ownBlock ≠ some gr) (hr : Rdr okr w' gr rest') (hk : Kp (fun b => b ≠ gr) w w') : RdI okr own0 n1 gz gr w' s rest' vsd ves :=
  ⟨h.blk.kp hk hne, hr, RSl.kp (hk.mono fun b hb => hb.1.2) h.sd, h.es.kp hk (fun b hb => hb.2) fun b hb e => hg (e ▸ hb), h.own, h.term, h.vote, h.si, h.st⟩
theorem RdI.upto (h : RdI okr own0 n1 gz gr w s rest vsd ves) (hn : n1 = w.heap.size) : RdI okr own0 (n1 + 1) gz gr w s rest vsd ves :=
  ⟨h.blk, h.rdr, h.sd, h.es, h.own.imp id fun h1 k hk => by have := h1 k hk; have := (h.es.lt k hk).2; omega, h.term, h.vote, h.si, h.st⟩
theorem RdI.ownle (h : RdI okr own0 (n1 + 1) gz gr w s rest vsd ves) : RdI okr own0 n1 gz gr w s rest vsd ves :=
  ⟨h.blk, h.rdr, h.sd, h.es, h.own.imp id fun h1 k hk => by have := h1 k hk; omega, h.term, h.vote, h.si, h.st⟩
theorem RdI.put (h : RdI okr own0 n1 gz gr w s rest vsd ves) (hk : Kp (fun b => b ≠ gz) w w') (hrz : ∀ b, okr b → b ≠ gz) (hne : gr ≠ gz) (hb : Blk w' gz 111 (rdCs gr s' vsd' ves')) (hsd : RB (fun b => DE gz gr b ∧ some b ≠ ves'.ownBlock) w vsd' s'.cur.sd) (hes : OwnL rEnt (DE gz gr) 0 50 w ves' s'.cur.es)
    (hz : ves'.ownBlock ≠ some gz) (hown : ves'.ownBlock = own0 ∨ ∀ k, ves'.ownBlock = some k → n1 ≤ k) (h1 : s'.cur.term < 18446744073709551616) (h2 : I64 s'.cur.vote) (h3 : s'.cur.si ≤ 4611686018427387904) (h4 : s'.cur.st < 18446744073709551616) : RdI okr own0 n1 gz gr w' s' rest vsd' ves' :=
  ⟨hb, h.rdr.kp hk hrz hne, RSl.kp (hk.mono fun b hb => hb.1.1) hsd, hes.kp hk (fun b hb => hb.1) fun b hb e => hz (e ▸ hb), hown, h1, h2, h3, h4⟩
end
theorem encT_pos (t : Th) : 0 < (encT t).length := by
  have := numB_pos 1
  have := numB_pos 2
  have := numB_pos 3
  have := numB_pos 4
  have := numB_pos 5
  have := numB_pos 6
  have := numB_pos 7
  cases t <;> simp only [encT, List.length_append] <;> omega
def kindT : Th → Nat
  | .beg => 1
  | .fol => 2
  | .hard _ _ => 3
  | .snap _ _ _ => 4
  | .back _ => 5
  | .ent _ _ => 6
  | .fin => 7
def restT : Th → List UInt8
  | .beg => []
  | .fol => []
  | .hard t v => numB t ++ numB v
  | .snap i t d => numB i ++ (numB t ++ txtB d)
  | .back n => numB n
  | .ent t d => numB t ++ txtB d
  | .fin => []
theorem encT_kind (t : Th) : encT t = numB (kindT t) ++ restT t := by cases t <;> simp [encT, kindT, restT]
theorem flatT_cons (t : Th) (g : List Th) : flatT (t :: g) = encT t ++ flatT g := by simp [flatT]
theorem OwnL.rslO {α : Type} {E : Rel α} {okd ok : Nat → Prop} {base : Nat} {T : TypeId} {w : World} {v : Value} {l : List α} (h : OwnL E okd base T w v l) (hb : l.length * E.wt ≤ 140737488351232) (hrow : ∀ b, v.ownBlock = some b → ok b) (hd : ∀ b, okd b → ok b) : RSl E ok w v l := by
  obtain ⟨css, ho, hch⟩ := h
  obtain ⟨A, c, rfl, hc, _⟩ := own_slice w ho
  exact ⟨A, l.length, c, css, rfl, hc, rfl, hb, Rd.of_own ho, hch.mono fun b hb _ => hd b hb.1, fun _ a ha => by subst ha; exact hrow _ rfl⟩
theorem gives_ld {P : Program} {o : Oper} {a : Act} {w : World} {g k : Nat} {cs : Array Value} {Φ : Value → World → Prop} {ty : TypeId} {x : Operand} {d : TypeDesc} (ho : o.op = .load ty x) (hx : a.eval x = .pointer (some ⟨g, k, none⟩)) (hk : w.rangeAt g k cs.toList) (hu : P.underlying ty = some d) (hd : d.isRow = true) (hi : (P.info? ty).map (·.size) = some cs.size) (h : Φ (.agg cs) w) : Gives P o a w Φ := by
  have hr := run_loadVar_mid (P := P) w g k ty cs.toList d hk hu hd (by simpa using hi)
  unfold Gives execOp
  simp only [ho, hx, Instr.loadAt, Instr.sureAddr, Sem.run_bind, Sem.run_pure, Result.andThen_ok, hr, giv]
  exact h
theorem all1_any (gs n : Nat) {w : World} (hc : w.cell? ⟨gs, 0, none⟩ = some (.int .u64 (n : Int))) (a b : Nat) (A : Option Addr) (m c : Nat) :
    Calls Tryz.prog 91 #[.agg #[.int .u64 (a : Int), .int .u64 (b : Int), .slice A m c], .pointer (some ⟨gs, 0, none⟩)] w fun e w' => e = .returned (.bool (decide (n ≤ b))) ∧ Below w.heap.size w w' := by
  have hlt := World.block_lt_of_cell? w _ hc
  obtain ⟨q, hq⟩ : ∃ q, q = decide (n ≤ b) := ⟨_, rfl⟩
  have z1 : decide ((b : Int) ≥ (n : Int)) = q := by rw [hq]; congr 1; rw [eq_iff_iff]; omega
  have z2 : decide (n ≤ b) = q := hq.symm
  have HC := Lib.hid hc
  rw [← hq]
  clear hq hc
  go_enter Tryz.func91, Tryz.ntmps91
  go_upto_region 1 with fail
  obtain ⟨g, hg⟩ : ∃ g, g = w.heap.size := ⟨_, rfl⟩
  refine name_world (fun w1 => w1.cell? ⟨g, 1, none⟩ = some (.int .u64 (b : Int)) ∧ w1.cell? ⟨gs, 0, none⟩ = some (.int .u64 (n : Int)) ∧ Below w.heap.size w w1) ⟨by rw [hg]; exact (Blk.new w 50 #[.int .u64 (a : Int), .int .u64 (b : Int), .slice A m c]).cell 1, (World.cell?_alloc_lt _ _ ⟨gs, 0, none⟩ hlt).trans HC.out, (Below.refl _ _).alloc (Nat.le_refl _) _⟩ ?_
  rintro w1 ⟨c1, c2, hB1⟩
  rw [← hg]
  clear hg
  go_wp2
  go_ret
  exact ⟨by first | rfl | (rw [z2]) | (rw [z1]), hB1⟩
noncomputable def leftE (gr : Nat) (w : World) : Nat := Classical.epsilon fun n => ∃ ok rest, Rdr ok w gr rest ∧ rest.length = n
theorem leftE_eq {ok : Nat → Prop} {w : World} {gr : Nat} {rest : List UInt8} (h : Rdr ok w gr rest) : leftE gr w = rest.length := by
  obtain ⟨ok', rest', h', hl⟩ : ∃ ok rest, Rdr ok w gr rest ∧ rest.length = leftE gr w := Classical.epsilon_spec (p := fun n => ∃ ok rest, Rdr ok w gr rest ∧ rest.length = n) ⟨_, ok, rest, h, rfl⟩
  rw [← hl]
  obtain ⟨A, c, at_, b, h1, h2, h3, h4⟩ := h
  obtain ⟨A', c', at', b', h1', h2', h3', h4'⟩ := h'
  have e1 := (h1.cell 0).symm.trans (h1'.cell 0)
  have e2 := (h1.cell 1).symm.trans (h1'.cell 1)
  have e1' : b.length = b'.length := by
    have : (Value.slice A b.length c) = .slice A' b'.length c' := by simpa using e1
    simp only [Value.slice.injEq] at this
    exact this.2.1
  have e2' : (at_ : Int) = at' := by
    have : (Value.int .i64 (at_ : Int)) = .int .i64 (at' : Int) := by simpa using e2
    simp only [Value.int.injEq] at this
    exact this.2
  rw [← h3, ← h3', List.length_drop, List.length_drop]
  omega
set_option maxRecDepth 100000 in
set_option maxHeartbeats 12800000 in
theorem rall_any {okr : Nat → Prop} {own0 : Option Nat} {w : World} {gz gr : Nat} {s : RdS} {vsd ves hsd hes : Value} {had : VLog} {g : List Th} (h : RdI okr own0 w.heap.size gz gr w s (flatT g) vsd ves) (hne : gz ≠ gr) (hz : ves.ownBlock ≠ some gz) (hgr : ves.ownBlock ≠ some gr)
    (hokr : ∀ b, okr b → b < w.heap.size ∧ b ≠ gz ∧ some b ≠ own0) (hh : VLm (fun b => b < w.heap.size ∧ DD gz gr own0 b) w hsd hes had) (hg : ∀ t ∈ g, okTh t) (hl1 : s.cur.es.length ≤ 400000) (hl2 : had.es.length ≤ 400000) (hl3 : g.length ≤ 400000) (hhs : had.si ≤ 4611686018427387904) (hO0 : ∀ k, own0 = some k → k < w.heap.size) :
    Calls Tryz.prog 55 #[.pointer (some ⟨gz, 0, none⟩), .agg (vlCs had hsd hes)] w fun e w' => (∃ v, e = .returned v) ∧ (∃ vsd' ves', RdI okr own0 w.heap.size gz gr w' (g.foldl (stepT had) s) [] vsd' ves' ∧ ves'.ownBlock ≠ some gz ∧ ves'.ownBlock ≠ some gr) ∧ Kp (DD gz gr own0) w w' := by
  obtain ⟨H1, hH1⟩ : ∃ H1 : Array Value, H1 = vlCs had hsd hes := ⟨_, rfl⟩
  have hinf : (Tryz.prog.info? 30).map (·.size) = some H1.size := by rw [hH1]; exact Tryz.infoLog
  rw [← hH1]
  have HH1 := Lib.hid hH1
  obtain ⟨n1, hn1⟩ : ∃ n1, n1 = w.heap.size := ⟨_, rfl⟩
  rw [← hn1] at h hokr hh hO0 ⊢
  obtain ⟨m, hm⟩ : ∃ m, m = g.length := ⟨_, rfl⟩
  rw [← hm] at hl3
  have HI0 := Lib.hid h
  have HHD := Lib.hid hh
  have HOK := Lib.hid hokr
  have HG := Lib.hid hg
  have HM := Lib.hid hm
  have HZ0 := Lib.hid (And.intro hz hgr)
  have HNE := Lib.hid hne
  have HL1 := Lib.hid hl1
  have HL2 := Lib.hid hl2
  have HHS := Lib.hid hhs
  have hgz := h.lt
  have hgrl : gr < n1 := by
    obtain ⟨A, c, at_, b, hk, _⟩ := h.rdr
    rw [hn1]
    exact hk.lt
  have HGR := Lib.hid hgrl
  have HOWN := Lib.hid h.own
  have hes0 := h.es.lt
  have HO0 := Lib.hid (show ∀ k, own0 = some k → k < n1 from hO0)
  have HDN := Lib.hid (show DD gz gr own0 n1 from ⟨by omega, by omega, fun e => by have := hO0 n1 e.symm; omega⟩)
  clear hgrl hes0 hO0
  clear h hh hokr hg hm hz hgr hne hl1 hl2 hhs hH1
  go_enter Tryz.func55, Tryz.ntmps55
  go_upto_region 1 with fail
  refine name_world (fun w1 => Blk w1 n1 30 H1 ∧ Below n1 w w1 ∧ w1.heap.size = n1 + 1) ⟨by rw [hn1]; exact Blk.new _ _ _, by rw [hn1]; exact (Below.refl _ _).alloc (Nat.le_refl _) _, by rw [hn1]; simp⟩ ?_
  rintro w1 ⟨kh, hB1, hz1⟩
  rw [← hn1]
  rw [← hn1] at hgz
  have HI1 := Lib.hid ((HI0.out.upto hn1).below (hn1 ▸ hB1))
  have HHD1 := Lib.hid (HHD.out.below (hn1 ▸ hB1))
  have HN1 := Lib.hid hn1
  have HKH := Lib.hid kh
  clear hn1 HI0 HHD kh
  go_loopw [12] (fun _ wr => ∃ (i : Nat) (sc : RdS) (vsd ves : Value), i ≤ m ∧ Hid (RdI okr own0 (n1 + 1) gz gr wr sc (flatT (g.drop i)) vsd ves ∧ ves.ownBlock ≠ some gz ∧ ves.ownBlock ≠ some gr ∧ sc = (g.take i).foldl (stepT had) s ∧ sc.cur.es.length ≤ 400000 + i ∧ Kp (DD gz gr own0) w1 wr)) (fun _ wr => leftE gr wr)
  case atStart => exact ⟨0, s, vsd, ves, by omega, Lib.hid ⟨HI1.out, HZ0.out.1, HZ0.out.2, rfl, HL1.out, Kp.refl _ _⟩⟩
  case round =>
    obtain ⟨i, sc, vsd, ves, him, HP⟩ := hrel
    have hbk := HP.out.1.blk
    have c7 : wr.cell? ⟨gz, 7, none⟩ = some (.bool false) := hbk.cell 7
    have c0 : wr.cell? ⟨gz, 0, none⟩ = some (.pointer (some ⟨gr, 0, none⟩)) := hbk.cell 0
    have HBK := Lib.hid hbk
    have HLE := Lib.hid (rLeft_any HP.out.1.rdr)
    have HLM := Lib.hid (leftE_eq HP.out.1.rdr)
    have hgz1 := HP.out.1.lt
    clear hbk
    by_cases hlt : i < m
    · have hil : i < g.length := by rw [← HM.out]; exact hlt
      obtain ⟨t, ht⟩ : ∃ t, t = g[i] := ⟨_, rfl⟩
      have hdr : flatT (g.drop i) = numB (kindT t) ++ (restT t ++ flatT (g.drop (i + 1))) := by rw [List.drop_eq_getElem_cons hil, flatT_cons, ← ht, encT_kind, List.append_assoc]
      have hk8 : kindT t ≤ 8 := by cases t <;> simp [kindT]
      have hlen : (flatT (g.drop (i + 1))).length < (flatT (g.drop i)).length := by
        rw [List.drop_eq_getElem_cons hil, flatT_cons, List.length_append]
        have := encT_pos g[i]
        omega
      have hok : okTh t := HG.out t (by rw [ht]; exact List.getElem_mem _)
      have hst : (g.take (i + 1)).foldl (stepT had) s = stepT had sc t := by rw [List.take_succ_eq_append_getElem hil, List.foldl_append, ← HP.out.2.2.2.1, ← ht]; rfl
      have hdl : g.drop i = t :: g.drop (i + 1) := by rw [ht]; exact List.drop_eq_getElem_cons hil
      obtain ⟨Ln, hLn⟩ : ∃ Ln, Ln = (flatT (g.drop i)).length := ⟨_, rfl⟩
      have HLL := Lib.hid (And.intro hlen hLn)
      have hL0 : 0 < Ln := by omega
      have z1 : decide ((Ln : Int) > 0) = true := decide_eq_true (by omega)
      have z2 : decide (0 < Ln) = true := decide_eq_true hL0
      rw [← hLn] at HLE
      obtain ⟨R, hR⟩ : ∃ R, R = flatT (g.drop (i + 1)) := ⟨_, rfl⟩
      rw [← hR] at hdr
      have HR := Lib.hid hR
      have HDR := Lib.hid hdr
      have HOT := Lib.hid hok
      have HST := Lib.hid hst
      have HK8 := Lib.hid hk8
      clear hlen hLn hR hdr hok hst hk8 ht hdl hL0
      go_wp2_with fail
      refine HLE.out.mono ?_
      rintro e w2 ⟨rfl, hB2⟩
      have h2 := HP.out.1.below hB2
      have c0 : w2.cell? ⟨gz, 0, none⟩ = some (.pointer (some ⟨gr, 0, none⟩)) := h2.blk.cell 0
      have c7 : w2.cell? ⟨gz, 7, none⟩ = some (.bool false) := h2.blk.cell 7
      have HER := Lib.hid (rErr_any h2.rdr)
      have hrd2 := h2.rdr
      rw [HDR.out] at hrd2
      have HSM := Lib.hid (rSmall_any hrd2 HK8.out (by omega))
      obtain ⟨kk, hkk⟩ : ∃ kk, kk = kindT t := ⟨_, rfl⟩
      rw [← hkk] at HSM
      have HKK := Lib.hid hkk
      clear hkk
      have H2 := Lib.hid h2
      clear h2 hrd2
      go_wp2_with fail
      refine HER.out.mono ?_
      rintro e w2' ⟨rfl, rfl⟩
      go_upto_region 2 with fail
      go_wp2_with fail
      refine HSM.out.mono ?_
      rintro e w3 ⟨rfl, hr3, hK3⟩
      have H3 := Lib.hid (H2.out.rd HNE.out HP.out.2.2.1 hr3 hK3)
      have HK3 := Lib.hid (show Kp (DD gz gr own0) w1 w3 from (HP.out.2.2.2.2.2.trans (.of_below hB2)).trans (hK3.mono fun b hb => hb.2.1))
      clear hr3 hK3 c0 c7 HSM HER H2 HLE HBK z1 z2
      go_upto_region 4 with fail
      have hkk := HKK.out
      clear HKK
      -- @@A
      cases t with
      | beg =>
        obtain rfl : kk = 1 := hkk
        have hR := H3.out
        have hR2 : RdI okr own0 (n1 + 1) gz gr w3 sc (flatT (g.drop (i + 1))) vsd ves := by rw [← HR.out]; exact hR
        have hblk := hR.blk
        go_upto_region 5 with fail
        refine wp_region_split 6 ?_
        simp only [List.take_succ_cons, List.take_zero, List.drop_succ_cons, List.drop_zero]
        go_wp2
        show wpList _ _ _ _ _ _
        have hkM : Blk w3 gz 111 (#[.pointer (some ⟨gr, 0, none⟩)] ++ #[.int .u64 (sc.cur.term : Int), .int .i64 sc.cur.vote, .int .u64 (sc.cur.si : Int), .int .u64 (sc.cur.st : Int), vsd, ves] ++ #[.bool false, .bool sc.begun, .bool sc.ended]) := hblk
        refine wpList_stMid (C := #[.int .u64 (sc.cur.term : Int), .int .i64 sc.cur.vote, .int .u64 (sc.cur.si : Int), .int .u64 (sc.cur.st : Int), vsd, ves]) rfl rfl #[.int .u64 0, .int .i64 0, .int .u64 0, .int .u64 0, .slice none 0 0, .slice none 0 0] rfl rfl hkM rfl rfl Tryz.infoLog (by simp [Value.oneCell', vlCs]) ?_ rfl
        intro k9
        have hK9 : Kp (fun b => b ≠ gz) w3 (World.setCells w3 gz 1 (#[.int .u64 0, .int .i64 0, .int .u64 0, .int .u64 0, .slice none 0 0, .slice none 0 0] : Array Value).toList) := Kp.setCells (b := gz) (fun _ h => h rfl) _ 1 (Kp.refl _ _)
        generalize hwz : World.setCells w3 gz 1 (#[.int .u64 0, .int .i64 0, .int .u64 0, .int .u64 0, .slice none 0 0, .slice none 0 0] : Array Value).toList = w4 at k9 hK9 ⊢
        clear hwz hkM
        have f8 : w4.frozen? ⟨gz, 8, none⟩ = false := k9.frozen 8
        have c8 : w4.cell? ⟨gz, 8, none⟩ = some (.bool sc.begun) := k9.cell 8
        have f9 : w4.frozen? ⟨gz, 9, none⟩ = false := k9.frozen 9
        have c9 : w4.cell? ⟨gz, 9, none⟩ = some (.bool sc.ended) := k9.cell 9
        have hks : Kp (fun b => b ≠ gz) w3 ((w4.setCell ⟨gz, 8, none⟩ (.bool true)).setCell ⟨gz, 9, none⟩ (.bool false)) := (hK9.setCell (p := ⟨gz, 8, none⟩) (fun _ h => h rfl) _).setCell (p := ⟨gz, 9, none⟩) (fun _ h => h rfl) _
        have HRES := Lib.hid (show RdI okr own0 (n1 + 1) gz gr ((w4.setCell ⟨gz, 8, none⟩ (.bool true)).setCell ⟨gz, 9, none⟩ (.bool false)) (stepT had sc .beg) (flatT (g.drop (i + 1))) (.slice none 0 0) (.slice none 0 0) ∧ ((.slice none 0 0) : Value).ownBlock ≠ some gz ∧ ((.slice none 0 0) : Value).ownBlock ≠ some gr ∧ stepT had sc .beg = (g.take (i + 1)).foldl (stepT had) s ∧ (stepT had sc .beg).cur.es.length ≤ 400000 + (i + 1) ∧ Kp (DD gz gr own0) w1 ((w4.setCell ⟨gz, 8, none⟩ (.bool true)).setCell ⟨gz, 9, none⟩ (.bool false)) from
          ⟨hR2.put hks (fun b hb => (HOK.out b hb).2.1) HNE.out.symm ((k9.set_ 8 (.bool true)).set_ 9 (.bool false)) (RSl.nil_ _ _ _) (OwnL.nil_ _ _ _ _ _) (fun h => by cases h) (.inr fun k h => by cases h) (show VLog.zero.term < _ by decide) (show I64 VLog.zero.vote from ⟨by decide, by decide⟩) (show VLog.zero.si ≤ _ by decide) (show VLog.zero.st < _ by decide), fun h => (by cases h), fun h => (by cases h), HST.out.symm, by show 0 ≤ _; omega, HK3.out.trans (hks.mono fun b hb => hb.1)⟩)
        clear hR hR2 hks hblk hK9 k9
        go_wp2
        go_roundw
        case rel => exact ⟨i + 1, stepT had sc .beg, (.slice none 0 0), (.slice none 0 0), by omega, HRES⟩
        case measure => rw [leftE_eq HRES.out.1.rdr, HLM.out]; exact HLL.out.1
      | fol =>
        obtain rfl : kk = 2 := hkk
        have hR := H3.out
        have hR2 : RdI okr own0 (n1 + 1) gz gr w3 sc (flatT (g.drop (i + 1))) vsd ves := by rw [← HR.out]; exact hR
        have hkh : Blk w3 n1 30 H1 := HKH.out.kp HK3.out HDN.out
        have hhd3 := HHD1.out.kp (HK3.out.mono fun b hb => hb.2)
        have HOW := Lib.hid (own_own hhd3 (by have := HL2.out; omega))
        rw [← HH1.out] at HOW
        have HHI := Lib.hid (And.intro hhd3.term (And.intro hhd3.vote hhd3.st))
        clear hhd3
        go_upto_region 7 with fail
        refine wp_region_split 2 ?_
        simp only [List.take_succ_cons, List.take_zero, List.drop_succ_cons, List.drop_zero]
        go_wp2
        show wpList _ _ _ _ _ _
        refine wpList_ld (g := n1) (k := 0) (cs := H1) rfl rfl rfl hkh.range Tryz.underlying30 rfl hinf ?_
        refine wpList_split 3 ?_
        simp only [List.take_succ_cons, List.take_zero, List.drop_succ_cons, List.drop_zero]
        go_wp2_with fail
        refine HOW.out.mono ?_
        rintro e w4 ⟨⟨B, v4, e4, rfl, hB4, hsd4, hes4, _⟩, hBw4⟩
        obtain ⟨A4, c4, rfl, _⟩ := hsd4.form
        obtain ⟨D4, d4, rfl, _⟩ := hes4.form
        have hblk := hR.blk.below hBw4 hR.blk.lt
        have hR4 := hR2.below hBw4
        have HX4 := Lib.hid (And.intro hsd4 hes4)
        clear HOW hkh hsd4 hes4
        go_wp2
        show wpList _ _ _ _ _ _
        have hkM : Blk w4 gz 111 (#[.pointer (some ⟨gr, 0, none⟩)] ++ #[.int .u64 (sc.cur.term : Int), .int .i64 sc.cur.vote, .int .u64 (sc.cur.si : Int), .int .u64 (sc.cur.st : Int), vsd, ves] ++ #[.bool false, .bool sc.begun, .bool sc.ended]) := hblk
        refine wpList_stMid (C := #[.int .u64 (sc.cur.term : Int), .int .i64 sc.cur.vote, .int .u64 (sc.cur.si : Int), .int .u64 (sc.cur.st : Int), vsd, ves]) rfl rfl (vlCs had (.slice A4 had.sd.length c4) (.slice D4 had.es.length d4)) rfl rfl hkM rfl rfl Tryz.infoLog (by simp [Value.oneCell', vlCs]) ?_ rfl
        intro k9
        have hK9 : Kp (fun b => b ≠ gz) w4 (World.setCells w4 gz 1 ((vlCs had (.slice A4 had.sd.length c4) (.slice D4 had.es.length d4)) : Array Value).toList) := Kp.setCells (b := gz) (fun _ h => h rfl) _ 1 (Kp.refl _ _)
        generalize hwz : World.setCells w4 gz 1 ((vlCs had (.slice A4 had.sd.length c4) (.slice D4 had.es.length d4)) : Array Value).toList = w5 at k9 hK9 ⊢
        clear hwz hkM
        have f9 : w5.frozen? ⟨gz, 9, none⟩ = false := k9.frozen 9
        have c9 : w5.cell? ⟨gz, 9, none⟩ = some (.bool sc.ended) := k9.cell 9
        have hks : Kp (fun b => b ≠ gz) w4 (w5.setCell ⟨gz, 9, none⟩ (.bool false)) := hK9.setCell (p := ⟨gz, 9, none⟩) (fun _ h => h rfl) _
        have hz3 := HK3.out.size
        have holt := HX4.out.2.lt
        have hDB : ∀ b, w3.heap.size ≤ b → DD gz gr own0 b := fun b hb => ⟨by omega, by have := HGR.out; omega, fun e => by have := HO0.out b e.symm; omega⟩
        have HRES := Lib.hid (show RdI okr own0 (n1 + 1) gz gr (w5.setCell ⟨gz, 9, none⟩ (.bool false)) (stepT had sc .fol) (flatT (g.drop (i + 1))) (.slice A4 had.sd.length c4) (.slice D4 had.es.length d4) ∧ ((.slice D4 had.es.length d4) : Value).ownBlock ≠ some gz ∧ ((.slice D4 had.es.length d4) : Value).ownBlock ≠ some gr ∧ stepT had sc .fol = (g.take (i + 1)).foldl (stepT had) s ∧ (stepT had sc .fol).cur.es.length ≤ 400000 + (i + 1) ∧ Kp (DD gz gr own0) w1 (w5.setCell ⟨gz, 9, none⟩ (.bool false)) from
          ⟨hR4.put hks (fun b hb => (HOK.out b hb).2.1) HNE.out.symm (k9.set_ 9 (.bool false)) (HX4.out.1.mono (by decide) fun b hb _ => ⟨⟨(hDB b hb.1).1, (hDB b hb.1).2.1⟩, fun e => by have := (holt b e.symm).1; omega⟩) ((HX4.out.2.monoW fun b hb _ => ⟨(hDB b (by omega)).1, (hDB b (by omega)).2.1⟩).base_ (Nat.zero_le _)) (fun h => by have := (holt _ h).1; omega) (.inr fun k hk => by have := (holt _ hk).1; omega) HHI.out.1 HHI.out.2.1 HHS.out HHI.out.2.2, fun h => (by have := (holt _ h).1; omega), fun h => (by have := (holt _ h).1; have := HGR.out; omega), HST.out.symm, by have := HL2.out; show had.es.length ≤ _; omega, (HK3.out.trans (.of_below hBw4)).trans (hks.mono fun b hb => hb.1)⟩)
        clear hR hR2 hR4 hks hblk hK9 k9 hDB holt
        go_wp2
        go_roundw
        case rel => exact ⟨i + 1, stepT had sc .fol, (.slice A4 had.sd.length c4), (.slice D4 had.es.length d4), by omega, HRES⟩
        case measure => rw [leftE_eq HRES.out.1.rdr, HLM.out]; exact HLL.out.1
      | hard t v =>
        obtain rfl : kk = 3 := hkk
        have hR := H3.out
        have hr3 := hR.rdr
        rw [show restT (.hard t v) ++ R = numB t ++ (numB v ++ R) by simp [restT]] at hr3
        have HNU := Lib.hid (rNum_any hr3 HOT.out.1)
        have c0 : w3.cell? ⟨gz, 0, none⟩ = some (.pointer (some ⟨gr, 0, none⟩)) := hR.blk.cell 0
        have HR3 := Lib.hid hR
        clear hr3 hR
        go_wp2_with fail
        refine HNU.out.mono ?_
        rintro e w4 ⟨rfl, hr4, hK4⟩
        have hR4 := HR3.out.rd HNE.out HP.out.2.2.1 hr4 hK4
        have f1 : w4.frozen? ⟨gz, 1, none⟩ = false := hR4.blk.frozen 1
        have c1 : w4.cell? ⟨gz, 1, none⟩ = some (.int .u64 (sc.cur.term : Int)) := hR4.blk.cell 1
        have hk5 : Kp (fun b => b ≠ gz) w4 (w4.setCell ⟨gz, 1, none⟩ (.int .u64 (t : Int))) := (Kp.refl _ _).setCell (p := ⟨gz, 1, none⟩) (fun _ h => h rfl) _
        have hR5 : RdI okr own0 (n1 + 1) gz gr (w4.setCell ⟨gz, 1, none⟩ (.int .u64 (t : Int))) { sc with cur := { sc.cur with term := t } } (numB v ++ R) vsd ves := hR4.put hk5 (fun b hb => (HOK.out b hb).2.1) HNE.out.symm (hR4.blk.set_ 1 (.int .u64 (t : Int))) hR4.sd hR4.es HP.out.2.1 hR4.own HOT.out.1 hR4.vote hR4.si hR4.st
        have HR5 := Lib.hid hR5
        have HK35 := Lib.hid (show Kp (DD gz gr own0) w3 (w4.setCell ⟨gz, 1, none⟩ (.int .u64 (t : Int))) from (hK4.mono fun b hb => hb.2.1).trans (hk5.mono fun b hb => hb.1))
        clear hr4 hK4 hR4 hk5 hR5 HNU c0
        go_upto_region 10 with fail
        generalize w4.setCell ⟨gz, 1, none⟩ (.int .u64 (t : Int)) = w5 at HR5 HK35 ⊢
        clear f1 c1
        have c0 : w5.cell? ⟨gz, 0, none⟩ = some (.pointer (some ⟨gr, 0, none⟩)) := HR5.out.blk.cell 0
        have HSM2 := Lib.hid (rSmall_any (most := 5) HR5.out.rdr HOT.out.2 (by omega))
        go_wp2_with fail
        refine HSM2.out.mono ?_
        rintro e w6 ⟨rfl, hr6, hK6⟩
        have hR6 := HR5.out.rd HNE.out HP.out.2.2.1 hr6 hK6
        have f2 : w6.frozen? ⟨gz, 2, none⟩ = false := hR6.blk.frozen 2
        have c2 : w6.cell? ⟨gz, 2, none⟩ = some (.int .i64 sc.cur.vote) := hR6.blk.cell 2
        have hks : Kp (fun b => b ≠ gz) w6 (w6.setCell ⟨gz, 2, none⟩ (.int .i64 (v : Int))) := (Kp.refl _ _).setCell (p := ⟨gz, 2, none⟩) (fun _ h => h rfl) _
        have hR7 : RdI okr own0 (n1 + 1) gz gr w6 { sc with cur := { sc.cur with term := t } } (flatT (g.drop (i + 1))) vsd ves := by rw [← HR.out]; exact hR6
        have HRES := Lib.hid (show RdI okr own0 (n1 + 1) gz gr (w6.setCell ⟨gz, 2, none⟩ (.int .i64 (v : Int))) (stepT had sc (.hard t v)) (flatT (g.drop (i + 1))) vsd ves ∧ (ves : Value).ownBlock ≠ some gz ∧ (ves : Value).ownBlock ≠ some gr ∧ stepT had sc (.hard t v) = (g.take (i + 1)).foldl (stepT had) s ∧ (stepT had sc (.hard t v)).cur.es.length ≤ 400000 + (i + 1) ∧ Kp (DD gz gr own0) w1 (w6.setCell ⟨gz, 2, none⟩ (.int .i64 (v : Int))) from
          ⟨hR7.put hks (fun b hb => (HOK.out b hb).2.1) HNE.out.symm (hR6.blk.set_ 2 (.int .i64 (v : Int))) hR6.sd hR6.es HP.out.2.1 hR6.own HOT.out.1 ⟨by show -9223372036854775808 ≤ (v : Int); omega, by have := HOT.out.2; show (v : Int) < 9223372036854775808; omega⟩ hR6.si hR6.st, HP.out.2.1, HP.out.2.2.1, HST.out.symm, by have := HP.out.2.2.2.2.1; show sc.cur.es.length ≤ _; omega, ((HK3.out.trans HK35.out).trans (hK6.mono fun b hb => hb.2.1)).trans (hks.mono fun b hb => hb.1)⟩)
        clear hr6 hK6 hR6 hR7 hks HSM2 c0
        go_wp2
        go_roundw
        case rel => exact ⟨i + 1, stepT had sc (.hard t v), vsd, ves, by omega, HRES⟩
        case measure => rw [leftE_eq HRES.out.1.rdr, HLM.out]; exact HLL.out.1
      | snap si st d =>
        obtain rfl : kk = 4 := hkk
        have hR := H3.out
        have hr3 := hR.rdr
        rw [show restT (.snap si st d) ++ R = numB si ++ (numB st ++ (txtB d ++ R)) by simp [restT]] at hr3
        have HR3 := Lib.hid hR
        have HRD := Lib.hid hr3
        have c0 : ∀ s : LaterB w3 (fun b => b = gr), s.val.cell? ⟨gz, 0, none⟩ = some (.pointer (some ⟨gr, 0, none⟩)) := LaterB.cell (hR.blk.cell 0) HNE.out
        have hgr3 : gr < w3.heap.size := by have := HK3.out.size; have := HGR.out; omega
        clear hr3 hR
        go_upto_region 12 with fail
        refine wp_seqV (fun b => b = gr) 4 [4, 9, 12] [11] (by as_aux_lemma => kernel_rfl) (by as_aux_lemma => kernel_rfl) fun w4 hb4 => ?_
        refine seqV_pre 4 (by kernel_rfl) ?_
        simp only [List.take_succ_cons, List.take_zero, List.drop_succ_cons, List.drop_zero]
        repeat (go_big_quiet_step (fail))
        refine wpQuiet_nil ?_
        refine seqV_chg1 (Kp.of_below hb4) rfl rfl fun w5 hb5 hK5 K hK => ?_
        unfold Gives
        go_simp
        have hb45 := hb4.trans (hb5.mono hb4.size)
        refine (rNum_any (HRD.out.below hb45) (by have := HOT.out.1; omega)).mono ?_
        rintro e w6 ⟨rfl, hr6, hk6⟩
        have hk6' : Kp (keepB w3 (fun b => b = gr) (fun _ => False)) w5 w6 := hk6.mono fun b hb e => by
          subst e
          exact absurd hb (keep_bad hgr3 rfl)
        refine ⟨_, rfl, hK _ _ (hk6') fun hK6 => ?_⟩
        clear hK
        clear K
        simp only [Act.put, List.setIfInBounds_toArray, List.set_cons_succ, List.set_cons_zero]
        refine seqV_pre 4 (by kernel_rfl) ?_
        simp only [List.take_succ_cons, List.take_zero, List.drop_succ_cons, List.drop_zero]
        repeat (go_big_quiet_step (fail))
        refine wpQuiet_nil ?_
        refine seqV_chg1 hK6 rfl rfl fun w7 hb7 hK7 K hK => ?_
        unfold Gives
        go_simp
        refine (rNum_any (hr6.below hb7) HOT.out.2.1).mono ?_
        rintro e w8 ⟨rfl, hr8, hk8⟩
        have hk8' : Kp (keepB w3 (fun b => b = gr) (mineV (fun _ => False) w5 w6)) w7 w8 := hk8.mono fun b hb e => by
          subst e
          exact absurd hb (keep_bad hgr3 rfl)
        refine ⟨_, rfl, hK _ _ (hk8') fun hK8 => ?_⟩
        clear hK
        clear K
        simp only [Act.put, List.setIfInBounds_toArray, List.set_cons_succ, List.set_cons_zero]
        refine seqV_pre 1 (by kernel_rfl) ?_
        simp only [List.take_succ_cons, List.take_zero, List.drop_succ_cons, List.drop_zero]
        repeat (go_big_quiet_step (fail))
        refine wpQuiet_nil ?_
        refine seqV_lay (fun g => .pointer (some ⟨g, 0, none⟩)) 27 #[.int .u64 0, .int .u64 0, .slice none 0 0] rfl rfl (fun s => by go_simp <;> rfl) fun gs w9 hg9 hM9 k9 hb9 => ?_
        simp only [Act.put, List.setIfInBounds_toArray, List.set_cons_succ, List.set_cons_zero]
        refine seqV_chg (hK8.trans (.of_below hb9)) rfl rfl fun K hK => ?_
        refine gives_st (k := 0) rfl #[.int .u64 (si : Int), .int .u64 (st : Int), .slice none 0 0] rfl rfl k9 (Nat.le_refl _) Tryz.infoSnap (snap_all _ _ _ _ _) ?_
        have k10 := k9.setCells #[.int .u64 (si : Int), .int .u64 (st : Int), .slice none 0 0] rfl
        have hks : Kp (fun b => ¬ b = gs) w9 (World.setCells w9 gs 0 (#[.int .u64 (si : Int), .int .u64 (st : Int), .slice none 0 0] : Array Value).toList) := Kp.setCells (b := gs) (fun _ h => h rfl) _ 0 (Kp.refl _ _)
        refine hK _ _ ((Kp.setCells (a := w9) (b := gs) (fun _ => keep_not hg9 (.inr rfl)) (#[.int .u64 (si : Int), .int .u64 (st : Int), .slice none 0 0] : Array Value).toList 0 (Kp.refl _ _))) fun hK10 => ?_
        clear hK
        clear K
        simp only [Act.put, List.setIfInBounds_toArray, List.set_cons_succ, List.set_cons_zero]
        generalize hwr : World.setCells w9 gs 0 (#[.int .u64 (si : Int), .int .u64 (st : Int), .slice none 0 0] : Array Value).toList = w10 at k10 hks hK10 ⊢
        clear hwr
        refine seqV_nil ?_
        have hr10 : Rdr okr w10 gr (txtB d ++ R) := (hr8.below hb9).kp hks (fun b hb e => by have := (HOK.out b hb).1; have := HK3.out.size; omega) (fun e => by omega)
        have hR10 := HR3.out.rd HNE.out HP.out.2.2.1 hr10 hK10
        have c0' : w10.cell? ⟨gz, 0, none⟩ = some (.pointer (some ⟨gr, 0, none⟩)) := hR10.blk.cell 0
        have HTX := Lib.hid (rText_any hr10 HOT.out.2.2 (by omega))
        have HK10 := Lib.hid (show Kp (fun b => b ≠ gr) w3 w10 from hK10)
        have HB10 := Lib.hid k10
        have hgl10 := k10.lt
        clear hr10 hR10 k10 hks hK10 hr8 hk8 hk8' hK8 hr6 hk6 hk6' hK6 hK7 hK5 k9 hM9 hb9 hb7 hb45 hb5 hb4 c0
        go_wp2_with fail
        refine HTX.out.mono ?_
        rintro e w11 ⟨⟨vt, rfl, hvt⟩, hr11, hk11⟩
        obtain ⟨At, ct, rfl, hct, _⟩ := hvt.form
        obtain ⟨nt, hnt⟩ : ∃ nt, nt = d.length := ⟨_, rfl⟩
        rw [← hnt] at hvt ⊢
        have kg11 := HB10.out.kp hk11 (by omega)
        have f2 : w11.frozen? ⟨gs, 2, none⟩ = false := kg11.frozen 2
        have g2 : w11.cell? ⟨gs, 2, none⟩ = some (.slice none 0 0) := kg11.cell 2
        have hk12 : Kp (fun b => b ≠ gs) w11 (w11.setCell ⟨gs, 2, none⟩ (.slice At nt ct)) := (Kp.refl _ _).setCell (p := ⟨gs, 2, none⟩) (fun _ h => h rfl) _
        have hr12 : Rdr okr (w11.setCell ⟨gs, 2, none⟩ (.slice At nt ct)) gr R := hr11.kp hk12 (fun b hb e => by have := (HOK.out b hb).1; have := HK3.out.size; omega) (fun e => by omega)
        have hK312 : Kp (fun b => b ≠ gr) w3 (w11.setCell ⟨gs, 2, none⟩ (.slice At nt ct)) := (HK10.out.trans hk11).thenW hk12 fun b hb _ e => by omega
        have HR12 := Lib.hid (HR3.out.rd HNE.out HP.out.2.2.1 hr12 hK312)
        have HG12 := Lib.hid (show Blk (w11.setCell ⟨gs, 2, none⟩ (.slice At nt ct)) gs 27 #[.int .u64 (si : Int), .int .u64 (st : Int), .slice At nt ct] from kg11.set_ 2 (.slice At nt ct))
        have HV12 := Lib.hid (show RB (fun b => w10.heap.size ≤ b) (w11.setCell ⟨gs, 2, none⟩ (.slice At nt ct)) (.slice At nt ct) d from RSl.kp (hk12.mono fun b (hb : w10.heap.size ≤ b) => by omega) hvt)
        have HK12 := Lib.hid hK312
        have HNT := Lib.hid hnt
        have hz310 := HK10.out.size
        clear hvt hr11 hk11 kg11 hk12 hr12 hK312 hnt HTX c0'
        go_upto_region 14 with fail
        generalize w11.setCell ⟨gs, 2, none⟩ (.slice At nt ct) = w12 at HR12 HG12 HV12 HK12 ⊢
        clear f2 g2
        have hR12 := HR12.out
        have hz12 := HK12.out.size
        obtain ⟨Av, cv, hvs, _⟩ := hR12.sd.form
        obtain ⟨Ae, ce, hve, _⟩ := hR12.es.form
        have hvm : VLm (DE gz gr) w12 vsd ves sc.cur := ⟨hR12.sd.mono (by decide) fun b hb _ => hb.1, hR12.es.rslO (by have := HP.out.2.2.2.2.1; show sc.cur.es.length * 40 ≤ _; omega) (fun b hb => ⟨fun e => HP.out.2.1 (e ▸ hb), fun e => HP.out.2.2.1 (e ▸ hb)⟩) (fun b hb => hb), hR12.term, hR12.vote, by have := hR12.si; omega, hR12.st⟩
        have HVM := Lib.hid hvm
        have hblk := hR12.blk
        have hgz12 := hblk.lt
        have hrg : ∀ w' : World, Below w12.heap.size w12 w' → w'.rangeAt gz 1 (vlCs sc.cur vsd ves).toList := fun w' hb => (hblk.below hb hgz12).rangeW 1 _ fun j v hv => by
          match j, hv with
          | 0, hv => exact hv
          | 1, hv => exact hv
          | 2, hv => exact hv
          | 3, hv => exact hv
          | 4, hv => exact hv
          | 5, hv => exact hv
          | j + 6, hv => simp [vlCs] at hv
        obtain ⟨L1, hL1⟩ : ∃ L1 : Array Value, L1 = vlCs sc.cur vsd ves := ⟨_, rfl⟩
        have hinfL : (Tryz.prog.info? 30).map (·.size) = some L1.size := by rw [hL1]; exact Tryz.infoLog
        have HL1' := Lib.hid hL1
        rw [← hL1] at hrg
        have HBLK := Lib.hid hblk
        have hgs : ¬ gs = gz := by have := HK3.out.size; omega
        clear hR12 hvm hblk hL1
        refine wp_seqB (fun b => b = gz) 9 [4, 6, 9] (by as_aux_lemma => kernel_rfl) (by as_aux_lemma => kernel_rfl) fun wA hbA => ?_
        refine seqB_pre 4 (by kernel_rfl) ?_
        simp only [List.take_succ_cons, List.take_zero, List.drop_succ_cons, List.drop_zero]
        repeat (go_big_quiet_step (fail))
        refine wpQuiet_nil ?_
        refine seqB_wild0 hbA rfl rfl fun K hK => ?_
        refine gives_ld rfl rfl (hrg wA hbA) Tryz.underlying30 rfl hinfL ?_
        refine hK _ _ (Below.refl _ _) fun hbA' => ?_
        clear hK
        clear K
        simp only [Act.put, List.setIfInBounds_toArray, List.set_cons_succ, List.set_cons_zero]
        refine seqB_still (.agg #[.int .u64 (si : Int), .int .u64 (st : Int), .slice At nt ct]) rfl rfl (fun s => still_ld (g := gs) (k := 0) rfl rfl (HG12.out.kp s.kp hgs).range Tryz.underlying27 rfl Tryz.infoSnap) ?_
        have HCH := Lib.hid (change_any (HVM.out.below hbA) si st HOT.out.1 (d := d) (by have := RSl.below HV12.out hbA; rw [HNT.out] at this; exact this) (by have := HP.out.2.2.2.2.1; omega))
        rw [← HL1'.out, ← HNT.out] at HCH
        refine seqB_wild0 hbA' rfl rfl fun K hK => ?_
        unfold Gives
        go_simp
        refine HCH.out.mono ?_
        rintro e wB ⟨⟨v', rfl, hvB⟩, hBB⟩
        refine ⟨_, rfl, hK _ _ (hBB) fun hBB' => ?_⟩
        clear hK
        clear K
        simp only [Act.put, List.setIfInBounds_toArray, List.set_cons_succ, List.set_cons_zero]
        have hltB := hvB.lt
        obtain ⟨AB, cB, hvB', _⟩ := hvB.form
        have ho1 : v'.oneCell' = true := by rw [hvB']; rfl
        have hzA := hbA.size
        have HVB := Lib.hid hvB
        refine seqB_pre 2 (by kernel_rfl) ?_
        simp only [List.take_succ_cons, List.take_zero, List.drop_succ_cons, List.drop_zero]
        repeat (go_big_quiet_step (fail))
        refine wpQuiet_nil ?_
        refine seqB_wild (Kp.of_below hBB') rfl rfl fun K hK => ?_
        have hblkB := HBLK.out.below hBB' hgz12
        refine gives_st (k := 1) rfl (vlCs (changeV sc.cur si st d) (.slice At nt ct) v') rfl rfl hblkB (by show 1 + 6 ≤ 10; omega) Tryz.infoLog (by rw [hvB']; exact vl_all _ _ _ _ _ _ _) ?_
        have kz : Blk (World.setCells wB gz 1 (vlCs (changeV sc.cur si st d) (.slice At nt ct) v').toList) gz 111 (#[.pointer (some ⟨gr, 0, none⟩)] ++ vlCs (changeV sc.cur si st d) (.slice At nt ct) v' ++ #[.bool false, .bool sc.begun, .bool sc.ended]) := Blk.setCells_mid (A := #[.pointer (some ⟨gr, 0, none⟩)]) (C := #[.int .u64 (sc.cur.term : Int), .int .i64 sc.cur.vote, .int .u64 (sc.cur.si : Int), .int .u64 (sc.cur.st : Int), vsd, ves]) (B := #[.bool false, .bool sc.begun, .bool sc.ended]) hblkB (vlCs (changeV sc.cur si st d) (.slice At nt ct) v') rfl
        have hks : Kp (fun b => b ≠ gz) wB (World.setCells wB gz 1 (vlCs (changeV sc.cur si st d) (.slice At nt ct) v').toList) := Kp.setCells (b := gz) (fun _ h => h rfl) _ 1 (Kp.refl _ _)
        refine hK _ _ ((Kp.setCells (a := wB) (b := gz) (fun _ h => h rfl) (vlCs (changeV sc.cur si st d) (.slice At nt ct) v').toList 1 (Kp.refl _ _))) fun hKz => ?_
        clear hK
        clear K
        simp only [Act.put, List.setIfInBounds_toArray, List.set_cons_succ, List.set_cons_zero]
        generalize World.setCells wB gz 1 (vlCs (changeV sc.cur si st d) (.slice At nt ct) v').toList = wz at kz hks hKz ⊢
        refine seqB_nil ?_
        have hRB := HR12.out.below hBB'
        have hR8 : RdI okr own0 (n1 + 1) gz gr wB sc (flatT (g.drop (i + 1))) vsd ves := by rw [← HR.out]; exact hRB
        have hz3 := HK3.out.size
        have hcl : (changeV sc.cur si st d).es.length ≤ sc.cur.es.length := by
          rw [changeV_es]
          have h1 : (sc.cur.es.filter fun e => !decide (e.idx ≤ si)).length ≤ sc.cur.es.length := List.length_filter_le _ _
          revert h1
          generalize (sc.cur.es.filter fun e => !decide (e.idx ≤ si)) = Q
          intro h1
          cases Q with
          | nil => simp
          | cons e r =>
            show (if e.idx = si + 1 then e :: r else []).length ≤ _
            split
            · exact h1
            · simp
        have HRES := Lib.hid (show RdI okr own0 (n1 + 1) gz gr (wz) (stepT had sc (.snap si st d)) (flatT (g.drop (i + 1))) (.slice At nt ct) v' ∧ (v' : Value).ownBlock ≠ some gz ∧ (v' : Value).ownBlock ≠ some gr ∧ stepT had sc (.snap si st d) = (g.take (i + 1)).foldl (stepT had) s ∧ (stepT had sc (.snap si st d)).cur.es.length ≤ 400000 + (i + 1) ∧ Kp (DD gz gr own0) w1 (wz) from
          ⟨hR8.put hks (fun b hb => (HOK.out b hb).2.1) HNE.out.symm kz (by
            have h1 := (RSl.below (HV12.out.mono (by decide) (ok' := fun b => w10.heap.size ≤ b ∧ b < w12.heap.size) fun b hb hlt => ⟨hb, hlt⟩) hBB').mono (by decide) (ok' := fun b => DE gz gr b ∧ some b ≠ v'.ownBlock) fun b hb _ => ⟨⟨by have := hb.1; omega, by have := hb.1; omega⟩, fun e => by have := (hltB b e.symm).1; have := hb.2; omega⟩
            exact h1) ((HVB.out.monoW fun b hb _ => hb.1).base_ (Nat.zero_le _)) (fun h => by have := (hltB _ h).1; omega) (.inr fun k hk => by have := (hltB k hk).1; omega) hR8.term hR8.vote HOT.out.1 HOT.out.2.1, fun h => (by have := (hltB _ h).1; omega), fun h => (by have := (hltB _ h).1; have := HGR.out; omega), HST.out.symm, by have := HP.out.2.2.2.2.1; show (changeV sc.cur si st d).es.length ≤ _; omega, ((HK3.out.trans (HK12.out.mono fun b hb => hb.2.1)).trans (.of_below hBB')).trans (hks.mono fun b hb => hb.1)⟩)
        subst hvB'
        clear hRB hR8 hks kz hKz HCH HVB hltB hblkB
        go_wp2
        go_roundw
        case rel => exact ⟨i + 1, stepT had sc (.snap si st d), (.slice At nt ct), (.slice AB (changeV sc.cur si st d).es.length cB), by omega, HRES⟩
        case measure => rw [leftE_eq HRES.out.1.rdr, HLM.out]; exact HLL.out.1
      | back n =>
        obtain rfl : kk = 5 := hkk
        have hR := H3.out
        have hr3 := hR.rdr
        have HNU := Lib.hid (rNum_any (v := n) (rest := R) hr3 HOT.out)
        have c0 : w3.cell? ⟨gz, 0, none⟩ = some (.pointer (some ⟨gr, 0, none⟩)) := hR.blk.cell 0
        have HR3 := Lib.hid hR
        clear hr3 hR
        go_wp2_with fail
        refine HNU.out.mono ?_
        rintro e w4 ⟨rfl, hr4, hK4⟩
        have hR4 := HR3.out.rd HNE.out HP.out.2.2.1 hr4 hK4
        have HR4 := Lib.hid hR4
        have HK4 := Lib.hid hK4
        clear hr4 hK4 hR4 HNU c0
        go_upto_region 17 with fail
        obtain ⟨gn, hgn⟩ : ∃ gn, gn = w4.heap.size := ⟨_, rfl⟩
        refine name_world (fun w5 => Blk w5 gn 22 #[.int .u64 (n : Int)] ∧ Below w4.heap.size w4 w5) ⟨by rw [hgn]; exact Blk.new _ _ _, (Below.refl _ _).alloc (Nat.le_refl _) _⟩ ?_
        rintro w5 ⟨kn, hB5⟩
        rw [← hgn]
        have hR5 := HR4.out.below hB5
        have cz6 : w5.cell? ⟨gz, 6, none⟩ = some ves := hR5.blk.cell 6
        have hrs : RSl rEnt (fun b => DE gz gr b) w5 ves sc.cur.es := hR5.es.rslO (by have := HP.out.2.2.2.2.1; show sc.cur.es.length * 40 ≤ _; omega) (fun b hb => ⟨fun e => HP.out.2.1 (e ▸ hb), fun e => HP.out.2.2.1 (e ▸ hb)⟩) fun b hb => hb
        have HCL := Lib.hid (cloneEnt_any ves sc.cur.es w5 hrs (by have := HP.out.2.2.2.2.1; omega))
        have hmf : ∀ (fn : Fn) (first cap : Array Value) (w : World), (Instr.makeFunc fn first cap).run Tryz.prog w = .ok (.func fn first cap) w := fun _ _ _ _ => rfl
        have HR5 := Lib.hid hR5
        have HKN := Lib.hid kn
        have hgl := kn.lt
        have HRK := Lib.hid (show Kp (DD gz gr own0) w1 w5 from (HK3.out.trans (HK4.out.mono fun b hb => hb.2.1)).trans (.of_below hB5))
        clear hrs hR5 kn hgn
        go_wp2_with fail
        refine HCL.out.mono ?_
        rintro e w6 ⟨⟨v6, rfl, hv6⟩, hB6⟩
        have hlt6 := hv6.lt
        have hz6 := hB6.size
        have hz5 := HRK.out.size
        have kn6 := HKN.out.below hB6 hgl
        have HDL := Lib.hid (deleteEntR_any (cap := .pointer (some ⟨gn, 0, none⟩)) (p := fun e => decide (n ≤ e.idx)) hv6 (by have := HP.out.2.2.2.2.1; omega) fun w' hk => by
          intro a b A m c e ha hb
          have hc : w'.cell? ⟨gn, 0, none⟩ = some (.int .u64 (n : Int)) := (kn6.kp hk fun e => by have := (hlt6 _ e.symm).1; omega).cell 0
          have := all1_any gn n hc a b A m c
          rw [← hb] at this ⊢
          exact this)
        obtain ⟨A6, c6, rfl, _⟩ := hv6.form
        have HB6 := Lib.hid hB6
        clear hv6 kn6 HCL hB6 cz6
        go_wp2_with fail
        refine HDL.out.mono ?_
        rintro e w7 ⟨⟨v7, rfl, hob, hv7⟩, hK7⟩
        have hB57 : Below w5.heap.size w5 w7 := HB6.out.trans (hK7.below hz6 fun b hb e => by have := (hlt6 b e.symm).1; omega)
        have hR7 := HR5.out.below hB57
        have hfl : (fun e : VEnt => !decide (n ≤ e.idx)) = fun e => decide (e.idx < n) := by
          funext e
          rw [← decide_not]
          congr 1
          rw [eq_iff_iff]
          omega
        rw [hfl] at hv7
        have hlt7 := hv7.lt
        have hoz : ∀ b, v7.ownBlock = some b → w5.heap.size ≤ b := fun b hb => (hlt7 b hb).1
        have f6 : w7.frozen? ⟨gz, 6, none⟩ = false := hR7.blk.frozen 6
        have cz7 : w7.cell? ⟨gz, 6, none⟩ = some ves := hR7.blk.cell 6
        have hn1' : n1 + 1 ≤ w5.heap.size := by omega
        have hgzl := HP.out.1.lt
        have hks : Kp (fun b => b ≠ gz) w7 (w7.setCell ⟨gz, 6, none⟩ v7) := (Kp.refl _ _).setCell (p := ⟨gz, 6, none⟩) (fun _ h => h rfl) _
        have hR8 : RdI okr own0 (n1 + 1) gz gr w7 sc (flatT (g.drop (i + 1))) vsd ves := by rw [← HR.out]; exact hR7
        have hsd7 : RB (fun b => DE gz gr b ∧ some b ≠ v7.ownBlock) w7 vsd sc.cur.sd := RSl.kp (.of_belowB hB57 fun b hb _ => hb.2) ((HR5.out.sd.mono (by decide) (ok' := fun b => DE gz gr b ∧ b < w5.heap.size) fun b hb hlt => ⟨hb.1, hlt⟩)) |>.mono (by decide) fun b hb _ => ⟨hb.1, fun e => by have := hoz b e.symm; have := hb.2; omega⟩
        have HRES := Lib.hid (show RdI okr own0 (n1 + 1) gz gr (w7.setCell ⟨gz, 6, none⟩ v7) (stepT had sc (.back n)) (flatT (g.drop (i + 1))) vsd v7 ∧ (v7 : Value).ownBlock ≠ some gz ∧ (v7 : Value).ownBlock ≠ some gr ∧ stepT had sc (.back n) = (g.take (i + 1)).foldl (stepT had) s ∧ (stepT had sc (.back n)).cur.es.length ≤ 400000 + (i + 1) ∧ Kp (DD gz gr own0) w1 (w7.setCell ⟨gz, 6, none⟩ v7) from
          ⟨hR8.put hks (fun b hb => (HOK.out b hb).2.1) HNE.out.symm (hR7.blk.set_ 6 v7) hsd7 ((hv7.monoW fun b hb _ => hb).base_ (Nat.zero_le _)) (fun h => by have := hoz _ h; omega) (.inr fun k hk => by have := hoz k hk; omega) hR7.term hR7.vote hR7.si hR7.st, fun h => (by have := hoz _ h; omega), fun h => (by have := hoz _ h; have := HGR.out; omega), HST.out.symm, by have := HP.out.2.2.2.2.1; show (sc.cur.es.filter _).length ≤ _; have := List.length_filter_le (fun e : VEnt => decide (e.idx < n)) sc.cur.es; omega, (HRK.out.trans (.of_below hB57)).trans (hks.mono fun b hb => hb.1)⟩)
        have ho1 : v7.oneCell' = true := by obtain ⟨A7, c7, rfl, _⟩ := hv7.form; rfl
        obtain ⟨A7, c7, rfl, _⟩ := hv7.form
        clear hR7 hR8 hks hsd7 hv7 hK7 hob HDL
        go_wp2
        go_roundw
        case rel => exact ⟨i + 1, stepT had sc (.back n), vsd, (.slice A7 (sc.cur.es.filter fun e => decide (e.idx < n)).length c7), by omega, HRES⟩
        case measure => rw [leftE_eq HRES.out.1.rdr, HLM.out]; exact HLL.out.1
      | ent t d =>
        obtain rfl : kk = 6 := hkk
        have hR := H3.out
        have hr3 := hR.rdr
        rw [show restT (.ent t d) ++ R = numB t ++ (txtB d ++ R) by simp [restT]] at hr3
        have HR3 := Lib.hid hR
        have HRD := Lib.hid hr3
        have c0 : ∀ s : LaterB w3 (fun b => b = gr), s.val.cell? ⟨gz, 0, none⟩ = some (.pointer (some ⟨gr, 0, none⟩)) := LaterB.cell (hR.blk.cell 0) HNE.out
        have hgr3 : gr < w3.heap.size := by have := HK3.out.size; have := HGR.out; omega
        clear hr3 hR
        go_upto_region 19 with fail
        refine wp_seqV (fun b => b = gr) 4 [4, 9, 12] [11] (by as_aux_lemma => kernel_rfl) (by as_aux_lemma => kernel_rfl) fun w4 hb4 => ?_
        refine seqV_pre 4 (by kernel_rfl) ?_
        simp only [List.take_succ_cons, List.take_zero, List.drop_succ_cons, List.drop_zero]
        repeat (go_big_quiet_step (fail))
        refine wpQuiet_nil ?_
        refine seqV_chg1 (Kp.of_below hb4) rfl rfl fun w5 hb5 hK5 K hK => ?_
        unfold Gives
        go_simp
        have hb45 := hb4.trans (hb5.mono hb4.size)
        refine (rNum_any (HRD.out.below hb45) HOT.out.1).mono ?_
        rintro e w6 ⟨rfl, hr6, hk6⟩
        have hk6' : Kp (keepB w3 (fun b => b = gr) (fun _ => False)) w5 w6 := hk6.mono fun b hb e => by
          subst e
          exact absurd hb (keep_bad hgr3 rfl)
        refine ⟨_, rfl, hK _ _ (hk6') fun hK6 => ?_⟩
        clear hK
        clear K
        simp only [Act.put, List.setIfInBounds_toArray, List.set_cons_succ, List.set_cons_zero]
        refine seqV_pre 4 (by kernel_rfl) ?_
        simp only [List.take_succ_cons, List.take_zero, List.drop_succ_cons, List.drop_zero]
        repeat (go_big_quiet_step (fail))
        refine wpQuiet_nil ?_
        refine seqV_chg1 hK6 rfl rfl fun w7 hb7 hK7 K hK => ?_
        unfold Gives
        go_simp
        refine (rText_any (most := 32768) (hr6.below hb7) HOT.out.2 (by omega)).mono ?_
        rintro e w8 ⟨⟨vt, rfl, hvt⟩, hr8, hk8⟩
        have hk8' : Kp (keepB w3 (fun b => b = gr) (mineV (fun _ => False) w5 w6)) w7 w8 := hk8.mono fun b hb e => by
          subst e
          exact absurd hb (keep_bad hgr3 rfl)
        obtain ⟨At, ct, rfl, hct, _⟩ := hvt.form
        obtain ⟨nt, hnt⟩ : ∃ nt, nt = d.length := ⟨_, rfl⟩
        have hz37 : w3.heap.size ≤ w7.heap.size := hK7.size
        refine ⟨_, rfl, hK _ _ (hk8') fun hK8 => ?_⟩
        clear hK
        clear K
        simp only [Act.put, List.setIfInBounds_toArray, List.set_cons_succ, List.set_cons_zero]
        rw [← hnt] at hvt ⊢
        have HNT := Lib.hid hnt
        clear hnt
        refine seqV_pre 1 (by kernel_rfl) ?_
        simp only [List.take_succ_cons, List.take_zero, List.drop_succ_cons, List.drop_zero]
        repeat (go_big_quiet_step (fail))
        refine wpQuiet_nil ?_
        refine seqV_lay (fun g => .pointer (some ⟨g, 0, none⟩)) 50 #[.int .u64 0, .int .u64 0, .slice none 0 0] rfl rfl (fun s => by go_simp <;> rfl) fun gs w9 hg9 hM9 k9 hb9 => ?_
        simp only [Act.put, List.setIfInBounds_toArray, List.set_cons_succ, List.set_cons_zero]
        refine seqV_chg (hK8.trans (.of_below hb9)) rfl rfl fun K hK => ?_
        refine gives_st (k := 0) rfl #[.int .u64 (t : Int), .int .u64 0, .slice At nt ct] rfl rfl k9 (Nat.le_refl _) Tryz.infoEnt (by simp [Value.oneCell']) ?_
        have k10 := k9.setCells #[.int .u64 (t : Int), .int .u64 0, .slice At nt ct] rfl
        have hks : Kp (fun b => ¬ b = gs) w9 (World.setCells w9 gs 0 (#[.int .u64 (t : Int), .int .u64 0, .slice At nt ct] : Array Value).toList) := Kp.setCells (b := gs) (fun _ h => h rfl) _ 0 (Kp.refl _ _)
        refine hK _ _ ((Kp.setCells (a := w9) (b := gs) (fun _ => keep_not hg9 (.inr rfl)) (#[.int .u64 (t : Int), .int .u64 0, .slice At nt ct] : Array Value).toList 0 (Kp.refl _ _))) fun hK10 => ?_
        clear hK
        clear K
        simp only [Act.put, List.setIfInBounds_toArray, List.set_cons_succ, List.set_cons_zero]
        generalize hwr : World.setCells w9 gs 0 (#[.int .u64 (t : Int), .int .u64 0, .slice At nt ct] : Array Value).toList = w10 at k10 hks hK10 ⊢
        clear hwr
        refine seqV_nil ?_
        have hgsv : ¬ gs = gr := by omega
        have hgs : ¬ gs = gz := by have := HK3.out.size; omega
        have hr10 : Rdr okr w10 gr R := (hr8.below hb9).kp hks (fun b hb e => by have := (HOK.out b hb).1; have := HK3.out.size; omega) (fun e => by omega)
        have hR10 := HR3.out.rd HNE.out HP.out.2.2.1 hr10 hK10
        have hgsM : ¬ (w7.heap.size ≤ gs ∧ gs < w8.heap.size) := fun h => hM9 (.inr h)
        have hvt10 : RB (fun b => w3.heap.size ≤ b ∧ b ≠ gs) w10 (.slice At nt ct) d := by
          have h1 := hvt.mono (by decide) (ok' := fun b => w3.heap.size ≤ b ∧ b ≠ gs) fun b hb hlt => ⟨Nat.le_trans hz37 hb, fun e => hgsM (e ▸ ⟨hb, hlt⟩)⟩
          exact RSl.kp (hks.mono fun b hb => hb.2) (RSl.below h1 hb9)
        have HR10 := Lib.hid hR10
        have HB10 := Lib.hid k10
        have HV10 := Lib.hid hvt10
        have HK10 := Lib.hid (show Kp (fun b => b ≠ gr) w3 w10 from hK10)
        have hz10 : w3.heap.size ≤ w10.heap.size := hK10.size
        clear hr10 hR10 k10 hks hK10 hr8 hk8 hk8' hK8 hr6 hk6 hk6' hK6 hK7 hK5 k9 hM9 hgsM hb9 hb7 hb45 hb5 hb4 c0 hvt hvt10
        obtain ⟨nl, hnl⟩ : ∃ nl, nl = sc.cur.es.length := ⟨_, rfl⟩
        obtain ⟨Ae, ce, hve, hnce⟩ := HR10.out.es.form
        rw [← hnl] at hve hnce
        subst hve
        have hnl8 : nl ≤ 800000 := by have := HP.out.2.2.2.2.1; omega
        have hsi := HR10.out.si
        have hw1 : IntKind.u64.wrap (nl : Int) = (nl : Int) := by rw [IntKind.wrap_u64]; omega
        have hw2 : IntKind.u64.wrap ((sc.cur.si : Int) + (nl : Int)) = (sc.cur.si : Int) + (nl : Int) := by rw [IntKind.wrap_u64]; omega
        have hw3 : IntKind.u64.wrap ((sc.cur.si : Int) + (nl : Int) + 1) = (sc.cur.si : Int) + (nl : Int) + 1 := by rw [IntKind.wrap_u64]; omega
        have HSI := Lib.hid hsi
        have HNL := Lib.hid hnl
        clear hsi hnl
        have c3 : ∀ s : LaterB w10 (fun b => b = gs), s.val.cell? ⟨gz, 3, none⟩ = some (.int .u64 (sc.cur.si : Int)) := LaterB.cell (HR10.out.blk.cell 3) (fun e => hgs e.symm)
        have c6 : ∀ s : LaterB w10 (fun b => b = gs), s.val.cell? ⟨gz, 6, none⟩ = some (.slice Ae nl ce) := LaterB.cell (HR10.out.blk.cell 6) (fun e => hgs e.symm)
        go_upto_region 20 with fail
        refine wp_seqB (fun b => b = gs) 16 [16] (by as_aux_lemma => kernel_rfl) (by as_aux_lemma => kernel_rfl) fun wA hbA => ?_
        refine seqB_pre 16 (by kernel_rfl) ?_
        simp only [List.take_succ_cons, List.take_zero, List.drop_succ_cons, List.drop_zero]
        repeat (go_big_quiet_step (fail))
        refine wpQuiet_nil ?_
        have kA := HB10.out.below hbA HB10.out.lt
        have f1 : wA.frozen? ⟨gs, 1, none⟩ = false := kA.frozen 1
        have g1 : wA.cell? ⟨gs, 1, none⟩ = some (.int .u64 0) := kA.cell 1
        refine seqB_wild (Kp.of_below hbA) rfl rfl fun K hK => ?_
        unfold Gives
        go_simp
        have hkS : Kp (fun b => b ≠ gs) wA (wA.setCell ⟨gs, 1, none⟩ (.int .u64 ((sc.cur.si : Int) + (nl : Int) + 1))) := (Kp.refl _ _).setCell (p := ⟨gs, 1, none⟩) (fun _ h => h rfl) _
        refine hK _ _ (hkS) fun hKz => ?_
        clear hK
        clear K
        simp only [Act.put, List.setIfInBounds_toArray, List.set_cons_succ, List.set_cons_zero]
        refine seqB_nil ?_
        have hei : (sc.cur.si : Int) + (nl : Int) + 1 = ((sc.cur.si + nl + 1 : Nat) : Int) := by omega
        rw [hei] at hkS hKz ⊢
        have G11 := Lib.hid (show Blk (wA.setCell ⟨gs, 1, none⟩ (.int .u64 ((sc.cur.si + nl + 1 : Nat) : Int))) gs 50 #[.int .u64 (t : Int), .int .u64 ((sc.cur.si + nl + 1 : Nat) : Int), .slice At nt ct] from kA.set_ 1 _)
        have hr11 := (HR10.out.rdr.below hbA).kp hkS (fun b hb e => by have := (HOK.out b hb).1; have := HK3.out.size; omega) (fun e => hgsv e.symm)
        have hK311 : Kp (fun b => b ≠ gr) w3 (wA.setCell ⟨gs, 1, none⟩ (.int .u64 ((sc.cur.si + nl + 1 : Nat) : Int))) := (HK10.out.trans (.of_below hbA)).thenW hkS fun b hb _ e => by omega
        have HR11 := Lib.hid (HR3.out.rd HNE.out HP.out.2.2.1 hr11 hK311)
        have HV11 := Lib.hid (show RB (fun b => w3.heap.size ≤ b ∧ b ≠ gs) (wA.setCell ⟨gs, 1, none⟩ (.int .u64 ((sc.cur.si + nl + 1 : Nat) : Int))) (.slice At nt ct) d from RSl.kp (hkS.mono fun b hb => hb.2) (RSl.below HV10.out hbA))
        have HK11 := Lib.hid hK311
        generalize wA.setCell ⟨gs, 1, none⟩ (.int .u64 ((sc.cur.si + nl + 1 : Nat) : Int)) = w11 at G11 HR11 HV11 HK11 ⊢
        have hol3 := HR3.out.es.lt
        clear hei hkS hKz hr11 hK311 kA f1 g1 hw1 hw2 hw3 c3 c6
        have hbg : ¬ (gs = gz ∨ some gs = (Value.slice Ae nl ce).ownBlock) := fun h => h.elim hgs fun h => by have := (hol3 _ h.symm).2; omega
        have q6 : ∀ s : Later w11, s.val.cell? ⟨gz, 6, none⟩ = some (.slice Ae nl ce) := Later.cell (HR11.out.blk.cell 6)
        have e0 : ∀ s : LaterB w11 (fun y => y = gz ∨ some y = (Value.slice Ae nl ce).ownBlock), s.val.cell? ⟨gs, 0, none⟩ = some (.int .u64 (t : Int)) := LaterB.cell (G11.out.cell 0) hbg
        have e1 : ∀ s : LaterB w11 (fun y => y = gz ∨ some y = (Value.slice Ae nl ce).ownBlock), s.val.cell? ⟨gs, 1, none⟩ = some (.int .u64 ((sc.cur.si + nl + 1 : Nat) : Int)) := LaterB.cell (G11.out.cell 1) hbg
        have e2 : ∀ s : LaterB w11 (fun y => y = gz ∨ some y = (Value.slice Ae nl ce).ownBlock), s.val.cell? ⟨gs, 2, none⟩ = some (.slice At nt ct) := LaterB.cell (G11.out.cell 2) hbg
        have hgzl := HP.out.1.lt
        have hz11 := HK11.out.size
        have hz3' := HK3.out.size
        go_upto_region 21 with fail
        refine wp_seqB (fun y => y = gz ∨ some y = (Value.slice Ae nl ce).ownBlock) 8 [7, 8, 12] (by as_aux_lemma => kernel_rfl) (by as_aux_lemma => kernel_rfl) fun wF hbF => ?_
        refine seqB_pre 5 (by kernel_rfl) ?_
        simp only [List.take_succ_cons, List.take_zero, List.drop_succ_cons, List.drop_zero]
        repeat (go_big_quiet_step (fail))
        refine wpQuiet_nil ?_
        refine seqB_pre0 1 (by kernel_rfl) (by kernel_rfl) ?_
        simp only [List.take_succ_cons, List.take_zero, List.drop_succ_cons, List.drop_zero]
        repeat (go_big_quiet_step (fail))
        refine wpQuiet_nil ?_
        refine seqB_pre 1 (by kernel_rfl) ?_
        simp only [List.take_succ_cons, List.take_zero, List.drop_succ_cons, List.drop_zero]
        repeat (go_big_quiet_step (fail))
        refine wpQuiet_nil ?_
        refine seqB_wild0 hbF rfl rfl fun K hK => ?_
        unfold Gives
        go_simp
        have ha3 : Below wF.heap.size wF (wF.alloc (.cells #[.int .u64 (t : Int), .int .u64 ((sc.cur.si + nl + 1 : Nat) : Int), .slice At nt ct] 50)) := (Below.refl _ _).alloc (Nat.le_refl _) _
        refine hK _ _ ha3 fun hbL => ?_
        clear hK
        clear K
        simp only [Act.put, List.setIfInBounds_toArray, List.set_cons_succ, List.set_cons_zero]
        have hzF := hbF.size
        have hvJ : rEnt.rel (fun b => DE gz gr b ∧ some b ≠ (Value.slice Ae nl ce).ownBlock) (wF.alloc (.cells #[.int .u64 (t : Int), .int .u64 ((sc.cur.si + nl + 1 : Nat) : Int), .slice At nt ct] 50)) [.int .u64 (t : Int), .int .u64 ((sc.cur.si + nl + 1 : Nat) : Int), .slice At nt ct] ⟨t, sc.cur.si + sc.cur.es.length + 1, d⟩ := ⟨_, by rw [HNL.out], (RSl.below HV11.out hbL).mono (by decide) fun b hb _ => ⟨⟨by have := hb.1; omega, by have := hb.1; omega⟩, fun h => by have := (hol3 _ h.symm).2; have := hb.1; omega⟩, HOT.out.1, by have := HSI.out; have := HNL.out; show sc.cur.si + sc.cur.es.length + 1 < _; omega⟩
        refine seqB_wild (Kp.of_below hbL) rfl rfl fun K hK => ?_
        refine gives_app0' (E := rEnt) (okd := DE gz gr) (base := 0) Tryz.rowEnt (by decide) _ _ rfl (.slice Ae nl ce) sc.cur.es _ rfl (HR11.out.es.below hbL) (some ⟨wF.heap.size, 0, none⟩) 1 [⟨t, sc.cur.si + sc.cur.es.length + 1, d⟩] [[.int .u64 (t : Int), .int .u64 ((sc.cur.si + nl + 1 : Nat) : Int), .slice At nt ct]] rfl (show Rd _ 3 _ _ _ by simpa using Rd.new wF 50 3 1 #[.int .u64 (t : Int), .int .u64 ((sc.cur.si + nl + 1 : Nat) : Int), .slice At nt ct] rfl) (Chunks.single (E := rEnt) hvJ) ?_ ?_ (Nat.zero_le _) fun v' wM hoM hkM hlocM => ?_
        · rw [← HNL.out]
          show (nl + 1) * 40 ≤ _
          omega
        · rw [← HNL.out]
          show nl + 1 ≤ _
          omega
        have hownz : ¬ some gz = (Value.slice Ae nl ce).ownBlock := fun h => HP.out.2.1 h.symm
        have hblkM := (HR11.out.blk.below hbL HR11.out.blk.lt).kp hkM (fun e => hownz e)
        have f6 : wM.frozen? ⟨gz, 6, none⟩ = false := hblkM.frozen 6
        have c6 : wM.cell? ⟨gz, 6, none⟩ = some (.slice Ae nl ce) := hblkM.cell 6
        refine hK _ _ ((hkM.mono fun y hy e => hy (.inr e))) fun hKM => ?_
        clear hK
        clear K
        simp only [Act.put, List.setIfInBounds_toArray, List.set_cons_succ, List.set_cons_zero]
        obtain ⟨A7, c7, rfl, hc7⟩ := hoM.form
        obtain ⟨n7, hn7⟩ : ∃ n7, n7 = (sc.cur.es ++ [(⟨t, sc.cur.si + sc.cur.es.length + 1, d⟩ : VEnt)]).length := ⟨_, rfl⟩
        rw [← hn7] at hoM hlocM ⊢
        have HN7 := Lib.hid hn7
        clear hn7 hc7
        refine seqB_pre 3 (by kernel_rfl) ?_
        simp only [List.take_succ_cons, List.take_zero, List.drop_succ_cons, List.drop_zero]
        repeat (go_big_quiet_step (fail))
        refine wpQuiet_nil ?_
        refine seqB_wild hKM rfl rfl fun K hK => ?_
        unfold Gives
        go_simp
        have hkZ : Kp (fun b => b ≠ gz) wM (wM.setCell ⟨gz, 6, none⟩ (.slice A7 n7 c7)) := (Kp.refl _ _).setCell (p := ⟨gz, 6, none⟩) (fun _ h => h rfl) _
        refine hK _ _ ((hkZ.mono fun b hb e => hb (.inl e))) fun hKZ => ?_
        clear hK
        clear K
        simp only [Act.put, List.setIfInBounds_toArray, List.set_cons_succ, List.set_cons_zero]
        refine seqB_nil ?_
        have hzL : wF.heap.size < (wF.alloc (.cells #[.int .u64 (t : Int), .int .u64 ((sc.cur.si + nl + 1 : Nat) : Int), .slice At nt ct] 50)).heap.size := by simp
        have hown7 : ∀ b, (Value.slice A7 n7 c7).ownBlock = some b → (Value.slice Ae nl ce).ownBlock = some b ∨ w11.heap.size ≤ b := fun b hb => by
          rcases hlocM with h | h
          · exact .inl (h ▸ hb)
          · rw [h] at hb
            cases hb
            exact .inr hbL.size
        have hne7 : ∀ x, x < w3.heap.size → (Value.slice Ae nl ce).ownBlock ≠ some x → (Value.slice A7 n7 c7).ownBlock ≠ some x := fun x hx h1 h2 => by
          rcases hown7 x h2 with h | h
          · exact h1 h
          · omega
        have hrM : Rdr okr (wM.setCell ⟨gz, 6, none⟩ (.slice A7 n7 c7)) gr (flatT (g.drop (i + 1))) := by
          rw [← HR.out]
          refine ((HR11.out.rdr.below hbL).kp hkM (fun b hb e => ?_) fun e => HP.out.2.2.1 e.symm).kp hkZ (fun b hb => (HOK.out b hb).2.1) HNE.out.symm
          rcases HR11.out.own with h | h
          · exact (HOK.out b hb).2.2 (e.trans h)
          · have := h b e.symm
            have := (HOK.out b hb).1
            omega
        have hsdM : RB (fun b => DE gz gr b ∧ some b ≠ (Value.slice A7 n7 c7).ownBlock) (wM.setCell ⟨gz, 6, none⟩ (.slice A7 n7 c7)) vsd sc.cur.sd := by
          have h1 := HR3.out.sd.mono (by decide) (ok' := fun b => (DE gz gr b ∧ some b ≠ (Value.slice Ae nl ce).ownBlock) ∧ b < w3.heap.size) fun b hb hlt => ⟨hb, hlt⟩
          have hk := (((HK11.out.mono (ok' := fun b => (DE gz gr b ∧ some b ≠ (Value.slice Ae nl ce).ownBlock) ∧ b < w3.heap.size) fun b hb => hb.1.1.2).trans (.of_below hbL)).trans (hkM.mono fun b hb => hb.1.2)).trans (hkZ.mono fun b hb => hb.1.1.1)
          exact (RSl.kp hk h1).mono (by decide) fun b hb _ => ⟨hb.1.1, fun e => hne7 b hb.2 (fun h => hb.1.2 h.symm) e.symm⟩
        have hst6 : Blk (wM.setCell ⟨gz, 6, none⟩ (.slice A7 n7 c7)) gz 111 (rdCs gr (stepT had sc (.ent t d)) vsd (.slice A7 n7 c7)) := hblkM.set_ 6 _
        have hn1z : n1 + 1 ≤ w3.heap.size := by omega
        have HRES := Lib.hid (show RdI okr own0 (n1 + 1) gz gr (wM.setCell ⟨gz, 6, none⟩ (.slice A7 n7 c7)) (stepT had sc (.ent t d)) (flatT (g.drop (i + 1))) vsd (.slice A7 n7 c7) ∧ ((.slice A7 n7 c7) : Value).ownBlock ≠ some gz ∧ ((.slice A7 n7 c7) : Value).ownBlock ≠ some gr ∧ stepT had sc (.ent t d) = (g.take (i + 1)).foldl (stepT had) s ∧ (stepT had sc (.ent t d)).cur.es.length ≤ 400000 + (i + 1) ∧ Kp (DD gz gr own0) w1 (wM.setCell ⟨gz, 6, none⟩ (.slice A7 n7 c7)) from
          ⟨⟨hst6, hrM, hsdM, hoM.kp hkZ (fun b hb => hb.1) (fun b hb e => hne7 gz (by omega) HP.out.2.1 (e ▸ hb)), by
              rcases HR11.out.own with h | h
              · rcases hlocM with h' | h'
                · exact .inl (h'.trans h)
                · exact .inr fun k hk => by rw [h'] at hk; cases hk; exact Nat.le_trans (by omega : n1 + 1 ≤ w11.heap.size) hbL.size
              · exact .inr fun k hk => by
                  rcases hown7 k hk with h' | h'
                  · exact h k h'
                  · omega, HR11.out.term, HR11.out.vote, HSI.out, HR11.out.st⟩, hne7 gz (by omega) HP.out.2.1, hne7 gr (by omega) HP.out.2.2.1, HST.out.symm, by have := HP.out.2.2.2.2.1; show (sc.cur.es ++ [_]).length ≤ _; rw [List.length_append, List.length_singleton]; omega, (((HK3.out.trans (HK11.out.mono fun b hb => hb.2.1)).trans (.of_below hbL)).thenW hkM fun b hb hd e => by
            rcases HR11.out.own with h | h
            · exact hd.2.2 (e.trans h)
            · have := h b e.symm
              omega).trans (hkZ.mono fun b hb => hb.1)⟩)
        clear hst6 hrM hsdM hoM hkM hlocM hblkM hown7 hne7 hkZ hKZ hKM hvJ q6 e0 e1 e2 f6 c6 ha3 hbL hbF
        go_wp2
        go_roundw
        case rel => exact ⟨i + 1, stepT had sc (.ent t d), vsd, (.slice A7 n7 c7), by omega, HRES⟩
        case measure => rw [leftE_eq HRES.out.1.rdr, HLM.out]; exact HLL.out.1
      | fin =>
        obtain rfl : kk = 7 := hkk
        have hR := H3.out
        have hR2 : RdI okr own0 (n1 + 1) gz gr w3 sc (flatT (g.drop (i + 1))) vsd ves := by rw [← HR.out]; exact hR
        have f9 : w3.frozen? ⟨gz, 9, none⟩ = false := hR.blk.frozen 9
        have c9 : w3.cell? ⟨gz, 9, none⟩ = some (.bool sc.ended) := hR.blk.cell 9
        have c0 : w3.cell? ⟨gz, 0, none⟩ = some (.pointer (some ⟨gr, 0, none⟩)) := hR.blk.cell 0
        have hks : Kp (fun b => b ≠ gz) w3 (w3.setCell ⟨gz, 9, none⟩ (.bool true)) := (Kp.refl _ _).setCell (p := ⟨gz, 9, none⟩) (fun _ h => h rfl) _
        have HRES := Lib.hid (show RdI okr own0 (n1 + 1) gz gr (w3.setCell ⟨gz, 9, none⟩ (.bool true)) (stepT had sc .fin) (flatT (g.drop (i + 1))) vsd ves ∧ (ves : Value).ownBlock ≠ some gz ∧ (ves : Value).ownBlock ≠ some gr ∧ stepT had sc .fin = (g.take (i + 1)).foldl (stepT had) s ∧ (stepT had sc .fin).cur.es.length ≤ 400000 + (i + 1) ∧ Kp (DD gz gr own0) w1 (w3.setCell ⟨gz, 9, none⟩ (.bool true)) from
          ⟨hR2.put hks (fun b hb => (HOK.out b hb).2.1) HNE.out.symm (hR.blk.set_ 9 (.bool true)) hR.sd hR.es HP.out.2.1 hR.own hR.term hR.vote hR.si hR.st, HP.out.2.1, HP.out.2.2.1, HST.out.symm, by have := HP.out.2.2.2.2.1; show sc.cur.es.length ≤ _; omega, HK3.out.trans (hks.mono fun b hb => hb.1)⟩)
        clear hR hR2 hks
        go_wp2
        go_roundw
        case rel => exact ⟨i + 1, stepT had sc .fin, vsd, ves, by omega, HRES⟩
        case measure => rw [leftE_eq HRES.out.1.rdr, HLM.out]; exact HLL.out.1
      -- @@Z
    · obtain rfl : i = m := by omega
      have hdr : g.drop i = [] := List.drop_of_length_le (by rw [← HM.out]; exact Nat.le_refl _)
      have HEN := Lib.hid (show flatT (g.drop i) = [] by rw [hdr]; rfl)
      have htk : g.take i = g := List.take_of_length_le (by rw [← HM.out]; exact Nat.le_refl _)
      have HTK := Lib.hid htk
      rw [HEN.out] at HLE
      have HL0 := Lib.hid (show Calls Tryz.prog 83 #[.pointer (some ⟨gr, 0, none⟩)] wr fun e w' => e = .returned (.int .i64 0) ∧ Below wr.heap.size wr w' from HLE.out)
      clear hdr htk HLE
      go_wp2_with fail
      refine HL0.out.mono ?_
      rintro e w2 ⟨rfl, hB2⟩
      go_wp2
      go_end0
      have hp := HP.out
      rw [HEN.out, HTK.out] at hp
      refine ⟨⟨_, rfl⟩, ⟨vsd, ves, ?_, hp.2.1, hp.2.2.1⟩, ?_⟩
      · rw [← hp.2.2.2.1]
        exact (hp.1.below hB2).ownle
      · exact ((Kp.of_belowB hB1 fun b hb _ => by have := HN1.out; omega).trans hp.2.2.2.2.2).trans (.of_below hB2)
end Go.Proofs.YtnlhjhpikjmoaaaGreatDoor
