/- WalPlays: a truth's state between two steps; a step that arms the disk.
WalPlays: a step that syncs.
WalPlays: a step that cuts.
WalPlays: a step that opens anew; a step that falls.
WalPlays: what a step that appends calls: bytes of one's own that are spoilt; jumps of a truth. -/
import Derived.Test.YtlnnfdjhejdgdaaV22
import Derived.Test.YtlnnfdjhejdgdaaV26
namespace Go.Proofs.Ytlnnfdjhejdgdaa
open Go.RowKit

theorem Blk.inj {w : World} {g : Nat} {T T' : TypeId} {C C' : Array Value} (h : Blk w g T C) (h' : Blk w g T' C') : C = C' := by
  have := h.symm.trans h'
  simpa using (by simpa using this : C = C' ∧ _).1
theorem TrM.blk {B gt gd gl n : Nat} {f : Nat → Prop} {w : World} {al : List (List UInt8)} {first cut safe : Nat} {dn fell : Bool} (h : TrM B gt gd gl n f w al first cut safe dn fell) : ∃ va, Blk w gt 53 (trCs gd gl n va first first cut safe dn fell) := by
  obtain ⟨va, g, h1, _⟩ := h.mem
  exact ⟨va, h1⟩
/-- new blocks of the log -/
theorem TrM.new {B gt gd gl n : Nat} {f : Nat → Prop} {w w' : World} {al : List (List UInt8)} {first cut safe : Nat} {dn fell : Bool} (h : TrM B gt gd gl n f w al first cut safe dn fell) (hk : Kp (fun x => ¬ f x) w w') : TrM B gt gd gl n (fun x => f x ∨ (w.heap.size ≤ x ∧ x < w'.heap.size)) w' al first cut safe dn fell := by
  obtain ⟨va, g, h1, h2, h3, h4⟩ := h.mem
  have hsz := hk.size
  have hlt := h1.lt
  have h2' := h2.monoW (okd' := fun x => g x ∧ x < w.heap.size) fun b h1 h2 => ⟨h1, h2⟩
  have hvs : ∀ x, va.ownBlock = some x → x < w.heap.size := fun x hx => (h2.lt x hx).2
  refine ⟨⟨va, fun x => g x ∧ x < w.heap.size, h1.kp hk h.fgt, h2'.kp hk (fun x hx => (h3 x hx.1).1) (fun x hx => (h4 x hx).1), fun x hx => ⟨?_, (h3 x hx.1).2⟩, fun x hx => ⟨?_, (h4 x hx).2⟩⟩, h.base, fun x hx => ?_, fun hx => ?_⟩
  · rintro (h5 | h5)
    · exact (h3 x hx.1).1 h5
    · have := hx.2; omega
  · rintro (h5 | h5)
    · exact (h4 x hx).1 h5
    · have := hvs x hx; omega
  · have := h.base
    rcases hx with h5 | h5
    · have := h.fb x h5; omega
    · omega
  · rcases hx with h5 | h5
    · exact h.fgt h5
    · omega
/-- the truth's own block is written -/
theorem TrM.re {B gt gd gl n : Nat} {f : Nat → Prop} {w w' : World} {al : List (List UInt8)} {first cut safe first' cut' safe' : Nat} {dn fell dn' fell' : Bool} {va : Value} (h : TrM B gt gd gl n f w al first cut safe dn fell) (hb : Blk w gt 53 (trCs gd gl n va first first cut safe dn fell))
    (hk : Kp (fun x => ¬ x = gt) w w') (hb' : Blk w' gt 53 (trCs gd gl n va first' first' cut' safe' dn' fell')) : TrM B gt gd gl n f w' al first' cut' safe' dn' fell' := by
  obtain ⟨va0, g, h1, h2, h3, h4⟩ := h.mem
  obtain rfl : va0 = va := by
    have e := congrArg (fun C => C[3]?) (h1.inj hb)
    exact Option.some.inj (show some va0 = some va from e)
  exact ⟨⟨va0, g, hb', h2.kp hk (fun x hx => (h3 x hx).2) (fun x hx => (h4 x hx).2), h3, h4⟩, h.base, fun x hx => by have := h.fb x hx; have := hk.size; omega, h.fgt⟩
structure StW (B gt gd gl n k T first cut safe : Nat) (f : Nat → Prop) (w : World) (al sf us : List (List UInt8)) (dn : Bool) : Prop where
  tr : TrM B gt gd gl n f w al first cut safe dn false
  lg : LogX f w gl gd n T first cut sf us dn
  turn : T ≤ 1 + 2 * k
  len : al.length ≤ k
  drop : al.drop first = sf ++ us
  fi : first ≤ al.length
  ct : cut ≤ al.length
  sa : safe ≤ first + sf.length
  cf : dn = false → cut = first
  rs : ∀ r ∈ al, r.length ≤ 300
def StP (B gt gd n k : Nat) (w : World) (dn : Bool) : Prop := ∃ gl T first cut safe f al sf us, StW B gt gd gl n k T first cut safe f w al sf us dn
section
variable {B gt gd gl n k T first cut safe : Nat} {f : Nat → Prop} {w w' : World} {al sf us : List (List UInt8)} {dn : Bool}
theorem TrM.below_ {fell : Bool} (h : TrM B gt gd gl n f w al first cut safe dn fell) (hb : Below w.heap.size w w') : TrM B gt gd gl n f w' al first cut safe dn fell := by
  obtain ⟨va, g, h1, h2, h3, h4⟩ := h.mem
  exact ⟨⟨va, g, h1.below hb h1.lt, h2.below hb, h3, h4⟩, h.base, fun x hx => by have := h.fb x hx; have := hb.size; omega, h.fgt⟩
theorem StW.below (h : StW B gt gd gl n k T first cut safe f w al sf us dn) (hb : Below w.heap.size w w') : StW B gt gd gl n k T first cut safe f w' al sf us dn := { h with tr := h.tr.below_ hb, lg := h.lg.below hb }
theorem StW.size (h : StW B gt gd gl n k T first cut safe f w al sf us dn) : B ≤ w.heap.size := by
  obtain ⟨va, hb⟩ := h.tr.blk
  have := hb.lt
  have := h.tr.base
  omega
theorem StW.kpB (h : StW B gt gd gl n k T first cut safe f w al sf us dn) (hk : Kp (fun x => ¬ f x) w w') : Below B w w' := hk.below h.size fun b hb hf => by have := (h.tr.fb b hf).1; omega
theorem StW.len_eq (h : StW B gt gd gl n k T first cut safe f w al sf us dn) : first + (sf ++ us).length = al.length := by rw [← h.drop, List.length_drop]; have := h.fi; omega
theorem StW.next {f' : Nat → Prop} (h : StW B gt gd gl n k T first cut safe f w al sf us dn) (ht : TrM B gt gd gl n f' w' al first cut safe dn false) (hl : LogX f' w' gl gd n T first cut sf us dn) : StW B gt gd gl n (k + 1) T first cut safe f' w' al sf us dn := ⟨ht, hl, by have := h.turn; omega, by have := h.len; omega, h.drop, h.fi, h.ct, h.sa, h.cf, h.rs⟩
end
def opCs (o : OpD) (vb vk : Value) : Array Value := #[.int .i64 o.kind, .int .i64 o.n, vb, vk]
/-- an Op in memory, apart from the truth's blocks -/
structure OpM (B : Nat) (w : World) (o : OpD) (vb vk : Value) : Prop where
  b : RB (fun x => x < B) w vb o.b
  keep : RSl rInt (fun x => x < B) w vk o.keep
  k64 : I64 o.kind
  n64 : I64 o.n

set_option maxRecDepth 100000 in
set_option maxHeartbeats 6400000 in
theorem step_arm {B gt gd gl n k T first cut safe : Nat} {f : Nat → Prop} {w : World} {al sf us : List (List UInt8)} {dn : Bool} (h : StW B gt gd gl n k T first cut safe f w al sf us dn) (N : Int) (hN : I64 N) (vb vk : Value) (hvb : vb.oneCell' = true) (hvk : vk.oneCell' = true) :
    Calls Try.prog 24 #[.pointer (some ⟨gt, 0, none⟩), .agg #[.int .i64 3, .int .i64 N, vb, vk]] w fun e w' => e = .returned (.bool true) ∧ (∃ dn', StP B gt gd n (k + 1) w' dn') ∧ Below B w w' := by
  have hal : Below w.heap.size w (w.alloc (.cells #[.int .i64 3, .int .i64 N, vb, vk] 56)) := (Below.refl _ _).alloc (Nat.le_refl _) _
  have hkb := Blk.new w 56 #[.int .i64 3, .int .i64 N, vb, vk]
  have hBw := h.size
  have HS := Lib.hid h
  have HAL := Lib.hid hal
  have HKB := Lib.hid hkb
  clear h hal hkb
  go_enter Try.func24, Try.ntmps24
  go_upto_region 22 with fail
  refine name_world (fun w1 => StW B gt gd gl n k T first cut safe f w1 al sf us dn ∧ Blk w1 w.heap.size 56 #[.int .i64 3, .int .i64 N, vb, vk] ∧ Below w.heap.size w w1) ⟨HS.out.below HAL.out, HKB.out, HAL.out⟩ ?_
  rintro w1 ⟨hS, hb1, hB1⟩
  obtain ⟨va, hbt⟩ := hS.tr.blk
  obtain ⟨wb, hwb⟩ : ∃ wb, wb = w.heap.size := ⟨_, rfl⟩
  rw [← hwb] at hb1 ⊢
  have hwf : ¬ f wb := fun hf => by have := (HS.out.tr.fb wb hf).2; omega
  have l0 : ∀ s : LaterB w1 f, s.val.cell? ⟨gt, 0, none⟩ = some (.pointer (some ⟨gd, 0, none⟩)) := LaterB.cell (hbt.cell 0) hS.tr.fgt
  have l1 : ∀ s : LaterB w1 f, s.val.cell? ⟨wb, 1, none⟩ = some (.int .i64 N) := LaterB.cell (hb1.cell 1) hwf
  have HSS := Lib.hid hS
  have HWB := Lib.hid hwb
  clear hbt hb1 HS HKB HAL hS hwb
  refine wp_seqB f 6 [6] (by as_aux_lemma => kernel_rfl) (by as_aux_lemma => kernel_rfl) fun w2 hb2 => ?_
  refine seqB_pre 6 (by kernel_rfl) ?_
  simp only [List.take_succ_cons, List.take_zero, List.drop_succ_cons, List.drop_zero]
  repeat (go_big_quiet_step (fail))
  refine wpQuiet_nil ?_
  refine seqB_wild (Kp.of_below hb2) rfl rfl fun K hK => ?_
  unfold Gives
  go_simp
  refine (arm_opX (HSS.out.lg.below hb2) N hN).mono ?_
  rintro e w3 ⟨rfl, hL3, hK3⟩
  refine ⟨_, rfl, hK _ _ ((hK3.mono fun y hy => hy)) fun hK13 => ?_⟩
  clear hK
  clear K
  simp only [Act.put, List.setIfInBounds_toArray, List.set_cons_succ, List.set_cons_zero]
  refine seqB_pre 2 (by kernel_rfl) ?_
  simp only [List.take_succ_cons, List.take_zero, List.drop_succ_cons, List.drop_zero]
  repeat (go_big_quiet_step (fail))
  refine wpQuiet_nil ?_
  refine seqB_nil ?_
  go_wp2
  go_ret
  have hS := HSS.out
  exact ⟨rfl, ⟨dn, gl, T, first, cut, safe, f, al, sf, us, hS.next (hS.tr.kp hK13) hL3⟩, (hB1.mono hBw).trans (hS.kpB hK13)⟩
end Go.Proofs.Ytlnnfdjhejdgdaa

namespace Go.Proofs.Ytlnnfdjhejdgdaa
open Go.RowKit

set_option maxRecDepth 100000 in
set_option maxHeartbeats 6400000 in
theorem step_sync {B gt gd gl n k T first cut safe : Nat} {f : Nat → Prop} {w : World} {al sf us : List (List UInt8)} {dn : Bool} (h : StW B gt gd gl n k T first cut safe f w al sf us dn) (hk : k ≤ 1000) (N : Int) (vb vk : Value) (hvb : vb.oneCell' = true) (hvk : vk.oneCell' = true) :
    Calls Try.prog 24 #[.pointer (some ⟨gt, 0, none⟩), .agg #[.int .i64 1, .int .i64 N, vb, vk]] w fun e w' => e = .returned (.bool true) ∧ (∃ dn', StP B gt gd n (k + 1) w' dn') ∧ Below B w w' := by
  have hal : Below w.heap.size w (w.alloc (.cells #[.int .i64 1, .int .i64 N, vb, vk] 56)) := (Below.refl _ _).alloc (Nat.le_refl _) _
  have hBw := h.size
  have HS := Lib.hid h
  have HAL := Lib.hid hal
  clear h hal
  go_enter Try.func24, Try.ntmps24
  go_upto_region 3 with fail
  refine name_world (fun w1 => StW B gt gd gl n k T first cut safe f w1 al sf us dn ∧ Below w.heap.size w w1) ⟨HS.out.below HAL.out, HAL.out⟩ ?_
  rintro w1 ⟨hS, hB1⟩
  obtain ⟨A7, d7, hbt, hd7, _⟩ := hS.tr.read (by have := hS.len; omega)
  obtain ⟨wb, hwb⟩ : ∃ wb, wb = w.heap.size := ⟨_, rfl⟩
  rw [← hwb]
  have HWB := Lib.hid hwb
  obtain ⟨m, hm⟩ : ∃ m, m = al.length := ⟨_, rfl⟩
  rw [← hm] at hbt hd7
  have hmk : m ≤ k := by rw [hm]; exact hS.len
  have HM := Lib.hid hm
  have c1 : w1.cell? ⟨gt, 1, none⟩ = some (.pointer (some ⟨gl, 0, none⟩)) := hbt.cell 1
  have hft := hS.tr.fgt
  have HSS := Lib.hid hS
  have HBT := Lib.hid hbt
  clear HS HAL hS hwb hm hbt
  cases dn
  · go_wp2_with fail
    refine (sync_liveX HSS.out.lg).mono ?_
    rintro e w2 ⟨⟨x, rfl, hx⟩, hK2⟩
    have hb2 := HBT.out.kp hK2 hft
    have c0 : w2.cell? ⟨gt, 0, none⟩ = some (.pointer (some ⟨gd, 0, none⟩)) := hb2.cell 0
    have c8 : w2.cell? ⟨gt, 8, none⟩ = some (.bool false) := hb2.cell 8
    have HK2 := Lib.hid hK2
    have HB2 := Lib.hid hb2
    have fg := fun i => hb2.frozen i
    clear hK2 hb2
    rcases hx with ⟨rfl, hL⟩ | ⟨rfl, hL⟩
    · have HL := Lib.hid hL
      clear hL
      go_wp2_with fail
      refine (down_opX HL.out).mono ?_
      rintro e w3 ⟨rfl, rfl⟩
      have hb3 := HB2.out
      have l3 : ∀ s : Later w3, s.val.cell? ⟨gt, 3, none⟩ = some (.slice A7 m d7) := Later.cell (hb3.cell 3)
      have l4 : ∀ s : Later w3, s.val.cell? ⟨gt, 4, none⟩ = some (.int .u64 (first : Int)) := Later.cell (hb3.cell 4)
      go_upto_region 7 with fail
      refine wp_seqB1 (fun b => b = gt) 18 [18, 21, 24] (by as_aux_lemma => kernel_rfl) (by as_aux_lemma => kernel_rfl) fun w19 hb19 => ?_
      have hbl4 := hb3.below hb19 hb3.lt
      have fg4 := fun i => hbl4.frozen i
      have c45 : w19.cell? ⟨gt, 5, none⟩ = some (.int .u64 (first : Int)) := hbl4.cell 5
      have c46 : w19.cell? ⟨gt, 6, none⟩ = some (.int .u64 (cut : Int)) := hbl4.cell 6
      have c47 : w19.cell? ⟨gt, 7, none⟩ = some (.int .i64 (safe : Int)) := hbl4.cell 7
      have hkp : ∀ (w : World) o u, Kp (fun b => ¬ b = gt) w (w.setCell ⟨gt, o, none⟩ u) := fun w o u => (Kp.refl _ _).setCell (fun _ h => h rfl) _
      refine seqB_pre 6 (by kernel_rfl) ?_
      simp only [List.take_succ_cons, List.take_zero, List.drop_succ_cons, List.drop_zero]
      repeat (go_big_quiet_step (fail))
      refine wpQuiet_nil ?_
      refine seqB_pre0 1 (by kernel_rfl) (by kernel_rfl) ?_
      simp only [List.take_succ_cons, List.take_zero, List.drop_succ_cons, List.drop_zero]
      repeat (go_big_quiet_step (fail))
      refine wpQuiet_nil ?_
      refine seqB_pre 4 (by kernel_rfl) ?_
      simp only [List.take_succ_cons, List.take_zero, List.drop_succ_cons, List.drop_zero]
      repeat (go_big_quiet_step (fail))
      refine wpQuiet_nil ?_
      refine seqB_pre0 1 (by kernel_rfl) (by kernel_rfl) ?_
      simp only [List.take_succ_cons, List.take_zero, List.drop_succ_cons, List.drop_zero]
      repeat (go_big_quiet_step (fail))
      refine wpQuiet_nil ?_
      refine seqB_pre 3 (by kernel_rfl) ?_
      simp only [List.take_succ_cons, List.take_zero, List.drop_succ_cons, List.drop_zero]
      repeat (go_big_quiet_step (fail))
      refine wpQuiet_nil ?_
      refine seqB_pre0 1 (by kernel_rfl) (by kernel_rfl) ?_
      simp only [List.take_succ_cons, List.take_zero, List.drop_succ_cons, List.drop_zero]
      repeat (go_big_quiet_step (fail))
      refine wpQuiet_nil ?_
      refine seqB_pre 2 (by kernel_rfl) ?_
      simp only [List.take_succ_cons, List.take_zero, List.drop_succ_cons, List.drop_zero]
      repeat (go_big_quiet_step (fail))
      refine wpQuiet_nil ?_
      refine seqB_wild (Kp.of_below hb19) rfl rfl fun K hK => ?_
      unfold Gives
      go_simp
      refine hK _ _ (hkp _ _ _) fun hK5 => ?_
      clear hK
      clear K
      simp only [Act.put, List.setIfInBounds_toArray, List.set_cons_succ, List.set_cons_zero]
      refine seqB_pre 2 (by kernel_rfl) ?_
      simp only [List.take_succ_cons, List.take_zero, List.drop_succ_cons, List.drop_zero]
      repeat (go_big_quiet_step (fail))
      refine wpQuiet_nil ?_
      refine seqB_wild hK5 rfl rfl fun K hK => ?_
      unfold Gives
      go_simp
      refine hK _ _ (hkp _ _ _) fun hK6 => ?_
      clear hK
      clear K
      simp only [Act.put, List.setIfInBounds_toArray, List.set_cons_succ, List.set_cons_zero]
      refine seqB_pre 2 (by kernel_rfl) ?_
      simp only [List.take_succ_cons, List.take_zero, List.drop_succ_cons, List.drop_zero]
      repeat (go_big_quiet_step (fail))
      refine wpQuiet_nil ?_
      refine seqB_wild hK6 rfl rfl fun K hK => ?_
      unfold Gives
      go_simp
      refine hK _ _ (hkp _ _ _) fun hK7 => ?_
      clear hK
      clear K
      simp only [Act.put, List.setIfInBounds_toArray, List.set_cons_succ, List.set_cons_zero]
      refine seqB_nil ?_
      have hblz : Blk (((w19.setCell ⟨gt, 7, none⟩ (.int .i64 (m : Int))).setCell ⟨gt, 5, none⟩ (.int .u64 (first : Int))).setCell ⟨gt, 6, none⟩ (.int .u64 (first : Int))) gt 53 (trCs gd gl n (.slice A7 m d7) first first first m false false) :=
        ((hbl4.set_ 7 _).set_ 5 _).set_ 6 _
      generalize hwz : ((w19.setCell ⟨gt, 7, none⟩ (.int .i64 (m : Int))).setCell ⟨gt, 5, none⟩ (.int .u64 (first : Int))).setCell ⟨gt, 6, none⟩ (.int .u64 (first : Int)) = wz at hblz hK7 ⊢
      clear hwz hK5 hK6 hkp c45 c46 c47 fg4 fg l3 l4
      go_wp2
      go_ret
      have hS := HSS.out
      have hle := hS.len_eq
      have ht := (hS.tr.kp HK2.out).re hb3 hK7 hblz
      have hL := HL.out.kp hK7 fun y hy e => hft (e ▸ hy)
      have hBz := ((hB1.mono hBw).trans (hS.kpB HK2.out)).trans (hK7.below (by have := hb3.lt; have := hS.tr.base; omega) fun b hb e => by have := hS.tr.base; omega)
      refine ⟨rfl, ⟨false, gl, T, first, first, m, f, al, sf ++ us, [], ht, hL, by have := hS.turn; omega, by have := hS.len; omega, by rw [List.append_nil]; exact hS.drop, hS.fi, hS.fi, by rw [HM.out]; omega, fun _ => rfl, hS.rs⟩, hBz⟩
    · have HL := Lib.hid hL
      clear hL
      go_wp2_with fail
      refine (down_opX HL.out).mono ?_
      rintro e w3 ⟨rfl, rfl⟩
      go_wp2
      go_ret
      have hb3 := HB2.out.set_ 8 (.bool true)
      have hS := HSS.out
      have hcf := hS.cf rfl
      have hkg : Kp (fun x => ¬ x = gt) w3 (w3.setCell ⟨gt, 8, none⟩ (.bool true)) := (Kp.refl _ _).setCell (fun _ h => h rfl) _
      have ht := (hS.tr.kp HK2.out).re HB2.out hkg hb3
      have hLz := HL.out.kp hkg fun y hy e => hft (e ▸ hy)
      have hBz := ((hB1.mono hBw).trans (hS.kpB HK2.out)).trans (hkg.below (by have := HB2.out.lt; have := hS.tr.base; omega) fun b hb e => by have := hS.tr.base; omega)
      rw [← hcf] at hLz
      refine ⟨rfl, ⟨true, gl, T, first, cut, safe, f, al, sf, us, ht, ?_, by have := hS.turn; omega, by have := hS.len; omega, hS.drop, hS.fi, hS.ct, hS.sa, (fun h => by cases h), hS.rs⟩, hBz⟩
      rw [hcf] at hLz ⊢
      exact hLz
  · go_wp2_with fail
    refine (sync_deadX HSS.out.lg).mono ?_
    rintro e w2 ⟨rfl, hL, hK2⟩
    have hb2 := HBT.out.kp hK2 hft
    have c8 : w2.cell? ⟨gt, 8, none⟩ = some (.bool true) := hb2.cell 8
    have HK2 := Lib.hid hK2
    have HB2 := Lib.hid hb2
    have fg := fun i => hb2.frozen i
    have HL := Lib.hid hL
    clear hK2 hb2 hL
    go_wp2
    go_ret
    have hb3 := HB2.out.set_ 8 (.bool true)
    have hS := HSS.out
    have hkg : Kp (fun x => ¬ x = gt) w2 (w2.setCell ⟨gt, 8, none⟩ (.bool true)) := (Kp.refl _ _).setCell (fun _ h => h rfl) _
    have ht := (hS.tr.kp HK2.out).re HB2.out hkg hb3
    have hLz := HL.out.kp hkg fun y hy e => hft (e ▸ hy)
    have hBz := ((hB1.mono hBw).trans (hS.kpB HK2.out)).trans (hkg.below (by have := HB2.out.lt; have := hS.tr.base; omega) fun b hb e => by have := hS.tr.base; omega)
    exact ⟨rfl, ⟨true, gl, T, first, cut, safe, f, al, sf, us, hS.next ht hLz⟩, hBz⟩
end Go.Proofs.Ytlnnfdjhejdgdaa

namespace Go.Proofs.Ytlnnfdjhejdgdaa
open Go.RowKit

set_option maxRecDepth 100000 in
set_option maxHeartbeats 6400000 in
theorem step_cut {B gt gd gl n k T first cut safe : Nat} {f : Nat → Prop} {w : World} {al sf us : List (List UInt8)} {dn : Bool} (h : StW B gt gd gl n k T first cut safe f w al sf us dn) (hk : k ≤ 100) (N : Int) (hN : I64 N) (vb vk : Value) (hvb : vb.oneCell' = true) (hvk : vk.oneCell' = true) :
    Calls Try.prog 24 #[.pointer (some ⟨gt, 0, none⟩), .agg #[.int .i64 2, .int .i64 N, vb, vk]] w fun e w' => e = .returned (.bool true) ∧ (∃ dn', StP B gt gd n (k + 1) w' dn') ∧ Below B w w' := by
  have hal : Below w.heap.size w (w.alloc (.cells #[.int .i64 2, .int .i64 N, vb, vk] 56)) := (Below.refl _ _).alloc (Nat.le_refl _) _
  have hkb := Blk.new w 56 #[.int .i64 2, .int .i64 N, vb, vk]
  have hBw := h.size
  have HS := Lib.hid h
  have HAL := Lib.hid hal
  have HKB := Lib.hid hkb
  clear h hal hkb
  go_enter Try.func24, Try.ntmps24
  go_upto_region 10 with fail
  refine name_world (fun w1 => StW B gt gd gl n k T first cut safe f w1 al sf us dn ∧ Blk w1 w.heap.size 56 #[.int .i64 2, .int .i64 N, vb, vk] ∧ Below w.heap.size w w1) ⟨HS.out.below HAL.out, HKB.out, HAL.out⟩ ?_
  rintro w1 ⟨hS, hbo, hB1⟩
  obtain ⟨A7, d7, hbt, hd7, _⟩ := hS.tr.read (by have := hS.len; omega)
  obtain ⟨wb, hwb⟩ : ∃ wb, wb = w.heap.size := ⟨_, rfl⟩
  rw [← hwb] at hbo ⊢
  have hwf : ¬ f wb := fun hf => by have := (HS.out.tr.fb wb hf).2; omega
  have hwt : ¬ wb = gt := fun e => by obtain ⟨va, hb⟩ := HS.out.tr.blk; have := hb.lt; omega
  have HWB := Lib.hid hwb
  obtain ⟨m, hm⟩ : ∃ m, m = al.length := ⟨_, rfl⟩
  rw [← hm] at hbt hd7
  have hmk : m ≤ k := by rw [hm]; exact hS.len
  have hfm : first ≤ m := by rw [hm]; exact hS.fi
  have HM := Lib.hid hm
  have hft := hS.tr.fgt
  have l1 : ∀ s : LaterB w1 f, s.val.cell? ⟨gt, 1, none⟩ = some (.pointer (some ⟨gl, 0, none⟩)) := LaterB.cell (hbt.cell 1) hft
  have lo1 : ∀ s : LaterB w1 f, s.val.cell? ⟨wb, 1, none⟩ = some (.int .i64 N) := LaterB.cell (hbo.cell 1) hwf
  have HSS := Lib.hid hS
  have HBT := Lib.hid hbt
  have HBO := Lib.hid hbo
  have hfs : first + (sf ++ us).length = m := by rw [hm]; exact hS.len_eq
  have hT : T + 1 < 256 := by have := hS.turn; omega
  obtain ⟨q, hq64, hqe⟩ : ∃ q : Nat, q < 18446744073709551616 ∧ IntKind.u64.wrap N = (q : Int) := ⟨(N % 18446744073709551616).toNat, by omega, by rw [IntKind.wrap_u64]; omega⟩
  clear HS HAL HKB hS hwb hm hbt hbo
  refine wp_seqB f 7 [7] (by as_aux_lemma => kernel_rfl) (by as_aux_lemma => kernel_rfl) fun w2 hb2 => ?_
  refine seqB_pre 7 (by kernel_rfl) ?_
  simp only [List.take_succ_cons, List.take_zero, List.drop_succ_cons, List.drop_zero]
  repeat (go_big_quiet_step (fail))
  refine wpQuiet_nil ?_
  refine seqB_wild (Kp.of_below hb2) rfl rfl fun K hK => ?_
  unfold Gives
  go_simp
  cases dn
  · refine (cut_liveX (HSS.out.lg.below hb2) hT q hq64 (by rw [hfs]; omega)).mono ?_
    rintro e w3 ⟨⟨x, rfl, hx⟩, hK3⟩
    rw [hfs] at hx
    refine ⟨_, rfl, hK _ _ ((hK3.mono fun y hy => hy)) fun hK13 => ?_⟩
    clear hK
    clear K
    simp only [Act.put, List.setIfInBounds_toArray, List.set_cons_succ, List.set_cons_zero]
    refine seqB_pre 1 (by kernel_rfl) ?_
    simp only [List.take_succ_cons, List.take_zero, List.drop_succ_cons, List.drop_zero]
    repeat (go_big_quiet_step (fail))
    refine wpQuiet_nil ?_
    refine seqB_nil ?_
    have hb3 := HBT.out.kp hK13 hft
    have hbo3 := HBO.out.kp hK13 hwf
    have l3 : ∀ s : Later w3, s.val.cell? ⟨gt, 3, none⟩ = some (.slice A7 m d7) := Later.cell (hb3.cell 3)
    have l4 : ∀ s : Later w3, s.val.cell? ⟨gt, 4, none⟩ = some (.int .u64 (first : Int)) := Later.cell (hb3.cell 4)
    have lo : ∀ s : Later w3, s.val.cell? ⟨wb, 1, none⟩ = some (.int .i64 N) := Later.cell (hbo3.cell 1)
    have HB3 := Lib.hid hb3
    have HBO3 := Lib.hid hbo3
    have HK13 := Lib.hid hK13
    have HK3 := Lib.hid hK3
    clear hb3 hbo3 hK13 hK3 hfs l1 lo1
    go_upto_region 11 with fail
    rcases hx with ⟨hin, rfl, hL⟩ | ⟨h1, h2, rfl, T', hT', hL⟩ | ⟨h1, h2, rfl, sf', us', he, hle, hL⟩
    · as_aux_lemma =>
        have HL := Lib.hid hL
        clear hL
        refine wp_seqL [] (by as_aux_lemma => kernel_rfl) (by as_aux_lemma => kernel_rfl) fun w4 hb4 => ?_
        have hb5 := HB3.out.below hb4 HB3.out.lt
        have c8 : w4.cell? ⟨gt, 8, none⟩ = some (.bool false) := hb5.cell 8
        have hfin : (first ≤ q → ¬ q ≤ m) := fun h1 h2 => hin ⟨h1, h2⟩
        have HFN := Lib.hid hfin
        clear hin hfin hb5
        by_cases h1 : first ≤ q
        · have y1 : decide (first ≤ q) = true := decide_eq_true h1
          have y2 : decide (q ≤ m) = false := decide_eq_false (HFN.out h1)
          refine seqL_pre 21 (by kernel_rfl) ?_
          simp only [List.take_succ_cons, List.take_zero, List.drop_succ_cons, List.drop_zero]
          repeat (go_big_quiet_step (fail))
          refine wpQuiet_nil ?_
          refine seqL_nil ?_
          go_wp2
          go_ret
          exact ⟨rfl, ⟨false, gl, T, first, cut, safe, _, al, sf, us, HSS.out.next (((HSS.out.tr.below_ hb2).new HK3.out).below_ hb4) ((HL.out.cut_ cut).below hb4)⟩, ((hB1.mono hBw).trans (HSS.out.kpB HK13.out)).trans (hb4.mono (by have := HK13.out.size; have := hB1.size; omega))⟩
        · have y1 : decide (first ≤ q) = false := decide_eq_false h1
          refine seqL_pre 21 (by kernel_rfl) ?_
          simp only [List.take_succ_cons, List.take_zero, List.drop_succ_cons, List.drop_zero]
          repeat (go_big_quiet_step (fail))
          refine wpQuiet_nil ?_
          refine seqL_nil ?_
          go_wp2
          go_ret
          exact ⟨rfl, ⟨false, gl, T, first, cut, safe, _, al, sf, us, HSS.out.next (((HSS.out.tr.below_ hb2).new HK3.out).below_ hb4) ((HL.out.cut_ cut).below hb4)⟩, ((hB1.mono hBw).trans (HSS.out.kpB HK13.out)).trans (hb4.mono (by have := HK13.out.size; have := hB1.size; omega))⟩
    · as_aux_lemma =>
        have HL := Lib.hid hL
        clear hL
        refine wp_seqL [] (by as_aux_lemma => kernel_rfl) (by as_aux_lemma => kernel_rfl) fun w4 hb4 => ?_
        have hb5 := HB3.out.below hb4 HB3.out.lt
        have hbo5 := HBO3.out.below hb4 HBO3.out.lt
        have c8 : w4.cell? ⟨gt, 8, none⟩ = some (.bool false) := hb5.cell 8
        have y1 : decide (first ≤ q) = true := decide_eq_true h1
        have y2 : decide (q ≤ m) = true := decide_eq_true h2
        refine seqL_pre 21 (by kernel_rfl) ?_
        simp only [List.take_succ_cons, List.take_zero, List.drop_succ_cons, List.drop_zero]
        repeat (go_big_quiet_step (fail))
        refine wpQuiet_nil ?_
        refine seqL_nil ?_
        have HB5 := Lib.hid hb5
        have HBO5 := Lib.hid hbo5
        clear hb5 hbo5 l3 l4 lo
        go_upto_region 19 with fail
        have l3 : ∀ s : Later w4, s.val.cell? ⟨gt, 3, none⟩ = some (.slice A7 m d7) := Later.cell (HB5.out.cell 3)
        have lo : ∀ s : LaterB w4 (fun b => b = gt), s.val.cell? ⟨wb, 1, none⟩ = some (.int .i64 N) := LaterB.cell (HBO5.out.cell 1) hwt
        refine wp_seqB1 (fun b => b = gt) 20 [20, 23, 26, 29] (by as_aux_lemma => kernel_rfl) (by as_aux_lemma => kernel_rfl) fun w19 hb19 => ?_
        have hbl4 := HB5.out.below hb19 HB5.out.lt
        have fg4 := fun i => hbl4.frozen i
        have c44 : w19.cell? ⟨gt, 4, none⟩ = some (.int .u64 (first : Int)) := hbl4.cell 4
        have c45 : w19.cell? ⟨gt, 5, none⟩ = some (.int .u64 (first : Int)) := hbl4.cell 5
        have c46 : w19.cell? ⟨gt, 6, none⟩ = some (.int .u64 (cut : Int)) := hbl4.cell 6
        have c47 : w19.cell? ⟨gt, 7, none⟩ = some (.int .i64 (safe : Int)) := hbl4.cell 7
        have hkp : ∀ (w : World) o u, Kp (fun b => ¬ b = gt) w (w.setCell ⟨gt, o, none⟩ u) := fun w o u => (Kp.refl _ _).setCell (fun _ h => h rfl) _
        refine seqB_pre 7 (by kernel_rfl) ?_
        simp only [List.take_succ_cons, List.take_zero, List.drop_succ_cons, List.drop_zero]
        repeat (go_big_quiet_step (fail))
        refine wpQuiet_nil ?_
        refine seqB_pre0 1 (by kernel_rfl) (by kernel_rfl) ?_
        simp only [List.take_succ_cons, List.take_zero, List.drop_succ_cons, List.drop_zero]
        repeat (go_big_quiet_step (fail))
        refine wpQuiet_nil ?_
        refine seqB_pre 12 (by kernel_rfl) ?_
        simp only [List.take_succ_cons, List.take_zero, List.drop_succ_cons, List.drop_zero]
        repeat (go_big_quiet_step (fail))
        refine wpQuiet_nil ?_
        refine seqB_wild (Kp.of_below hb19) rfl rfl fun K hK => ?_
        unfold Gives
        go_simp
        refine hK _ _ (hkp _ _ _) fun hK5 => ?_
        clear hK
        clear K
        simp only [Act.put, List.setIfInBounds_toArray, List.set_cons_succ, List.set_cons_zero]
        refine seqB_pre 2 (by kernel_rfl) ?_
        simp only [List.take_succ_cons, List.take_zero, List.drop_succ_cons, List.drop_zero]
        repeat (go_big_quiet_step (fail))
        refine wpQuiet_nil ?_
        refine seqB_wild hK5 rfl rfl fun K hK => ?_
        unfold Gives
        go_simp
        refine hK _ _ (hkp _ _ _) fun hK6 => ?_
        clear hK
        clear K
        simp only [Act.put, List.setIfInBounds_toArray, List.set_cons_succ, List.set_cons_zero]
        refine seqB_pre 2 (by kernel_rfl) ?_
        simp only [List.take_succ_cons, List.take_zero, List.drop_succ_cons, List.drop_zero]
        repeat (go_big_quiet_step (fail))
        refine wpQuiet_nil ?_
        refine seqB_wild hK6 rfl rfl fun K hK => ?_
        unfold Gives
        go_simp
        refine hK _ _ (hkp _ _ _) fun hK7 => ?_
        clear hK
        clear K
        simp only [Act.put, List.setIfInBounds_toArray, List.set_cons_succ, List.set_cons_zero]
        refine seqB_pre 2 (by kernel_rfl) ?_
        simp only [List.take_succ_cons, List.take_zero, List.drop_succ_cons, List.drop_zero]
        repeat (go_big_quiet_step (fail))
        refine wpQuiet_nil ?_
        refine seqB_wild hK7 rfl rfl fun K hK => ?_
        unfold Gives
        go_simp
        refine hK _ _ (hkp _ _ _) fun hK8 => ?_
        clear hK
        clear K
        simp only [Act.put, List.setIfInBounds_toArray, List.set_cons_succ, List.set_cons_zero]
        refine seqB_nil ?_
        have hblz : Blk ((((w19.setCell ⟨gt, 7, none⟩ (.int .i64 (m : Int))).setCell ⟨gt, 4, none⟩ (.int .u64 (q : Int))).setCell ⟨gt, 5, none⟩ (.int .u64 (q : Int))).setCell ⟨gt, 6, none⟩ (.int .u64 (q : Int))) gt 53 (trCs gd gl n (.slice A7 m d7) q q q m false false) :=
          (((hbl4.set_ 7 _).set_ 4 _).set_ 5 _).set_ 6 _
        generalize hwz : (((w19.setCell ⟨gt, 7, none⟩ (.int .i64 (m : Int))).setCell ⟨gt, 4, none⟩ (.int .u64 (q : Int))).setCell ⟨gt, 5, none⟩ (.int .u64 (q : Int))).setCell ⟨gt, 6, none⟩ (.int .u64 (q : Int)) = wz at hblz hK8 ⊢
        clear hwz hK5 hK6 hK7 hkp c44 c45 c46 c47 fg4 l3 lo
        go_wp2
        go_ret
        have hS := HSS.out
        have ht := (((hS.tr.below_ hb2).new HK3.out).below_ hb4)
        have hfz := ht.fgt
        have htz := ht.re HB5.out hK8 hblz
        have hL := (HL.out.below hb4).kp hK8 fun y hy e => hfz (e ▸ hy)
        have hsz := HK13.out.size
        have hsz1 := hB1.size
        have hsz4 := hb4.size
        have hBz := (((hB1.mono hBw).trans (hS.kpB HK13.out)).trans (hb4.mono (by omega))).trans (hK8.below (by omega) fun b hb e => by have := hS.tr.base; omega)
        have hdr : al.drop q = (sf ++ us).drop (q - first) := by rw [← hS.drop, List.drop_drop]; congr 1; omega
        have hln : q + ((sf ++ us).drop (q - first)).length = m := by rw [List.length_drop]; have := hS.len_eq; have := HM.out; omega
        exact ⟨rfl, ⟨false, gl, T', q, q, m, _, al, _, [], htz, hL, by have := hS.turn; omega, by have := hS.len; omega, by rw [List.append_nil]; exact hdr, by rw [← HM.out]; exact h2, by rw [← HM.out]; exact h2, by omega, fun _ => rfl, hS.rs⟩, hBz⟩
    · as_aux_lemma =>
        have HL := Lib.hid hL
        clear hL
        refine wp_seqL [] (by as_aux_lemma => kernel_rfl) (by as_aux_lemma => kernel_rfl) fun w4 hb4 => ?_
        have hb5 := HB3.out.below hb4 HB3.out.lt
        have hbo5 := HBO3.out.below hb4 HBO3.out.lt
        have c8 : w4.cell? ⟨gt, 8, none⟩ = some (.bool false) := hb5.cell 8
        have y1 : decide (first ≤ q) = true := decide_eq_true h1
        have y2 : decide (q ≤ m) = true := decide_eq_true h2
        refine seqL_pre 21 (by kernel_rfl) ?_
        simp only [List.take_succ_cons, List.take_zero, List.drop_succ_cons, List.drop_zero]
        repeat (go_big_quiet_step (fail))
        refine wpQuiet_nil ?_
        refine seqL_nil ?_
        have HB5 := Lib.hid hb5
        have HBO5 := Lib.hid hbo5
        clear hb5 hbo5 l3 l4 lo
        go_upto_region 17 with fail
        have lo : ∀ s : LaterB w4 (fun b => b = gt), s.val.cell? ⟨wb, 1, none⟩ = some (.int .i64 N) := LaterB.cell (HBO5.out.cell 1) hwt
        refine wp_seqB1 (fun b => b = gt) 7 [7, 10] (by as_aux_lemma => kernel_rfl) (by as_aux_lemma => kernel_rfl) fun w19 hb19 => ?_
        have hbl4 := HB5.out.below hb19 HB5.out.lt
        have fg4 := fun i => hbl4.frozen i
        have c46 : w19.cell? ⟨gt, 6, none⟩ = some (.int .u64 (cut : Int)) := hbl4.cell 6
        have c48 : w19.cell? ⟨gt, 8, none⟩ = some (.bool false) := hbl4.cell 8
        have hkp : ∀ (w : World) o u, Kp (fun b => ¬ b = gt) w (w.setCell ⟨gt, o, none⟩ u) := fun w o u => (Kp.refl _ _).setCell (fun _ h => h rfl) _
        refine seqB_pre 7 (by kernel_rfl) ?_
        simp only [List.take_succ_cons, List.take_zero, List.drop_succ_cons, List.drop_zero]
        repeat (go_big_quiet_step (fail))
        refine wpQuiet_nil ?_
        refine seqB_wild (Kp.of_below hb19) rfl rfl fun K hK => ?_
        unfold Gives
        go_simp
        refine hK _ _ (hkp _ _ _) fun hK5 => ?_
        clear hK
        clear K
        simp only [Act.put, List.setIfInBounds_toArray, List.set_cons_succ, List.set_cons_zero]
        refine seqB_pre 2 (by kernel_rfl) ?_
        simp only [List.take_succ_cons, List.take_zero, List.drop_succ_cons, List.drop_zero]
        repeat (go_big_quiet_step (fail))
        refine wpQuiet_nil ?_
        refine seqB_wild hK5 rfl rfl fun K hK => ?_
        unfold Gives
        go_simp
        refine hK _ _ (hkp _ _ _) fun hK6 => ?_
        clear hK
        clear K
        simp only [Act.put, List.setIfInBounds_toArray, List.set_cons_succ, List.set_cons_zero]
        refine seqB_nil ?_
        have hblz : Blk ((w19.setCell ⟨gt, 8, none⟩ (.bool true)).setCell ⟨gt, 6, none⟩ (.int .u64 (q : Int))) gt 53 (trCs gd gl n (.slice A7 m d7) first first q safe true false) :=
          (hbl4.set_ 8 _).set_ 6 _
        generalize hwz : (w19.setCell ⟨gt, 8, none⟩ (.bool true)).setCell ⟨gt, 6, none⟩ (.int .u64 (q : Int)) = wz at hblz hK6 ⊢
        clear hwz hK5 hkp c46 c48 fg4 lo
        have ht := (((HSS.out.tr.below_ hb2).new HK3.out).below_ hb4)
        have hfz := ht.fgt
        have htz := ht.re HB5.out hK6 hblz
        have hLz := (HL.out.below hb4).kp hK6 fun y hy e => hfz (e ▸ hy)
        have HLZ := Lib.hid hLz
        have HTZ := Lib.hid htz
        have HK6 := Lib.hid hK6
        have c0 : wz.cell? ⟨gt, 0, none⟩ = some (.pointer (some ⟨gd, 0, none⟩)) := hblz.cell 0
        clear hLz htz ht hK6 hblz hfz
        go_wp2_with fail
        refine (down_opX HLZ.out).mono ?_
        rintro e w5 ⟨rfl, rfl⟩
        go_wp2
        go_ret
        have hS := HSS.out
        have hsz := HK13.out.size
        have hsz1 := hB1.size
        have hsz4 := hb4.size
        have hBz := (((hB1.mono hBw).trans (hS.kpB HK13.out)).trans (hb4.mono (by omega))).trans (HK6.out.below (by omega) fun b hb e => by have := hS.tr.base; omega)
        exact ⟨rfl, ⟨true, gl, T, first, q, safe, _, al, sf', us', HTZ.out, HLZ.out, by have := hS.turn; omega, by have := hS.len; omega, by rw [he]; exact hS.drop, hS.fi, by rw [← HM.out]; exact h2, by have := hS.sa; omega, (fun h => by cases h), hS.rs⟩, hBz⟩
  · refine (cut_deadX (HSS.out.lg.below hb2) q hq64).mono ?_
    rintro e w3 ⟨hx, hL, hK3⟩
    obtain ⟨x, rfl, hx13⟩ : ∃ x : Int, e = .returned (.int .i64 x) ∧ (x = 1 ∨ x = 3) := by
      rcases hx with rfl | rfl
      · exact ⟨1, rfl, .inl rfl⟩
      · exact ⟨3, rfl, .inr rfl⟩
    clear hx
    refine ⟨_, rfl, hK _ _ ((hK3.mono fun y hy => hy)) fun hK13 => ?_⟩
    clear hK
    clear K
    simp only [Act.put, List.setIfInBounds_toArray, List.set_cons_succ, List.set_cons_zero]
    refine seqB_pre 1 (by kernel_rfl) ?_
    simp only [List.take_succ_cons, List.take_zero, List.drop_succ_cons, List.drop_zero]
    repeat (go_big_quiet_step (fail))
    refine wpQuiet_nil ?_
    refine seqB_nil ?_
    have hb3 := HBT.out.kp hK13 hft
    have hbo3 := HBO.out.kp hK13 hwf
    have l3 : ∀ s : Later w3, s.val.cell? ⟨gt, 3, none⟩ = some (.slice A7 m d7) := Later.cell (hb3.cell 3)
    have l4 : ∀ s : Later w3, s.val.cell? ⟨gt, 4, none⟩ = some (.int .u64 (first : Int)) := Later.cell (hb3.cell 4)
    have lo : ∀ s : Later w3, s.val.cell? ⟨wb, 1, none⟩ = some (.int .i64 N) := Later.cell (hbo3.cell 1)
    have HB3 := Lib.hid hb3
    have HBO3 := Lib.hid hbo3
    have HK13 := Lib.hid hK13
    have HK3 := Lib.hid hK3
    have HL := Lib.hid hL
    have HX := Lib.hid hx13
    clear hb3 hbo3 hK13 hK3 hfs l1 lo1 hL hx13
    go_upto_region 11 with fail
    go_cut [7] (fun v wx => (∃ b : Bool, v = .bool b) ∧ Below w3.heap.size w3 wx)
    case first =>
      refine wp_seqL [] (by as_aux_lemma => kernel_rfl) (by as_aux_lemma => kernel_rfl) fun w4 hb4 => ?_
      cases y1 : decide (first ≤ q)
      · skip
        refine seqL_pre 21 (by kernel_rfl) ?_
        simp only [List.take_succ_cons, List.take_zero, List.drop_succ_cons, List.drop_zero]
        repeat (go_big_quiet_step (fail))
        refine wpQuiet_nil ?_
        refine seqL_nil ?_
        go_wp2
        go_meet
        exact ⟨⟨_, rfl⟩, hb4⟩
      · skip
        refine seqL_pre 21 (by kernel_rfl) ?_
        simp only [List.take_succ_cons, List.take_zero, List.drop_succ_cons, List.drop_zero]
        repeat (go_big_quiet_step (fail))
        refine wpQuiet_nil ?_
        refine seqL_nil ?_
        go_wp2
        go_meet
        exact ⟨⟨_, rfl⟩, hb4⟩
    obtain ⟨⟨b7, rfl⟩, hb4⟩ := hcut
    have hb5 := HB3.out.below hb4 HB3.out.lt
    have c8 : wc.cell? ⟨gt, 8, none⟩ = some (.bool true) := hb5.cell 8
    clear hb5 l3 l4 lo
    rcases HX.out with rfl | rfl
    · go_wp2
      go_ret
      exact ⟨rfl, .inr ⟨gl, T, first, cut, safe, _, al, sf, us, HSS.out.next (((HSS.out.tr.below_ hb2).new HK3.out).below_ hb4) (HL.out.below hb4)⟩, ((hB1.mono hBw).trans (HSS.out.kpB HK13.out)).trans (hb4.mono (by have := HK13.out.size; have := hB1.size; omega))⟩
    · go_wp2
      go_ret
      exact ⟨rfl, .inr ⟨gl, T, first, cut, safe, _, al, sf, us, HSS.out.next (((HSS.out.tr.below_ hb2).new HK3.out).below_ hb4) (HL.out.below hb4)⟩, ((hB1.mono hBw).trans (HSS.out.kpB HK13.out)).trans (hb4.mono (by have := HK13.out.size; have := hB1.size; omega))⟩
end Go.Proofs.Ytlnnfdjhejdgdaa

namespace Go.Proofs.Ytlnnfdjhejdgdaa
open Go.RowKit

section
variable {B gt gd gl n k T first cut safe : Nat} {f : Nat → Prop} {w w' : World} {al sf us : List (List UInt8)} {dn fell dd : Bool}
theorem opened_P {sf' us' : List (List UInt8)} (h : StW B gt gd gl n k T first cut safe f w al sf us dn) (hal : al.drop first = sf' ++ us')
    (hp : ∃ gl' T' a R f', T' ≤ T + 2 ∧ Finds first cut sf' us' a R ∧ TrM B gt gd gl' n f' w' (al.take (a + R.length)) a a (min safe (a + R.length)) false false ∧ LogX f' w' gl' gd n T' a a R [] false) : StP B gt gd n (k + 1) w' false := by
  obtain ⟨gl', T', a, R, f', hT, hF, ht, hl⟩ := hp
  obtain ⟨h1, h2, h3, h4, h5⟩ := hF.part h.fi hal h.ct
  have hlen : (al.take (a + R.length)).length = a + R.length := by rw [List.length_take]; omega
  exact ⟨gl', T', a, a, _, f', _, R, [], ht, hl, by have := h.turn; omega, by have := h.len; omega, by rw [List.append_nil]; exact h1, by omega, by omega, by omega, fun _ => rfl, fun r hr => h.rs r (List.mem_of_mem_take hr)⟩
/-- truth.open, between two steps -/
theorem topen_W (h : StW B gt gd gl n k T first cut safe f w al sf us dn) (hk : k ≤ 100) :
    Calls Try.prog 27 #[.pointer (some ⟨gt, 0, none⟩)] w fun e w' => e = .returned (.bool true) ∧ StP B gt gd n (k + 1) w' false ∧ Below B w w' := by
  have hT := h.turn
  have hl := h.len
  cases dn
  · refine (topen_any (sf := sf ++ us) (us := []) (dd := false) h.tr (.inl ⟨rfl, rfl, sf, us, rfl, h.lg⟩) (by omega) (by omega) h.fi (by rw [List.append_nil]; exact h.drop) h.ct (by have := h.sa; have := h.len_eq; rw [List.length_append] at this ⊢; omega) fun _ => ⟨rfl, h.cf rfl⟩).mono ?_
    rintro e w' ⟨rfl, hp, hB⟩
    exact ⟨rfl, opened_P h (by rw [List.append_nil]; exact h.drop) hp, hB⟩
  · refine (topen_any (sf := sf) (us := us) (dd := true) h.tr (.inr (.inl ⟨rfl, h.lg⟩)) (by omega) (by omega) h.fi h.drop h.ct h.sa fun e => by cases e).mono ?_
    rintro e w' ⟨rfl, hp, hB⟩
    exact ⟨rfl, opened_P h h.drop hp, hB⟩
end
set_option maxRecDepth 100000 in
set_option maxHeartbeats 6400000 in
theorem step_open {B gt gd gl n k T first cut safe : Nat} {f : Nat → Prop} {w : World} {al sf us : List (List UInt8)} {dn : Bool} (h : StW B gt gd gl n k T first cut safe f w al sf us dn) (hk : k ≤ 100) (N : Int) (vb vk : Value) (hvb : vb.oneCell' = true) (hvk : vk.oneCell' = true) :
    Calls Try.prog 24 #[.pointer (some ⟨gt, 0, none⟩), .agg #[.int .i64 5, .int .i64 N, vb, vk]] w fun e w' => e = .returned (.bool true) ∧ (∃ dn', StP B gt gd n (k + 1) w' dn') ∧ Below B w w' := by
  have hal : Below w.heap.size w (w.alloc (.cells #[.int .i64 5, .int .i64 N, vb, vk] 56)) := (Below.refl _ _).alloc (Nat.le_refl _) _
  have hBw := h.size
  have HS := Lib.hid h
  have HAL := Lib.hid hal
  clear h hal
  go_enter Try.func24, Try.ntmps24
  go_upto_region 28 with fail
  refine name_world (fun w1 => StW B gt gd gl n k T first cut safe f w1 al sf us dn ∧ Below w.heap.size w w1) ⟨HS.out.below HAL.out, HAL.out⟩ ?_
  rintro w1 ⟨hS, hB1⟩
  have HSS := Lib.hid hS
  clear HS HAL hS
  go_wp2_with fail
  refine (topen_W HSS.out hk).mono ?_
  rintro e w2 ⟨rfl, hp, hB2⟩
  have HP := Lib.hid hp
  clear hp
  go_wp2
  go_ret
  first
    | exact ⟨rfl, ⟨false, HP.out⟩, (hB1.mono hBw).trans hB2⟩
    | exact ⟨rfl, .inl HP.out, (hB1.mono hBw).trans hB2⟩
set_option maxRecDepth 100000 in
set_option maxHeartbeats 6400000 in
theorem step_crash {B gt gd gl n k T first cut safe : Nat} {f : Nat → Prop} {w : World} {al sf us : List (List UInt8)} {dn : Bool} (h : StW B gt gd gl n k T first cut safe f w al sf us dn) (hk : k ≤ 100) (N : Int) (vb vk : Value) (keep : List Int) (hkp : RSl rInt (fun x => x < B) w vk keep) (hvb : vb.oneCell' = true) (hvk : vk.oneCell' = true) :
    Calls Try.prog 24 #[.pointer (some ⟨gt, 0, none⟩), .agg #[.int .i64 4, .int .i64 N, vb, vk]] w fun e w' => e = .returned (.bool true) ∧ (∃ dn', StP B gt gd n (k + 1) w' dn') ∧ Below B w w' := by
  have hal : Below w.heap.size w (w.alloc (.cells #[.int .i64 4, .int .i64 N, vb, vk] 56)) := (Below.refl _ _).alloc (Nat.le_refl _) _
  have hkb := Blk.new w 56 #[.int .i64 4, .int .i64 N, vb, vk]
  have hBw := h.size
  have HS := Lib.hid h
  have HAL := Lib.hid hal
  have HKB := Lib.hid hkb
  have HKP := Lib.hid hkp
  clear h hal hkb hkp
  go_enter Try.func24, Try.ntmps24
  go_upto_region 24 with fail
  refine name_world (fun w1 => StW B gt gd gl n k T first cut safe f w1 al sf us dn ∧ Blk w1 w.heap.size 56 #[.int .i64 4, .int .i64 N, vb, vk] ∧ Below w.heap.size w w1) ⟨HS.out.below HAL.out, HKB.out, HAL.out⟩ ?_
  rintro w1 ⟨hS, hbo, hB1⟩
  obtain ⟨va, hbt⟩ := hS.tr.blk
  obtain ⟨wb, hwb⟩ : ∃ wb, wb = w.heap.size := ⟨_, rfl⟩
  rw [← hwb] at hbo ⊢
  have hwf : ¬ f wb := fun hf => by have := (HS.out.tr.fb wb hf).2; omega
  have HWB := Lib.hid hwb
  have hft := hS.tr.fgt
  have l0 : ∀ s : LaterB w1 f, s.val.cell? ⟨gt, 0, none⟩ = some (.pointer (some ⟨gd, 0, none⟩)) := LaterB.cell (hbt.cell 0) hft
  have lo3 : ∀ s : LaterB w1 f, s.val.cell? ⟨wb, 3, none⟩ = some vk := LaterB.cell (hbo.cell 3) hwf
  have HSS := Lib.hid hS
  have HBT := Lib.hid hbt
  clear HS HAL HKB hS hwb hbt hbo
  refine wp_seqB f 6 [6] (by as_aux_lemma => kernel_rfl) (by as_aux_lemma => kernel_rfl) fun w2 hb2 => ?_
  refine seqB_pre 6 (by kernel_rfl) ?_
  simp only [List.take_succ_cons, List.take_zero, List.drop_succ_cons, List.drop_zero]
  repeat (go_big_quiet_step (fail))
  refine wpQuiet_nil ?_
  refine seqB_wild (Kp.of_below hb2) rfl rfl fun K hK => ?_
  unfold Gives
  go_simp
  refine (crash_opX (HSS.out.lg.below hb2) vk keep (RSl.below (HKP.out.below hB1) hb2) fun b hb hf => by have := (HSS.out.tr.fb b hf).1; omega).mono ?_
  rintro e w3 ⟨rfl, hC, hK3⟩
  refine ⟨_, rfl, hK _ _ ((hK3.mono fun y hy => hy)) fun hK13 => ?_⟩
  clear hK
  clear K
  simp only [Act.put, List.setIfInBounds_toArray, List.set_cons_succ, List.set_cons_zero]
  refine seqB_nil ?_
  have hb3 := HBT.out.kp hK13 hft
  have ht3 := HSS.out.tr.kp hK13
  have c9 : w3.cell? ⟨gt, 9, none⟩ = some (.bool false) := hb3.cell 9
  have fg := fun i => hb3.frozen i
  have HC := Lib.hid hC
  have HB3 := Lib.hid hb3
  have HT3 := Lib.hid ht3
  have HK13 := Lib.hid hK13
  clear hC hb3 ht3 hK13 hK3 l0 lo3
  go_upto_region 26 with fail
  have hkg : Kp (fun x => ¬ x = gt) w3 (w3.setCell ⟨gt, 9, none⟩ (.bool true)) := (Kp.refl _ _).setCell (fun _ h => h rfl) _
  have hPz : Pre f w3 gl gd n T first cut sf us true := .inr (.inr ⟨rfl, HC.out⟩)
  refine name_world (fun w4 => TrM B gt gd gl n f w4 al first cut safe dn true ∧ Pre f w4 gl gd n T first cut sf us true ∧ Kp (fun x => ¬ x = gt) w3 w4) ⟨HT3.out.re HB3.out hkg (HB3.out.set_ 9 (.bool true)), hPz.kp hkg fun y hy e => hft (e ▸ hy), hkg⟩ ?_
  rintro w4 ⟨ht4, hP4, hK4⟩
  have HT4 := Lib.hid ht4
  have HP4 := Lib.hid hP4
  have HK4 := Lib.hid hK4
  clear ht4 hP4 hK4 c9 fg hkg hPz
  go_wp2_with fail
  have hT := HSS.out.turn
  have hl := HSS.out.len
  refine (topen_any HT4.out HP4.out (by omega) (by omega) HSS.out.fi HSS.out.drop HSS.out.ct HSS.out.sa fun e => by cases e).mono ?_
  rintro e w5 ⟨rfl, hp, hB5⟩
  have HP := Lib.hid hp
  clear hp
  go_wp2
  go_ret
  have hBt := HSS.out.tr.base
  have hB3 := ((hB1.mono hBw).trans (HSS.out.kpB HK13.out))
  have hB4 := hB3.trans (HK4.out.below (by have := hB3.size; omega) fun b hb e => by omega)
  first
    | exact ⟨rfl, ⟨false, opened_P HSS.out HSS.out.drop HP.out⟩, hB4.trans hB5⟩
    | exact ⟨rfl, .inl (opened_P HSS.out HSS.out.drop HP.out), hB4.trans hB5⟩
end Go.Proofs.Ytlnnfdjhejdgdaa

namespace Go.Proofs.Ytlnnfdjhejdgdaa
open Go.RowKit

theorem OwnB.take_ {base : Nat} {w : World} {A : Option Addr} {n c : Nat} {l : List UInt8} (h : OwnB base w A n c l) {k : Nat} (hk : k ≤ n) : OwnB base w A k c (l.take k) := by
  have hl := h.len
  refine ⟨by rw [bs_len, List.length_take]; omega, ?_⟩
  rcases h.2 with ⟨h1, h2⟩ | ⟨g, cap, cur, h1, h2, h3, h4, h5, h6, h7⟩
  · obtain ⟨rfl, _, rfl⟩ : A = none ∧ n = 0 ∧ c = 0 := by simpa using h1
    obtain rfl : k = 0 := by omega
    exact .inl ⟨rfl, rfl⟩
  · obtain ⟨rfl, rfl⟩ : A = some ⟨g, 0, none⟩ ∧ c = cap := by simpa using h1
    refine .inr ⟨g, c, cur, rfl, h2, h3, by omega, h5, h6, ?_⟩
    rw [← bs_take, ← h7, List.take_take]
    congr 1
    omega
theorem OwnB.kp_ {ok : Nat → Prop} {base : Nat} {w w' : World} {g n c : Nat} {l : List UInt8} (h : OwnB base w (some ⟨g, 0, none⟩) n c l) (hk : Kp ok w w') (hg : ok g) : OwnB base w' (some ⟨g, 0, none⟩) n c l := by
  have hlt := (World.ownsRow.lt h g rfl).2
  refine ⟨h.1, ?_⟩
  rcases h.2 with h1 | ⟨g', cap, cur, h1, h2, h3, h4⟩
  · exact .inl h1
  · obtain ⟨rfl, rfl⟩ : g = g' ∧ c = cap := by simpa using h1
    exact .inr ⟨g, c, cur, rfl, h2, (hk.block g hlt hg).trans h3, h4⟩
theorem OwnB.rdn {base : Nat} {w : World} {g n c : Nat} {l : List UInt8} (h : OwnB base w (some ⟨g, 0, none⟩) (n + 3) c (l ++ fill3)) (hl : l.length = n) (hn : n ≤ 140737488350000) (hc : n ≤ c) : RB (fun b => b = g) w (.slice (some ⟨g, 0, none⟩) n c) l := by
  have h1 := h.take_ (k := n) (by omega)
  rw [List.take_left' hl] at h1
  refine RB.mk_ h1.rd hc (by omega) fun _ a ha => ?_
  cases ha
  rfl
set_option maxRecDepth 100000 in
set_option maxHeartbeats 800000 in
/-- each byte of one's own row is another one: all else stays -/
theorem spoil_kp (base g n c : Nat) (l : List UInt8) (w : World) (hown : OwnB base w (some ⟨g, 0, none⟩) n c l) (hm : n ≤ 140737488350000) :
    Calls Try.prog 46 #[.slice (some ⟨g, 0, none⟩) n c] w fun e w' => e = .returned (.tuple #[]) ∧ Kp (fun b => ¬ b = g) w w' := by
  go_enter Try.func46, Try.ntmps46
  go_wp2
  go_loopw [2] (fun j wr => ∃ (q : Nat) (zs : List UInt8), q ≤ n ∧ j = .int .i64 (q : Int) ∧ Kp (fun b => ¬ b = g) w wr ∧ OwnB base wr (some ⟨g, 0, none⟩) n c zs) (fun j _ => n - (intOf j).toNat)
  case atStart => exact ⟨0, l, by omega, rfl, Kp.refl _ _, hown⟩
  case round =>
    obtain ⟨q, zs, hq, rfl, hb, ho⟩ := hrel
    by_cases hlt : q < n
    · obtain ⟨X, hX⟩ : ∃ X : UInt8, bits .xor .u8 ((zs.getD q 0).toNat : Int) 85 = (X.toNat : Int) := ⟨UInt8.ofNat ((zs.getD q 0).toNat ^^^ 85), by
        have h1 := (zs.getD q 0).toNat_lt
        have h2 : (zs.getD q 0).toNat ^^^ 85 < 256 := Nat.xor_lt_two_pow (n := 8) h1 (by decide)
        have h3 := u8_xor_nat (zs.getD q 0).toNat 85 h1 (by decide)
        refine h3.trans ?_
        simp only [UInt8.toNat_ofNat']
        omega⟩
      obtain ⟨g', hgg, hg, hc, hf, hs, hbs⟩ := ho.set_ (k := q) hlt X
      obtain rfl : g = g' := by simpa using hgg
      clear hgg
      obtain ⟨Y, hY⟩ : ∃ Y, Y = (zs.getD q 0) := ⟨_, rfl⟩
      rw [← hY] at hX hc
      have HX := Lib.hid hX
      clear hX hY
      go_wp2
      go_roundw
      case rel => exact ⟨q + 1, _, by omega, by go_num, hb.setCell (fun _ h => h rfl) _, by rw [HX.out]; exact hs⟩
      case measure => simp [intOf]; omega
    · go_wp2
      go_end0
      exact ⟨rfl, hb⟩
/-- a truth behind calls that change its log, and memory that has come since -/
theorem TrM.jump {B gt gd gl n : Nat} {f f' : Nat → Prop} {w w' : World} {al : List (List UInt8)} {first cut safe : Nat} {dn fell : Bool} (h : TrM B gt gd gl n f w al first cut safe dn fell) (hk : Kp (fun x => ¬ f x ∧ x < w.heap.size) w w') (hf : ∀ x, f' x → f x ∨ (w.heap.size ≤ x ∧ x < w'.heap.size)) : TrM B gt gd gl n f' w' al first cut safe dn fell := by
  obtain ⟨va, g, h1, h2, h3, h4⟩ := h.mem
  have hsz := hk.size
  have hlt := h1.lt
  have h2' := h2.monoW (okd' := fun x => g x ∧ x < w.heap.size) fun b h1 h2 => ⟨h1, h2⟩
  have hvs : ∀ x, va.ownBlock = some x → x < w.heap.size := fun x hx => (h2.lt x hx).2
  refine ⟨⟨va, fun x => g x ∧ x < w.heap.size, h1.kp hk ⟨h.fgt, hlt⟩, h2'.kp hk (fun x hx => ⟨(h3 x hx.1).1, hx.2⟩) (fun x hx => ⟨(h4 x hx).1, hvs x hx⟩), fun x hx => ⟨fun h5 => ?_, (h3 x hx.1).2⟩, fun x hx => ⟨fun h5 => ?_, (h4 x hx).2⟩⟩, h.base, fun x hx => ?_, fun hx => ?_⟩
  · rcases hf x h5 with h5 | h5
    · exact (h3 x hx.1).1 h5
    · have := hx.2; omega
  · rcases hf x h5 with h5 | h5
    · exact (h4 x hx).1 h5
    · have := hvs x hx; omega
  · have := h.base
    rcases hf x hx with h5 | h5
    · have := h.fb x h5; omega
    · omega
  · rcases hf _ hx with h5 | h5
    · exact h.fgt h5
    · omega
/-- what Append says, and leaves -/
def AppR (f : Nat → Prop) (w : World) (gl gd n T first cut : Nat) (sf us : List (List UInt8)) (b : List UInt8) (dn : Bool) (x : Int) : Prop :=
  (dn = true ∧ x = 3 ∧ LogX f w gl gd n T first cut sf us true) ∨ (dn = false ∧ x = 0 ∧ LogX f w gl gd n T first cut sf (us ++ [b]) false) ∨
  (dn = false ∧ x = 4 ∧ LogX f w gl gd n T first cut sf us false ∧ n - 2 < secSum (sf ++ us) + secN b.length) ∨ (dn = false ∧ x = 3 ∧ LogX f w gl gd n T first cut sf (us ++ [b]) true)
section
variable {f : Nat → Prop} {w w' : World} {gl gd n T first cut : Nat} {sf us : List (List UInt8)} {b : List UInt8} {dn : Bool} {x : Int}
theorem AppR.kp {ok : Nat → Prop} (h : AppR f w gl gd n T first cut sf us b dn x) (hk : Kp ok w w') (hok : ∀ y, f y → ok y) : AppR f w' gl gd n T first cut sf us b dn x := by
  rcases h with ⟨h1, h2, h3⟩ | ⟨h1, h2, h3⟩ | ⟨h1, h2, h3, h4⟩ | ⟨h1, h2, h3⟩
  · exact .inl ⟨h1, h2, h3.kp hk hok⟩
  · exact .inr (.inl ⟨h1, h2, h3.kp hk hok⟩)
  · exact .inr (.inr (.inl ⟨h1, h2, h3.kp hk hok, h4⟩))
  · exact .inr (.inr (.inr ⟨h1, h2, h3.kp hk hok⟩))
theorem append_W (h : LogX f w gl gd n T first cut sf us dn) (hc : dn = false → cut = first) (v : Value) (hrb : RB (fun x => ¬ f x) w v b) (hlen : b.length ≤ 32768) :
    Calls Try.prog 11 #[.pointer (some ⟨gl, 0, none⟩), v] w fun e w' => (∃ x : Int, e = .returned (.int .i64 x) ∧ AppR (fun x => f x ∨ (w.heap.size ≤ x ∧ x < w'.heap.size)) w' gl gd n T first cut sf us b dn x) ∧ Kp (fun x => ¬ f x) w w' := by
  cases dn
  · obtain rfl := hc rfl
    refine (append_liveX h v b hrb hlen).mono ?_
    rintro e w' ⟨⟨x, rfl, hx⟩, hK⟩
    rcases hx with ⟨rfl, h1⟩ | ⟨rfl, h1, h2⟩ | ⟨rfl, h1⟩
    · exact ⟨⟨_, rfl, .inr (.inl ⟨rfl, rfl, h1⟩)⟩, hK⟩
    · exact ⟨⟨_, rfl, .inr (.inr (.inl ⟨rfl, rfl, h1, h2⟩))⟩, hK⟩
    · exact ⟨⟨_, rfl, .inr (.inr (.inr ⟨rfl, rfl, h1⟩))⟩, hK⟩
  · refine (append_deadX h v b hrb hlen).mono ?_
    rintro e w' ⟨rfl, h1, hK⟩
    exact ⟨⟨_, rfl, .inl ⟨rfl, rfl, h1⟩⟩, hK⟩
end
end Go.Proofs.Ytlnnfdjhejdgdaa
