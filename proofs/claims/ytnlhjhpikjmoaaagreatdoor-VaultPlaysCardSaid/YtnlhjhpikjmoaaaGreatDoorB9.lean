/- The log on a calm disk, in a free set of blocks. No walk.
A log on a calm disk: contracts with all that stands on the disk; opened anew. No walk.
A fall, and what is found behind it. No walk.
Contracts: armoirelaw07.small.
Contracts: wal.Sectors, vault.sectors, fault.New of OK, fault.Wrap of nil.
Contracts: (*Vault).append, on a calm disk. -/
import Derived.Test.YtnlhjhpikjmoaaaGreatDoorW34
import Derived.Test.YtnlhjhpikjmoaaaGreatDoorV5
import Derived.Test.YtnlhjhpikjmoaaaGreatDoorV9
namespace Go.Proofs.YtnlhjhpikjmoaaaGreatDoor
open Go.RowKit
def LogF (f : Nat → Prop) (w : World) (gl gd n : Nat) (recs : List (List UInt8)) (first turn wt : Nat) : Prop :=
  ∃ l d, Both f w gl gd l d ∧ St n l d recs first turn wt
theorem LogAt.free {B : Nat} {w : World} {gl gd n : Nat} {recs : List (List UInt8)} {first turn wt : Nat} (h : LogAt B w gl gd n recs first turn wt) : LogF (fun x => B ≤ x ∧ x < w.heap.size) w gl gd n recs first turn wt := h
theorem LogF.mono {f f' : Nat → Prop} {w : World} {gl gd n : Nat} {recs : List (List UInt8)} {first turn wt : Nat} (h : LogF f w gl gd n recs first turn wt) (hm : ∀ x, f x → x < w.heap.size → f' x) : LogF f' w gl gd n recs first turn wt := by
  obtain ⟨l, d, h1, h2⟩ := h
  exact ⟨l, d, h1.mono hm, h2⟩
theorem LogF.at {f : Nat → Prop} {B : Nat} {w : World} {gl gd n : Nat} {recs : List (List UInt8)} {first turn wt : Nat} (h : LogF f w gl gd n recs first turn wt) (hm : ∀ x, f x → B ≤ x) : LogAt B w gl gd n recs first turn wt := by
  obtain ⟨l, d, h1, h2⟩ := h
  exact ⟨l, d, h1.mono fun x hx hlt => ⟨hm x hx, hlt⟩, h2⟩
theorem LogF.kp {f ok : Nat → Prop} {w w' : World} {gl gd n : Nat} {recs : List (List UInt8)} {first turn wt : Nat} (h : LogF f w gl gd n recs first turn wt) (hk : Kp ok w w') (hok : ∀ x, f x → ok x) : LogF f w' gl gd n recs first turn wt := by
  obtain ⟨l, d, h1, h2⟩ := h
  exact ⟨l, d, h1.kp hk hok, h2⟩
theorem LogF.below {f : Nat → Prop} {w w' : World} {gl gd n : Nat} {recs : List (List UInt8)} {first turn wt : Nat} (h : LogF f w gl gd n recs first turn wt) (hb : Below w.heap.size w w') : LogF f w' gl gd n recs first turn wt := by
  obtain ⟨l, d, h1, h2⟩ := h
  exact ⟨l, d, h1.below hb, h2⟩
theorem LogF.lt {f : Nat → Prop} {w : World} {gl gd n : Nat} {recs : List (List UInt8)} {first turn wt : Nat} (h : LogF f w gl gd n recs first turn wt) : f gl := by
  obtain ⟨l, d, h1, h2⟩ := h
  exact h1.glf
theorem LogF.le {f : Nat → Prop} {w : World} {gl gd n : Nat} {recs : List (List UInt8)} {first t t' x x' : Nat} (h : LogF f w gl gd n recs first t x) (ht : t ≤ t') (hx : x ≤ x') : LogF f w gl gd n recs first t' x' := by
  obtain ⟨l, d, h1, h2⟩ := h
  exact ⟨l, d, h1, ⟨h2.good, h2.end_, h2.recs, h2.first, Nat.le_trans h2.turn ht, Nat.le_trans h2.wait hx⟩⟩
end Go.Proofs.YtnlhjhpikjmoaaaGreatDoor
namespace Go.Proofs.YtnlhjhpikjmoaaaGreatDoor
open Go.RowKit
def LogU (f : Nat → Prop) (w : World) (gl gd n T first : Nat) (recs : List (List UInt8)) : Prop :=
  ∃ l d rs us, Both f w gl gd l d ∧ Up n l d T first rs us ∧ rs.map (·.2) ++ us = recs
section
variable {f : Nat → Prop} {w w' : World} {gl gd n T first : Nat} {recs : List (List UInt8)}
theorem LogU.mono {f' : Nat → Prop} (h : LogU f w gl gd n T first recs) (hm : ∀ x, f x → x < w.heap.size → f' x) : LogU f' w gl gd n T first recs := by
  obtain ⟨l, d, rs, us, h1, h2⟩ := h
  exact ⟨l, d, rs, us, h1.mono hm, h2⟩
theorem LogU.kp {ok : Nat → Prop} (h : LogU f w gl gd n T first recs) (hk : Kp ok w w') (hok : ∀ x, f x → ok x) : LogU f w' gl gd n T first recs := by
  obtain ⟨l, d, rs, us, h1, h2⟩ := h
  exact ⟨l, d, rs, us, h1.kp hk hok, h2⟩
theorem LogU.below (h : LogU f w gl gd n T first recs) (hb : Below w.heap.size w w') : LogU f w' gl gd n T first recs := by
  obtain ⟨l, d, rs, us, h1, h2⟩ := h
  exact ⟨l, d, rs, us, h1.below hb, h2⟩
theorem LogU.gl_ (h : LogU f w gl gd n T first recs) : f gl := by
  obtain ⟨l, d, rs, us, h1, h2⟩ := h
  exact h1.glf
theorem LogU.turn (h : LogU f w gl gd n T first recs) : T < 256 := by
  obtain ⟨l, d, rs, us, h1, h2, _⟩ := h
  exact h2.good.2.2.2.2.2.2.2.2
theorem first_opU (h : LogU f w gl gd n T first recs) : Calls Tryz.prog 52 #[.pointer (some ⟨gl, 0, none⟩)] w fun e w' => e = .returned (.int .u64 (first : Int)) ∧ w' = w := by
  obtain ⟨l, d, rs, us, g1, g2, rfl⟩ := h
  have := first_b g1
  rw [g2.good.2.2.2.2.1] at this
  exact this
theorem next_opU (h : LogU f w gl gd n T first recs) : Calls Tryz.prog 44 #[.pointer (some ⟨gl, 0, none⟩)] w fun e w' => e = .returned (.int .u64 ((first + recs.length : Nat) : Int)) ∧ Below w.heap.size w w' := by
  obtain ⟨l, d, rs, us, g1, g2, rfl⟩ := h
  have := next_b g1
  rw [g2.good.2.2.2.2.1, g2.good.2.2.2.1] at this
  exact this
theorem records_opU (h : LogU f w gl gd n T first recs) : Calls Tryz.prog 53 #[.pointer (some ⟨gl, 0, none⟩)] w fun e w' => (∃ v, e = .returned v ∧ RSl rBs (fun b => w.heap.size ≤ b) w' v recs) ∧ Below w.heap.size w w' := by
  obtain ⟨l, d, rs, us, g1, g2, rfl⟩ := h
  have hg := g2.good
  have := records_b g1 (by have := hg.1.sum; have := g1.ok.1.used; have := secSum_ge l.recs; omega)
  rw [hg.2.2.2.1] at this
  exact this
end
end Go.Proofs.YtnlhjhpikjmoaaaGreatDoor
namespace Go.Proofs.YtnlhjhpikjmoaaaGreatDoor
open Go.RowKit
theorem putsW_get (ring : Nat) : ∀ (l : List (List UInt8)) (at_ i : Nat) (s : List UInt8), l[i]? = some s → at_ < ring → (putsW ring at_ l)[i]? = some (2 + (at_ + i) % ring, s)
  | [], _, _, _, h, _ => by simp at h
  | x :: l, at_, 0, s, h, ha => by
    rw [List.getElem?_cons_zero] at h
    rw [putsW, List.getElem?_cons_zero, Nat.add_zero, Nat.mod_eq_of_lt ha, Option.some.inj h]
  | x :: l, at_, i + 1, s, h, ha => by
    rw [List.getElem?_cons_succ] at h
    rw [putsW, List.getElem?_cons_succ, putsW_get ring l _ i s h (Nat.mod_lt _ (by omega)), Nat.mod_add_mod, show at_ + 1 + i = at_ + (i + 1) by omega]
section
variable {n : Nat} {T first start nx : Nat} {rs : List (Nat × List UInt8)} {us : List (List UInt8)}
theorem img_crash {I : List (List UInt8)} (h : Img I n T first start nx rs us) (keep : List Int) (P : List (List UInt8)) (hP : ∀ (i : Nat) (s : List UInt8), P[i]? = some s → (secs T us)[i]? = some s) : ∀ i, i ≤ P.length →
    Img (tearI keep (putsW (n - 2) ((start + secSum (rs.map (·.2))) % (n - 2)) P) I i) n T first start nx rs us
  | 0, _ => h
  | i + 1, hi => by
    have ih := img_crash h keep P hP i (by omega)
    have hn3 := h.bas.n3
    have hm := Nat.mod_lt (start + secSum (rs.map (·.2))) (show 0 < n - 2 by omega)
    have hs : P[i]? = some P[i] := List.getElem?_eq_getElem (by omega)
    have hg := putsW_get (n - 2) P _ i _ hs hm
    rw [tearI, List.getD_eq_getElem?_getD, hg, Option.getD_some, Nat.mod_add_mod]
    exact ih.tear (hP i _ hs) (tearN keep i)
theorem Inv.crash {l : LogD} {d : DskD} (h : Inv n l d T first start nx rs us) (keep : List Int) : Img (d.crash keep).kept n T first start nx rs us := by
  have := img_crash h.img keep (secs T us) (fun _ _ h => h) (secs T us).length (Nat.le_refl _)
  unfold DskD.crash
  rw [h.wait, putsW_len]
  exact this
theorem crash_start (d : DskD) (keep : List Int) : (d.crash keep).start = { d with kept := (d.crash keep).kept, wait := [], down := false, armed := 0 } := by
  unfold DskD.start
  rw [if_pos (show (d.crash keep).down = true from rfl)]
theorem open_img {d : DskD} (hc : Calm d) (h : Img (keepW d.kept d.wait) n T first start nx rs us) (hT : T + 1 < 256) : ∃ l' d' rs' m, m ≤ us.length ∧ openL d = (l', d', 0) ∧ Up n l' d' (T + 1) first rs' [] ∧ rs'.map (·.2) = rs.map (·.2) ++ us.take m := by
  have hn3 := h.bas.n3
  have hlen : d.kept.length = n := by rw [← h.bas.len, keepW_len]
  have hs : Sees d (keepW d.kept d.wait) n := ⟨hc.down, hlen, rfl, hn3⟩
  obtain ⟨m, e, hm, hb, hf, hB, _⟩ := img_find hs h
  have hq : (rs ++ (us.take m).map fun b => (T, b)).map (·.2) = rs.map (·.2) ++ us.take m := by rw [List.map_append, snd_pairs]
  have hL : Lg (lgS T first (n - 2) start (rs.map (·.2) ++ us.take m)) T first (n - 2) start ((rs ++ (us.take m).map fun b => (T, b)).map (·.2)) := by rw [hq]; exact ⟨rfl, rfl, rfl, rfl, rfl, rfl⟩
  have hG : Good n (lgS T first (n - 2) start (rs.map (·.2) ++ us.take m)) d := ⟨hlen, hc, rfl, rfl, by have := hB.fit; rw [hq] at this; exact this⟩
  have ht := told_inv hB hL hT 0 (Nat.zero_le _) hB.f64 false d.down d.armed
  have ho : openL d = tellL (lgS T first (n - 2) start (rs.map (·.2) ++ us.take m)) d 0 := by
    unfold openL
    rw [if_neg (by rw [hc.down]; decide), hb, hf]
    rfl
  rw [ho, tell_good hG hn3]
  refine ⟨_, _, _, m, hm, rfl, ⟨⟨_, _, ht⟩, ⟨hc.down, hc.armed⟩, rfl⟩, ?_⟩
  rw [List.drop_zero, hq]
end
def LogS (f : Nat → Prop) (w : World) (gl gd n T first : Nat) (sf us : List (List UInt8)) : Prop :=
  ∃ l d rs, Both f w gl gd l d ∧ Up n l d T first rs us ∧ rs.map (·.2) = sf
section
variable {f : Nat → Prop} {w w' : World} {gl gd n T first : Nat} {sf us : List (List UInt8)}
theorem LogS.u (h : LogS f w gl gd n T first sf us) : LogU f w gl gd n T first (sf ++ us) := by
  obtain ⟨l, d, rs, h1, h2, rfl⟩ := h
  exact ⟨l, d, rs, us, h1, h2, rfl⟩
theorem LogS.mono {f' : Nat → Prop} (h : LogS f w gl gd n T first sf us) (hm : ∀ x, f x → x < w.heap.size → f' x) : LogS f' w gl gd n T first sf us := by
  obtain ⟨l, d, rs, h1, h2⟩ := h
  exact ⟨l, d, rs, h1.mono hm, h2⟩
theorem LogS.kp {ok : Nat → Prop} (h : LogS f w gl gd n T first sf us) (hk : Kp ok w w') (hok : ∀ x, f x → ok x) : LogS f w' gl gd n T first sf us := by
  obtain ⟨l, d, rs, h1, h2⟩ := h
  exact ⟨l, d, rs, h1.kp hk hok, h2⟩
theorem LogS.below (h : LogS f w gl gd n T first sf us) (hb : Below w.heap.size w w') : LogS f w' gl gd n T first sf us := by
  obtain ⟨l, d, rs, h1, h2⟩ := h
  exact ⟨l, d, rs, h1.below hb, h2⟩
theorem append_opS (h : LogS f w gl gd n T first sf us) (v : Value) (b : List UInt8) (hrb : RB (fun x => ¬ f x) w v b) (hlen : b.length ≤ 32768) (hfit : secSum (sf ++ us) + secN b.length ≤ n - 2) :
    Calls Tryz.prog 73 #[.pointer (some ⟨gl, 0, none⟩), v] w fun e w' => e = .returned (.int .i64 0) ∧ LogS (fun x => f x ∨ (w.heap.size ≤ x ∧ x < w'.heap.size)) w' gl gd n T first sf (us ++ [b]) ∧ Kp (fun x => ¬ f x) w w' := by
  obtain ⟨l, d, rs, h1, h2, rfl⟩ := h
  obtain ⟨l', d', he, hs⟩ := append_up h2 hlen hfit
  obtain ⟨hg, hn3, _, _, hfi, _, hwl, h64, _⟩ := h2.good
  refine (append_any v b h1 hrb (fun x hx => hx) (by omega) hg.sum (by rw [hfi]; exact h64) (by omega)).mono ?_
  rintro e w' ⟨rfl, hB, hk⟩
  rw [he] at hB ⊢
  exact ⟨rfl, ⟨l', d', rs, hB.mono fun x hx hlt => hx.imp_right fun h => ⟨h, hlt⟩, hs, rfl⟩, hk⟩
theorem sync_opS (h : LogS f w gl gd n T first sf us) :
    Calls Tryz.prog 62 #[.pointer (some ⟨gl, 0, none⟩)] w fun e w' => e = .returned (.int .i64 0) ∧ LogS f w' gl gd n T first (sf ++ us) [] ∧ Kp (fun x => ¬ f x) w w' := by
  obtain ⟨l, d, rs, h1, h2, rfl⟩ := h
  obtain ⟨l', d', he, hs⟩ := sync_up h2
  refine (sync_b h1).mono ?_
  rintro e w' ⟨rfl, hB, hk⟩
  rw [he] at hB ⊢
  exact ⟨rfl, ⟨l', d', _, hB, hs, by rw [List.map_append, snd_pairs]⟩, hk⟩
theorem open_newS (hn : 3 ≤ n) (h64 : n ≤ 65536) (hd : DiskR f w gd (newD n)) (hf : ∀ x, f x → x < w.heap.size) :
    Calls Tryz.prog 31 #[.pointer (some ⟨gd, 0, none⟩)] w fun e w' => (∃ gl, e = .returned (.tuple #[.pointer (some ⟨gl, 0, none⟩), .int .i64 0]) ∧ LogS (fun x => f x ∨ (w.heap.size ≤ x ∧ x < w'.heap.size)) w' gl gd n 1 0 [] []) ∧ Kp (fun x => ¬ f x) w w' := by
  obtain ⟨l, d, ho, s⟩ := new_up n hn h64
  have hop := open_any hd hf (by rw [newD_best]; show 0 + 70000 < _; omega) (by rw [newD_best]; show 0 + 1 < _; omega) (by show 0 + 1 ≤ _; omega)
  rw [ho] at hop
  refine hop.mono ?_
  rintro e w' ⟨⟨p, rfl, hp⟩, hk⟩
  obtain ⟨_, gl, rfl, hB2⟩ := hp.resolve_left fun h => h.1 rfl
  exact ⟨⟨gl, rfl, l, d, [], hB2.mono fun x hx hlt => hx.imp_right fun h => ⟨h, hlt⟩, s, rfl⟩, hk⟩
end
end Go.Proofs.YtnlhjhpikjmoaaaGreatDoor
namespace Go.Proofs.YtnlhjhpikjmoaaaGreatDoor
open Go.RowKit
def datS (l : List VEnt) : Nat := (l.map fun e => e.data.length).sum
theorem datS_take (l : List VEnt) {i : Nat} (h : i < l.length) : datS (l.take (i + 1)) = datS (l.take i) + l[i].data.length := by
  unfold datS
  rw [List.take_succ_eq_append_getElem h, List.map_append, List.sum_append]
  simp
set_option maxRecDepth 100000 in
set_option maxHeartbeats 3200000 in
theorem small_any {ok : Nat → Prop} {w : World} {vsd ves : Value} {l : VLog} (h : VLm ok w vsd ves l) :
    Calls Tryz.prog 8 #[.agg (vlCs l vsd ves)] w fun e w' => (∃ b : Bool, e = .returned (.bool b) ∧ (b = true → l.es.length < 400 ∧ l.sd.length + datS l.es < 131072)) ∧ Below w.heap.size w w' := by
  obtain ⟨As, cs, rfl, _, hsl⟩ := h.sd.form
  obtain ⟨Ae, ce, rfl, hce, hel⟩ := h.es.form
  obtain ⟨m, hm⟩ : ∃ m, m = l.es.length := ⟨_, rfl⟩
  obtain ⟨ms, hms⟩ : ∃ ms, ms = l.sd.length := ⟨_, rfl⟩
  have hes := h.es
  rw [← hm] at hes hce hel
  have hm40 : m * 40 ≤ 140737488351232 := hel
  have hs1 : ms * 1 ≤ 140737488351232 := by rw [hms]; exact hsl
  rw [← hm, ← hms]
  have HM := Lib.hid hm
  have HES := Lib.hid hes
  have hkb := Blk.new w 30 (vlCs l (.slice As ms cs) (.slice Ae m ce))
  have hal : Below w.heap.size w (w.alloc (.cells (vlCs l (.slice As ms cs) (.slice Ae m ce)) 30)) := (Below.refl _ _).alloc (Nat.le_refl _) _
  have HKB := Lib.hid hkb
  have HAL := Lib.hid hal
  clear h hkb hal hm hms hsl hes hel
  unfold vlCs at *
  go_enter Tryz.func8, Tryz.ntmps8
  go_upto_region 3 with fail
  obtain ⟨wb, hwb⟩ : ∃ wb, wb = w.heap.size := ⟨_, rfl⟩
  refine name_world (fun w1 => Blk w1 wb 30 #[.int .u64 (l.term : Int), .int .i64 l.vote, .int .u64 (l.si : Int), .int .u64 (l.st : Int), .slice As ms cs, .slice Ae m ce] ∧ Below w.heap.size w w1 ∧ wb < w1.heap.size) ⟨by rw [hwb]; exact HKB.out, HAL.out, by rw [hwb]; simp⟩ ?_
  rintro w1 ⟨hb1, hB1, hlt1⟩
  rw [← hwb]
  have HWB := Lib.hid hwb
  have c5 : w1.cell? ⟨wb, 5, none⟩ = some (.slice Ae m ce) := hb1.cell 5
  have HB1 := Lib.hid hb1
  clear HKB HAL hwb hb1
  go_loopw [3, 4] (fun vs vi wr => ∃ i s : Nat, i ≤ m ∧ i ≤ 400 ∧ vi = .int .i64 (i : Int) ∧ vs = .int .i64 (s : Int) ∧ wr = w1 ∧ s ≤ (i + 1) * 140737488351232 ∧ Hid (s = ms + datS (l.es.take i))) (fun _ vi _ => 400 - (intOf vi).toNat)
  case atStart => exact ⟨0, ms, by omega, by omega, rfl, rfl, rfl, by omega, Lib.hid (by simp [datS])⟩
  case round =>
    obtain ⟨i, s, hi, hi4, rfl, rfl, hwr, hs, HP⟩ := hrel
    rw [hwr]
    clear hwr
    by_cases hin : i < m ∧ i < 400
    · obtain ⟨hlt, hlt4⟩ := hin
      have z1 : decide ((i : Int) < (m : Int)) = true := decide_eq_true (by omega)
      have z2 : decide ((i : Int) < 400) = true := decide_eq_true (by omega)
      have z3 : decide (i < m) = true := decide_eq_true hlt
      have z4 : decide (i < 400) = true := decide_eq_true hlt4
      have hil : i < l.es.length := by rw [← HM.out]; exact hlt
      obtain ⟨b5, off5, c5', cs5, hv5, _, ⟨vd, rfl, hvd, ht64, hi64⟩, hcell5⟩ := (HES.out.below hB1).at_ hil
      rw [← HM.out] at hv5
      obtain ⟨rfl, rfl⟩ : Ae = some ⟨b5, off5, none⟩ ∧ ce = c5' := by simpa using hv5
      obtain ⟨A6, c6, rfl, hf6, hf7⟩ := hvd.form
      obtain ⟨dl, hdl⟩ : ∃ dl, dl = l.es[i].data.length := ⟨_, rfl⟩
      rw [← hdl] at hcell5
      have hf8 : dl * 1 ≤ 140737488351232 := by rw [hdl]; exact hf7
      have q2 : w1.cell? ⟨b5, off5 + i * 3 + 2, none⟩ = some (.slice A6 dl c6) := by have := hcell5 2 _ rfl; rwa [Nat.add_assoc]
      have HQ := Lib.hid (show s + dl = ms + datS (l.es.take (i + 1)) by rw [datS_take _ hil, HP.out, hdl]; omega)
      clear hcell5 hv5 hvd hf6 hf7 hdl ht64 hi64 HP
      go_wp2
      go_roundw
      case rel => exact ⟨i + 1, s + dl, by omega, by omega, by go_num, by go_num, by first | rfl | trivial, by omega, HQ⟩
      case measure => simp [intOf]; omega
    · have hcond : (decide ((i : Int) < (m : Int)) = true ∧ decide ((i : Int) < 400) = false ∧ decide (i < m) = true ∧ decide (i < 400) = false ∧ 400 ≤ m) ∨ (decide ((i : Int) < (m : Int)) = false ∧ decide (i < m) = false ∧ i = m) := by
        by_cases h1 : i < m
        · exact .inl ⟨decide_eq_true (by omega), decide_eq_false (by omega), decide_eq_true h1, decide_eq_false (by omega), by omega⟩
        · exact .inr ⟨decide_eq_false (by omega), decide_eq_false h1, by omega⟩
      rcases hcond with ⟨z1, z2, z3, z4, h400⟩ | ⟨z1, z3, him⟩
      · have y1 : decide ((m : Int) < 400) = false := decide_eq_false (by omega)
        have y2 : decide (m < 400) = false := decide_eq_false (by omega)
        go_wp2
        go_ret
        exact ⟨⟨false, rfl, fun h => by cases h⟩, hB1⟩
      · by_cases hm4 : m < 400
        · have y1 : decide ((m : Int) < 400) = true := decide_eq_true (by omega)
          have y2 : decide (m < 400) = true := decide_eq_true hm4
          have HF := Lib.hid (show s = ms + datS l.es by rw [HP.out, List.take_of_length_le (by rw [← HM.out]; omega)])
          have HI := Lib.hid him
          clear HP him
          by_cases hs2 : s < 131072
          · have x1 : decide ((s : Int) < 131072) = true := decide_eq_true (by omega)
            have x2 : decide (s < 131072) = true := decide_eq_true hs2
            go_wp2
            go_ret
            exact ⟨⟨true, rfl, fun _ => ⟨hm4, by rw [← HF.out]; exact hs2⟩⟩, hB1⟩
          · have x1 : decide ((s : Int) < 131072) = false := decide_eq_false (by omega)
            have x2 : decide (s < 131072) = false := decide_eq_false hs2
            go_wp2
            go_ret
            exact ⟨⟨false, rfl, fun h => by cases h⟩, hB1⟩
        · have y1 : decide ((m : Int) < 400) = false := decide_eq_false (by omega)
          have y2 : decide (m < 400) = false := decide_eq_false hm4
          have HI := Lib.hid him
          clear him
          go_wp2
          go_ret
          exact ⟨⟨false, rfl, fun h => by cases h⟩, hB1⟩
end Go.Proofs.YtnlhjhpikjmoaaaGreatDoor
namespace Go.Proofs.YtnlhjhpikjmoaaaGreatDoor
open Go.RowKit
theorem sectorsW_any (n : Nat) (hn : n ≤ 1000000000) (w : World) : Calls Tryz.prog 72 #[.int .i64 (n : Int)] w fun e w' => e = .returned (.int .i64 (secN n : Int)) ∧ w' = w := by
  go_enter Tryz.func72, Tryz.ntmps72
  go_wp2_with fail
  refine (sectors_any n hn w).mono ?_
  rintro e w1 ⟨rfl, rfl⟩
  go_wp2
  go_ret
  exact ⟨rfl, rfl⟩
theorem secSum_tk (l : List (List UInt8)) {i : Nat} (h : i < l.length) : secSum (l.take (i + 1)) = secSum (l.take i) + secN l[i].length := by
  rw [List.take_succ_eq_append_getElem h, secSum_append]
  simp [secSum]
set_option maxRecDepth 100000 in
set_option maxHeartbeats 1600000 in
theorem vsectors_any {ok : Nat → Prop} (u : Value) (l : List (List UInt8)) (w : World) (hr : RSl rBs ok w u l) (hl : l.length ≤ 1000000) (hs : ∀ r ∈ l, r.length ≤ 32768) :
    Calls Tryz.prog 42 #[u] w fun e w' => e = .returned (.int .i64 (secSum l : Int)) ∧ w' = w := by
  obtain ⟨A, c, rfl, hc, hsl⟩ := hr.form
  obtain ⟨n, hn⟩ : ∃ n, n = l.length := ⟨_, rfl⟩
  rw [← hn] at hr hc hl hsl ⊢
  have HR := Lib.hid hr
  have HN := Lib.hid hn
  have HS := Lib.hid hs
  clear hr hn hsl hs
  go_enter Tryz.func42, Tryz.ntmps42
  go_upto_region 3 with fail
  go_loopw [3, 8] (fun vs vi wr => ∃ i s : Nat, i ≤ n ∧ vi = .int .i64 (i : Int) ∧ vs = .int .i64 (s : Int) ∧ s ≤ 1000 * i ∧ wr = w ∧ Hid (s = secSum (l.take i))) (fun _ vi _ => n - (intOf vi).toNat)
  case atStart => exact ⟨0, 0, by omega, rfl, rfl, by omega, rfl, Lib.hid rfl⟩
  case round =>
    obtain ⟨i, s, hi, rfl, rfl, hsb, hwr, HP⟩ := hrel
    rw [hwr]
    clear hwr
    by_cases hlt : i < n
    · have hil : i < l.length := by rw [← HN.out]; exact hlt
      obtain ⟨b5, off5, c5, cs5, hv5, _, ⟨v5, rfl, hr5⟩, hcell5⟩ := HR.out.at_ hil
      rw [← HN.out] at hv5
      obtain ⟨rfl, rfl⟩ : A = some ⟨b5, off5, none⟩ ∧ c = c5 := by simpa using hv5
      obtain ⟨A5, d5, rfl, hf5⟩ := hr5.form
      obtain ⟨k, hk⟩ : ∃ k, k = l[i].length := ⟨_, rfl⟩
      rw [← hk] at hcell5
      have q5 : w.cell? ⟨b5, off5 + i * 1, none⟩ = some (.slice A5 k d5) := hcell5 0 _ rfl
      have q6 : w.cell? ⟨b5, off5 + i, none⟩ = some (.slice A5 k d5) := by simpa using q5
      have hk3 : k ≤ 32768 := by rw [hk]; exact HS.out _ (List.getElem_mem _)
      have hsec : secN k ≤ 1000 := by unfold secN; omega
      have HQ := Lib.hid (show s + secN k = secSum (l.take (i + 1)) by rw [secSum_tk _ hil, HP.out, hk])
      have HC := Lib.hid (sectorsW_any k (by omega) w)
      obtain ⟨sk, hsk⟩ : ∃ sk, sk = secN k := ⟨_, rfl⟩
      rw [← hsk] at HQ HC hsec
      clear hcell5 hv5 hf5 hr5 hk hsk HP
      go_wp2_with fail
      refine HC.out.mono ?_
      rintro e w1 ⟨rfl, rfl⟩
      go_wp2
      go_roundw
      case rel => exact ⟨i + 1, s + sk, by omega, by go_num, by go_num, by omega, by first | rfl | trivial, HQ⟩
      case measure => simp [intOf]; omega
    · obtain rfl : i = n := by omega
      have HQ := Lib.hid (show s = secSum l by rw [HP.out, List.take_of_length_le (by rw [← HN.out]; omega)])
      clear HP
      go_wp2
      go_ret
      exact ⟨by rw [HQ.out]; rfl, rfl⟩
theorem faultNew_ok (v : Value) (w : World) : Calls Tryz.prog 45 #[.int .i64 0, v] w fun e w' => e = .returned .nilIface ∧ w' = w := by
  go_enter Tryz.func45, Tryz.ntmps45
  go_wp2
  go_ret
  exact ⟨rfl, rfl⟩
end Go.Proofs.YtnlhjhpikjmoaaaGreatDoor
namespace Go.Proofs.YtnlhjhpikjmoaaaGreatDoor
open Go.RowKit
theorem Kp.trans_new {f : Nat → Prop} {w w1 w2 : World} (h : Kp (fun x => ¬ f x) w w1) (h2 : Kp (fun x => ¬ (f x ∨ (w.heap.size ≤ x ∧ x < w1.heap.size))) w1 w2) : Kp (fun x => ¬ f x) w w2 :=
  ⟨h2.os.trans h.os, h2.tape.trans h.tape, h2.output.trans h.output, Nat.le_trans h.size h2.size, fun k hk hf => (h2.block k (Nat.lt_of_lt_of_le hk h.size) fun hh => hh.elim hf fun hh => by omega).trans (h.block k hk hf)⟩
theorem asNil (t : Value) (w : World) : Calls Tryz.prog 37 #[.nilIface, t] w fun e w' => e = .returned (.bool false) ∧ w' = w := by
  go_enter Tryz.func37, Tryz.ntmps37
  go_wp2
  go_ret
  exact ⟨rfl, rfl⟩
set_option maxRecDepth 100000 in
set_option maxHeartbeats 3200000 in
theorem vappend_any {ok : Nat → Prop} {f : Nat → Prop} {w : World} {gv gl gd n T first : Nat} {recs : List (List UInt8)} (hv : w.cell? ⟨gv, 0, none⟩ = some (.pointer (some ⟨gl, 0, none⟩))) (hgf : ¬ f gv) (h : LogS f w gl gd n T first recs []) (u : Value) (l : List (List UInt8)) (hr : RSl rBs ok w u l) (hok : ∀ b, ok b → ¬ f b) (hfb : ∀ x, f x → x < w.heap.size)
    (hl : l.length ≤ 1000000) (hs : ∀ r ∈ l, r.length ≤ 32768) (hfit : secSum (recs ++ l) ≤ n - 2) :
    Calls Tryz.prog 43 #[.pointer (some ⟨gv, 0, none⟩), u] w fun e w' => e = .returned .nilIface ∧ LogS (fun x => f x ∨ (w.heap.size ≤ x ∧ x < w'.heap.size)) w' gl gd n T first (recs ++ l) [] ∧ Kp (fun x => ¬ f x) w w' := by
  have hr := hr.mono (by decide) (ok' := fun b => ¬ f b ∧ b < w.heap.size) fun b h1 h2 => ⟨hok b h1, h2⟩
  obtain ⟨A, c, rfl, hc, hsl⟩ := hr.form
  obtain ⟨m, hm⟩ : ∃ m, m = l.length := ⟨_, rfl⟩
  rw [← hm] at hr hc hl hsl ⊢
  have HR := Lib.hid hr
  have HM := Lib.hid hm
  have HS := Lib.hid hs
  have HF := Lib.hid hfit
  have HN := Lib.hid (next_opU h.u)
  have HL := Lib.hid h
  have HV := Lib.hid hv
  have hlt := World.block_lt_of_cell? w _ hv
  clear hr hm hsl hs hfit h hok
  go_enter Tryz.func43, Tryz.ntmps43
  go_wp2_with fail
  refine HN.out.mono ?_
  rintro e w1 ⟨rfl, hB1⟩
  clear hv HN
  go_upto_region 4 with fail
  go_loopw [6, 17] (fun ve vi wr => ∃ i : Nat, i ≤ m ∧ vi = .int .i64 (i : Int) ∧ ve = .nilIface ∧ w.heap.size ≤ wr.heap.size ∧ Hid (LogS (fun x => f x ∨ (w.heap.size ≤ x ∧ x < wr.heap.size)) wr gl gd n T first recs (l.take i) ∧ Kp (fun x => ¬ f x) w wr)) (fun _ vi _ => m - (intOf vi).toNat)
  case atStart =>
    refine ⟨0, by omega, rfl, rfl, hB1.size, Lib.hid ⟨?_, .of_below hB1⟩⟩
    exact (HL.out.below hB1).mono fun x hx _ => .inl hx
  case round =>
    obtain ⟨i, hi, rfl, rfl, hzr, HP⟩ := hrel
    by_cases hlt2 : i < m
    · have hil : i < l.length := by rw [← HM.out]; exact hlt2
      obtain ⟨b5, off5, c5, cs5, hv5, _, ⟨v5, rfl, hr5⟩, hcell5⟩ := (HR.out.kp (HP.out.2.mono fun b hb => hb.1)).at_ hil
      rw [← HM.out] at hv5
      obtain ⟨rfl, rfl⟩ : A = some ⟨b5, off5, none⟩ ∧ c = c5 := by simpa using hv5
      obtain ⟨A5, d5, rfl, hf5⟩ := hr5.form
      obtain ⟨r, hre⟩ : ∃ r, r = l[i] := ⟨_, rfl⟩
      rw [← hre] at hcell5 hr5 hf5
      have hr3 : r.length ≤ 32768 := by rw [hre]; exact HS.out _ (List.getElem_mem _)
      have hvr : wr.cell? ⟨gv, 0, none⟩ = some (.pointer (some ⟨gl, 0, none⟩)) := (HP.out.2.cell (p := ⟨gv, 0, none⟩) hgf HV.out)
      have hfit2 : secSum (recs ++ l.take i) + secN r.length ≤ n - 2 := by
        have h1 := HF.out
        have h2 := secSum_tk l hil
        have h3 : secSum (l.take (i + 1)) ≤ secSum l := by
          conv => rhs; rw [← List.take_append_drop (i + 1) l, secSum_append]
          omega
        rw [secSum_append] at h1 ⊢
        rw [hre]
        omega
      have HAP := Lib.hid (append_opS HP.out.1 _ r (hr5.mono (by decide) fun b hb hlt h => h.elim hb.1 fun h => by omega) hr3 hfit2)
      obtain ⟨k, hk⟩ : ∃ k, k = r.length := ⟨_, rfl⟩
      rw [← hk] at hcell5 HAP
      have q5 : wr.cell? ⟨b5, off5 + i * 1, none⟩ = some (.slice A5 k d5) := hcell5 0 _ rfl
      have q6 : wr.cell? ⟨b5, off5 + i, none⟩ = some (.slice A5 k d5) := by simpa using q5
      have HRE := Lib.hid hre
      clear hcell5 hv5 hf5 hr5 hk hre hfit2
      go_wp2_with fail
      refine HAP.out.mono ?_
      rintro e w3 ⟨rfl, hL3, hK3⟩
      have hz3 := hK3.size
      have HQ := Lib.hid (show LogS (fun x => f x ∨ (w.heap.size ≤ x ∧ x < w3.heap.size)) w3 gl gd n T first recs (l.take (i + 1)) ∧ Kp (fun x => ¬ f x) w w3 by
        refine ⟨?_, HP.out.2.trans_new hK3⟩
        rw [List.take_succ_eq_append_getElem hil, ← HRE.out]
        exact hL3.mono fun x hx _ => hx.elim (fun hx => hx.imp_right fun hx => by omega) fun hx => .inr (by omega))
      clear hL3 hK3 HAP HP q5 q6 hvr
      go_wp2_with fail
      refine (faultNew_ok _ _).mono ?_
      rintro e w4 ⟨rfl, rfl⟩
      go_wp2
      go_roundw
      case rel => exact ⟨i + 1, by omega, by go_num, rfl, by omega, HQ⟩
      case measure => simp [intOf]; omega
    · obtain rfl : i = m := by omega
      have hvr : wr.cell? ⟨gv, 0, none⟩ = some (.pointer (some ⟨gl, 0, none⟩)) := (HP.out.2.cell (p := ⟨gv, 0, none⟩) hgf HV.out)
      have HSY := Lib.hid (sync_opS HP.out.1)
      go_wp2_with fail
      refine HSY.out.mono ?_
      rintro e w3 ⟨rfl, hL3, hK3⟩
      have HQ := Lib.hid (show LogS (fun x => f x ∨ (w.heap.size ≤ x ∧ x < w3.heap.size)) w3 gl gd n T first (recs ++ l) [] ∧ Kp (fun x => ¬ f x) w w3 by
        refine ⟨?_, HP.out.2.trans_new hK3⟩
        have hz3 := hK3.size
        rw [List.take_of_length_le (by rw [← HM.out]; omega)] at hL3
        exact hL3.mono fun x hx _ => hx.imp_right fun hx => by omega)
      clear hL3 hK3 HSY HP hvr
      go_wp2_with fail
      refine (faultNew_ok _ _).mono ?_
      rintro e w4 ⟨rfl, rfl⟩
      go_wp2_with fail
      refine (asNil _ _).mono ?_
      rintro e w5 ⟨rfl, rfl⟩
      go_wp2
      go_ret
      have hal : ∀ o : Obj, Below w4.heap.size w4 (w4.alloc o) := fun o => (Below.refl _ _).alloc (Nat.le_refl _) o
      exact ⟨rfl, (HQ.out.1.below (hal _)).mono fun x hx _ => hx.imp_right fun hx => by simp; omega, HQ.out.2.trans (.of_below (hal _))⟩
end Go.Proofs.YtnlhjhpikjmoaaaGreatDoor
