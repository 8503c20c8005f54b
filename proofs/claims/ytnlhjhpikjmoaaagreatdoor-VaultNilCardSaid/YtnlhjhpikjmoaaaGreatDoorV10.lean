/- The log on a calm disk, in a free set of blocks. No walk.
A log on a calm disk: contracts with all that stands on the disk; opened anew. No walk.
A fall, and what is found behind it. No walk. -/
import Derived.Test.YtnlhjhpikjmoaaaGreatDoorW34
import Derived.Test.YtnlhjhpikjmoaaaGreatDoorV5
import Derived.Test.YtnlhjhpikjmoaaaGreatDoorV9
namespace Go.Proofs.YtnlhjhpikjmoaaaGreatDoor
open Go.RowKit

def LogF (f : Nat → Prop) (w : World) (gl gd n : Nat) (recs : List (List UInt8)) (first turn wt : Nat) : Prop :=
  ∃ l d, Both f w gl gd l d ∧ St n l d recs first turn wt
theorem LogAt.free {B : Nat} {w : World} {gl gd n : Nat} {recs : List (List UInt8)} {first turn wt : Nat} (h : LogAt B w gl gd n recs first turn wt) : LogF (fun x => B ≤ x ∧ x < w.heap.size) w gl gd n recs first turn wt := h
theorem LogF.mono {f f' : Nat → Prop} {w : World} {gl gd n : Nat} {recs : List (List UInt8)} {first turn wt : Nat} (h : LogF f w gl gd n recs first turn wt) (hm : ∀ x, f x → x < w.heap.size → f' x) : LogF f' w gl gd n recs first turn wt := by
  obtain ⟨l, d, h1, h2⟩ := h
  exact ⟨l, d, h1.mono hm, h2⟩
theorem LogF.at {f : Nat → Prop} {B : Nat} {w : World} {gl gd n : Nat} {recs : List (List UInt8)} {first turn wt : Nat} (h : LogF f w gl gd n recs first turn wt) (hm : ∀ x, f x → B ≤ x) : LogAt B w gl gd n recs first turn wt := by
  obtain ⟨l, d, h1, h2⟩ := h
  exact ⟨l, d, h1.mono fun x hx hlt => ⟨hm x hx, hlt⟩, h2⟩
theorem LogF.kp {f ok : Nat → Prop} {w w' : World} {gl gd n : Nat} {recs : List (List UInt8)} {first turn wt : Nat} (h : LogF f w gl gd n recs first turn wt) (hk : Kp ok w w') (hok : ∀ x, f x → ok x) : LogF f w' gl gd n recs first turn wt := by
  obtain ⟨l, d, h1, h2⟩ := h
  exact ⟨l, d, h1.kp hk hok, h2⟩
theorem LogF.below {f : Nat → Prop} {w w' : World} {gl gd n : Nat} {recs : List (List UInt8)} {first turn wt : Nat} (h : LogF f w gl gd n recs first turn wt) (hb : Below w.heap.size w w') : LogF f w' gl gd n recs first turn wt := by
  obtain ⟨l, d, h1, h2⟩ := h
  exact ⟨l, d, h1.below hb, h2⟩
theorem LogF.lt {f : Nat → Prop} {w : World} {gl gd n : Nat} {recs : List (List UInt8)} {first turn wt : Nat} (h : LogF f w gl gd n recs first turn wt) : f gl := by
  obtain ⟨l, d, h1, h2⟩ := h
  exact h1.glf
theorem LogF.le {f : Nat → Prop} {w : World} {gl gd n : Nat} {recs : List (List UInt8)} {first t t' x x' : Nat} (h : LogF f w gl gd n recs first t x) (ht : t ≤ t') (hx : x ≤ x') : LogF f w gl gd n recs first t' x' := by
  obtain ⟨l, d, h1, h2⟩ := h
  exact ⟨l, d, h1, ⟨h2.good, h2.end_, h2.recs, h2.first, Nat.le_trans h2.turn ht, Nat.le_trans h2.wait hx⟩⟩
section
variable {f : Nat → Prop} {w w0 : World} {gl gd n : Nat} {recs : List (List UInt8)} {first turn wt : Nat}
theorem append_opF (hn : 3 ≤ n) (h : LogF f w gl gd n recs first turn wt) (v : Value) (b : List UInt8) (hrb : RB (fun x => ¬ f x) w v b) (hlen : b.length ≤ 32768) (hfit : secSum recs + secN b.length ≤ n - 2) (hf : first + 70000 < 18446744073709551616) (hw : wt + 1000 ≤ 1000000000) :
    Calls Tryz.prog 73 #[.pointer (some ⟨gl, 0, none⟩), v] w fun e w' => e = .returned (.int .i64 0) ∧ LogF (fun x => f x ∨ w.heap.size ≤ x) w' gl gd n (recs ++ [b]) first turn (wt + secN b.length) ∧ Kp (fun x => ¬ f x) w w' := by
  obtain ⟨l, d, h1, h2⟩ := h
  obtain ⟨l', d', he, hs⟩ := append_st hn h2 hlen hfit
  refine (append_any v b h1 hrb (fun x hx => hx) (by omega) h2.good.sum (by rw [h2.first]; exact hf) (by have := h2.wait; omega)).mono ?_
  rintro e w' ⟨rfl, hB, hk⟩
  rw [he] at hB ⊢
  exact ⟨rfl, ⟨l', d', hB, hs⟩, hk⟩
theorem sync_opF (h : LogF f w gl gd n recs first turn wt) :
    Calls Tryz.prog 62 #[.pointer (some ⟨gl, 0, none⟩)] w fun e w' => e = .returned (.int .i64 0) ∧ LogF f w' gl gd n recs first turn wt ∧ Kp (fun x => ¬ f x) w w' := by
  obtain ⟨l, d, h1, h2⟩ := h
  obtain ⟨l', d', he, hs⟩ := sync_st h2
  refine (sync_b h1).mono ?_
  rintro e w' ⟨rfl, hB, hk⟩
  rw [he] at hB ⊢
  exact ⟨rfl, ⟨l', d', hB, hs⟩, hk⟩
theorem cut_opF (hn : 3 ≤ n) (h : LogF f w gl gd n recs first turn wt) (k : Nat) (h1 : first ≤ k) (h2 : k ≤ first + recs.length) (hk : k < 18446744073709551616) (ht : turn + 1 < 18446744073709551616) (hw : wt + 1 ≤ 1000000000) :
    Calls Tryz.prog 36 #[.pointer (some ⟨gl, 0, none⟩), .int .u64 (k : Int)] w fun e w' => e = .returned (.int .i64 0) ∧ LogF (fun x => f x ∨ w.heap.size ≤ x) w' gl gd n (recs.drop (k - first)) k (turn + 1) wt ∧ Kp (fun x => ¬ f x) w w' := by
  obtain ⟨l, d, g1, g2⟩ := h
  obtain ⟨l', d', he, hs⟩ := cut_st hn g2 h1 h2
  refine (cut_any k g1 hk g2.good.sum (by have := g2.turn; omega) (by have := g2.wait; omega)).mono ?_
  rintro e w' ⟨rfl, hB, hk⟩
  rw [he] at hB ⊢
  exact ⟨rfl, ⟨l', d', hB, hs⟩, hk⟩
end
end Go.Proofs.YtnlhjhpikjmoaaaGreatDoor

namespace Go.Proofs.YtnlhjhpikjmoaaaGreatDoor
open Go.RowKit

/-- a log that is up on a calm disk of n sectors, in blocks of f -/
def LogU (f : Nat → Prop) (w : World) (gl gd n T first : Nat) (recs : List (List UInt8)) : Prop :=
  ∃ l d rs us, Both f w gl gd l d ∧ Up n l d T first rs us ∧ rs.map (·.2) ++ us = recs
section
variable {f : Nat → Prop} {w w' : World} {gl gd n T first : Nat} {recs : List (List UInt8)}
theorem LogU.mono {f' : Nat → Prop} (h : LogU f w gl gd n T first recs) (hm : ∀ x, f x → x < w.heap.size → f' x) : LogU f' w gl gd n T first recs := by
  obtain ⟨l, d, rs, us, h1, h2⟩ := h
  exact ⟨l, d, rs, us, h1.mono hm, h2⟩
theorem LogU.kp {ok : Nat → Prop} (h : LogU f w gl gd n T first recs) (hk : Kp ok w w') (hok : ∀ x, f x → ok x) : LogU f w' gl gd n T first recs := by
  obtain ⟨l, d, rs, us, h1, h2⟩ := h
  exact ⟨l, d, rs, us, h1.kp hk hok, h2⟩
theorem LogU.below (h : LogU f w gl gd n T first recs) (hb : Below w.heap.size w w') : LogU f w' gl gd n T first recs := by
  obtain ⟨l, d, rs, us, h1, h2⟩ := h
  exact ⟨l, d, rs, us, h1.below hb, h2⟩
theorem LogU.gl_ (h : LogU f w gl gd n T first recs) : f gl := by
  obtain ⟨l, d, rs, us, h1, h2⟩ := h
  exact h1.glf
theorem LogU.turn (h : LogU f w gl gd n T first recs) : T < 256 := by
  obtain ⟨l, d, rs, us, h1, h2, _⟩ := h
  exact h2.good.2.2.2.2.2.2.2.2
theorem append_opU (h : LogU f w gl gd n T first recs) (v : Value) (b : List UInt8) (hrb : RB (fun x => ¬ f x) w v b) (hlen : b.length ≤ 32768) (hfit : secSum recs + secN b.length ≤ n - 2) :
    Calls Tryz.prog 73 #[.pointer (some ⟨gl, 0, none⟩), v] w fun e w' => e = .returned (.int .i64 0) ∧ LogU (fun x => f x ∨ (w.heap.size ≤ x ∧ x < w'.heap.size)) w' gl gd n T first (recs ++ [b]) ∧ Kp (fun x => ¬ f x) w w' := by
  obtain ⟨l, d, rs, us, h1, h2, rfl⟩ := h
  obtain ⟨l', d', he, hs⟩ := append_up h2 hlen hfit
  obtain ⟨hg, hn3, _, _, hfi, _, hwl, h64, _⟩ := h2.good
  refine (append_any v b h1 hrb (fun x hx => hx) (by omega) hg.sum (by rw [hfi]; exact h64) (by omega)).mono ?_
  rintro e w' ⟨rfl, hB, hk⟩
  rw [he] at hB ⊢
  exact ⟨rfl, ⟨l', d', rs, us ++ [b], hB.mono fun x hx hlt => hx.imp_right fun h => ⟨h, hlt⟩, hs, by rw [List.append_assoc]⟩, hk⟩
theorem sync_opU (h : LogU f w gl gd n T first recs) :
    Calls Tryz.prog 62 #[.pointer (some ⟨gl, 0, none⟩)] w fun e w' => e = .returned (.int .i64 0) ∧ LogU f w' gl gd n T first recs ∧ Kp (fun x => ¬ f x) w w' := by
  obtain ⟨l, d, rs, us, h1, h2, rfl⟩ := h
  obtain ⟨l', d', he, hs⟩ := sync_up h2
  refine (sync_b h1).mono ?_
  rintro e w' ⟨rfl, hB, hk⟩
  rw [he] at hB ⊢
  exact ⟨rfl, ⟨l', d', _, _, hB, hs, by rw [List.map_append, snd_pairs, List.append_nil]⟩, hk⟩
theorem cut_opU (h : LogU f w gl gd n T first recs) (hT : T + 1 < 256) (k : Nat) (h1 : first ≤ k) (h2 : k ≤ first + recs.length) (hk : k + 70000 < 18446744073709551616) :
    Calls Tryz.prog 36 #[.pointer (some ⟨gl, 0, none⟩), .int .u64 (k : Int)] w fun e w' => e = .returned (.int .i64 0) ∧ (∃ T', T' ≤ T + 1 ∧ LogU (fun x => f x ∨ (w.heap.size ≤ x ∧ x < w'.heap.size)) w' gl gd n T' k (recs.drop (k - first))) ∧ Kp (fun x => ¬ f x) w w' := by
  obtain ⟨l, d, rs, us, g1, g2, rfl⟩ := h
  obtain ⟨l', d', T', rs', he, hT', hs, hr⟩ := cut_up g2 hT h1 h2 hk
  obtain ⟨hg, hn3, _, _, hfi, htu, hwl, h64, _⟩ := g2.good
  refine (cut_any k g1 (by omega) hg.sum (by omega) (by omega)).mono ?_
  rintro e w' ⟨rfl, hB, hk⟩
  rw [he] at hB ⊢
  exact ⟨rfl, ⟨T', hT', l', d', rs', [], hB.mono fun x hx hlt => hx.imp_right fun h => ⟨h, hlt⟩, hs, by rw [List.append_nil, hr]⟩, hk⟩
theorem first_opU (h : LogU f w gl gd n T first recs) : Calls Tryz.prog 52 #[.pointer (some ⟨gl, 0, none⟩)] w fun e w' => e = .returned (.int .u64 (first : Int)) ∧ w' = w := by
  obtain ⟨l, d, rs, us, g1, g2, rfl⟩ := h
  have := first_b g1
  rw [g2.good.2.2.2.2.1] at this
  exact this
theorem next_opU (h : LogU f w gl gd n T first recs) : Calls Tryz.prog 44 #[.pointer (some ⟨gl, 0, none⟩)] w fun e w' => e = .returned (.int .u64 ((first + recs.length : Nat) : Int)) ∧ Below w.heap.size w w' := by
  obtain ⟨l, d, rs, us, g1, g2, rfl⟩ := h
  have := next_b g1
  rw [g2.good.2.2.2.2.1, g2.good.2.2.2.1] at this
  exact this
theorem records_opU (h : LogU f w gl gd n T first recs) : Calls Tryz.prog 53 #[.pointer (some ⟨gl, 0, none⟩)] w fun e w' => (∃ v, e = .returned v ∧ RSl rBs (fun b => w.heap.size ≤ b) w' v recs) ∧ Below w.heap.size w w' := by
  obtain ⟨l, d, rs, us, g1, g2, rfl⟩ := h
  have hg := g2.good
  have := records_b g1 (by have := hg.1.sum; have := g1.ok.1.used; have := secSum_ge l.recs; omega)
  rw [hg.2.2.2.1] at this
  exact this
/-- Open of a new disk -/
theorem open_newU (hn : 3 ≤ n) (h64 : n ≤ 65536) (hd : DiskR f w gd (newD n)) (hf : ∀ x, f x → x < w.heap.size) :
    Calls Tryz.prog 31 #[.pointer (some ⟨gd, 0, none⟩)] w fun e w' => (∃ gl, e = .returned (.tuple #[.pointer (some ⟨gl, 0, none⟩), .int .i64 0]) ∧ LogU (fun x => f x ∨ (w.heap.size ≤ x ∧ x < w'.heap.size)) w' gl gd n 1 0 []) ∧ Kp (fun x => ¬ f x) w w' := by
  obtain ⟨l, d, ho, s⟩ := new_up n hn h64
  have hop := open_any hd hf (by rw [newD_best]; show 0 + 70000 < _; omega) (by rw [newD_best]; show 0 + 1 < _; omega) (by show 0 + 1 ≤ _; omega)
  rw [ho] at hop
  refine hop.mono ?_
  rintro e w' ⟨⟨p, rfl, hp⟩, hk⟩
  obtain ⟨_, gl, rfl, hB2⟩ := hp.resolve_left fun h => h.1 rfl
  exact ⟨⟨gl, rfl, l, d, [], [], hB2.mono fun x hx hlt => hx.imp_right fun h => ⟨h, hlt⟩, s, rfl⟩, hk⟩
/-- Open of a disk on which a log stands -/
theorem open_opU (h : LogU f w gl gd n T first recs) (hT : T + 1 < 256) (hf : ∀ x, f x → x < w.heap.size) :
    Calls Tryz.prog 31 #[.pointer (some ⟨gd, 0, none⟩)] w fun e w' => (∃ g2, e = .returned (.tuple #[.pointer (some ⟨g2, 0, none⟩), .int .i64 0]) ∧ LogU (fun x => f x ∨ (w.heap.size ≤ x ∧ x < w'.heap.size)) w' g2 gd n (T + 1) first recs) ∧ Kp (fun x => ¬ f x) w w' := by
  obtain ⟨l, d, rs, us, g1, g2, rfl⟩ := h
  obtain ⟨l', d', rs', ho, hs, hr⟩ := open_up g2 hT
  obtain ⟨hg, hn3, _, _, hfi, htu, hwl, h64, _⟩ := g2.good
  obtain ⟨start, nx, hi⟩ := g2.inv
  obtain ⟨e, hbe⟩ := img_best ⟨g2.calm.down, hi.img.bas.len, rfl, hn3⟩ hi.shown
  have hop := open_any g1.disk hf (by rw [hbe]; exact h64) (by rw [hbe]; show T + 1 < _; omega) (by omega)
  rw [ho] at hop
  refine hop.mono ?_
  rintro e w' ⟨⟨p, rfl, hp⟩, hk⟩
  obtain ⟨_, gl, rfl, hB2⟩ := hp.resolve_left fun h => h.1 rfl
  exact ⟨⟨gl, rfl, l', d', rs', [], hB2.mono fun x hx hlt => hx.imp_right fun h => ⟨h, hlt⟩, hs, by rw [List.append_nil, hr]⟩, hk⟩
end
end Go.Proofs.YtnlhjhpikjmoaaaGreatDoor

namespace Go.Proofs.YtnlhjhpikjmoaaaGreatDoor
open Go.RowKit

theorem putsW_get (ring : Nat) : ∀ (l : List (List UInt8)) (at_ i : Nat) (s : List UInt8), l[i]? = some s → at_ < ring → (putsW ring at_ l)[i]? = some (2 + (at_ + i) % ring, s)
  | [], _, _, _, h, _ => by simp at h
  | x :: l, at_, 0, s, h, ha => by
    rw [List.getElem?_cons_zero] at h
    rw [putsW, List.getElem?_cons_zero, Nat.add_zero, Nat.mod_eq_of_lt ha, Option.some.inj h]
  | x :: l, at_, i + 1, s, h, ha => by
    rw [List.getElem?_cons_succ] at h
    rw [putsW, List.getElem?_cons_succ, putsW_get ring l _ i s h (Nat.mod_lt _ (by omega)), Nat.mod_add_mod, show at_ + 1 + i = at_ + (i + 1) by omega]
section
variable {n : Nat} {T first start nx : Nat} {rs : List (Nat × List UInt8)} {us : List (List UInt8)}
/-- a fall leaves what was safe, and of the rest what it leaves -/
theorem img_crash {I : List (List UInt8)} (h : Img I n T first start nx rs us) (keep : List Int) (P : List (List UInt8)) (hP : ∀ (i : Nat) (s : List UInt8), P[i]? = some s → (secs T us)[i]? = some s) : ∀ i, i ≤ P.length →
    Img (tearI keep (putsW (n - 2) ((start + secSum (rs.map (·.2))) % (n - 2)) P) I i) n T first start nx rs us
  | 0, _ => h
  | i + 1, hi => by
    have ih := img_crash h keep P hP i (by omega)
    have hn3 := h.bas.n3
    have hm := Nat.mod_lt (start + secSum (rs.map (·.2))) (show 0 < n - 2 by omega)
    have hs : P[i]? = some P[i] := List.getElem?_eq_getElem (by omega)
    have hg := putsW_get (n - 2) P _ i _ hs hm
    rw [tearI, List.getD_eq_getElem?_getD, hg, Option.getD_some, Nat.mod_add_mod]
    exact ih.tear (hP i _ hs) (tearN keep i)
theorem Inv.crash {l : LogD} {d : DskD} (h : Inv n l d T first start nx rs us) (keep : List Int) : Img (d.crash keep).kept n T first start nx rs us := by
  have := img_crash h.img keep (secs T us) (fun _ _ h => h) (secs T us).length (Nat.le_refl _)
  unfold DskD.crash
  rw [h.wait, putsW_len]
  exact this
theorem crash_start (d : DskD) (keep : List Int) : (d.crash keep).start = { d with kept := (d.crash keep).kept, wait := [], down := false, armed := 0 } := by
  unfold DskD.start
  rw [if_pos (show (d.crash keep).down = true from rfl)]
/-- a log is opened on what stands there -/
theorem open_img {d : DskD} (hc : Calm d) (h : Img (keepW d.kept d.wait) n T first start nx rs us) (hT : T + 1 < 256) : ∃ l' d' rs' m, m ≤ us.length ∧ openL d = (l', d', 0) ∧ Up n l' d' (T + 1) first rs' [] ∧ rs'.map (·.2) = rs.map (·.2) ++ us.take m := by
  have hn3 := h.bas.n3
  have hlen : d.kept.length = n := by rw [← h.bas.len, keepW_len]
  have hs : Sees d (keepW d.kept d.wait) n := ⟨hc.down, hlen, rfl, hn3⟩
  obtain ⟨m, e, hm, hb, hf, hB, _⟩ := img_find hs h
  have hq : (rs ++ (us.take m).map fun b => (T, b)).map (·.2) = rs.map (·.2) ++ us.take m := by rw [List.map_append, snd_pairs]
  have hL : Lg (lgS T first (n - 2) start (rs.map (·.2) ++ us.take m)) T first (n - 2) start ((rs ++ (us.take m).map fun b => (T, b)).map (·.2)) := by rw [hq]; exact ⟨rfl, rfl, rfl, rfl, rfl, rfl⟩
  have hG : Good n (lgS T first (n - 2) start (rs.map (·.2) ++ us.take m)) d := ⟨hlen, hc, rfl, rfl, by have := hB.fit; rw [hq] at this; exact this⟩
  have ht := told_inv hB hL hT 0 (Nat.zero_le _) hB.f64 false d.down d.armed
  have ho : openL d = tellL (lgS T first (n - 2) start (rs.map (·.2) ++ us.take m)) d 0 := by
    unfold openL
    rw [if_neg (by rw [hc.down]; decide), hb, hf]
    rfl
  rw [ho, tell_good hG hn3]
  refine ⟨_, _, _, m, hm, rfl, ⟨⟨_, _, ht⟩, ⟨hc.down, hc.armed⟩, rfl⟩, ?_⟩
  rw [List.drop_zero, hq]
end
/-- a log that is up, its safe records and the others apart -/
def LogS (f : Nat → Prop) (w : World) (gl gd n T first : Nat) (sf us : List (List UInt8)) : Prop :=
  ∃ l d rs, Both f w gl gd l d ∧ Up n l d T first rs us ∧ rs.map (·.2) = sf
/-- a disk that is up, on which a log stands -/
def DiskI (f : Nat → Prop) (w : World) (gd n T first : Nat) (sf us : List (List UInt8)) : Prop :=
  ∃ d start nx rs, DiskR f w gd d ∧ Calm d ∧ d.wait = [] ∧ Img d.kept n T first start nx rs us ∧ rs.map (·.2) = sf
section
variable {f : Nat → Prop} {w w' : World} {gl gd n T first : Nat} {sf us : List (List UInt8)}
theorem LogS.u (h : LogS f w gl gd n T first sf us) : LogU f w gl gd n T first (sf ++ us) := by
  obtain ⟨l, d, rs, h1, h2, rfl⟩ := h
  exact ⟨l, d, rs, us, h1, h2, rfl⟩
theorem LogS.mono {f' : Nat → Prop} (h : LogS f w gl gd n T first sf us) (hm : ∀ x, f x → x < w.heap.size → f' x) : LogS f' w gl gd n T first sf us := by
  obtain ⟨l, d, rs, h1, h2⟩ := h
  exact ⟨l, d, rs, h1.mono hm, h2⟩
theorem LogS.kp {ok : Nat → Prop} (h : LogS f w gl gd n T first sf us) (hk : Kp ok w w') (hok : ∀ x, f x → ok x) : LogS f w' gl gd n T first sf us := by
  obtain ⟨l, d, rs, h1, h2⟩ := h
  exact ⟨l, d, rs, h1.kp hk hok, h2⟩
theorem LogS.below (h : LogS f w gl gd n T first sf us) (hb : Below w.heap.size w w') : LogS f w' gl gd n T first sf us := by
  obtain ⟨l, d, rs, h1, h2⟩ := h
  exact ⟨l, d, rs, h1.below hb, h2⟩
theorem append_opS (h : LogS f w gl gd n T first sf us) (v : Value) (b : List UInt8) (hrb : RB (fun x => ¬ f x) w v b) (hlen : b.length ≤ 32768) (hfit : secSum (sf ++ us) + secN b.length ≤ n - 2) :
    Calls Tryz.prog 73 #[.pointer (some ⟨gl, 0, none⟩), v] w fun e w' => e = .returned (.int .i64 0) ∧ LogS (fun x => f x ∨ (w.heap.size ≤ x ∧ x < w'.heap.size)) w' gl gd n T first sf (us ++ [b]) ∧ Kp (fun x => ¬ f x) w w' := by
  obtain ⟨l, d, rs, h1, h2, rfl⟩ := h
  obtain ⟨l', d', he, hs⟩ := append_up h2 hlen hfit
  obtain ⟨hg, hn3, _, _, hfi, _, hwl, h64, _⟩ := h2.good
  refine (append_any v b h1 hrb (fun x hx => hx) (by omega) hg.sum (by rw [hfi]; exact h64) (by omega)).mono ?_
  rintro e w' ⟨rfl, hB, hk⟩
  rw [he] at hB ⊢
  exact ⟨rfl, ⟨l', d', rs, hB.mono fun x hx hlt => hx.imp_right fun h => ⟨h, hlt⟩, hs, rfl⟩, hk⟩
theorem sync_opS (h : LogS f w gl gd n T first sf us) :
    Calls Tryz.prog 62 #[.pointer (some ⟨gl, 0, none⟩)] w fun e w' => e = .returned (.int .i64 0) ∧ LogS f w' gl gd n T first (sf ++ us) [] ∧ Kp (fun x => ¬ f x) w w' := by
  obtain ⟨l, d, rs, h1, h2, rfl⟩ := h
  obtain ⟨l', d', he, hs⟩ := sync_up h2
  refine (sync_b h1).mono ?_
  rintro e w' ⟨rfl, hB, hk⟩
  rw [he] at hB ⊢
  exact ⟨rfl, ⟨l', d', _, hB, hs, by rw [List.map_append, snd_pairs]⟩, hk⟩
theorem open_newS (hn : 3 ≤ n) (h64 : n ≤ 65536) (hd : DiskR f w gd (newD n)) (hf : ∀ x, f x → x < w.heap.size) :
    Calls Tryz.prog 31 #[.pointer (some ⟨gd, 0, none⟩)] w fun e w' => (∃ gl, e = .returned (.tuple #[.pointer (some ⟨gl, 0, none⟩), .int .i64 0]) ∧ LogS (fun x => f x ∨ (w.heap.size ≤ x ∧ x < w'.heap.size)) w' gl gd n 1 0 [] []) ∧ Kp (fun x => ¬ f x) w w' := by
  obtain ⟨l, d, ho, s⟩ := new_up n hn h64
  have hop := open_any hd hf (by rw [newD_best]; show 0 + 70000 < _; omega) (by rw [newD_best]; show 0 + 1 < _; omega) (by show 0 + 1 ≤ _; omega)
  rw [ho] at hop
  refine hop.mono ?_
  rintro e w' ⟨⟨p, rfl, hp⟩, hk⟩
  obtain ⟨_, gl, rfl, hB2⟩ := hp.resolve_left fun h => h.1 rfl
  exact ⟨⟨gl, rfl, l, d, [], hB2.mono fun x hx hlt => hx.imp_right fun h => ⟨h, hlt⟩, s, rfl⟩, hk⟩
/-- a fall -/
theorem crash_opS {okk : Nat → Prop} (h : LogS f w gl gd n T first sf us) (v : Value) (keep : List Int) (hkp : RSl rInt okk w v keep) (hof : ∀ b, okk b → ¬ f b) :
    Calls Tryz.prog 20 #[.pointer (some ⟨gd, 0, none⟩), v] w fun e w' => e = .returned (.int .i64 0) ∧ (∃ (d : DskD) (start nx : Nat) (rs : List (Nat × List UInt8)), DiskR f w' gd (d.crash keep) ∧ Img (d.crash keep).kept n T first start nx rs us ∧ rs.map (·.2) = sf) ∧ Kp (fun b => ¬ f b) w w' := by
  obtain ⟨l, d, rs, h1, h2, rfl⟩ := h
  obtain ⟨start, nx, hi⟩ := h2.inv
  refine (dCrash_any h1.disk v keep hkp hof).mono ?_
  rintro e w' ⟨rfl, hd, hk⟩
  exact ⟨rfl, ⟨d, start, nx, rs, hd, hi.crash keep, rfl⟩, hk⟩
theorem start_opS (h : ∃ (d : DskD) (keep : List Int) (start nx : Nat) (rs : List (Nat × List UInt8)), DiskR f w gd (d.crash keep) ∧ Img (d.crash keep).kept n T first start nx rs us ∧ rs.map (·.2) = sf) :
    Calls Tryz.prog 21 #[.pointer (some ⟨gd, 0, none⟩)] w fun e w' => e = .returned (.int .i64 0) ∧ DiskI f w' gd n T first sf us ∧ Kp (fun b => ¬ f b) w w' := by
  obtain ⟨d, keep, start, nx, rs, h1, h2, rfl⟩ := h
  refine (dStart_any h1).mono ?_
  rintro e w' ⟨rfl, hd, hk⟩
  rw [crash_start] at hd
  exact ⟨rfl, ⟨_, start, nx, rs, hd, ⟨rfl, rfl⟩, rfl, h2, rfl⟩, hk⟩
theorem open_opI (h : DiskI f w gd n T first sf us) (hT : T + 1 < 256) (hf : ∀ x, f x → x < w.heap.size) :
    Calls Tryz.prog 31 #[.pointer (some ⟨gd, 0, none⟩)] w fun e w' => (∃ g2 m, m ≤ us.length ∧ e = .returned (.tuple #[.pointer (some ⟨g2, 0, none⟩), .int .i64 0]) ∧ LogS (fun x => f x ∨ (w.heap.size ≤ x ∧ x < w'.heap.size)) w' g2 gd n (T + 1) first (sf ++ us.take m) []) ∧ Kp (fun x => ¬ f x) w w' := by
  obtain ⟨d, start, nx, rs, h1, hc, hw, hi, rfl⟩ := h
  have hi2 : Img (keepW d.kept d.wait) n T first start nx rs us := by rw [hw]; exact hi
  obtain ⟨l', d', rs', m, hm, ho, hs, hr⟩ := open_img hc hi2 hT
  have hlen : d.kept.length = n := hi.bas.len
  obtain ⟨e, hbe⟩ := img_best ⟨hc.down, hlen, rfl, hi.bas.n3⟩ hi2
  have hop := open_any h1 hf (by rw [hbe]; exact hi.bas.f64) (by rw [hbe]; show T + 1 < _; omega) (by rw [hw]; show 0 + 1 ≤ _; omega)
  rw [ho] at hop
  refine hop.mono ?_
  rintro e w' ⟨⟨p, rfl, hp⟩, hk⟩
  obtain ⟨_, gl, rfl, hB2⟩ := hp.resolve_left fun h => h.1 rfl
  exact ⟨⟨gl, m, hm, rfl, l', d', rs', hB2.mono fun x hx hlt => hx.imp_right fun h => ⟨h, hlt⟩, hs, hr⟩, hk⟩
end
end Go.Proofs.YtnlhjhpikjmoaaaGreatDoor
