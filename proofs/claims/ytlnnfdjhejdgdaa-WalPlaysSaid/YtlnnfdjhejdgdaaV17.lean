/- A log on a disk that may be hit: contracts. No walk.
A log on a disk that may be hit: contracts, of the disk and of Open. No walk. -/
import Derived.Test.YtlnnfdjhejdgdaaV15
namespace Go.Proofs.Ytlnnfdjhejdgdaa
open Go.RowKit

/-- a log, live (dn false) or dead -/
def LogX (f : Nat → Prop) (w : World) (gl gd n T first cut : Nat) (sf us : List (List UInt8)) (dn : Bool) : Prop :=
  ∃ l d, Both f w gl gd l d ∧ ((dn = false ∧ ∃ rs, Live n l d T first rs us ∧ rs.map (·.2) = sf) ∨ (dn = true ∧ Dead n l d T first cut sf us))
section
variable {f : Nat → Prop} {w w' : World} {gl gd n T first cut : Nat} {sf us : List (List UInt8)} {dn : Bool}
theorem LogX.mono {f' : Nat → Prop} (h : LogX f w gl gd n T first cut sf us dn) (hm : ∀ x, f x → x < w.heap.size → f' x) : LogX f' w gl gd n T first cut sf us dn := by
  obtain ⟨l, d, h1, h2⟩ := h
  exact ⟨l, d, h1.mono hm, h2⟩
theorem LogX.kp {ok : Nat → Prop} (h : LogX f w gl gd n T first cut sf us dn) (hk : Kp ok w w') (hok : ∀ x, f x → ok x) : LogX f w' gl gd n T first cut sf us dn := by
  obtain ⟨l, d, h1, h2⟩ := h
  exact ⟨l, d, h1.kp hk hok, h2⟩
theorem LogX.below (h : LogX f w gl gd n T first cut sf us dn) (hb : Below w.heap.size w w') : LogX f w' gl gd n T first cut sf us dn := by
  obtain ⟨l, d, h1, h2⟩ := h
  exact ⟨l, d, h1.below hb, h2⟩
theorem LogX.cut_ (h : LogX f w gl gd n T first cut sf us false) (c : Nat) : LogX f w gl gd n T first c sf us false := by
  obtain ⟨l, d, h1, h2⟩ := h
  exact ⟨l, d, h1, h2.elim .inl fun h => by cases h.1⟩
theorem LogX.u (h : LogX f w gl gd n T first cut sf us false) : ∃ l d rs, Both f w gl gd l d ∧ Live n l d T first rs us ∧ rs.map (·.2) = sf := by
  obtain ⟨l, d, h1, h2⟩ := h
  rcases h2 with ⟨_, rs, h2, h3⟩ | ⟨h, _⟩
  · exact ⟨l, d, rs, h1, h2, h3⟩
  · cases h
theorem LogX.d (h : LogX f w gl gd n T first cut sf us true) : ∃ l d, Both f w gl gd l d ∧ Dead n l d T first cut sf us := by
  obtain ⟨l, d, h1, h2⟩ := h
  rcases h2 with ⟨h, _⟩ | ⟨_, h2⟩
  · cases h
  · exact ⟨l, d, h1, h2⟩
theorem Both.newer {f : Nat → Prop} {w w' : World} {gl gd : Nat} {l : LogD} {d : DskD} (h : Both (fun x => f x ∨ w.heap.size ≤ x) w' gl gd l d) : Both (fun x => f x ∨ (w.heap.size ≤ x ∧ x < w'.heap.size)) w' gl gd l d :=
  h.mono fun x hx hlt => hx.imp_right fun h => ⟨h, hlt⟩
/-- Append -/
theorem append_liveX (h : LogX f w gl gd n T first cut sf us false) (v : Value) (b : List UInt8) (hrb : RB (fun x => ¬ f x) w v b) (hlen : b.length ≤ 32768) :
    Calls Try.prog 11 #[.pointer (some ⟨gl, 0, none⟩), v] w fun e w' => (∃ x : Int, e = .returned (.int .i64 x) ∧
      ((x = 0 ∧ LogX (fun x => f x ∨ (w.heap.size ≤ x ∧ x < w'.heap.size)) w' gl gd n T first first sf (us ++ [b]) false) ∨ (x = 4 ∧ LogX (fun x => f x ∨ (w.heap.size ≤ x ∧ x < w'.heap.size)) w' gl gd n T first first sf us false ∧ n - 2 < secSum (sf ++ us) + secN b.length) ∨
       (x = 3 ∧ LogX (fun x => f x ∨ (w.heap.size ≤ x ∧ x < w'.heap.size)) w' gl gd n T first first sf (us ++ [b]) true))) ∧ Kp (fun x => ¬ f x) w w' := by
  obtain ⟨l, d, rs, h1, h2, rfl⟩ := h.u
  obtain ⟨l', d', e, he, hc⟩ := append_live h2 hlen
  obtain ⟨hkl, hn3, hn64, _, hr, hfi, htu, hwl, h64, hT, hsum⟩ := h2.facts
  refine (append_any v b h1 hrb (fun x hx => hx) (by omega) hsum (by rw [hfi]; exact h64) (by omega)).mono ?_
  rintro e' w' ⟨rfl, hB, hk⟩
  rw [he] at hB ⊢
  have hB2 := hB.newer
  refine ⟨⟨e, rfl, ?_⟩, hk⟩
  rcases hc with ⟨rfl, hl⟩ | ⟨rfl, rfl, rfl, hfull⟩ | ⟨rfl, hd⟩
  · exact .inl ⟨rfl, l', d', hB2, .inl ⟨rfl, rs, hl, rfl⟩⟩
  · exact .inr (.inl ⟨rfl, ⟨l', d', hB2, .inl ⟨rfl, rs, h2, rfl⟩⟩, hfull⟩)
  · exact .inr (.inr ⟨rfl, l', d', hB2, .inr ⟨rfl, hd⟩⟩)
theorem append_deadX (h : LogX f w gl gd n T first cut sf us true) (v : Value) (b : List UInt8) (hrb : RB (fun x => ¬ f x) w v b) (hlen : b.length ≤ 32768) :
    Calls Try.prog 11 #[.pointer (some ⟨gl, 0, none⟩), v] w fun e w' => e = .returned (.int .i64 3) ∧ LogX (fun x => f x ∨ (w.heap.size ≤ x ∧ x < w'.heap.size)) w' gl gd n T first cut sf us true ∧ Kp (fun x => ¬ f x) w w' := by
  obtain ⟨l, d, h1, h2⟩ := h.d
  have he := append_dead h2 hlen
  refine (append_any v b h1 hrb (fun x hx => hx) (by omega) h2.sum h2.f64 (by have := h2.wait; omega)).mono ?_
  rintro e' w' ⟨rfl, hB, hk⟩
  rw [he] at hB ⊢
  exact ⟨rfl, ⟨l, d, hB.newer, .inr ⟨rfl, h2⟩⟩, hk⟩
/-- Sync -/
theorem sync_liveX (h : LogX f w gl gd n T first cut sf us false) :
    Calls Try.prog 16 #[.pointer (some ⟨gl, 0, none⟩)] w fun e w' => (∃ x : Int, e = .returned (.int .i64 x) ∧ ((x = 0 ∧ LogX f w' gl gd n T first first (sf ++ us) [] false) ∨ (x = 3 ∧ LogX f w' gl gd n T first first sf us true))) ∧ Kp (fun x => ¬ f x) w w' := by
  obtain ⟨l, d, rs, h1, h2, rfl⟩ := h.u
  obtain ⟨l', d', e, he, hc⟩ := sync_live h2 first
  refine (sync_b h1).mono ?_
  rintro e' w' ⟨rfl, hB, hk⟩
  rw [he] at hB ⊢
  refine ⟨⟨e, rfl, ?_⟩, hk⟩
  rcases hc with ⟨rfl, hl⟩ | ⟨rfl, hd⟩
  · exact .inl ⟨rfl, l', d', hB, .inl ⟨rfl, _, hl, by rw [List.map_append, snd_pairs]⟩⟩
  · exact .inr ⟨rfl, l', d', hB, .inr ⟨rfl, hd⟩⟩
theorem sync_deadX (h : LogX f w gl gd n T first cut sf us true) :
    Calls Try.prog 16 #[.pointer (some ⟨gl, 0, none⟩)] w fun e w' => e = .returned (.int .i64 3) ∧ LogX f w' gl gd n T first cut sf us true ∧ Kp (fun x => ¬ f x) w w' := by
  obtain ⟨l, d, h1, h2⟩ := h.d
  have he := sync_dead h2
  refine (sync_b h1).mono ?_
  rintro e' w' ⟨rfl, hB, hk⟩
  rw [he] at hB ⊢
  exact ⟨rfl, ⟨l, d, hB, .inr ⟨rfl, h2⟩⟩, hk⟩
/-- Cut -/
theorem cut_liveX (h : LogX f w gl gd n T first cut sf us false) (hT : T + 1 < 256) (k : Nat) (hk64 : k < 18446744073709551616) (h64 : first + (sf ++ us).length + 70000 < 18446744073709551616) :
    Calls Try.prog 12 #[.pointer (some ⟨gl, 0, none⟩), .int .u64 (k : Int)] w fun e w' => (∃ x : Int, e = .returned (.int .i64 x) ∧
      ((¬ (first ≤ k ∧ k ≤ first + (sf ++ us).length) ∧ x = 1 ∧ LogX (fun x => f x ∨ (w.heap.size ≤ x ∧ x < w'.heap.size)) w' gl gd n T first first sf us false) ∨
       (first ≤ k ∧ k ≤ first + (sf ++ us).length ∧ x = 0 ∧ ∃ T', T' ≤ T + 1 ∧ LogX (fun x => f x ∨ (w.heap.size ≤ x ∧ x < w'.heap.size)) w' gl gd n T' k k ((sf ++ us).drop (k - first)) [] false) ∨
       (first ≤ k ∧ k ≤ first + (sf ++ us).length ∧ x = 3 ∧ ∃ sf' us', sf' ++ us' = sf ++ us ∧ sf.length ≤ sf'.length ∧ LogX (fun x => f x ∨ (w.heap.size ≤ x ∧ x < w'.heap.size)) w' gl gd n T first k sf' us' true))) ∧ Kp (fun x => ¬ f x) w w' := by
  obtain ⟨l, d, rs, h1, h2, rfl⟩ := h.u
  obtain ⟨l', d', e, he, hc⟩ := cut_live h2 hT k h64
  obtain ⟨hkl, hn3, hn64, _, hr, hfi, htu, hwl, hf64, hT1, hsum⟩ := h2.facts
  refine (cut_any k h1 hk64 hsum (by omega) (by omega)).mono ?_
  rintro e' w' ⟨rfl, hB, hk⟩
  rw [he] at hB ⊢
  have hB2 := hB.newer
  refine ⟨⟨e, rfl, ?_⟩, hk⟩
  rcases hc with ⟨hn, rfl, rfl, rfl⟩ | ⟨g1, g2, rfl, T', q, hT', hl, hq⟩ | ⟨g1, g2, rfl, sf', us', hs, hle, hd⟩
  · exact .inl ⟨hn, rfl, l', d', hB2, .inl ⟨rfl, rs, h2, rfl⟩⟩
  · exact .inr (.inl ⟨g1, g2, rfl, T', hT', l', d', hB2, .inl ⟨rfl, q, hl, hq⟩⟩)
  · exact .inr (.inr ⟨g1, g2, rfl, sf', us', hs, by rw [List.length_map]; exact hle, l', d', hB2, .inr ⟨rfl, hd⟩⟩)
theorem cut_deadX (h : LogX f w gl gd n T first cut sf us true) (k : Nat) (hk64 : k < 18446744073709551616) :
    Calls Try.prog 12 #[.pointer (some ⟨gl, 0, none⟩), .int .u64 (k : Int)] w fun e w' => (e = .returned (.int .i64 1) ∨ e = .returned (.int .i64 3)) ∧ LogX (fun x => f x ∨ (w.heap.size ≤ x ∧ x < w'.heap.size)) w' gl gd n T first cut sf us true ∧ Kp (fun x => ¬ f x) w w' := by
  obtain ⟨l, d, h1, h2⟩ := h.d
  refine (cut_any k h1 hk64 h2.sum (by have := h2.turn; omega) (by have := h2.wait; omega)).mono ?_
  rintro e' w' ⟨rfl, hB, hk⟩
  rcases cut_dead h2 k with he | he
  · rw [he] at hB ⊢
    exact ⟨.inl rfl, ⟨l, d, hB.newer, .inr ⟨rfl, h2⟩⟩, hk⟩
  · rw [he] at hB ⊢
    exact ⟨.inr rfl, ⟨l, d, hB.newer, .inr ⟨rfl, h2⟩⟩, hk⟩
end
end Go.Proofs.Ytlnnfdjhejdgdaa

namespace Go.Proofs.Ytlnnfdjhejdgdaa
open Go.RowKit

section
variable {f : Nat → Prop} {w w' : World} {gl gd n T first cut : Nat} {sf us : List (List UInt8)} {dn : Bool}
theorem first_liveX (h : LogX f w gl gd n T first cut sf us false) : Calls Try.prog 17 #[.pointer (some ⟨gl, 0, none⟩)] w fun e w' => e = .returned (.int .u64 (first : Int)) ∧ w' = w := by
  obtain ⟨l, d, rs, h1, h2, rfl⟩ := h.u
  have := first_b h1
  rw [h2.facts.2.2.2.2.2.1] at this
  exact this
theorem next_liveX (h : LogX f w gl gd n T first cut sf us false) : Calls Try.prog 14 #[.pointer (some ⟨gl, 0, none⟩)] w fun e w' => e = .returned (.int .u64 ((first + (sf ++ us).length : Nat) : Int)) ∧ Below w.heap.size w w' := by
  obtain ⟨l, d, rs, h1, h2, rfl⟩ := h.u
  have := next_b h1
  rw [h2.facts.2.2.2.2.2.1, h2.facts.2.2.2.2.1] at this
  exact this
theorem records_liveX (h : LogX f w gl gd n T first cut sf us false) : Calls Try.prog 13 #[.pointer (some ⟨gl, 0, none⟩)] w fun e w' => (∃ v, e = .returned v ∧ RSl rBs (fun b => w.heap.size ≤ b) w' v (sf ++ us)) ∧ Below w.heap.size w w' := by
  obtain ⟨l, d, rs, h1, h2, rfl⟩ := h.u
  have := records_b h1 (by have := h2.facts.2.2.2.2.2.2.2.2.2.2; have := h1.ok.1.used; have := secSum_ge l.recs; omega)
  rw [h2.facts.2.2.2.2.1] at this
  exact this
theorem down_opX (h : LogX f w gl gd n T first cut sf us dn) : Calls Try.prog 23 #[.pointer (some ⟨gd, 0, none⟩)] w fun e w' => e = .returned (.bool dn) ∧ w' = w := by
  obtain ⟨l, d, h1, h2⟩ := h
  have hd : d.down = dn := by
    rcases h2 with ⟨rfl, rs, h2, _⟩ | ⟨rfl, h2⟩
    · exact h2.down
    · exact h2.down
  have := dDown_any h1.disk
  rw [hd] at this
  exact this
/-- a contract of the disk, with the log beside -/
theorem Both.step {l : LogD} {d d' : DskD} {F : FuncId} {args : Array Value} {E : Ending} (h : Both f w gl gd l d) (hc : ∀ fd : Nat → Prop, DiskR fd w gd d → Calls Try.prog F args w fun e w' => e = E ∧ DiskR fd w' gd d' ∧ Kp (fun b => ¬ fd b) w w') :
    Calls Try.prog F args w fun e w' => e = E ∧ Both f w' gl gd l d' ∧ Kp (fun b => ¬ f b) w w' := by
  obtain ⟨fl, fd, h1, h2, h3, h4, h5⟩ := h
  refine (hc fd h5).mono ?_
  rintro e w' ⟨rfl, hD, hK⟩
  have hz := hK.size
  exact ⟨rfl, ⟨fl, fd, fun x hx => ⟨(h1 x hx).1, by have := (h1 x hx).2; omega⟩, fun x hx => ⟨(h2 x hx).1, by have := (h2 x hx).2; omega⟩, h3, h4.kp hK fun x hx hf => h3 x hf hx, hD⟩, hK.mono fun x hx hf => hx (h2 x hf).1⟩
theorem arm_opX (h : LogX f w gl gd n T first cut sf us dn) (x : Int) (hx : I64 x) : Calls Try.prog 26 #[.pointer (some ⟨gd, 0, none⟩), .int .i64 x] w fun e w' => e = .returned (.int .i64 0) ∧ LogX f w' gl gd n T first cut sf us dn ∧ Kp (fun b => ¬ f b) w w' := by
  obtain ⟨l, d, h1, h2⟩ := h
  refine (h1.step fun fd hd => dArm_any hd x hx).mono ?_
  rintro e w' ⟨rfl, hB, hK⟩
  refine ⟨rfl, ⟨l, d.arm x, hB, ?_⟩, hK⟩
  rcases h2 with ⟨rfl, rs, h2, h3⟩ | ⟨rfl, h2⟩
  · exact .inl ⟨rfl, rs, h2.arm x, h3⟩
  · exact .inr ⟨rfl, h2.arm x⟩
/-- a disk that is up: what may be found there -/
def DiskF (f : Nat → Prop) (w : World) (gd n T first cut : Nat) (sf us : List (List UInt8)) : Prop :=
  ∃ d, DiskR f w gd d ∧ Calm d ∧ d.wait.length ≤ 65536 ∧ ∃ T' first' sf' us' start nx rs, T' ≤ T + 1 ∧ Img (keepW d.kept d.wait) n T' first' start nx rs us' ∧ rs.map (·.2) = sf' ∧
    ((first' = first ∧ sf' = sf ∧ us' = us ∧ T' = T) ∨ (first' = cut ∧ first < cut ∧ cut ≤ first + sf.length ∧ sf' = sf.drop (cut - first) ∧ us' = [] ∧ us = []))
theorem Found.disk {d : DskD} (h : Found n d T first cut sf us) (hd : DiskR f w gd d) : DiskF f w gd n T first cut sf us := by
  obtain ⟨hc, hw, T', first', sf', us', start, nx, rs, h1, h2, h3, h4⟩ := h
  exact ⟨d, hd, hc, by rw [hw]; simp, T', first', sf', us', start, nx, rs, h1, by rw [hw]; exact h2, h3, h4⟩
/-- Start of a disk that is up -/
theorem start_liveX (h : LogX f w gl gd n T first cut sf us false) : Calls Try.prog 21 #[.pointer (some ⟨gd, 0, none⟩)] w fun e w' => e = .returned (.int .i64 0) ∧ DiskF f w' gd n T first cut (sf ++ us) [] ∧ Kp (fun b => ¬ f b) w w' := by
  obtain ⟨l, d, rs, h1, h2, rfl⟩ := h.u
  obtain ⟨start, nx, hi⟩ := h2.inv
  have e : d.start = { d with armed := 0 } := by unfold DskD.start; rw [if_neg (by rw [h2.down]; decide)]
  refine (dStart_any h1.disk).mono ?_
  rintro e' w' ⟨rfl, hD, hK⟩
  rw [e] at hD
  refine ⟨rfl, ⟨_, hD, ⟨h2.down, rfl⟩, hi.wait_len, T, first, _, [], start, nx, _, Nat.le_succ _, hi.shown, ?_, .inl ⟨rfl, rfl, rfl, rfl⟩⟩, hK⟩
  rw [List.map_append, snd_pairs]
/-- Start of a disk that is down -/
theorem start_deadX (h : LogX f w gl gd n T first cut sf us true) : Calls Try.prog 21 #[.pointer (some ⟨gd, 0, none⟩)] w fun e w' => e = .returned (.int .i64 0) ∧ DiskF f w' gd n T first cut sf us ∧ Kp (fun b => ¬ f b) w w' := by
  obtain ⟨l, d, h1, h2⟩ := h.d
  refine (dStart_any h1.disk).mono ?_
  rintro e' w' ⟨rfl, hD, hK⟩
  exact ⟨rfl, (fall_start h2.fall h2.down).disk hD, hK⟩
/-- a disk that fell -/
def DiskC (f : Nat → Prop) (w : World) (gd n T first cut : Nat) (sf us : List (List UInt8)) : Prop :=
  ∃ (d : DskD) (keep : List Int), DiskR f w gd (d.crash keep) ∧ Fall n d T first cut sf us
theorem crash_opX {okk : Nat → Prop} (h : LogX f w gl gd n T first cut sf us dn) (v : Value) (keep : List Int) (hkp : RSl rInt okk w v keep) (hof : ∀ b, okk b → ¬ f b) :
    Calls Try.prog 20 #[.pointer (some ⟨gd, 0, none⟩), v] w fun e w' => e = .returned (.int .i64 0) ∧ DiskC f w' gd n T first cut sf us ∧ Kp (fun b => ¬ f b) w w' := by
  obtain ⟨l, d, h1, h2⟩ := h
  have hf : Fall n d T first cut sf us := by
    rcases h2 with ⟨_, rs, h2, rfl⟩ | ⟨_, h2⟩
    · exact h2.fallA rfl rfl cut
    · exact h2.fall
  refine (dCrash_any h1.disk v keep hkp hof).mono ?_
  rintro e w' ⟨rfl, hd, hk⟩
  exact ⟨rfl, ⟨d, keep, hd, hf⟩, hk⟩
theorem downC (h : DiskC f w gd n T first cut sf us) : Calls Try.prog 23 #[.pointer (some ⟨gd, 0, none⟩)] w fun e w' => e = .returned (.bool true) ∧ w' = w := by
  obtain ⟨d, keep, h1, _⟩ := h
  exact dDown_any h1
theorem start_C (h : DiskC f w gd n T first cut sf us) (h64 : first + sf.length + 70000 < 18446744073709551616) : Calls Try.prog 21 #[.pointer (some ⟨gd, 0, none⟩)] w fun e w' => e = .returned (.int .i64 0) ∧ DiskF f w' gd n T first cut sf us ∧ Kp (fun b => ¬ f b) w w' := by
  obtain ⟨d, keep, h1, h2⟩ := h
  refine (dStart_any h1).mono ?_
  rintro e' w' ⟨rfl, hD, hK⟩
  exact ⟨rfl, (fall_crash h2 h64 keep).disk hD, hK⟩
/-- what a log has that is opened there: from a on, R -/
def Finds (first cut : Nat) (sf us : List (List UInt8)) (a : Nat) (R : List (List UInt8)) : Prop :=
  (a = first ∧ ∃ m, m ≤ us.length ∧ R = sf ++ us.take m) ∨ (a = cut ∧ first < cut ∧ cut ≤ first + sf.length ∧ R = sf.drop (cut - first) ∧ us = [])
theorem open_F (h : DiskF f w gd n T first cut sf us) (hT : T + 2 < 256) (hf : ∀ x, f x → x < w.heap.size) :
    Calls Try.prog 9 #[.pointer (some ⟨gd, 0, none⟩)] w fun e w' => (∃ g2 T' a R, T' ≤ T + 2 ∧ Finds first cut sf us a R ∧ e = .returned (.tuple #[.pointer (some ⟨g2, 0, none⟩), .int .i64 0]) ∧ LogX (fun x => f x ∨ (w.heap.size ≤ x ∧ x < w'.heap.size)) w' g2 gd n T' a a R [] false) ∧ Kp (fun x => ¬ f x) w w' := by
  obtain ⟨d, h1, hc, hw, T', first', sf', us', start, nx, rs, hT', hi, hs, hp⟩ := h
  obtain ⟨l', d', rs', m, hm, ho, hu, hr⟩ := open_img hc hi (by omega)
  have hlen : d.kept.length = n := by rw [← hi.bas.len, keepW_len]
  obtain ⟨e, hbe⟩ := img_best ⟨hc.down, hlen, rfl, hi.bas.n3⟩ hi
  have hop := open_any h1 hf (by rw [hbe]; exact hi.bas.f64) (by rw [hbe]; show T' + 1 < _; omega) (by omega)
  rw [ho] at hop
  refine hop.mono ?_
  rintro e w' ⟨⟨p, rfl, hp2⟩, hk⟩
  obtain ⟨_, gl, rfl, hB2⟩ := hp2.resolve_left fun h => h.1 rfl
  refine ⟨⟨gl, T' + 1, first', rs'.map (·.2), by omega, ?_, rfl, l', d', hB2.newer, .inl ⟨rfl, rs', hu.live, rfl⟩⟩, hk⟩
  rw [hr, hs]
  rcases hp with ⟨rfl, rfl, rfl, rfl⟩ | ⟨rfl, g1, g2, rfl, rfl, rfl⟩
  · exact .inl ⟨rfl, m, hm, rfl⟩
  · exact .inr ⟨rfl, g1, g2, by rw [List.take_nil, List.append_nil], rfl⟩
/-- Open of a new disk -/
theorem open_newX (hn : 3 ≤ n) (h64 : n ≤ 65536) (hd : DiskR f w gd (newD n)) (hf : ∀ x, f x → x < w.heap.size) :
    Calls Try.prog 9 #[.pointer (some ⟨gd, 0, none⟩)] w fun e w' => (∃ gl, e = .returned (.tuple #[.pointer (some ⟨gl, 0, none⟩), .int .i64 0]) ∧ LogX (fun x => f x ∨ (w.heap.size ≤ x ∧ x < w'.heap.size)) w' gl gd n 1 0 0 [] [] false) ∧ Kp (fun x => ¬ f x) w w' := by
  obtain ⟨l, d, ho, s⟩ := new_up n hn h64
  have hop := open_any hd hf (by rw [newD_best]; show 0 + 70000 < _; omega) (by rw [newD_best]; show 0 + 1 < _; omega) (by show 0 + 1 ≤ _; omega)
  rw [ho] at hop
  refine hop.mono ?_
  rintro e w' ⟨⟨p, rfl, hp⟩, hk⟩
  obtain ⟨_, gl, rfl, hB2⟩ := hp.resolve_left fun h => h.1 rfl
  exact ⟨⟨gl, rfl, l, d, hB2.newer, .inl ⟨rfl, [], s.live, rfl⟩⟩, hk⟩
end
end Go.Proofs.Ytlnnfdjhejdgdaa
