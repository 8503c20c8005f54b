/- A log on a calm disk: contracts with all that stands on the disk; opened anew. No walk. -/
import Derived.Test.YtlnnfdjhejdgdaaV5
import Derived.Test.YtlnnfdjhejdgdaaW36
namespace Go.Proofs.Ytlnnfdjhejdgdaa
open Go.RowKit

/-- a log that is up on a calm disk of n sectors, in blocks of f -/
def LogU (f : Nat → Prop) (w : World) (gl gd n T first : Nat) (recs : List (List UInt8)) : Prop :=
  ∃ l d rs us, Both f w gl gd l d ∧ Up n l d T first rs us ∧ rs.map (·.2) ++ us = recs
section
variable {f : Nat → Prop} {w w' : World} {gl gd n T first : Nat} {recs : List (List UInt8)}
theorem LogU.mono {f' : Nat → Prop} (h : LogU f w gl gd n T first recs) (hm : ∀ x, f x → x < w.heap.size → f' x) : LogU f' w gl gd n T first recs := by
  obtain ⟨l, d, rs, us, h1, h2⟩ := h
  exact ⟨l, d, rs, us, h1.mono hm, h2⟩
theorem LogU.kp {ok : Nat → Prop} (h : LogU f w gl gd n T first recs) (hk : Kp ok w w') (hok : ∀ x, f x → ok x) : LogU f w' gl gd n T first recs := by
  obtain ⟨l, d, rs, us, h1, h2⟩ := h
  exact ⟨l, d, rs, us, h1.kp hk hok, h2⟩
theorem LogU.below (h : LogU f w gl gd n T first recs) (hb : Below w.heap.size w w') : LogU f w' gl gd n T first recs := by
  obtain ⟨l, d, rs, us, h1, h2⟩ := h
  exact ⟨l, d, rs, us, h1.below hb, h2⟩
theorem LogU.gl_ (h : LogU f w gl gd n T first recs) : f gl := by
  obtain ⟨l, d, rs, us, h1, h2⟩ := h
  exact h1.glf
theorem LogU.turn (h : LogU f w gl gd n T first recs) : T < 256 := by
  obtain ⟨l, d, rs, us, h1, h2, _⟩ := h
  exact h2.good.2.2.2.2.2.2.2.2
theorem append_opU (h : LogU f w gl gd n T first recs) (v : Value) (b : List UInt8) (hrb : RB (fun x => ¬ f x) w v b) (hlen : b.length ≤ 32768) (hfit : secSum recs + secN b.length ≤ n - 2) :
    Calls Try.prog 11 #[.pointer (some ⟨gl, 0, none⟩), v] w fun e w' => e = .returned (.int .i64 0) ∧ LogU (fun x => f x ∨ (w.heap.size ≤ x ∧ x < w'.heap.size)) w' gl gd n T first (recs ++ [b]) ∧ Kp (fun x => ¬ f x) w w' := by
  obtain ⟨l, d, rs, us, h1, h2, rfl⟩ := h
  obtain ⟨l', d', he, hs⟩ := append_up h2 hlen hfit
  obtain ⟨hg, hn3, _, _, hfi, _, hwl, h64, _⟩ := h2.good
  refine (append_any v b h1 hrb (fun x hx => hx) (by omega) hg.sum (by rw [hfi]; exact h64) (by omega)).mono ?_
  rintro e w' ⟨rfl, hB, hk⟩
  rw [he] at hB ⊢
  exact ⟨rfl, ⟨l', d', rs, us ++ [b], hB.mono fun x hx hlt => hx.imp_right fun h => ⟨h, hlt⟩, hs, by rw [List.append_assoc]⟩, hk⟩
theorem sync_opU (h : LogU f w gl gd n T first recs) :
    Calls Try.prog 16 #[.pointer (some ⟨gl, 0, none⟩)] w fun e w' => e = .returned (.int .i64 0) ∧ LogU f w' gl gd n T first recs ∧ Kp (fun x => ¬ f x) w w' := by
  obtain ⟨l, d, rs, us, h1, h2, rfl⟩ := h
  obtain ⟨l', d', he, hs⟩ := sync_up h2
  refine (sync_b h1).mono ?_
  rintro e w' ⟨rfl, hB, hk⟩
  rw [he] at hB ⊢
  exact ⟨rfl, ⟨l', d', _, _, hB, hs, by rw [List.map_append, snd_pairs, List.append_nil]⟩, hk⟩
theorem cut_opU (h : LogU f w gl gd n T first recs) (hT : T + 1 < 256) (k : Nat) (h1 : first ≤ k) (h2 : k ≤ first + recs.length) (hk : k + 70000 < 18446744073709551616) :
    Calls Try.prog 12 #[.pointer (some ⟨gl, 0, none⟩), .int .u64 (k : Int)] w fun e w' => e = .returned (.int .i64 0) ∧ (∃ T', T' ≤ T + 1 ∧ LogU (fun x => f x ∨ (w.heap.size ≤ x ∧ x < w'.heap.size)) w' gl gd n T' k (recs.drop (k - first))) ∧ Kp (fun x => ¬ f x) w w' := by
  obtain ⟨l, d, rs, us, g1, g2, rfl⟩ := h
  obtain ⟨l', d', T', rs', he, hT', hs, hr⟩ := cut_up g2 hT h1 h2 hk
  obtain ⟨hg, hn3, _, _, hfi, htu, hwl, h64, _⟩ := g2.good
  refine (cut_any k g1 (by omega) hg.sum (by omega) (by omega)).mono ?_
  rintro e w' ⟨rfl, hB, hk⟩
  rw [he] at hB ⊢
  exact ⟨rfl, ⟨T', hT', l', d', rs', [], hB.mono fun x hx hlt => hx.imp_right fun h => ⟨h, hlt⟩, hs, by rw [List.append_nil, hr]⟩, hk⟩
theorem first_opU (h : LogU f w gl gd n T first recs) : Calls Try.prog 17 #[.pointer (some ⟨gl, 0, none⟩)] w fun e w' => e = .returned (.int .u64 (first : Int)) ∧ w' = w := by
  obtain ⟨l, d, rs, us, g1, g2, rfl⟩ := h
  have := first_b g1
  rw [g2.good.2.2.2.2.1] at this
  exact this
theorem next_opU (h : LogU f w gl gd n T first recs) : Calls Try.prog 14 #[.pointer (some ⟨gl, 0, none⟩)] w fun e w' => e = .returned (.int .u64 ((first + recs.length : Nat) : Int)) ∧ Below w.heap.size w w' := by
  obtain ⟨l, d, rs, us, g1, g2, rfl⟩ := h
  have := next_b g1
  rw [g2.good.2.2.2.2.1, g2.good.2.2.2.1] at this
  exact this
theorem records_opU (h : LogU f w gl gd n T first recs) : Calls Try.prog 13 #[.pointer (some ⟨gl, 0, none⟩)] w fun e w' => (∃ v, e = .returned v ∧ RSl rBs (fun b => w.heap.size ≤ b) w' v recs) ∧ Below w.heap.size w w' := by
  obtain ⟨l, d, rs, us, g1, g2, rfl⟩ := h
  have hg := g2.good
  have := records_b g1 (by have := hg.1.sum; have := g1.ok.1.used; have := secSum_ge l.recs; omega)
  rw [hg.2.2.2.1] at this
  exact this
/-- Open of a new disk -/
theorem open_newU (hn : 3 ≤ n) (h64 : n ≤ 65536) (hd : DiskR f w gd (newD n)) (hf : ∀ x, f x → x < w.heap.size) :
    Calls Try.prog 9 #[.pointer (some ⟨gd, 0, none⟩)] w fun e w' => (∃ gl, e = .returned (.tuple #[.pointer (some ⟨gl, 0, none⟩), .int .i64 0]) ∧ LogU (fun x => f x ∨ (w.heap.size ≤ x ∧ x < w'.heap.size)) w' gl gd n 1 0 []) ∧ Kp (fun x => ¬ f x) w w' := by
  obtain ⟨l, d, ho, s⟩ := new_up n hn h64
  have hop := open_any hd hf (by rw [newD_best]; show 0 + 70000 < _; omega) (by rw [newD_best]; show 0 + 1 < _; omega) (by show 0 + 1 ≤ _; omega)
  rw [ho] at hop
  refine hop.mono ?_
  rintro e w' ⟨⟨p, rfl, hp⟩, hk⟩
  obtain ⟨_, gl, rfl, hB2⟩ := hp.resolve_left fun h => h.1 rfl
  exact ⟨⟨gl, rfl, l, d, [], [], hB2.mono fun x hx hlt => hx.imp_right fun h => ⟨h, hlt⟩, s, rfl⟩, hk⟩
/-- Open of a disk on which a log stands -/
theorem open_opU (h : LogU f w gl gd n T first recs) (hT : T + 1 < 256) (hf : ∀ x, f x → x < w.heap.size) :
    Calls Try.prog 9 #[.pointer (some ⟨gd, 0, none⟩)] w fun e w' => (∃ g2, e = .returned (.tuple #[.pointer (some ⟨g2, 0, none⟩), .int .i64 0]) ∧ LogU (fun x => f x ∨ (w.heap.size ≤ x ∧ x < w'.heap.size)) w' g2 gd n (T + 1) first recs) ∧ Kp (fun x => ¬ f x) w w' := by
  obtain ⟨l, d, rs, us, g1, g2, rfl⟩ := h
  obtain ⟨l', d', rs', ho, hs, hr⟩ := open_up g2 hT
  obtain ⟨hg, hn3, _, _, hfi, htu, hwl, h64, _⟩ := g2.good
  obtain ⟨start, nx, hi⟩ := g2.inv
  obtain ⟨e, hbe⟩ := img_best ⟨g2.calm.down, hi.img.bas.len, rfl, hn3⟩ hi.shown
  have hop := open_any g1.disk hf (by rw [hbe]; exact h64) (by rw [hbe]; show T + 1 < _; omega) (by omega)
  rw [ho] at hop
  refine hop.mono ?_
  rintro e w' ⟨⟨p, rfl, hp⟩, hk⟩
  obtain ⟨_, gl, rfl, hB2⟩ := hp.resolve_left fun h => h.1 rfl
  exact ⟨⟨gl, rfl, l', d', rs', [], hB2.mono fun x hx hlt => hx.imp_right fun h => ⟨h, hlt⟩, hs, by rw [List.append_nil, hr]⟩, hk⟩
end
end Go.Proofs.Ytlnnfdjhejdgdaa
