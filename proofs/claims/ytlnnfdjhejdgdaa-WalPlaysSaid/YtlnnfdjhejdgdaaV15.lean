/- A log on a disk that may be hit: what each function leaves. No walk.
A log on a disk that may be hit: Sync, Cut; falls. No walk.
A log on a disk that may be hit: Cut; what a log that is dead does; what is found behind a fall. No walk. -/
import Derived.Test.YtlnnfdjhejdgdaaV10
namespace Go.Proofs.Ytlnnfdjhejdgdaa
open Go.RowKit

theorem hit_cases (d : DskD) (hd : d.down = false) : d.hit.1.kept = d.kept ∧ d.hit.1.wait = d.wait ∧ ((d.hit.2 = false ∧ d.hit.1.down = false) ∨ (d.hit.2 = true ∧ d.hit.1.down = true)) := by
  unfold DskD.hit
  split
  · exact ⟨rfl, rfl, .inl ⟨rfl, hd⟩⟩
  · refine ⟨rfl, rfl, ?_⟩
    cases h : decide (d.armed - 1 = 0)
    · exact .inl ⟨rfl, rfl⟩
    · exact .inr ⟨rfl, rfl⟩
theorem flush_live (d : DskD) (hd : d.down = false) : (d.flush.2 = 0 ∧ d.flush.1.kept = keepW d.kept d.wait ∧ d.flush.1.wait = [] ∧ d.flush.1.down = false) ∨ (d.flush.2 = 3 ∧ d.flush.1.kept = d.kept ∧ d.flush.1.wait = d.wait ∧ d.flush.1.down = true) := by
  obtain ⟨h1, h2, h3⟩ := hit_cases d hd
  unfold DskD.flush
  rw [if_neg (by rw [hd]; decide)]
  rcases h3 with ⟨h3, h4⟩ | ⟨h3, h4⟩
  · rw [if_neg (by rw [h3]; decide)]
    exact .inl ⟨rfl, rfl, rfl, h4⟩
  · rw [if_pos h3]
    exact .inr ⟨rfl, h1, h2, h4⟩
theorem write_live (d : DskD) (hd : d.down = false) {p : Nat} {b : List UInt8} (hp : p < d.kept.length) (hb : b.length = 64) : (d.write (p : Int) b).1.kept = d.kept ∧ (d.write (p : Int) b).1.wait = d.wait ++ [(p, b)] ∧
    (((d.write (p : Int) b).2 = 0 ∧ (d.write (p : Int) b).1.down = false) ∨ ((d.write (p : Int) b).2 = 3 ∧ (d.write (p : Int) b).1.down = true)) := by
  obtain ⟨h1, h2, h3⟩ := hit_cases { d with wait := d.wait ++ [(p, b)] } hd
  unfold DskD.write
  rw [if_neg (by rw [hd]; decide), if_neg (by omega), Int.toNat_natCast]
  refine ⟨h1, h2, ?_⟩
  rcases h3 with ⟨h3, h4⟩ | ⟨h3, h4⟩
  · exact .inl ⟨by simp only [h3]; rfl, h4⟩
  · exact .inr ⟨by simp only [h3]; rfl, h4⟩
theorem stA_stays (b : List UInt8) (turn ring : Nat) : ∀ (ks : List Nat) (s : DskD × Nat × Int), s.2.2 ≠ 0 → ks.foldl (stepA b turn ring) s = s
  | [], _, _ => rfl
  | k :: ks, s, h => by
    rw [List.foldl_cons, show stepA b turn ring s k = s from by unfold stepA; rw [if_pos h]]
    exact stA_stays b turn ring ks s h
/-- the sectors of a record are written, or some of them -/
theorem stA_live (b : List UInt8) (turn ring : Nat) (hring : 1 ≤ ring) : ∀ (ks : List Nat) (d : DskD) (at_ : Nat), d.down = false → d.kept.length = ring + 2 → at_ < ring →
    (ks.foldl (stepA b turn ring) (d, at_, 0)).1.kept = d.kept ∧ ∃ j, j ≤ ks.length ∧ (ks.foldl (stepA b turn ring) (d, at_, 0)).1.wait = d.wait ++ putsW ring at_ ((ks.map fun k => secB turn (partB b k)).take j) ∧
      (((ks.foldl (stepA b turn ring) (d, at_, 0)).2.2 = 0 ∧ j = ks.length ∧ (ks.foldl (stepA b turn ring) (d, at_, 0)).1.down = false) ∨ ((ks.foldl (stepA b turn ring) (d, at_, 0)).2.2 = 3 ∧ (ks.foldl (stepA b turn ring) (d, at_, 0)).1.down = true))
  | [], d, at_, hd, _, _ => ⟨rfl, 0, Nat.le_refl _, by simp [putsW], .inl ⟨rfl, rfl, hd⟩⟩
  | k :: ks, d, at_, hd, hk, ha => by
    obtain ⟨h1, h2, h3⟩ := write_live d hd (p := 2 + at_) (b := secB turn (partB b k)) (by omega) (secB_len _ _ (partB_le _ _))
    have hs : stepA b turn ring (d, at_, 0) k = ((d.write ((2 + at_ : Nat) : Int) (secB turn (partB b k))).1, (at_ + 1) % ring, (d.write ((2 + at_ : Nat) : Int) (secB turn (partB b k))).2) := by
      unfold stepA
      simp only
      rw [if_neg (by decide)]
    rw [List.foldl_cons, hs]
    generalize d.write ((2 + at_ : Nat) : Int) (secB turn (partB b k)) = p at *
    rcases h3 with ⟨h3, h4⟩ | ⟨h3, h4⟩
    · obtain ⟨g1, j, hj, g2, g3⟩ := stA_live b turn ring hring ks p.1 ((at_ + 1) % ring) h4 (by rw [h1]; exact hk) (Nat.mod_lt _ hring)
      rw [h3]
      refine ⟨g1.trans h1, j + 1, by rw [List.length_cons]; omega, ?_, ?_⟩
      · rw [g2, h2, List.map_cons, List.take_succ_cons, putsW, List.append_assoc]
        rfl
      · rw [List.length_cons]
        exact g3.imp (fun h => ⟨h.1, by omega, h.2.2⟩) id
    · rw [stA_stays b turn ring ks _ (by rw [h3]; decide)]
      refine ⟨h1, 1, by rw [List.length_cons]; omega, ?_, .inr ⟨h3, h4⟩⟩
      rw [List.map_cons, List.take_succ_cons, List.take_zero, putsW, putsW]
      exact h2
/-- a log that is up, on a disk that is up -/
structure Live (n : Nat) (l : LogD) (d : DskD) (T first : Nat) (rs : List (Nat × List UInt8)) (us : List (List UInt8)) : Prop where
  inv : ∃ start nx, Inv n l d T first start nx rs us
  down : d.down = false
  dead : l.dead = false
/-- what a disk that is down may show when it is up again -/
def Fall (n : Nat) (d : DskD) (T first cut : Nat) (sf us : List (List UInt8)) : Prop :=
  (∃ start nx rs P, Img d.kept n T first start nx rs us ∧ rs.map (·.2) = sf ∧ (∀ (i : Nat) (s : List UInt8), P[i]? = some s → (secs T us)[i]? = some s) ∧ d.wait = putsW (n - 2) ((start + secSum (rs.map (·.2))) % (n - 2)) P) ∨
  (us = [] ∧ T + 1 < 256 ∧ first < cut ∧ cut ≤ first + sf.length ∧ ∃ start nx rs e, e < 18446744073709551616 ∧ Img d.kept n T first start nx rs [] ∧ rs.map (·.2) = sf ∧
    d.wait = [((T + 1) % 2, hdB (T + 1) cut (first + rs.length) ((start + secSum ((rs.take (cut - first)).map (·.2))) % (n - 2)) e)])
/-- a log that has met a disk that is down -/
structure Dead (n : Nat) (l : LogD) (d : DskD) (T first cut : Nat) (sf us : List (List UInt8)) : Prop where
  down : d.down = true
  dead : l.dead = true
  sum : l.used = secSum l.recs
  f64 : l.first + 70000 < 18446744073709551616
  turn : l.turn < 256
  wait : d.wait.length ≤ 65537
  fall : Fall n d T first cut sf us
section
variable {n : Nat} {l : LogD} {d : DskD} {T first : Nat} {rs : List (Nat × List UInt8)} {us : List (List UInt8)}
theorem Up.live (h : Up n l d T first rs us) : Live n l d T first rs us := ⟨h.inv, h.calm.down, h.dead⟩
theorem Live.facts (h : Live n l d T first rs us) : d.kept.length = n ∧ 3 ≤ n ∧ n ≤ 65536 ∧ l.end_ < n - 2 ∧ l.recs = rs.map (·.2) ++ us ∧ l.first = first ∧ l.turn = T ∧ d.wait.length ≤ 65536 ∧ first + 70000 < 18446744073709551616 ∧ T < 256 ∧ l.used = secSum l.recs := by
  obtain ⟨start, nx, hi⟩ := h.inv
  have hn3 := hi.img.bas.n3
  refine ⟨hi.img.bas.len, hn3, hi.img.bas.n64, ?_, hi.log.recs, hi.log.first, hi.log.turn, hi.wait_len, hi.img.bas.f64, hi.img.bas.T1, by rw [hi.log.used, hi.log.recs]⟩
  rw [hi.log.end_]
  exact Nat.mod_lt _ (by omega)
theorem Live.rdy (h : Live n l d T first rs us) : rdyE l d = 0 ∧ rdy l d = l := by
  unfold rdyE Go.Proofs.Ytlnnfdjhejdgdaa.rdy
  rw [h.dead, h.down]
  exact ⟨rfl, rfl⟩
theorem take_get {α : Type} {l : List α} {k i : Nat} {s : α} (h : (l.take k)[i]? = some s) : l[i]? = some s := by
  have hi := (List.getElem?_eq_some_iff.1 h).1
  rw [List.length_take] at hi
  rwa [List.getElem?_take_of_lt (by omega)] at h
theorem append_live (h : Live n l d T first rs us) {b : List UInt8} (hb : b.length ≤ 32768) : ∃ l' d' e, appendL l d b = (l', d', e) ∧
    ((e = 0 ∧ Live n l' d' T first rs (us ++ [b])) ∨ (e = 4 ∧ l' = l ∧ d' = d ∧ n - 2 < secSum (rs.map (·.2) ++ us) + secN b.length) ∨ (e = 3 ∧ Dead n l' d' T first first (rs.map (·.2)) (us ++ [b]))) := by
  obtain ⟨hkl, hn3, hn64, he, hr, hfi, htu, hwl, h64, hT, hsum⟩ := h.facts
  obtain ⟨start, nx, hi⟩ := h.inv
  unfold appendL
  rw [if_neg (by omega), if_neg (by rw [h.rdy.1]; decide), hkl]
  by_cases hfull : n < l.used + secN b.length + 2
  · rw [if_pos hfull]
    exact ⟨_, _, _, rfl, .inr (.inl ⟨rfl, rfl, rfl, by rw [hsum, hr] at hfull; omega⟩)⟩
  rw [if_neg hfull]
  have hfit : secSum (rs.map (·.2) ++ us) + secN b.length ≤ n - 2 := by rw [hsum, hr] at hfull; omega
  have hst := stA_live b l.turn (n - 2) (by omega) (List.range (secN b.length)) d l.end_ h.down (by omega) he
  unfold stA
  generalize (List.range (secN b.length)).foldl (stepA b l.turn (n - 2)) (d, l.end_, 0) = s at *
  obtain ⟨g1, j, hj, g2, g3⟩ := hst
  have hia := hi.append hb hfit
  have hsB : (List.range (secN b.length)).map (fun k => secB l.turn (partB b k)) = secsB l.turn b := rfl
  rw [hsB] at g2
  rw [List.length_range] at hj g3
  simp only
  rcases g3 with ⟨g3, rfl, g4⟩ | ⟨g3, g4⟩
  · rw [if_neg (by rw [g3]; decide)]
    refine ⟨_, _, _, rfl, .inl ⟨rfl, ⟨⟨start, nx, ?_⟩, g4, h.dead⟩⟩⟩
    rw [List.take_of_length_le (by rw [secsB_len]; exact Nat.le_refl _)] at g2
    exact ⟨by rw [g1]; exact hia.img, hia.log, by rw [g2]; exact hia.wait, hia.wts⟩
  · rw [if_pos (by rw [g3]; decide)]
    refine ⟨_, _, _, rfl, .inr (.inr ⟨g3, ⟨g4, by rw [g3]; simp, hsum, by rw [hfi]; exact h64, by rw [htu]; exact hT, ?_, .inl ⟨start, nx, rs, secs T us ++ (secsB T b).take j, by rw [g1]; exact hia.img, rfl, fun i s hs => ?_, ?_⟩⟩⟩)⟩
    · rw [g2, List.length_append, putsW_len, List.length_take, secsB_len]
      have h1 := hia.wait_len
      have h2 : (d.wait ++ putsW (n - 2) l.end_ (secsB l.turn b)).length ≤ 65536 := h1
      rw [List.length_append, putsW_len, secsB_len] at h2
      omega
    · rw [secs_append, show secs T [b] = secsB T b by simp [secs]]
      rw [List.getElem?_append] at hs ⊢
      split at hs
      · rename_i hlt
        rw [if_pos hlt]
        exact hs
      · rename_i hlt
        rw [if_neg hlt]
        exact take_get hs
    · have hm := Nat.mod_lt (start + secSum (rs.map (·.2))) (show 0 < n - 2 by omega)
      rw [g2, hi.wait, htu, hi.log.end_, putsW_append _ _ _ _ hm, secs_len, Nat.mod_add_mod, secSum_append, Nat.add_assoc]
end
end Go.Proofs.Ytlnnfdjhejdgdaa

namespace Go.Proofs.Ytlnnfdjhejdgdaa
open Go.RowKit

section
variable {n : Nat} {l : LogD} {d : DskD} {T first : Nat} {rs : List (Nat × List UInt8)} {us : List (List UInt8)}
theorem Live.fallA (h : Live n l d T first rs us) {d' : DskD} (hk : d'.kept = d.kept) (hw : d'.wait = d.wait) (cut : Nat) : Fall n d' T first cut (rs.map (·.2)) us := by
  obtain ⟨start, nx, hi⟩ := h.inv
  exact .inl ⟨start, nx, rs, secs T us, by rw [hk]; exact hi.img, rfl, fun _ _ h => h, by rw [hw]; exact hi.wait⟩
theorem sync_live (h : Live n l d T first rs us) (cut : Nat) : ∃ l' d' e, syncL l d = (l', d', e) ∧
    ((e = 0 ∧ Live n l' d' T first (rs ++ us.map fun b => (T, b)) []) ∨ (e = 3 ∧ Dead n l' d' T first cut (rs.map (·.2)) us)) := by
  obtain ⟨hkl, hn3, hn64, he, hr, hfi, htu, hwl, h64, hT, hsum⟩ := h.facts
  obtain ⟨start, nx, hi⟩ := h.inv
  unfold syncL
  rw [if_neg (by rw [h.rdy.1]; decide)]
  cases hw : l.waits
  · have hus := hi.wts hw
    subst hus
    refine ⟨_, _, _, rfl, .inl ⟨rfl, ?_⟩⟩
    rw [List.map_nil, List.append_nil]
    exact h
  · rw [if_neg (by decide)]
    rcases flush_live d h.down with ⟨f1, f2, f3, f4⟩ | ⟨f1, f2, f3, f4⟩
    · have hfl := hi.flush false
      simp only [f1]
      refine ⟨_, _, _, rfl, .inl ⟨rfl, ⟨⟨start, nx, ?_⟩, f4, ?_⟩⟩⟩
      · exact ⟨by rw [f2]; exact hfl.img, ⟨hfl.log.turn, hfl.log.first, hfl.log.recs, hfl.log.places, hfl.log.end_, hfl.log.used⟩, by rw [f3]; exact hfl.wait, fun _ => rfl⟩
      · rw [h.dead]; rfl
    · simp only [f1]
      refine ⟨_, _, _, rfl, .inr ⟨rfl, ⟨f4, by simp, hsum, by rw [hfi]; exact h64, by rw [htu]; exact hT, by rw [f3]; omega, h.fallA f2 f3 cut⟩⟩⟩
theorem tellB_lg {start : Nat} {bs_ : List (List UInt8)} (hl : Lg l T first (n - 2) start bs_) (k : Nat) : tellB l k = hdB (T + 1) (first + k) (first + bs_.length) ((start + secSum (bs_.take k)) % (n - 2)) l.end_ := by
  unfold tellB
  rw [hl.turn, hl.first, hl.recs]
  congr 1
  simp only [hl.places]
  split
  · rw [plc_get]
  · rename_i hlt
    rw [plc_len] at hlt
    rw [hl.end_, List.take_of_length_le (by omega)]
/-- a head is told, or the disk is hit -/
theorem tell_live (h : Live n l d T first rs us) (hT : T + 1 < 256) {k : Nat} (hk0 : 0 < k) (hk : k ≤ (rs.map (·.2) ++ us).length) (hf : first + k + 70000 < 18446744073709551616) : ∃ l' d' e, tellL l d k = (l', d', e) ∧
    ((e = 0 ∧ ∃ q, Live n { l' with waits := false } d' (T + 1) (first + k) q [] ∧ q.map (·.2) = (rs.map (·.2) ++ us).drop k) ∨
     (e = 3 ∧ l' = l ∧ d'.down = true ∧ d'.wait.length ≤ 65537 ∧ (Fall n d' T first (first + k) (rs.map (·.2)) us ∨ Fall n d' T first (first + k) (rs.map (·.2) ++ us) []))) := by
  obtain ⟨hkl, hn3, hn64, he, hr, hfi, htu, hwl, h64, hT1, hsum⟩ := h.facts
  obtain ⟨start, nx, hi⟩ := h.inv
  have hi2 := hi.flush l.waits
  have hlg := hi2.log
  rw [List.append_nil] at hlg
  have hq : (rs ++ us.map fun b => (T, b)).map (·.2) = rs.map (·.2) ++ us := by rw [List.map_append, snd_pairs]
  have hql : (rs ++ us.map fun b => (T, b)).length = (rs.map (·.2) ++ us).length := by simp
  have hel : l.end_ < 18446744073709551616 := by omega
  have htb := tellB_lg hlg k
  rw [hq] at htb
  unfold tellL
  rw [if_neg (by omega)]
  rcases flush_live d h.down with ⟨f1, f2, f3, f4⟩ | ⟨f1, f2, f3, f4⟩
  · rw [if_neg (by rw [f1]; decide)]
    obtain ⟨w1, w2, w3⟩ := write_live d.flush.1 f4 (p := (l.turn + 1) % 2) (b := tellB l k) (by rw [f2, keepW_len]; omega) (hdB_len _ _ _ _ _)
    have hB : ∀ d' : DskD, d'.kept = keepW d.kept d.wait → d'.wait = [((l.turn + 1) % 2, tellB l k)] → Fall n d' T first (first + k) (rs.map (·.2) ++ us) [] := fun d' k1 k2 => by
      refine .inr ⟨rfl, hT, by omega, by omega, start, nx, rs ++ us.map fun b => (T, b), l.end_, hel, by rw [k1]; exact hi2.img, hq, ?_⟩
      rw [k2, htu, htb, hql, Nat.add_sub_cancel_left, List.map_take, hq]
    generalize d.flush.1.write (((l.turn + 1) % 2 : Nat) : Int) (tellB l k) = p at *
    simp only
    rcases w3 with ⟨w3, w4⟩ | ⟨w3, w4⟩
    · rw [if_neg (by rw [w3]; decide)]
      rcases flush_live p.1 w4 with ⟨g1, g2, g3, g4⟩ | ⟨g1, g2, g3, g4⟩
      · rw [if_neg (by rw [g1]; decide)]
        have ht := told_inv (l := { l with waits := l.waits }) hi2.img.bas hlg hT k (by rw [hql]; exact hk) hf false false p.1.flush.1.armed
        refine ⟨_, _, _, rfl, .inl ⟨rfl, (rs ++ us.map fun b => (T, b)).drop k, ⟨⟨(start + secSum (((rs ++ us.map fun b => (T, b)).take k).map (·.2))) % (n - 2), first + (rs ++ us.map fun b => (T, b)).length, ⟨?_, ?_, ?_, fun _ => rfl⟩⟩, g4, h.dead⟩, by rw [List.map_drop, hq]⟩⟩
        · have e : p.1.flush.1.kept = (keepW d.kept d.wait).set ((l.turn + 1) % 2) (tellB l k) := by
            rw [g2, w1, w2, f2, f3]
            rfl
          rw [e]
          exact ht.img
        · exact ⟨ht.log.turn, ht.log.first, ht.log.recs, ht.log.places, ht.log.end_, ht.log.used⟩
        · rw [g3]
          exact ht.wait
      · rw [if_pos (by rw [g1]; decide)]
        refine ⟨_, _, _, rfl, .inr ⟨g1, rfl, g4, by rw [g3, w2, f3]; simp, .inr (hB _ (by rw [g2, w1, f2]) (by rw [g3, w2, f3]; rfl))⟩⟩
    · rw [if_pos (by rw [w3]; decide)]
      refine ⟨_, _, _, rfl, .inr ⟨w3, rfl, w4, by rw [w2, f3]; simp, .inr (hB _ (by rw [w1, f2]) (by rw [w2, f3]; rfl))⟩⟩
  · rw [if_pos (by rw [f1]; decide)]
    exact ⟨_, _, _, rfl, .inr ⟨f1, rfl, f4, by rw [f3]; omega, .inl (h.fallA f2 f3 _)⟩⟩
end
end Go.Proofs.Ytlnnfdjhejdgdaa

namespace Go.Proofs.Ytlnnfdjhejdgdaa
open Go.RowKit

section
variable {n : Nat} {l : LogD} {d : DskD} {T first : Nat} {rs : List (Nat × List UInt8)} {us : List (List UInt8)}
theorem cut_live (h : Live n l d T first rs us) (hT : T + 1 < 256) (k : Nat) (h64 : first + (rs.map (·.2) ++ us).length + 70000 < 18446744073709551616) : ∃ l' d' e, cutL l d k = (l', d', e) ∧
    ((¬ (first ≤ k ∧ k ≤ first + (rs.map (·.2) ++ us).length) ∧ e = 1 ∧ l' = l ∧ d' = d) ∨
     (first ≤ k ∧ k ≤ first + (rs.map (·.2) ++ us).length ∧ e = 0 ∧ ∃ T' q, T' ≤ T + 1 ∧ Live n l' d' T' k q [] ∧ q.map (·.2) = (rs.map (·.2) ++ us).drop (k - first)) ∨
     (first ≤ k ∧ k ≤ first + (rs.map (·.2) ++ us).length ∧ e = 3 ∧ ∃ sf' us', sf' ++ us' = rs.map (·.2) ++ us ∧ rs.length ≤ sf'.length ∧ Dead n l' d' T first k sf' us')) := by
  obtain ⟨hkl, hn3, hn64, he, hr, hfi, htu, hwl, hf64, hT1, hsum⟩ := h.facts
  unfold cutL
  rw [hfi, hr]
  by_cases hin : k < first ∨ first + (rs.map (·.2) ++ us).length < k
  · rw [if_pos hin]
    exact ⟨_, _, _, rfl, .inl ⟨by omega, rfl, rfl, rfl⟩⟩
  rw [if_neg hin]
  have h1 : first ≤ k := by omega
  have h2 : k ≤ first + (rs.map (·.2) ++ us).length := by omega
  by_cases hk : k = first
  · rw [if_pos hk]
    obtain ⟨l', d', e, hs, hc⟩ := sync_live h k
    refine ⟨l', d', e, hs, .inr ?_⟩
    rcases hc with ⟨rfl, hl⟩ | ⟨rfl, hd⟩
    · refine .inl ⟨h1, h2, rfl, T, _, Nat.le_succ _, by rw [hk]; exact hl, ?_⟩
      rw [List.map_append, snd_pairs, hk, Nat.sub_self, List.drop_zero]
    · exact .inr ⟨h1, h2, rfl, _, us, rfl, by rw [List.length_map]; exact Nat.le_refl _, hd⟩
  · rw [if_neg hk, if_neg (by rw [h.rdy.1]; decide)]
    obtain ⟨l', d', e, hs, hc⟩ := tell_live h hT (k := k - first) (by omega) (by omega) (by omega)
    simp only [hs]
    rcases hc with ⟨rfl, q, hl, hq⟩ | ⟨rfl, rfl, hdn, hwl', hfall⟩
    · rw [if_neg (by decide)]
      have hdd : l'.dead = false := hl.dead
      have hl' : Live n { dead := l'.dead || (0 : Int) == 3, turn := l'.turn, first := l'.first, recs := l'.recs, places := l'.places, end_ := l'.end_, used := l'.used, waits := false } d' (T + 1) k q [] := by
        have e0 : (l'.dead || (0 : Int) == 3) = l'.dead := by simp
        rw [e0]
        have := hl
        rw [show first + (k - first) = k by omega] at this
        exact this
      exact ⟨_, _, _, rfl, .inr (.inl ⟨h1, h2, rfl, T + 1, q, Nat.le_refl _, hl', hq⟩)⟩
    · rw [if_pos (by decide)]
      rw [show first + (k - first) = k by omega] at hfall
      have hD : ∀ sf' us', Fall n d' T first k sf' us' → Dead n { dead := l'.dead || (3 : Int) == 3, turn := l'.turn, first := l'.first, recs := l'.recs, places := l'.places, end_ := l'.end_, used := l'.used, waits := l'.waits } d' T first k sf' us' := fun sf' us' hf => ⟨hdn, by simp, hsum, by show l'.first + _ < _; rw [hfi]; exact hf64, by show l'.turn < _; rw [htu]; exact hT1, hwl', hf⟩
      refine ⟨_, _, _, rfl, .inr (.inr ⟨h1, h2, rfl, ?_⟩)⟩
      rcases hfall with hf | hf
      · exact ⟨_, us, rfl, by rw [List.length_map]; exact Nat.le_refl _, hD _ _ hf⟩
      · exact ⟨_, [], List.append_nil _, by rw [List.length_append, List.length_map]; omega, hD _ _ hf⟩
end
section
variable {n : Nat} {l : LogD} {d : DskD} {T first cut : Nat} {sf us : List (List UInt8)}
theorem Dead.rdy (h : Dead n l d T first cut sf us) : rdyE l d = 3 ∧ rdy l d = l := by
  unfold rdyE Go.Proofs.Ytlnnfdjhejdgdaa.rdy
  rw [if_pos (by rw [h.dead]; rfl), if_pos (by rw [h.dead]; rfl)]
  refine ⟨rfl, ?_⟩
  have := h.dead
  cases l
  simp only at this
  subst this
  rfl
theorem append_dead (h : Dead n l d T first cut sf us) {b : List UInt8} (hb : b.length ≤ 32768) : appendL l d b = (l, d, 3) := by
  unfold appendL
  rw [if_neg (by omega), if_pos (by rw [h.rdy.1]; decide), h.rdy.2]
theorem sync_dead (h : Dead n l d T first cut sf us) : syncL l d = (l, d, 3) := by
  unfold syncL
  rw [if_pos (by rw [h.rdy.1]; decide), h.rdy.2]
theorem cut_dead (h : Dead n l d T first cut sf us) (k : Nat) : cutL l d k = (l, d, 1) ∨ cutL l d k = (l, d, 3) := by
  unfold cutL
  split
  · exact .inl rfl
  · split
    · exact .inr (sync_dead h)
    · rw [if_pos (by rw [h.rdy.1]; decide), h.rdy.2]
      exact .inr rfl
theorem Dead.arm (h : Dead n l d T first cut sf us) (x : Int) : Dead n l (d.arm x) T first cut sf us := ⟨h.down, h.dead, h.sum, h.f64, h.turn, h.wait, h.fall⟩
end
theorem Live.arm {n : Nat} {l : LogD} {d : DskD} {T first : Nat} {rs : List (Nat × List UInt8)} {us : List (List UInt8)} (h : Live n l d T first rs us) (x : Int) : Live n l (d.arm x) T first rs us := by
  obtain ⟨start, nx, hi⟩ := h.inv
  exact ⟨⟨start, nx, ⟨hi.img, hi.log, hi.wait, hi.wts⟩⟩, h.down, h.dead⟩
/-- a head that was not told whole -/
theorem Img.setOther {I : List (List UInt8)} {n T first start nx : Nat} {rs : List (Nat × List UInt8)} {us : List (List UInt8)} (h : Img I n T first start nx rs us) {s : List UInt8} (hs : Sm s) (hb : sback s ≤ T) (hf : sfront s = sback s → sfront s < T) : Img (I.set ((T + 1) % 2) s) n T first start nx rs us := by
  have hp : (T + 1) % 2 < 2 := Nat.mod_lt _ (by omega)
  have hn3 := h.bas.n3
  have hr := ringAt_head (I := I) (ring := n - 2) hp s
  have hget : (I.set ((T + 1) % 2) s).getD ((T + 1) % 2) [] = s := by
    rw [List.getD_eq_getElem?_getD, List.getElem?_set_self (by rw [h.bas.len]; omega)]
    rfl
  have hne : ∀ i, i ≠ (T + 1) % 2 → (I.set ((T + 1) % 2) s).getD i [] = I.getD i [] := fun i hi => by
    rw [List.getD_eq_getElem?_getD, List.getElem?_set_ne (by omega), List.getD_eq_getElem?_getD]
  have hT2 : T % 2 ≠ (T + 1) % 2 := by omega
  refine ⟨⟨by rw [List.length_set]; exact h.bas.len, hn3, h.bas.n64, fun i hi => ?_, h.bas.T1, h.bas.st, fun p => by rw [hr]; exact h.bas.back p, h.bas.chain.up (Nat.le_refl _) hr, h.bas.fit, by rw [hne _ hT2]; exact h.bas.hd, h.bas.f64⟩, h.T0, h.usl, h.fit, fun j hj => by rw [hr]; exact h.free j hj, by rw [hne _ hT2]; exact h.head, h.nx1, h.nx2, h.nxT, by rw [hget]; exact ⟨hb, hf⟩⟩
  by_cases e0 : i = (T + 1) % 2
  · rw [e0, hget]
    exact hs
  · rw [hne i e0]
    exact h.bas.sm i hi
/-- what is found when a disk is up again -/
def Found (n : Nat) (d : DskD) (T first cut : Nat) (sf us : List (List UInt8)) : Prop :=
  Calm d ∧ d.wait = [] ∧ ∃ T' first' sf' us' start nx rs, T' ≤ T + 1 ∧ Img d.kept n T' first' start nx rs us' ∧ rs.map (·.2) = sf' ∧
    ((first' = first ∧ sf' = sf ∧ us' = us ∧ T' = T) ∨ (first' = cut ∧ first < cut ∧ cut ≤ first + sf.length ∧ sf' = sf.drop (cut - first) ∧ us' = [] ∧ us = []))
theorem fall_start {n : Nat} {d : DskD} {T first cut : Nat} {sf us : List (List UInt8)} (h : Fall n d T first cut sf us) (hd : d.down = true) : Found n d.start T first cut sf us := by
  have e : d.start = { d with armed := 0, down := false, wait := [] } := by unfold DskD.start; rw [if_pos hd]
  rw [e]
  refine ⟨⟨rfl, rfl⟩, rfl, ?_⟩
  rcases h with ⟨start, nx, rs, P, hi, hs, _⟩ | ⟨rfl, _, _, _, start, nx, rs, e, _, hi, hs, _⟩
  · exact ⟨T, first, sf, us, start, nx, rs, Nat.le_succ _, hi, hs, .inl ⟨rfl, rfl, rfl, rfl⟩⟩
  · exact ⟨T, first, sf, [], start, nx, rs, Nat.le_succ _, hi, hs, .inl ⟨rfl, rfl, rfl, rfl⟩⟩
theorem fall_crash {n : Nat} {d : DskD} {T first cut : Nat} {sf us : List (List UInt8)} (h : Fall n d T first cut sf us) (hf : first + sf.length + 70000 < 18446744073709551616) (keep : List Int) : Found n (d.crash keep).start T first cut sf us := by
  rw [crash_start]
  refine ⟨⟨rfl, rfl⟩, rfl, ?_⟩
  rcases h with ⟨start, nx, rs, P, hi, hs, hP, hw⟩ | ⟨rfl, hT, hc1, hc2, start, nx, rs, e, he, hi, hs, hw⟩
  · refine ⟨T, first, sf, us, start, nx, rs, Nat.le_succ _, ?_, hs, .inl ⟨rfl, rfl, rfl, rfl⟩⟩
    have := img_crash hi keep P hP P.length (Nat.le_refl _)
    show Img (tearI keep d.wait d.kept d.wait.length) _ _ _ _ _ _ _
    rw [hw, putsW_len]
    exact this
  · have hn3 := hi.bas.n3
    have hrl : rs.length = sf.length := by rw [← hs, List.length_map]
    have hbt := bas_tell hi.bas hT (cut - first) (by omega) (by omega) e he
    rw [show first + (cut - first) = cut by omega] at hbt
    have hsm : Sm (hdB (T + 1) cut (first + rs.length) ((start + secSum ((rs.take (cut - first)).map (·.2))) % (n - 2)) e) := hdB_sm hT
    have hst' := Nat.mod_lt (start + secSum ((rs.take (cut - first)).map (·.2))) (show 0 < n - 2 by omega)
    have hn64 := hi.bas.n64
    have hrd := hdB_at (T + 1) cut (first + rs.length) ((start + secSum ((rs.take (cut - first)).map (·.2))) % (n - 2)) e (by omega) (by omega) (by omega) (by omega) he
    have hfr : sfront (hdB (T + 1) cut (first + rs.length) ((start + secSum ((rs.take (cut - first)).map (·.2))) % (n - 2)) e) = T + 1 := congrArg HeadD.turn hrd.1
    have hk : tearI keep d.wait d.kept d.wait.length = d.kept.set ((T + 1) % 2) (torn (hdB (T + 1) cut (first + rs.length) ((start + secSum ((rs.take (cut - first)).map (·.2))) % (n - 2)) e) (d.kept.getD ((T + 1) % 2) []) (tearN keep 0)) := by
      rw [hw]
      rfl
    show ∃ T' first' sf' us' start nx rs, T' ≤ T + 1 ∧ Img (tearI keep d.wait d.kept d.wait.length) n T' first' start nx rs us' ∧ _
    rw [hk]
    have hold := hi.bas.sm ((T + 1) % 2) (by omega)
    obtain ⟨hts, htc⟩ := torn_cases hsm hold (tearN keep 0)
    rcases htc with ht | ⟨ht1, ht2⟩ | ht
    · refine ⟨T, first, sf, [], start, nx, rs, Nat.le_succ _, ?_, hs, .inl ⟨rfl, rfl, rfl, rfl⟩⟩
      rw [ht]
      exact hi.setOther hold hi.other.1 hi.other.2
    · refine ⟨T, first, sf, [], start, nx, rs, Nat.le_succ _, ?_, hs, .inl ⟨rfl, rfl, rfl, rfl⟩⟩
      exact hi.setOther hts (by rw [ht2]; exact hi.other.1) (fun hh => by rw [ht1, ht2, hfr] at hh; have := hi.other.1; omega)
    · refine ⟨T + 1, cut, sf.drop (cut - first), [], (start + secSum ((rs.take (cut - first)).map (·.2))) % (n - 2), first + rs.length, rs.drop (cut - first), Nat.le_refl _, ?_, by rw [List.map_drop, hs], .inr ⟨rfl, hc1, hc2, rfl, rfl, rfl⟩⟩
      rw [ht]
      exact hbt
end Go.Proofs.Ytlnnfdjhejdgdaa
