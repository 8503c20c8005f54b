/- A log on a disk that may be hit: what each function leaves. No walk.
A log on a disk that may be hit: Sync, Cut; falls. No walk.
A log on a disk that may be hit: Cut; what a log that is dead does; what is found behind a fall. No walk.
A log on a disk that may be hit: contracts. No walk.
A log on a disk that may be hit: contracts, of the disk and of Open. No walk.
Contracts: a vault on a disk that may be hit: what the disk shows, and Open. -/
import Derived.Test.YtnlhjhpikjmoaaaGreatDoorB9
import Derived.Test.YtnlhjhpikjmoaaaGreatDoorB28
namespace Go.Proofs.YtnlhjhpikjmoaaaGreatDoor
open Go.RowKit
theorem hit_cases (d : DskD) (hd : d.down = false) : d.hit.1.kept = d.kept ∧ d.hit.1.wait = d.wait ∧ ((d.hit.2 = false ∧ d.hit.1.down = false) ∨ (d.hit.2 = true ∧ d.hit.1.down = true)) := by
  unfold DskD.hit
  split
  · exact ⟨rfl, rfl, .inl ⟨rfl, hd⟩⟩
  · refine ⟨rfl, rfl, ?_⟩
    cases h : decide (d.armed - 1 = 0)
    · exact .inl ⟨rfl, rfl⟩
    · exact .inr ⟨rfl, rfl⟩
theorem flush_live (d : DskD) (hd : d.down = false) : (d.flush.2 = 0 ∧ d.flush.1.kept = keepW d.kept d.wait ∧ d.flush.1.wait = [] ∧ d.flush.1.down = false) ∨ (d.flush.2 = 3 ∧ d.flush.1.kept = d.kept ∧ d.flush.1.wait = d.wait ∧ d.flush.1.down = true) := by
  obtain ⟨h1, h2, h3⟩ := hit_cases d hd
  unfold DskD.flush
  rw [if_neg (by rw [hd]; decide)]
  rcases h3 with ⟨h3, h4⟩ | ⟨h3, h4⟩
  · rw [if_neg (by rw [h3]; decide)]
    exact .inl ⟨rfl, rfl, rfl, h4⟩
  · rw [if_pos h3]
    exact .inr ⟨rfl, h1, h2, h4⟩
theorem write_live (d : DskD) (hd : d.down = false) {p : Nat} {b : List UInt8} (hp : p < d.kept.length) (hb : b.length = 64) : (d.write (p : Int) b).1.kept = d.kept ∧ (d.write (p : Int) b).1.wait = d.wait ++ [(p, b)] ∧
    (((d.write (p : Int) b).2 = 0 ∧ (d.write (p : Int) b).1.down = false) ∨ ((d.write (p : Int) b).2 = 3 ∧ (d.write (p : Int) b).1.down = true)) := by
  obtain ⟨h1, h2, h3⟩ := hit_cases { d with wait := d.wait ++ [(p, b)] } hd
  unfold DskD.write
  rw [if_neg (by rw [hd]; decide), if_neg (by omega), Int.toNat_natCast]
  refine ⟨h1, h2, ?_⟩
  rcases h3 with ⟨h3, h4⟩ | ⟨h3, h4⟩
  · exact .inl ⟨by simp only [h3]; rfl, h4⟩
  · exact .inr ⟨by simp only [h3]; rfl, h4⟩
theorem stA_stays (b : List UInt8) (turn ring : Nat) : ∀ (ks : List Nat) (s : DskD × Nat × Int), s.2.2 ≠ 0 → ks.foldl (stepA b turn ring) s = s
  | [], _, _ => rfl
  | k :: ks, s, h => by
    rw [List.foldl_cons, show stepA b turn ring s k = s from by unfold stepA; rw [if_pos h]]
    exact stA_stays b turn ring ks s h
theorem stA_live (b : List UInt8) (turn ring : Nat) (hring : 1 ≤ ring) : ∀ (ks : List Nat) (d : DskD) (at_ : Nat), d.down = false → d.kept.length = ring + 2 → at_ < ring →
    (ks.foldl (stepA b turn ring) (d, at_, 0)).1.kept = d.kept ∧ ∃ j, j ≤ ks.length ∧ (ks.foldl (stepA b turn ring) (d, at_, 0)).1.wait = d.wait ++ putsW ring at_ ((ks.map fun k => secB turn (partB b k)).take j) ∧
      (((ks.foldl (stepA b turn ring) (d, at_, 0)).2.2 = 0 ∧ j = ks.length ∧ (ks.foldl (stepA b turn ring) (d, at_, 0)).1.down = false) ∨ ((ks.foldl (stepA b turn ring) (d, at_, 0)).2.2 = 3 ∧ (ks.foldl (stepA b turn ring) (d, at_, 0)).1.down = true))
  | [], d, at_, hd, _, _ => ⟨rfl, 0, Nat.le_refl _, by simp [putsW], .inl ⟨rfl, rfl, hd⟩⟩
  | k :: ks, d, at_, hd, hk, ha => by
    obtain ⟨h1, h2, h3⟩ := write_live d hd (p := 2 + at_) (b := secB turn (partB b k)) (by omega) (secB_len _ _ (partB_le _ _))
    have hs : stepA b turn ring (d, at_, 0) k = ((d.write ((2 + at_ : Nat) : Int) (secB turn (partB b k))).1, (at_ + 1) % ring, (d.write ((2 + at_ : Nat) : Int) (secB turn (partB b k))).2) := by
      unfold stepA
      simp only
      rw [if_neg (by decide)]
    rw [List.foldl_cons, hs]
    generalize d.write ((2 + at_ : Nat) : Int) (secB turn (partB b k)) = p at *
    rcases h3 with ⟨h3, h4⟩ | ⟨h3, h4⟩
    · obtain ⟨g1, j, hj, g2, g3⟩ := stA_live b turn ring hring ks p.1 ((at_ + 1) % ring) h4 (by rw [h1]; exact hk) (Nat.mod_lt _ hring)
      rw [h3]
      refine ⟨g1.trans h1, j + 1, by rw [List.length_cons]; omega, ?_, ?_⟩
      · rw [g2, h2, List.map_cons, List.take_succ_cons, putsW, List.append_assoc]
        rfl
      · rw [List.length_cons]
        exact g3.imp (fun h => ⟨h.1, by omega, h.2.2⟩) id
    · rw [stA_stays b turn ring ks _ (by rw [h3]; decide)]
      refine ⟨h1, 1, by rw [List.length_cons]; omega, ?_, .inr ⟨h3, h4⟩⟩
      rw [List.map_cons, List.take_succ_cons, List.take_zero, putsW, putsW]
      exact h2
structure Live (n : Nat) (l : LogD) (d : DskD) (T first : Nat) (rs : List (Nat × List UInt8)) (us : List (List UInt8)) : Prop where
  inv : ∃ start nx, Inv n l d T first start nx rs us
  down : d.down = false
  dead : l.dead = false
def Fall (n : Nat) (d : DskD) (T first cut : Nat) (sf us : List (List UInt8)) : Prop :=
  (∃ start nx rs P, Img d.kept n T first start nx rs us ∧ rs.map (·.2) = sf ∧ (∀ (i : Nat) (s : List UInt8), P[i]? = some s → (secs T us)[i]? = some s) ∧ d.wait = putsW (n - 2) ((start + secSum (rs.map (·.2))) % (n - 2)) P) ∨
  (us = [] ∧ T + 1 < 256 ∧ first < cut ∧ cut ≤ first + sf.length ∧ ∃ start nx rs e, e < 18446744073709551616 ∧ Img d.kept n T first start nx rs [] ∧ rs.map (·.2) = sf ∧
    d.wait = [((T + 1) % 2, hdB (T + 1) cut (first + rs.length) ((start + secSum ((rs.take (cut - first)).map (·.2))) % (n - 2)) e)])
structure Dead (n : Nat) (l : LogD) (d : DskD) (T first cut : Nat) (sf us : List (List UInt8)) : Prop where
  down : d.down = true
  dead : l.dead = true
  sum : l.used = secSum l.recs
  f64 : l.first + 70000 < 18446744073709551616
  turn : l.turn < 256
  wait : d.wait.length ≤ 65537
  fall : Fall n d T first cut sf us
section
variable {n : Nat} {l : LogD} {d : DskD} {T first : Nat} {rs : List (Nat × List UInt8)} {us : List (List UInt8)}
theorem Up.live (h : Up n l d T first rs us) : Live n l d T first rs us := ⟨h.inv, h.calm.down, h.dead⟩
theorem Live.facts (h : Live n l d T first rs us) : d.kept.length = n ∧ 3 ≤ n ∧ n ≤ 65536 ∧ l.end_ < n - 2 ∧ l.recs = rs.map (·.2) ++ us ∧ l.first = first ∧ l.turn = T ∧ d.wait.length ≤ 65536 ∧ first + 70000 < 18446744073709551616 ∧ T < 256 ∧ l.used = secSum l.recs := by
  obtain ⟨start, nx, hi⟩ := h.inv
  have hn3 := hi.img.bas.n3
  refine ⟨hi.img.bas.len, hn3, hi.img.bas.n64, ?_, hi.log.recs, hi.log.first, hi.log.turn, hi.wait_len, hi.img.bas.f64, hi.img.bas.T1, by rw [hi.log.used, hi.log.recs]⟩
  rw [hi.log.end_]
  exact Nat.mod_lt _ (by omega)
theorem Live.rdy (h : Live n l d T first rs us) : rdyE l d = 0 ∧ rdy l d = l := by
  unfold rdyE Go.Proofs.YtnlhjhpikjmoaaaGreatDoor.rdy
  rw [h.dead, h.down]
  exact ⟨rfl, rfl⟩
theorem take_get {α : Type} {l : List α} {k i : Nat} {s : α} (h : (l.take k)[i]? = some s) : l[i]? = some s := by
  have hi := (List.getElem?_eq_some_iff.1 h).1
  rw [List.length_take] at hi
  rwa [List.getElem?_take_of_lt (by omega)] at h
theorem append_live (h : Live n l d T first rs us) {b : List UInt8} (hb : b.length ≤ 32768) : ∃ l' d' e, appendL l d b = (l', d', e) ∧
    ((e = 0 ∧ Live n l' d' T first rs (us ++ [b])) ∨ (e = 4 ∧ l' = l ∧ d' = d ∧ n - 2 < secSum (rs.map (·.2) ++ us) + secN b.length) ∨ (e = 3 ∧ Dead n l' d' T first first (rs.map (·.2)) (us ++ [b]))) := by
  obtain ⟨hkl, hn3, hn64, he, hr, hfi, htu, hwl, h64, hT, hsum⟩ := h.facts
  obtain ⟨start, nx, hi⟩ := h.inv
  unfold appendL
  rw [if_neg (by omega), if_neg (by rw [h.rdy.1]; decide), hkl]
  by_cases hfull : n < l.used + secN b.length + 2
  · rw [if_pos hfull]
    exact ⟨_, _, _, rfl, .inr (.inl ⟨rfl, rfl, rfl, by rw [hsum, hr] at hfull; omega⟩)⟩
  rw [if_neg hfull]
  have hfit : secSum (rs.map (·.2) ++ us) + secN b.length ≤ n - 2 := by rw [hsum, hr] at hfull; omega
  have hst := stA_live b l.turn (n - 2) (by omega) (List.range (secN b.length)) d l.end_ h.down (by omega) he
  unfold stA
  generalize (List.range (secN b.length)).foldl (stepA b l.turn (n - 2)) (d, l.end_, 0) = s at *
  obtain ⟨g1, j, hj, g2, g3⟩ := hst
  have hia := hi.append hb hfit
  have hsB : (List.range (secN b.length)).map (fun k => secB l.turn (partB b k)) = secsB l.turn b := rfl
  rw [hsB] at g2
  rw [List.length_range] at hj g3
  simp only
  rcases g3 with ⟨g3, rfl, g4⟩ | ⟨g3, g4⟩
  · rw [if_neg (by rw [g3]; decide)]
    refine ⟨_, _, _, rfl, .inl ⟨rfl, ⟨⟨start, nx, ?_⟩, g4, h.dead⟩⟩⟩
    rw [List.take_of_length_le (by rw [secsB_len]; exact Nat.le_refl _)] at g2
    exact ⟨by rw [g1]; exact hia.img, hia.log, by rw [g2]; exact hia.wait, hia.wts⟩
  · rw [if_pos (by rw [g3]; decide)]
    refine ⟨_, _, _, rfl, .inr (.inr ⟨g3, ⟨g4, by rw [g3]; simp, hsum, by rw [hfi]; exact h64, by rw [htu]; exact hT, ?_, .inl ⟨start, nx, rs, secs T us ++ (secsB T b).take j, by rw [g1]; exact hia.img, rfl, fun i s hs => ?_, ?_⟩⟩⟩)⟩
    · rw [g2, List.length_append, putsW_len, List.length_take, secsB_len]
      have h1 := hia.wait_len
      have h2 : (d.wait ++ putsW (n - 2) l.end_ (secsB l.turn b)).length ≤ 65536 := h1
      rw [List.length_append, putsW_len, secsB_len] at h2
      omega
    · rw [secs_append, show secs T [b] = secsB T b by simp [secs]]
      rw [List.getElem?_append] at hs ⊢
      split at hs
      · rename_i hlt
        rw [if_pos hlt]
        exact hs
      · rename_i hlt
        rw [if_neg hlt]
        exact take_get hs
    · have hm := Nat.mod_lt (start + secSum (rs.map (·.2))) (show 0 < n - 2 by omega)
      rw [g2, hi.wait, htu, hi.log.end_, putsW_append _ _ _ _ hm, secs_len, Nat.mod_add_mod, secSum_append, Nat.add_assoc]
end
end Go.Proofs.YtnlhjhpikjmoaaaGreatDoor
namespace Go.Proofs.YtnlhjhpikjmoaaaGreatDoor
open Go.RowKit
section
variable {n : Nat} {l : LogD} {d : DskD} {T first : Nat} {rs : List (Nat × List UInt8)} {us : List (List UInt8)}
theorem Live.fallA (h : Live n l d T first rs us) {d' : DskD} (hk : d'.kept = d.kept) (hw : d'.wait = d.wait) (cut : Nat) : Fall n d' T first cut (rs.map (·.2)) us := by
  obtain ⟨start, nx, hi⟩ := h.inv
  exact .inl ⟨start, nx, rs, secs T us, by rw [hk]; exact hi.img, rfl, fun _ _ h => h, by rw [hw]; exact hi.wait⟩
theorem sync_live (h : Live n l d T first rs us) (cut : Nat) : ∃ l' d' e, syncL l d = (l', d', e) ∧
    ((e = 0 ∧ Live n l' d' T first (rs ++ us.map fun b => (T, b)) []) ∨ (e = 3 ∧ Dead n l' d' T first cut (rs.map (·.2)) us)) := by
  obtain ⟨hkl, hn3, hn64, he, hr, hfi, htu, hwl, h64, hT, hsum⟩ := h.facts
  obtain ⟨start, nx, hi⟩ := h.inv
  unfold syncL
  rw [if_neg (by rw [h.rdy.1]; decide)]
  cases hw : l.waits
  · have hus := hi.wts hw
    subst hus
    refine ⟨_, _, _, rfl, .inl ⟨rfl, ?_⟩⟩
    rw [List.map_nil, List.append_nil]
    exact h
  · rw [if_neg (by decide)]
    rcases flush_live d h.down with ⟨f1, f2, f3, f4⟩ | ⟨f1, f2, f3, f4⟩
    · have hfl := hi.flush false
      simp only [f1]
      refine ⟨_, _, _, rfl, .inl ⟨rfl, ⟨⟨start, nx, ?_⟩, f4, ?_⟩⟩⟩
      · exact ⟨by rw [f2]; exact hfl.img, ⟨hfl.log.turn, hfl.log.first, hfl.log.recs, hfl.log.places, hfl.log.end_, hfl.log.used⟩, by rw [f3]; exact hfl.wait, fun _ => rfl⟩
      · rw [h.dead]; rfl
    · simp only [f1]
      refine ⟨_, _, _, rfl, .inr ⟨rfl, ⟨f4, by simp, hsum, by rw [hfi]; exact h64, by rw [htu]; exact hT, by rw [f3]; omega, h.fallA f2 f3 cut⟩⟩⟩
theorem tellB_lg {start : Nat} {bs_ : List (List UInt8)} (hl : Lg l T first (n - 2) start bs_) (k : Nat) : tellB l k = hdB (T + 1) (first + k) (first + bs_.length) ((start + secSum (bs_.take k)) % (n - 2)) l.end_ := by
  unfold tellB
  rw [hl.turn, hl.first, hl.recs]
  congr 1
  simp only [hl.places]
  split
  · rw [plc_get]
  · rename_i hlt
    rw [plc_len] at hlt
    rw [hl.end_, List.take_of_length_le (by omega)]
theorem tell_live (h : Live n l d T first rs us) (hT : T + 1 < 256) {k : Nat} (hk0 : 0 < k) (hk : k ≤ (rs.map (·.2) ++ us).length) (hf : first + k + 70000 < 18446744073709551616) : ∃ l' d' e, tellL l d k = (l', d', e) ∧
    ((e = 0 ∧ ∃ q, Live n { l' with waits := false } d' (T + 1) (first + k) q [] ∧ q.map (·.2) = (rs.map (·.2) ++ us).drop k) ∨
     (e = 3 ∧ l' = l ∧ d'.down = true ∧ d'.wait.length ≤ 65537 ∧ (Fall n d' T first (first + k) (rs.map (·.2)) us ∨ Fall n d' T first (first + k) (rs.map (·.2) ++ us) []))) := by
  obtain ⟨hkl, hn3, hn64, he, hr, hfi, htu, hwl, h64, hT1, hsum⟩ := h.facts
  obtain ⟨start, nx, hi⟩ := h.inv
  have hi2 := hi.flush l.waits
  have hlg := hi2.log
  rw [List.append_nil] at hlg
  have hq : (rs ++ us.map fun b => (T, b)).map (·.2) = rs.map (·.2) ++ us := by rw [List.map_append, snd_pairs]
  have hql : (rs ++ us.map fun b => (T, b)).length = (rs.map (·.2) ++ us).length := by simp
  have hel : l.end_ < 18446744073709551616 := by omega
  have htb := tellB_lg hlg k
  rw [hq] at htb
  unfold tellL
  rw [if_neg (by omega)]
  rcases flush_live d h.down with ⟨f1, f2, f3, f4⟩ | ⟨f1, f2, f3, f4⟩
  · rw [if_neg (by rw [f1]; decide)]
    obtain ⟨w1, w2, w3⟩ := write_live d.flush.1 f4 (p := (l.turn + 1) % 2) (b := tellB l k) (by rw [f2, keepW_len]; omega) (hdB_len _ _ _ _ _)
    have hB : ∀ d' : DskD, d'.kept = keepW d.kept d.wait → d'.wait = [((l.turn + 1) % 2, tellB l k)] → Fall n d' T first (first + k) (rs.map (·.2) ++ us) [] := fun d' k1 k2 => by
      refine .inr ⟨rfl, hT, by omega, by omega, start, nx, rs ++ us.map fun b => (T, b), l.end_, hel, by rw [k1]; exact hi2.img, hq, ?_⟩
      rw [k2, htu, htb, hql, Nat.add_sub_cancel_left, List.map_take, hq]
    generalize d.flush.1.write (((l.turn + 1) % 2 : Nat) : Int) (tellB l k) = p at *
    simp only
    rcases w3 with ⟨w3, w4⟩ | ⟨w3, w4⟩
    · rw [if_neg (by rw [w3]; decide)]
      rcases flush_live p.1 w4 with ⟨g1, g2, g3, g4⟩ | ⟨g1, g2, g3, g4⟩
      · rw [if_neg (by rw [g1]; decide)]
        have ht := told_inv (l := { l with waits := l.waits }) hi2.img.bas hlg hT k (by rw [hql]; exact hk) hf false false p.1.flush.1.armed
        refine ⟨_, _, _, rfl, .inl ⟨rfl, (rs ++ us.map fun b => (T, b)).drop k, ⟨⟨(start + secSum (((rs ++ us.map fun b => (T, b)).take k).map (·.2))) % (n - 2), first + (rs ++ us.map fun b => (T, b)).length, ⟨?_, ?_, ?_, fun _ => rfl⟩⟩, g4, h.dead⟩, by rw [List.map_drop, hq]⟩⟩
        · have e : p.1.flush.1.kept = (keepW d.kept d.wait).set ((l.turn + 1) % 2) (tellB l k) := by
            rw [g2, w1, w2, f2, f3]
            rfl
          rw [e]
          exact ht.img
        · exact ⟨ht.log.turn, ht.log.first, ht.log.recs, ht.log.places, ht.log.end_, ht.log.used⟩
        · rw [g3]
          exact ht.wait
      · rw [if_pos (by rw [g1]; decide)]
        refine ⟨_, _, _, rfl, .inr ⟨g1, rfl, g4, by rw [g3, w2, f3]; simp, .inr (hB _ (by rw [g2, w1, f2]) (by rw [g3, w2, f3]; rfl))⟩⟩
    · rw [if_pos (by rw [w3]; decide)]
      refine ⟨_, _, _, rfl, .inr ⟨w3, rfl, w4, by rw [w2, f3]; simp, .inr (hB _ (by rw [w1, f2]) (by rw [w2, f3]; rfl))⟩⟩
  · rw [if_pos (by rw [f1]; decide)]
    exact ⟨_, _, _, rfl, .inr ⟨f1, rfl, f4, by rw [f3]; omega, .inl (h.fallA f2 f3 _)⟩⟩
end
end Go.Proofs.YtnlhjhpikjmoaaaGreatDoor
namespace Go.Proofs.YtnlhjhpikjmoaaaGreatDoor
open Go.RowKit
section
variable {n : Nat} {l : LogD} {d : DskD} {T first : Nat} {rs : List (Nat × List UInt8)} {us : List (List UInt8)}
theorem cut_live (h : Live n l d T first rs us) (hT : T + 1 < 256) (k : Nat) (h64 : first + (rs.map (·.2) ++ us).length + 70000 < 18446744073709551616) : ∃ l' d' e, cutL l d k = (l', d', e) ∧
    ((¬ (first ≤ k ∧ k ≤ first + (rs.map (·.2) ++ us).length) ∧ e = 1 ∧ l' = l ∧ d' = d) ∨
     (first ≤ k ∧ k ≤ first + (rs.map (·.2) ++ us).length ∧ e = 0 ∧ ∃ T' q, T' ≤ T + 1 ∧ Live n l' d' T' k q [] ∧ q.map (·.2) = (rs.map (·.2) ++ us).drop (k - first)) ∨
     (first ≤ k ∧ k ≤ first + (rs.map (·.2) ++ us).length ∧ e = 3 ∧ ∃ sf' us', sf' ++ us' = rs.map (·.2) ++ us ∧ rs.length ≤ sf'.length ∧ Dead n l' d' T first k sf' us')) := by
  obtain ⟨hkl, hn3, hn64, he, hr, hfi, htu, hwl, hf64, hT1, hsum⟩ := h.facts
  unfold cutL
  rw [hfi, hr]
  by_cases hin : k < first ∨ first + (rs.map (·.2) ++ us).length < k
  · rw [if_pos hin]
    exact ⟨_, _, _, rfl, .inl ⟨by omega, rfl, rfl, rfl⟩⟩
  rw [if_neg hin]
  have h1 : first ≤ k := by omega
  have h2 : k ≤ first + (rs.map (·.2) ++ us).length := by omega
  by_cases hk : k = first
  · rw [if_pos hk]
    obtain ⟨l', d', e, hs, hc⟩ := sync_live h k
    refine ⟨l', d', e, hs, .inr ?_⟩
    rcases hc with ⟨rfl, hl⟩ | ⟨rfl, hd⟩
    · refine .inl ⟨h1, h2, rfl, T, _, Nat.le_succ _, by rw [hk]; exact hl, ?_⟩
      rw [List.map_append, snd_pairs, hk, Nat.sub_self, List.drop_zero]
    · exact .inr ⟨h1, h2, rfl, _, us, rfl, by rw [List.length_map]; exact Nat.le_refl _, hd⟩
  · rw [if_neg hk, if_neg (by rw [h.rdy.1]; decide)]
    obtain ⟨l', d', e, hs, hc⟩ := tell_live h hT (k := k - first) (by omega) (by omega) (by omega)
    simp only [hs]
    rcases hc with ⟨rfl, q, hl, hq⟩ | ⟨rfl, rfl, hdn, hwl', hfall⟩
    · rw [if_neg (by decide)]
      have hdd : l'.dead = false := hl.dead
      have hl' : Live n { dead := l'.dead || (0 : Int) == 3, turn := l'.turn, first := l'.first, recs := l'.recs, places := l'.places, end_ := l'.end_, used := l'.used, waits := false } d' (T + 1) k q [] := by
        have e0 : (l'.dead || (0 : Int) == 3) = l'.dead := by simp
        rw [e0]
        have := hl
        rw [show first + (k - first) = k by omega] at this
        exact this
      exact ⟨_, _, _, rfl, .inr (.inl ⟨h1, h2, rfl, T + 1, q, Nat.le_refl _, hl', hq⟩)⟩
    · rw [if_pos (by decide)]
      rw [show first + (k - first) = k by omega] at hfall
      have hD : ∀ sf' us', Fall n d' T first k sf' us' → Dead n { dead := l'.dead || (3 : Int) == 3, turn := l'.turn, first := l'.first, recs := l'.recs, places := l'.places, end_ := l'.end_, used := l'.used, waits := l'.waits } d' T first k sf' us' := fun sf' us' hf => ⟨hdn, by simp, hsum, by show l'.first + _ < _; rw [hfi]; exact hf64, by show l'.turn < _; rw [htu]; exact hT1, hwl', hf⟩
      refine ⟨_, _, _, rfl, .inr (.inr ⟨h1, h2, rfl, ?_⟩)⟩
      rcases hfall with hf | hf
      · exact ⟨_, us, rfl, by rw [List.length_map]; exact Nat.le_refl _, hD _ _ hf⟩
      · exact ⟨_, [], List.append_nil _, by rw [List.length_append, List.length_map]; omega, hD _ _ hf⟩
end
section
variable {n : Nat} {l : LogD} {d : DskD} {T first cut : Nat} {sf us : List (List UInt8)}
theorem Dead.rdy (h : Dead n l d T first cut sf us) : rdyE l d = 3 ∧ rdy l d = l := by
  unfold rdyE Go.Proofs.YtnlhjhpikjmoaaaGreatDoor.rdy
  rw [if_pos (by rw [h.dead]; rfl), if_pos (by rw [h.dead]; rfl)]
  refine ⟨rfl, ?_⟩
  have := h.dead
  cases l
  simp only at this
  subst this
  rfl
theorem Dead.arm (h : Dead n l d T first cut sf us) (x : Int) : Dead n l (d.arm x) T first cut sf us := ⟨h.down, h.dead, h.sum, h.f64, h.turn, h.wait, h.fall⟩
end
theorem Live.arm {n : Nat} {l : LogD} {d : DskD} {T first : Nat} {rs : List (Nat × List UInt8)} {us : List (List UInt8)} (h : Live n l d T first rs us) (x : Int) : Live n l (d.arm x) T first rs us := by
  obtain ⟨start, nx, hi⟩ := h.inv
  exact ⟨⟨start, nx, ⟨hi.img, hi.log, hi.wait, hi.wts⟩⟩, h.down, h.dead⟩
theorem Img.setOther {I : List (List UInt8)} {n T first start nx : Nat} {rs : List (Nat × List UInt8)} {us : List (List UInt8)} (h : Img I n T first start nx rs us) {s : List UInt8} (hs : Sm s) (hb : sback s ≤ T) (hf : sfront s = sback s → sfront s < T) : Img (I.set ((T + 1) % 2) s) n T first start nx rs us := by
  have hp : (T + 1) % 2 < 2 := Nat.mod_lt _ (by omega)
  have hn3 := h.bas.n3
  have hr := ringAt_head (I := I) (ring := n - 2) hp s
  have hget : (I.set ((T + 1) % 2) s).getD ((T + 1) % 2) [] = s := by
    rw [List.getD_eq_getElem?_getD, List.getElem?_set_self (by rw [h.bas.len]; omega)]
    rfl
  have hne : ∀ i, i ≠ (T + 1) % 2 → (I.set ((T + 1) % 2) s).getD i [] = I.getD i [] := fun i hi => by
    rw [List.getD_eq_getElem?_getD, List.getElem?_set_ne (by omega), List.getD_eq_getElem?_getD]
  have hT2 : T % 2 ≠ (T + 1) % 2 := by omega
  refine ⟨⟨by rw [List.length_set]; exact h.bas.len, hn3, h.bas.n64, fun i hi => ?_, h.bas.T1, h.bas.st, fun p => by rw [hr]; exact h.bas.back p, h.bas.chain.up (Nat.le_refl _) hr, h.bas.fit, by rw [hne _ hT2]; exact h.bas.hd, h.bas.f64⟩, h.T0, h.usl, h.fit, fun j hj => by rw [hr]; exact h.free j hj, by rw [hne _ hT2]; exact h.head, h.nx1, h.nx2, h.nxT, by rw [hget]; exact ⟨hb, hf⟩⟩
  by_cases e0 : i = (T + 1) % 2
  · rw [e0, hget]
    exact hs
  · rw [hne i e0]
    exact h.bas.sm i hi
def Found (n : Nat) (d : DskD) (T first cut : Nat) (sf us : List (List UInt8)) : Prop :=
  Calm d ∧ d.wait = [] ∧ ∃ T' first' sf' us' start nx rs, T' ≤ T + 1 ∧ Img d.kept n T' first' start nx rs us' ∧ rs.map (·.2) = sf' ∧
    ((first' = first ∧ sf' = sf ∧ us' = us ∧ T' = T) ∨ (first' = cut ∧ first < cut ∧ cut ≤ first + sf.length ∧ sf' = sf.drop (cut - first) ∧ us' = [] ∧ us = []))
theorem fall_start {n : Nat} {d : DskD} {T first cut : Nat} {sf us : List (List UInt8)} (h : Fall n d T first cut sf us) (hd : d.down = true) : Found n d.start T first cut sf us := by
  have e : d.start = { d with armed := 0, down := false, wait := [] } := by unfold DskD.start; rw [if_pos hd]
  rw [e]
  refine ⟨⟨rfl, rfl⟩, rfl, ?_⟩
  rcases h with ⟨start, nx, rs, P, hi, hs, _⟩ | ⟨rfl, _, _, _, start, nx, rs, e, _, hi, hs, _⟩
  · exact ⟨T, first, sf, us, start, nx, rs, Nat.le_succ _, hi, hs, .inl ⟨rfl, rfl, rfl, rfl⟩⟩
  · exact ⟨T, first, sf, [], start, nx, rs, Nat.le_succ _, hi, hs, .inl ⟨rfl, rfl, rfl, rfl⟩⟩
theorem fall_crash {n : Nat} {d : DskD} {T first cut : Nat} {sf us : List (List UInt8)} (h : Fall n d T first cut sf us) (hf : first + sf.length + 70000 < 18446744073709551616) (keep : List Int) : Found n (d.crash keep).start T first cut sf us := by
  rw [crash_start]
  refine ⟨⟨rfl, rfl⟩, rfl, ?_⟩
  rcases h with ⟨start, nx, rs, P, hi, hs, hP, hw⟩ | ⟨rfl, hT, hc1, hc2, start, nx, rs, e, he, hi, hs, hw⟩
  · refine ⟨T, first, sf, us, start, nx, rs, Nat.le_succ _, ?_, hs, .inl ⟨rfl, rfl, rfl, rfl⟩⟩
    have := img_crash hi keep P hP P.length (Nat.le_refl _)
    show Img (tearI keep d.wait d.kept d.wait.length) _ _ _ _ _ _ _
    rw [hw, putsW_len]
    exact this
  · have hn3 := hi.bas.n3
    have hrl : rs.length = sf.length := by rw [← hs, List.length_map]
    have hbt := bas_tell hi.bas hT (cut - first) (by omega) (by omega) e he
    rw [show first + (cut - first) = cut by omega] at hbt
    have hsm : Sm (hdB (T + 1) cut (first + rs.length) ((start + secSum ((rs.take (cut - first)).map (·.2))) % (n - 2)) e) := hdB_sm hT
    have hst' := Nat.mod_lt (start + secSum ((rs.take (cut - first)).map (·.2))) (show 0 < n - 2 by omega)
    have hn64 := hi.bas.n64
    have hrd := hdB_at (T + 1) cut (first + rs.length) ((start + secSum ((rs.take (cut - first)).map (·.2))) % (n - 2)) e (by omega) (by omega) (by omega) (by omega) he
    have hfr : sfront (hdB (T + 1) cut (first + rs.length) ((start + secSum ((rs.take (cut - first)).map (·.2))) % (n - 2)) e) = T + 1 := congrArg HeadD.turn hrd.1
    have hk : tearI keep d.wait d.kept d.wait.length = d.kept.set ((T + 1) % 2) (torn (hdB (T + 1) cut (first + rs.length) ((start + secSum ((rs.take (cut - first)).map (·.2))) % (n - 2)) e) (d.kept.getD ((T + 1) % 2) []) (tearN keep 0)) := by
      rw [hw]
      rfl
    show ∃ T' first' sf' us' start nx rs, T' ≤ T + 1 ∧ Img (tearI keep d.wait d.kept d.wait.length) n T' first' start nx rs us' ∧ _
    rw [hk]
    have hold := hi.bas.sm ((T + 1) % 2) (by omega)
    obtain ⟨hts, htc⟩ := torn_cases hsm hold (tearN keep 0)
    rcases htc with ht | ⟨ht1, ht2⟩ | ht
    · refine ⟨T, first, sf, [], start, nx, rs, Nat.le_succ _, ?_, hs, .inl ⟨rfl, rfl, rfl, rfl⟩⟩
      rw [ht]
      exact hi.setOther hold hi.other.1 hi.other.2
    · refine ⟨T, first, sf, [], start, nx, rs, Nat.le_succ _, ?_, hs, .inl ⟨rfl, rfl, rfl, rfl⟩⟩
      exact hi.setOther hts (by rw [ht2]; exact hi.other.1) (fun hh => by rw [ht1, ht2, hfr] at hh; have := hi.other.1; omega)
    · refine ⟨T + 1, cut, sf.drop (cut - first), [], (start + secSum ((rs.take (cut - first)).map (·.2))) % (n - 2), first + rs.length, rs.drop (cut - first), Nat.le_refl _, ?_, by rw [List.map_drop, hs], .inr ⟨rfl, hc1, hc2, rfl, rfl, rfl⟩⟩
      rw [ht]
      exact hbt
end Go.Proofs.YtnlhjhpikjmoaaaGreatDoor
namespace Go.Proofs.YtnlhjhpikjmoaaaGreatDoor
open Go.RowKit
def LogX (f : Nat → Prop) (w : World) (gl gd n T first cut : Nat) (sf us : List (List UInt8)) (dn : Bool) : Prop :=
  ∃ l d, Both f w gl gd l d ∧ ((dn = false ∧ ∃ rs, Live n l d T first rs us ∧ rs.map (·.2) = sf) ∨ (dn = true ∧ Dead n l d T first cut sf us))
section
variable {f : Nat → Prop} {w w' : World} {gl gd n T first cut : Nat} {sf us : List (List UInt8)} {dn : Bool}
theorem LogX.mono {f' : Nat → Prop} (h : LogX f w gl gd n T first cut sf us dn) (hm : ∀ x, f x → x < w.heap.size → f' x) : LogX f' w gl gd n T first cut sf us dn := by
  obtain ⟨l, d, h1, h2⟩ := h
  exact ⟨l, d, h1.mono hm, h2⟩
theorem LogX.kp {ok : Nat → Prop} (h : LogX f w gl gd n T first cut sf us dn) (hk : Kp ok w w') (hok : ∀ x, f x → ok x) : LogX f w' gl gd n T first cut sf us dn := by
  obtain ⟨l, d, h1, h2⟩ := h
  exact ⟨l, d, h1.kp hk hok, h2⟩
theorem LogX.below (h : LogX f w gl gd n T first cut sf us dn) (hb : Below w.heap.size w w') : LogX f w' gl gd n T first cut sf us dn := by
  obtain ⟨l, d, h1, h2⟩ := h
  exact ⟨l, d, h1.below hb, h2⟩
theorem LogX.u (h : LogX f w gl gd n T first cut sf us false) : ∃ l d rs, Both f w gl gd l d ∧ Live n l d T first rs us ∧ rs.map (·.2) = sf := by
  obtain ⟨l, d, h1, h2⟩ := h
  rcases h2 with ⟨_, rs, h2, h3⟩ | ⟨h, _⟩
  · exact ⟨l, d, rs, h1, h2, h3⟩
  · cases h
theorem LogX.d (h : LogX f w gl gd n T first cut sf us true) : ∃ l d, Both f w gl gd l d ∧ Dead n l d T first cut sf us := by
  obtain ⟨l, d, h1, h2⟩ := h
  rcases h2 with ⟨h, _⟩ | ⟨_, h2⟩
  · cases h
  · exact ⟨l, d, h1, h2⟩
theorem Both.newer {f : Nat → Prop} {w w' : World} {gl gd : Nat} {l : LogD} {d : DskD} (h : Both (fun x => f x ∨ w.heap.size ≤ x) w' gl gd l d) : Both (fun x => f x ∨ (w.heap.size ≤ x ∧ x < w'.heap.size)) w' gl gd l d :=
  h.mono fun x hx hlt => hx.imp_right fun h => ⟨h, hlt⟩
theorem append_liveX (h : LogX f w gl gd n T first cut sf us false) (v : Value) (b : List UInt8) (hrb : RB (fun x => ¬ f x) w v b) (hlen : b.length ≤ 32768) :
    Calls Tryz.prog 73 #[.pointer (some ⟨gl, 0, none⟩), v] w fun e w' => (∃ x : Int, e = .returned (.int .i64 x) ∧
      ((x = 0 ∧ LogX (fun x => f x ∨ (w.heap.size ≤ x ∧ x < w'.heap.size)) w' gl gd n T first first sf (us ++ [b]) false) ∨ (x = 4 ∧ LogX (fun x => f x ∨ (w.heap.size ≤ x ∧ x < w'.heap.size)) w' gl gd n T first first sf us false ∧ n - 2 < secSum (sf ++ us) + secN b.length) ∨
       (x = 3 ∧ LogX (fun x => f x ∨ (w.heap.size ≤ x ∧ x < w'.heap.size)) w' gl gd n T first first sf (us ++ [b]) true))) ∧ Kp (fun x => ¬ f x) w w' := by
  obtain ⟨l, d, rs, h1, h2, rfl⟩ := h.u
  obtain ⟨l', d', e, he, hc⟩ := append_live h2 hlen
  obtain ⟨hkl, hn3, hn64, _, hr, hfi, htu, hwl, h64, hT, hsum⟩ := h2.facts
  refine (append_any v b h1 hrb (fun x hx => hx) (by omega) hsum (by rw [hfi]; exact h64) (by omega)).mono ?_
  rintro e' w' ⟨rfl, hB, hk⟩
  rw [he] at hB ⊢
  have hB2 := hB.newer
  refine ⟨⟨e, rfl, ?_⟩, hk⟩
  rcases hc with ⟨rfl, hl⟩ | ⟨rfl, rfl, rfl, hfull⟩ | ⟨rfl, hd⟩
  · exact .inl ⟨rfl, l', d', hB2, .inl ⟨rfl, rs, hl, rfl⟩⟩
  · exact .inr (.inl ⟨rfl, ⟨l', d', hB2, .inl ⟨rfl, rs, h2, rfl⟩⟩, hfull⟩)
  · exact .inr (.inr ⟨rfl, l', d', hB2, .inr ⟨rfl, hd⟩⟩)
theorem sync_liveX (h : LogX f w gl gd n T first cut sf us false) :
    Calls Tryz.prog 62 #[.pointer (some ⟨gl, 0, none⟩)] w fun e w' => (∃ x : Int, e = .returned (.int .i64 x) ∧ ((x = 0 ∧ LogX f w' gl gd n T first first (sf ++ us) [] false) ∨ (x = 3 ∧ LogX f w' gl gd n T first first sf us true))) ∧ Kp (fun x => ¬ f x) w w' := by
  obtain ⟨l, d, rs, h1, h2, rfl⟩ := h.u
  obtain ⟨l', d', e, he, hc⟩ := sync_live h2 first
  refine (sync_b h1).mono ?_
  rintro e' w' ⟨rfl, hB, hk⟩
  rw [he] at hB ⊢
  refine ⟨⟨e, rfl, ?_⟩, hk⟩
  rcases hc with ⟨rfl, hl⟩ | ⟨rfl, hd⟩
  · exact .inl ⟨rfl, l', d', hB, .inl ⟨rfl, _, hl, by rw [List.map_append, snd_pairs]⟩⟩
  · exact .inr ⟨rfl, l', d', hB, .inr ⟨rfl, hd⟩⟩
theorem cut_liveX (h : LogX f w gl gd n T first cut sf us false) (hT : T + 1 < 256) (k : Nat) (hk64 : k < 18446744073709551616) (h64 : first + (sf ++ us).length + 70000 < 18446744073709551616) :
    Calls Tryz.prog 36 #[.pointer (some ⟨gl, 0, none⟩), .int .u64 (k : Int)] w fun e w' => (∃ x : Int, e = .returned (.int .i64 x) ∧
      ((¬ (first ≤ k ∧ k ≤ first + (sf ++ us).length) ∧ x = 1 ∧ LogX (fun x => f x ∨ (w.heap.size ≤ x ∧ x < w'.heap.size)) w' gl gd n T first first sf us false) ∨
       (first ≤ k ∧ k ≤ first + (sf ++ us).length ∧ x = 0 ∧ ∃ T', T' ≤ T + 1 ∧ LogX (fun x => f x ∨ (w.heap.size ≤ x ∧ x < w'.heap.size)) w' gl gd n T' k k ((sf ++ us).drop (k - first)) [] false) ∨
       (first ≤ k ∧ k ≤ first + (sf ++ us).length ∧ x = 3 ∧ ∃ sf' us', sf' ++ us' = sf ++ us ∧ sf.length ≤ sf'.length ∧ LogX (fun x => f x ∨ (w.heap.size ≤ x ∧ x < w'.heap.size)) w' gl gd n T first k sf' us' true))) ∧ Kp (fun x => ¬ f x) w w' := by
  obtain ⟨l, d, rs, h1, h2, rfl⟩ := h.u
  obtain ⟨l', d', e, he, hc⟩ := cut_live h2 hT k h64
  obtain ⟨hkl, hn3, hn64, _, hr, hfi, htu, hwl, hf64, hT1, hsum⟩ := h2.facts
  refine (cut_any k h1 hk64 hsum (by omega) (by omega)).mono ?_
  rintro e' w' ⟨rfl, hB, hk⟩
  rw [he] at hB ⊢
  have hB2 := hB.newer
  refine ⟨⟨e, rfl, ?_⟩, hk⟩
  rcases hc with ⟨hn, rfl, rfl, rfl⟩ | ⟨g1, g2, rfl, T', q, hT', hl, hq⟩ | ⟨g1, g2, rfl, sf', us', hs, hle, hd⟩
  · exact .inl ⟨hn, rfl, l', d', hB2, .inl ⟨rfl, rs, h2, rfl⟩⟩
  · exact .inr (.inl ⟨g1, g2, rfl, T', hT', l', d', hB2, .inl ⟨rfl, q, hl, hq⟩⟩)
  · exact .inr (.inr ⟨g1, g2, rfl, sf', us', hs, by rw [List.length_map]; exact hle, l', d', hB2, .inr ⟨rfl, hd⟩⟩)
end
end Go.Proofs.YtnlhjhpikjmoaaaGreatDoor
namespace Go.Proofs.YtnlhjhpikjmoaaaGreatDoor
open Go.RowKit
section
variable {f : Nat → Prop} {w w' : World} {gl gd n T first cut : Nat} {sf us : List (List UInt8)} {dn : Bool}
theorem next_liveX (h : LogX f w gl gd n T first cut sf us false) : Calls Tryz.prog 44 #[.pointer (some ⟨gl, 0, none⟩)] w fun e w' => e = .returned (.int .u64 ((first + (sf ++ us).length : Nat) : Int)) ∧ Below w.heap.size w w' := by
  obtain ⟨l, d, rs, h1, h2, rfl⟩ := h.u
  have := next_b h1
  rw [h2.facts.2.2.2.2.2.1, h2.facts.2.2.2.2.1] at this
  exact this
theorem down_opX (h : LogX f w gl gd n T first cut sf us dn) : Calls Tryz.prog 25 #[.pointer (some ⟨gd, 0, none⟩)] w fun e w' => e = .returned (.bool dn) ∧ w' = w := by
  obtain ⟨l, d, h1, h2⟩ := h
  have hd : d.down = dn := by
    rcases h2 with ⟨rfl, rs, h2, _⟩ | ⟨rfl, h2⟩
    · exact h2.down
    · exact h2.down
  have := dDown_any h1.disk
  rw [hd] at this
  exact this
theorem Both.step {l : LogD} {d d' : DskD} {F : FuncId} {args : Array Value} {E : Ending} (h : Both f w gl gd l d) (hc : ∀ fd : Nat → Prop, DiskR fd w gd d → Calls Tryz.prog F args w fun e w' => e = E ∧ DiskR fd w' gd d' ∧ Kp (fun b => ¬ fd b) w w') :
    Calls Tryz.prog F args w fun e w' => e = E ∧ Both f w' gl gd l d' ∧ Kp (fun b => ¬ f b) w w' := by
  obtain ⟨fl, fd, h1, h2, h3, h4, h5⟩ := h
  refine (hc fd h5).mono ?_
  rintro e w' ⟨rfl, hD, hK⟩
  have hz := hK.size
  exact ⟨rfl, ⟨fl, fd, fun x hx => ⟨(h1 x hx).1, by have := (h1 x hx).2; omega⟩, fun x hx => ⟨(h2 x hx).1, by have := (h2 x hx).2; omega⟩, h3, h4.kp hK fun x hx hf => h3 x hf hx, hD⟩, hK.mono fun x hx hf => hx (h2 x hf).1⟩
theorem arm_opX (h : LogX f w gl gd n T first cut sf us dn) (x : Int) (hx : I64 x) : Calls Tryz.prog 23 #[.pointer (some ⟨gd, 0, none⟩), .int .i64 x] w fun e w' => e = .returned (.int .i64 0) ∧ LogX f w' gl gd n T first cut sf us dn ∧ Kp (fun b => ¬ f b) w w' := by
  obtain ⟨l, d, h1, h2⟩ := h
  refine (h1.step fun fd hd => dArm_any hd x hx).mono ?_
  rintro e w' ⟨rfl, hB, hK⟩
  refine ⟨rfl, ⟨l, d.arm x, hB, ?_⟩, hK⟩
  rcases h2 with ⟨rfl, rs, h2, h3⟩ | ⟨rfl, h2⟩
  · exact .inl ⟨rfl, rs, h2.arm x, h3⟩
  · exact .inr ⟨rfl, h2.arm x⟩
def DiskF (f : Nat → Prop) (w : World) (gd n T first cut : Nat) (sf us : List (List UInt8)) : Prop :=
  ∃ d, DiskR f w gd d ∧ Calm d ∧ d.wait.length ≤ 65536 ∧ ∃ T' first' sf' us' start nx rs, T' ≤ T + 1 ∧ Img (keepW d.kept d.wait) n T' first' start nx rs us' ∧ rs.map (·.2) = sf' ∧
    ((first' = first ∧ sf' = sf ∧ us' = us ∧ T' = T) ∨ (first' = cut ∧ first < cut ∧ cut ≤ first + sf.length ∧ sf' = sf.drop (cut - first) ∧ us' = [] ∧ us = []))
theorem Found.disk {d : DskD} (h : Found n d T first cut sf us) (hd : DiskR f w gd d) : DiskF f w gd n T first cut sf us := by
  obtain ⟨hc, hw, T', first', sf', us', start, nx, rs, h1, h2, h3, h4⟩ := h
  exact ⟨d, hd, hc, by rw [hw]; simp, T', first', sf', us', start, nx, rs, h1, by rw [hw]; exact h2, h3, h4⟩
theorem start_liveX (h : LogX f w gl gd n T first cut sf us false) : Calls Tryz.prog 21 #[.pointer (some ⟨gd, 0, none⟩)] w fun e w' => e = .returned (.int .i64 0) ∧ DiskF f w' gd n T first cut (sf ++ us) [] ∧ Kp (fun b => ¬ f b) w w' := by
  obtain ⟨l, d, rs, h1, h2, rfl⟩ := h.u
  obtain ⟨start, nx, hi⟩ := h2.inv
  have e : d.start = { d with armed := 0 } := by unfold DskD.start; rw [if_neg (by rw [h2.down]; decide)]
  refine (dStart_any h1.disk).mono ?_
  rintro e' w' ⟨rfl, hD, hK⟩
  rw [e] at hD
  refine ⟨rfl, ⟨_, hD, ⟨h2.down, rfl⟩, hi.wait_len, T, first, _, [], start, nx, _, Nat.le_succ _, hi.shown, ?_, .inl ⟨rfl, rfl, rfl, rfl⟩⟩, hK⟩
  rw [List.map_append, snd_pairs]
theorem start_deadX (h : LogX f w gl gd n T first cut sf us true) : Calls Tryz.prog 21 #[.pointer (some ⟨gd, 0, none⟩)] w fun e w' => e = .returned (.int .i64 0) ∧ DiskF f w' gd n T first cut sf us ∧ Kp (fun b => ¬ f b) w w' := by
  obtain ⟨l, d, h1, h2⟩ := h.d
  refine (dStart_any h1.disk).mono ?_
  rintro e' w' ⟨rfl, hD, hK⟩
  exact ⟨rfl, (fall_start h2.fall h2.down).disk hD, hK⟩
def DiskC (f : Nat → Prop) (w : World) (gd n T first cut : Nat) (sf us : List (List UInt8)) : Prop :=
  ∃ (d : DskD) (keep : List Int), DiskR f w gd (d.crash keep) ∧ Fall n d T first cut sf us
theorem crash_opX {okk : Nat → Prop} (h : LogX f w gl gd n T first cut sf us dn) (v : Value) (keep : List Int) (hkp : RSl rInt okk w v keep) (hof : ∀ b, okk b → ¬ f b) :
    Calls Tryz.prog 20 #[.pointer (some ⟨gd, 0, none⟩), v] w fun e w' => e = .returned (.int .i64 0) ∧ DiskC f w' gd n T first cut sf us ∧ Kp (fun b => ¬ f b) w w' := by
  obtain ⟨l, d, h1, h2⟩ := h
  have hf : Fall n d T first cut sf us := by
    rcases h2 with ⟨_, rs, h2, rfl⟩ | ⟨_, h2⟩
    · exact h2.fallA rfl rfl cut
    · exact h2.fall
  refine (dCrash_any h1.disk v keep hkp hof).mono ?_
  rintro e w' ⟨rfl, hd, hk⟩
  exact ⟨rfl, ⟨d, keep, hd, hf⟩, hk⟩
theorem start_C (h : DiskC f w gd n T first cut sf us) (h64 : first + sf.length + 70000 < 18446744073709551616) : Calls Tryz.prog 21 #[.pointer (some ⟨gd, 0, none⟩)] w fun e w' => e = .returned (.int .i64 0) ∧ DiskF f w' gd n T first cut sf us ∧ Kp (fun b => ¬ f b) w w' := by
  obtain ⟨d, keep, h1, h2⟩ := h
  refine (dStart_any h1).mono ?_
  rintro e' w' ⟨rfl, hD, hK⟩
  exact ⟨rfl, (fall_crash h2 h64 keep).disk hD, hK⟩
def Finds (first cut : Nat) (sf us : List (List UInt8)) (a : Nat) (R : List (List UInt8)) : Prop :=
  (a = first ∧ ∃ m, m ≤ us.length ∧ R = sf ++ us.take m) ∨ (a = cut ∧ first < cut ∧ cut ≤ first + sf.length ∧ R = sf.drop (cut - first) ∧ us = [])
end
end Go.Proofs.YtnlhjhpikjmoaaaGreatDoor
namespace Go.Proofs.YtnlhjhpikjmoaaaGreatDoor
open Go.RowKit
theorem open_FS {f : Nat → Prop} {w : World} {gd n T first cut : Nat} {sf us : List (List UInt8)} (h : DiskF f w gd n T first cut sf us) (hT : T + 2 < 256) (hf : ∀ x, f x → x < w.heap.size) :
    ∃ T' a R, T' ≤ T + 2 ∧ Finds first cut sf us a R ∧ Calls Tryz.prog 31 #[.pointer (some ⟨gd, 0, none⟩)] w fun e w' => (∃ g2, e = .returned (.tuple #[.pointer (some ⟨g2, 0, none⟩), .int .i64 0]) ∧ LogS (fun x => f x ∨ (w.heap.size ≤ x ∧ x < w'.heap.size)) w' g2 gd n T' a R []) ∧ Kp (fun x => ¬ f x) w w' := by
  obtain ⟨d, h1, hc, hw, T', first', sf', us', start, nx, rs, hT', hi, hs, hp⟩ := h
  obtain ⟨l', d', rs', m, hm, ho, hu, hr⟩ := open_img hc hi (by omega)
  have hlen : d.kept.length = n := by rw [← hi.bas.len, keepW_len]
  obtain ⟨e, hbe⟩ := img_best ⟨hc.down, hlen, rfl, hi.bas.n3⟩ hi
  have hop := open_any h1 hf (by rw [hbe]; exact hi.bas.f64) (by rw [hbe]; show T' + 1 < _; omega) (by omega)
  rw [ho] at hop
  refine ⟨T' + 1, first', rs'.map (·.2), by omega, ?_, ?_⟩
  · rw [hr, hs]
    rcases hp with ⟨rfl, rfl, rfl, rfl⟩ | ⟨rfl, g1, g2, rfl, rfl, rfl⟩
    · exact .inl ⟨rfl, m, hm, rfl⟩
    · exact .inr ⟨rfl, g1, g2, by rw [List.take_nil, List.append_nil], rfl⟩
  · refine hop.mono ?_
    rintro e w' ⟨⟨p, rfl, hp2⟩, hk⟩
    obtain ⟨_, gl, rfl, hB2⟩ := hp2.resolve_left fun h => h.1 rfl
    exact ⟨⟨gl, rfl, l', d', rs', hB2.newer, hu, rfl⟩, hk⟩
def ShowsV (n first cut : Nat) (sf us : List (List UInt8)) (l t : VLog) : Prop :=
  ∀ a R, Finds first cut sf us a R → ∃ l' R1 R2 i, (l' = l ∨ l' = t) ∧ R = R1 ++ R2 ∧ Grps R1 l' i ∧ PartV l' R2 ∧ secSum (R1.drop i) ≤ (n - 2) / 3 * 2 ∧ R.length ≤ 65536 ∧ a ≤ first + 65536
theorem ShowsV.sf {n first cut : Nat} {sf us : List (List UInt8)} {l t : VLog} (h : ShowsV n first cut sf us l t) : sf.length ≤ 65536 := by
  obtain ⟨_, _, _, _, _, _, _, _, _, h, _⟩ := h first sf (.inl ⟨rfl, 0, Nat.zero_le _, by simp⟩)
  exact h
theorem shows_up {n first : Nat} {recs : List (List UInt8)} {l : VLog} (hg : Grps recs l 0) (hs : secSum recs ≤ (n - 2) / 3 * 2) (hn : n ≤ 65536) : ShowsV n first first recs [] l l := by
  intro a R h
  rcases h with ⟨rfl, m, hm, rfl⟩ | ⟨_, h, _⟩
  · have := secSum_len recs
    exact ⟨l, recs, [], 0, .inl rfl, by simp, hg, .inl rfl, by rw [List.drop_zero]; exact hs, by rw [List.take_nil, List.append_nil]; omega, by omega⟩
  · omega
theorem vopen_F {f : Nat → Prop} {w : World} {gd n T first cut c : Nat} {sf us : List (List UInt8)} {l t : VLog} (h : DiskF f w gd n T first cut sf us) (hsh : ShowsV n first cut sf us l t) (hn : n ≤ 65536) (hf : ∀ x, f x → x < w.heap.size) (hT : T + 4 ≤ c) (hc : c < 256) (hfi : first + 131072 ≤ 70000 * c) :
    ∃ l', (l' = l ∨ l' = t) ∧ Calls Tryz.prog 14 #[.pointer (some ⟨gd, 0, none⟩)] w fun e w' => (∃ gv, e = .returned (.tuple #[.pointer (some ⟨gv, 0, none⟩), .nilIface]) ∧ VltS (fun x => f x ∨ (w.heap.size ≤ x ∧ x < w'.heap.size)) w' gv gd n c l') ∧ Kp (fun x => ¬ f x) w w' := by
  obtain ⟨T', a, R, hT', hF, hop⟩ := open_FS h (by omega) hf
  obtain ⟨l', R1, R2, i, hl', rfl, hg, hp, hs, hrl, ha⟩ := hsh a R hF
  exact ⟨l', hl', vopen_part hop hg hp hs hrl hn hf (by omega) hc (by omega)⟩
def VltX (F : Nat → Prop) (w : World) (gv gd n c : Nat) (l : VLog) : Prop :=
  ∃ (f : Nat → Prop) (gl T first : Nat) (recs : List (List UInt8)) (vsd ves : Value), (∀ x, f x → F x) ∧ F gv ∧ ¬ f gv ∧ T ≤ c ∧ first ≤ 70000 * c ∧ Blk w gv 74 #[.pointer (some ⟨gl, 0, none⟩), .int .u64 (l.term : Int), .int .i64 l.vote, .int .u64 (l.si : Int), .int .u64 (l.st : Int), vsd, ves] ∧ LogX f w gl gd n T first first recs [] false ∧ VLm (fun b => F b ∧ ¬ f b ∧ b ≠ gv) w vsd ves l ∧ Grps recs l 0 ∧ secSum recs ≤ (n - 2) / 3 * 2 ∧ l.es.length ≤ 100000
def VltD (F : Nat → Prop) (w : World) (gv gd n c : Nat) (l t : VLog) : Prop :=
  ∃ (f : Nat → Prop) (gl T first cut : Nat) (sf us : List (List UInt8)) (C : Array Value), (∀ x, f x → F x) ∧ F gv ∧ ¬ f gv ∧ T ≤ c ∧ first ≤ 70000 * c ∧ Blk w gv 74 C ∧ C[0]? = some (.pointer (some ⟨gl, 0, none⟩)) ∧ LogX f w gl gd n T first cut sf us true ∧ ShowsV n first cut sf us l t
section
variable {F F' : Nat → Prop} {w w' : World} {gv gd n c c' : Nat} {l t : VLog}
theorem LogS.x {f : Nat → Prop} {gl T first : Nat} {sf : List (List UInt8)} (h : LogS f w gl gd n T first sf []) (cut : Nat) : LogX f w gl gd n T first cut sf [] false := by
  obtain ⟨l, d, rs, h1, h2, rfl⟩ := h
  exact ⟨l, d, h1, .inl ⟨rfl, rs, h2.live, rfl⟩⟩
theorem VltS.x (h : VltS F w gv gd n c l) : VltX F w gv gd n c l := by
  obtain ⟨f, gl, T, first, recs, vsd, ves, h1, h2, h3, h4, h5, h6, h7, h8⟩ := h
  exact ⟨f, gl, T, first, recs, vsd, ves, h1, h2, h3, h4, h5, h6, h7.x first, h8⟩
theorem VltX.later (h : VltX F w gv gd n c l) (hc : c ≤ c') : VltX F w gv gd n c' l := by
  obtain ⟨f, gl, T, first, recs, vsd, ves, h1, h2, h3, h4, h5, h6⟩ := h
  exact ⟨f, gl, T, first, recs, vsd, ves, h1, h2, h3, by omega, by omega, h6⟩
theorem VltX.wide (h : VltX F w gv gd n c l) (hm : ∀ x, F x → F' x) : VltX F' w gv gd n c l := by
  obtain ⟨f, gl, T, first, recs, vsd, ves, h1, h2, h3, h4, h5, h6, h7, h8, h9⟩ := h
  exact ⟨f, gl, T, first, recs, vsd, ves, fun x hx => hm x (h1 x hx), hm _ h2, h3, h4, h5, h6, h7, h8.mono fun b hb _ => ⟨hm b hb.1, hb.2⟩, h9⟩
theorem VltX.kp {ok : Nat → Prop} (h : VltX F w gv gd n c l) (hk : Kp ok w w') (hok : ∀ x, F x → ok x) : VltX F w' gv gd n c l := by
  obtain ⟨f, gl, T, first, recs, vsd, ves, h1, h2, h3, h4, h5, h6, h7, h8, h9⟩ := h
  exact ⟨f, gl, T, first, recs, vsd, ves, h1, h2, h3, h4, h5, h6.kp hk (hok _ h2), h7.kp hk fun x hx => hok x (h1 x hx), h8.kp (hk.mono fun b hb => hok b hb.1), h9⟩
theorem VltX.below (h : VltX F w gv gd n c l) (hb : Below w.heap.size w w') : VltX F w' gv gd n c l := h.kp (ok := fun _ => True) (.of_below hb) fun _ _ => trivial
theorem VltD.later (h : VltD F w gv gd n c l t) (hc : c ≤ c') : VltD F w gv gd n c' l t := by
  obtain ⟨f, gl, T, first, cut, sf, us, C, h1, h2, h3, h4, h5, h6⟩ := h
  exact ⟨f, gl, T, first, cut, sf, us, C, h1, h2, h3, by omega, by omega, h6⟩
theorem VltD.wide (h : VltD F w gv gd n c l t) (hm : ∀ x, F x → F' x) : VltD F' w gv gd n c l t := by
  obtain ⟨f, gl, T, first, cut, sf, us, C, h1, h2, h3, h4, h5, h6⟩ := h
  exact ⟨f, gl, T, first, cut, sf, us, C, fun x hx => hm x (h1 x hx), hm _ h2, h3, h4, h5, h6⟩
theorem VltD.kp {ok : Nat → Prop} (h : VltD F w gv gd n c l t) (hk : Kp ok w w') (hok : ∀ x, F x → ok x) : VltD F w' gv gd n c l t := by
  obtain ⟨f, gl, T, first, cut, sf, us, C, h1, h2, h3, h4, h5, h6, h7, h8, h9⟩ := h
  exact ⟨f, gl, T, first, cut, sf, us, C, h1, h2, h3, h4, h5, h6.kp hk (hok _ h2), h7, h8.kp hk fun x hx => hok x (h1 x hx), h9⟩
theorem VltD.below (h : VltD F w gv gd n c l t) (hb : Below w.heap.size w w') : VltD F w' gv gd n c l t := h.kp (ok := fun _ => True) (.of_below hb) fun _ _ => trivial
def DiskO (F : Nat → Prop) (w : World) (gd n c : Nat) (l t : VLog) : Prop :=
  ∃ (f : Nat → Prop) (T first cut : Nat) (sf us : List (List UInt8)), (∀ x, f x → F x) ∧ T ≤ c ∧ first ≤ 70000 * c ∧ ShowsV n first cut sf us l t ∧ (∀ w', Below w.heap.size w w' → Calls Tryz.prog 21 #[.pointer (some ⟨gd, 0, none⟩)] w' fun e w2 => e = .returned (.int .i64 0) ∧ DiskF f w2 gd n T first cut sf us ∧ Kp (fun b => ¬ f b) w' w2)
theorem DiskO.below (h : DiskO F w gd n c l t) (hb : Below w.heap.size w w') : DiskO F w' gd n c l t := by
  obtain ⟨f, T, first, cut, sf, us, h1, h2, h3, h4, h5⟩ := h
  exact ⟨f, T, first, cut, sf, us, h1, h2, h3, h4, fun w2 h => h5 w2 (hb.trans (h.mono hb.size))⟩
theorem VltX.o (h : VltX F w gv gd n c l) (hn : n ≤ 65536) : DiskO F w gd n c l l := by
  obtain ⟨f, gl, T, first, recs, vsd, ves, h1, h2, h3, h4, h5, h6, h7, h8, h9, h10, h11⟩ := h
  refine ⟨f, T, first, first, recs, [], h1, h4, h5, shows_up h9 h10 hn, fun w' hb => ?_⟩
  have := start_liveX (h7.below hb) (cut := first)
  rw [List.append_nil] at this
  exact this
theorem VltD.o (h : VltD F w gv gd n c l t) : DiskO F w gd n c l t := by
  obtain ⟨f, gl, T, first, cut, sf, us, C, h1, h2, h3, h4, h5, h6, h7, h8, h9⟩ := h
  exact ⟨f, T, first, cut, sf, us, h1, h4, h5, h9, fun w' hb => start_deadX (h8.below hb)⟩
theorem DiskC.below {f : Nat → Prop} {T first cut : Nat} {sf us : List (List UInt8)} (h : DiskC f w gd n T first cut sf us) (hb : Below w.heap.size w w') : DiskC f w' gd n T first cut sf us := by
  obtain ⟨d, keep, h1, h2⟩ := h
  exact ⟨d, keep, h1.below hb, h2⟩
theorem crash_VX {okk : Nat → Prop} (h : VltX F w gv gd n c l) (hn : n ≤ 65536) (hc : c < 256) (v : Value) (keep : List Int) (hkp : RSl rInt okk w v keep) (hof : ∀ b, okk b → ¬ F b) :
    Calls Tryz.prog 20 #[.pointer (some ⟨gd, 0, none⟩), v] w fun e w' => e = .returned (.int .i64 0) ∧ DiskO F w' gd n c l l ∧ Kp (fun b => ¬ F b) w w' := by
  obtain ⟨f, gl, T, first, recs, vsd, ves, h1, h2, h3, h4, h5, h6, h7, h8, h9, h10, h11⟩ := h
  have hl := secSum_len recs
  refine (crash_opX h7 v keep hkp fun b hb h => hof b hb (h1 b h)).mono ?_
  rintro e w' ⟨rfl, hC, hK⟩
  exact ⟨rfl, ⟨f, T, first, first, recs, [], h1, h4, h5, shows_up h9 h10 hn, fun w2 hb => start_C (hC.below hb) (by omega)⟩, hK.mono fun b hb h => hb (h1 b h)⟩
theorem crash_VD {okk : Nat → Prop} (h : VltD F w gv gd n c l t) (hc : c < 256) (v : Value) (keep : List Int) (hkp : RSl rInt okk w v keep) (hof : ∀ b, okk b → ¬ F b) :
    Calls Tryz.prog 20 #[.pointer (some ⟨gd, 0, none⟩), v] w fun e w' => e = .returned (.int .i64 0) ∧ DiskO F w' gd n c l t ∧ Kp (fun b => ¬ F b) w w' := by
  obtain ⟨f, gl, T, first, cut, sf, us, C, h1, h2, h3, h4, h5, h6, h7, h8, h9⟩ := h
  have hl := h9.sf
  refine (crash_opX h8 v keep hkp fun b hb h => hof b hb (h1 b h)).mono ?_
  rintro e w' ⟨rfl, hC, hK⟩
  exact ⟨rfl, ⟨f, T, first, cut, sf, us, h1, h4, h5, h9, fun w2 hb => start_C (hC.below hb) (by omega)⟩, hK.mono fun b hb h => hb (h1 b h)⟩
theorem arm_VX (h : VltX F w gv gd n c l) (x : Int) (hx : I64 x) :
    Calls Tryz.prog 23 #[.pointer (some ⟨gd, 0, none⟩), .int .i64 x] w fun e w' => e = .returned (.int .i64 0) ∧ VltX F w' gv gd n c l ∧ Kp (fun b => ¬ F b) w w' := by
  obtain ⟨f, gl, T, first, recs, vsd, ves, h1, h2, h3, h4, h5, h6, h7, h8, h9⟩ := h
  refine (arm_opX h7 x hx).mono ?_
  rintro e w' ⟨rfl, hL, hK⟩
  exact ⟨rfl, ⟨f, gl, T, first, recs, vsd, ves, h1, h2, h3, h4, h5, h6.kp hK h3, hL, h8.kp (hK.mono fun b hb => hb.2.1), h9⟩, hK.mono fun b hb h => hb (h1 b h)⟩
theorem arm_VD (h : VltD F w gv gd n c l t) (x : Int) (hx : I64 x) :
    Calls Tryz.prog 23 #[.pointer (some ⟨gd, 0, none⟩), .int .i64 x] w fun e w' => e = .returned (.int .i64 0) ∧ VltD F w' gv gd n c l t ∧ Kp (fun b => ¬ F b) w w' := by
  obtain ⟨f, gl, T, first, cut, sf, us, C, h1, h2, h3, h4, h5, h6, h7, h8, h9⟩ := h
  refine (arm_opX h8 x hx).mono ?_
  rintro e w' ⟨rfl, hL, hK⟩
  exact ⟨rfl, ⟨f, gl, T, first, cut, sf, us, C, h1, h2, h3, h4, h5, h6.kp hK h3, h7, hL, h9⟩, hK.mono fun b hb h => hb (h1 b h)⟩
theorem down_VD (h : VltD F w gv gd n c l t) : Calls Tryz.prog 25 #[.pointer (some ⟨gd, 0, none⟩)] w fun e w' => e = .returned (.bool true) ∧ w' = w := by
  obtain ⟨f, gl, T, first, cut, sf, us, C, h1, h2, h3, h4, h5, h6, h7, h8, h9⟩ := h
  exact down_opX h8
end
set_option maxRecDepth 100000 in
set_option maxHeartbeats 1600000 in
theorem ringX_any {f : Nat → Prop} {w : World} {gl gd n T first cut : Nat} {sf us : List (List UInt8)} (h : LogX f w gl gd n T first cut sf us false) :
    Calls Tryz.prog 40 #[.pointer (some ⟨gl, 0, none⟩)] w fun e w' => e = .returned (.tuple #[.int .i64 ((n : Int) - 2), .int .i64 (secSum (sf ++ us) : Int)]) ∧ Below w.heap.size w w' := by
  obtain ⟨l, d, rs, h1, h2, rfl⟩ := h.u
  obtain ⟨hkl, hn3, hn, _, hrc, _, _, _, _, _, hsum⟩ := h2.facts
  have hr : ∀ w' : World, Below w.heap.size w w' → Calls Tryz.prog 70 #[.pointer (some ⟨gl, 0, none⟩)] w' fun e w2 => e = .returned (.int .i64 ((n : Int) - 2)) ∧ w2 = w' := fun w' hb => by
    have := ring_b (h1.below hb)
    rw [hkl] at this
    exact this
  have HR := Lib.hid hr
  obtain ⟨vr, vp, hbk, _⟩ := h1.cells
  have c7 : ∀ s : Later w, s.val.cell? ⟨gl, 7, none⟩ = some (.int .i64 (l.used : Int)) := Later.cell (hbk.cell 7)
  have HU := Lib.hid (show l.used = secSum (rs.map (·.2) ++ us) by rw [hsum, hrc])
  have hz : decide ((n : Int) - 2 < 0) = false := decide_eq_false (by omega)
  have hmx : max ((n : Int) - 2) 0 = (n : Int) - 2 := by omega
  clear h h1 h2 hr hbk hkl hrc hsum
  go_enter Tryz.func40, Tryz.ntmps40
  go_upto_region 3 with fail
  refine wp_seqL [1] (by as_aux_lemma => kernel_rfl) (by as_aux_lemma => kernel_rfl) fun w2 hb2 => ?_
  refine seqL_pre 1 (by kernel_rfl) ?_
  simp only [List.take_succ_cons, List.take_zero, List.drop_succ_cons, List.drop_zero]
  repeat (go_big_quiet_step (fail))
  refine wpQuiet_nil ?_
  refine seqL_wild hb2 rfl rfl fun K hK => ?_
  unfold Gives
  go_simp
  refine (HR.out w2 hb2).mono ?_
  rintro e w3 ⟨rfl, rfl⟩
  refine ⟨_, rfl, hK _ _ ((Below.refl _ _)) fun hb3 => ?_⟩
  clear hK
  clear K
  simp only [Act.put, List.setIfInBounds_toArray, List.set_cons_succ, List.set_cons_zero]
  refine seqL_pre 7 (by kernel_rfl) ?_
  simp only [List.take_succ_cons, List.take_zero, List.drop_succ_cons, List.drop_zero]
  repeat (go_big_quiet_step (fail))
  refine wpQuiet_nil ?_
  refine seqL_nil ?_
  go_wp2
  refine bodyPost_ret (v := .tuple #[.int .i64 ((n : Int) - 2), .int .i64 (l.used : Int)]) ?_ rfl ⟨by rw [← HU.out], hb3⟩
  simp [results, Tryz.results40, Act.put, Sem.run_bind, Sem.run_pure, asAddr_ok, hmx]
set_option maxRecDepth 100000 in
set_option maxHeartbeats 1600000 in
theorem downX_any {f : Nat → Prop} {w : World} {gl gd n T first cut : Nat} {sf us : List (List UInt8)} {dn : Bool} (h : LogX f w gl gd n T first cut sf us dn) :
    Calls Tryz.prog 38 #[.pointer (some ⟨gl, 0, none⟩)] w fun e w' => e = .returned (.bool dn) ∧ w' = w := by
  have hdd := down_opX h
  obtain ⟨l, d, h1, h2⟩ := h
  have HD := Lib.hid hdd
  obtain ⟨vr, vp, hbk, _⟩ := h1.cells
  have c0 : w.cell? ⟨gl, 0, none⟩ = some (.pointer (some ⟨gd, 0, none⟩)) := hbk.cell 0
  have hld : l.dead = dn := by
    rcases h2 with ⟨rfl, rs, h2, _⟩ | ⟨rfl, h2⟩
    · exact h2.dead
    · exact h2.dead
  have c1 : w.cell? ⟨gl, 1, none⟩ = some (.bool dn) := by rw [← hld]; exact hbk.cell 1
  clear h1 h2 hdd hbk hld
  cases dn
  · go_enter Tryz.func38, Tryz.ntmps38
    go_wp2_with fail
    refine HD.out.mono ?_
    rintro e w1 ⟨rfl, rfl⟩
    go_wp2
    go_ret
    exact ⟨rfl, rfl⟩
  · go_enter Tryz.func38, Tryz.ntmps38
    go_wp2
    go_ret
    exact ⟨rfl, rfl⟩
end Go.Proofs.YtnlhjhpikjmoaaaGreatDoor
