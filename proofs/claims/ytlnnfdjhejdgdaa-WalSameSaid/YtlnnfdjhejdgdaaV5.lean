/- A log that is up, and its disk: what each function leaves, when nothing is hit. No walk. -/
import Derived.Test.YtlnnfdjhejdgdaaV4
namespace Go.Proofs.Ytlnnfdjhejdgdaa
open Go.RowKit

/-- a log that has these records, from a place on -/
structure Lg (l : LogD) (T first ring start : Nat) (b : List (List UInt8)) : Prop where
  turn : l.turn = T
  first : l.first = first
  recs : l.recs = b
  places : l.places = plc ring start b
  end_ : l.end_ = (start + secSum b) % ring
  used : l.used = secSum b
structure Inv (n : Nat) (l : LogD) (d : DskD) (T first start nx : Nat) (rs : List (Nat × List UInt8)) (us : List (List UInt8)) : Prop where
  img : Img d.kept n T first start nx rs us
  log : Lg l T first (n - 2) start (rs.map (·.2) ++ us)
  wait : d.wait = putsW (n - 2) ((start + secSum (rs.map (·.2))) % (n - 2)) (secs T us)
  wts : l.waits = false → us = []
section
variable {n : Nat} {l : LogD} {d : DskD} {T first start nx : Nat} {rs : List (Nat × List UInt8)} {us : List (List UInt8)}
/-- what is read: all of it -/
theorem Inv.shown (h : Inv n l d T first start nx rs us) : Img (keepW d.kept d.wait) n T first start nx (rs ++ us.map fun b => (T, b)) [] := by
  have hk := img_keep (secs T us) 0 h.img (by rw [Nat.zero_add]) (fun i => by rw [Nat.zero_add]) fun j s hj => absurd hj (Nat.not_lt_zero _)
  rw [Nat.add_zero] at hk
  rw [h.wait]
  exact hk.1.safe hk.2
theorem Inv.wait_len (h : Inv n l d T first start nx rs us) : d.wait.length ≤ 65536 := by
  rw [h.wait, putsW_len, secs_len]
  have := h.img.fit
  have := h.img.bas.n64
  omega
theorem Inv.append (h : Inv n l d T first start nx rs us) {b : List UInt8} (hb : b.length ≤ 32768) (hf : secSum (rs.map (·.2) ++ us) + secN b.length ≤ n - 2) :
    Inv n { took l b (n - 2) with waits := true } { d with wait := d.wait ++ putsW (n - 2) l.end_ (secsB l.turn b) } T first start nx rs (us ++ [b]) := by
  have hn3 := h.img.bas.n3
  have hm := Nat.mod_lt (start + secSum (rs.map (·.2))) (show 0 < n - 2 by omega)
  rw [secSum_append] at hf
  refine ⟨h.img.wait hb hf, ⟨h.log.turn, h.log.first, ?_, ?_, ?_, ?_⟩, ?_, fun h => by cases h⟩
  · show l.recs ++ [b] = _
    rw [h.log.recs, List.append_assoc]
  · show l.places ++ [l.end_] = _
    rw [h.log.places, h.log.end_, ← List.append_assoc, plc_append]
  · show (l.end_ + secN b.length) % (n - 2) = _
    rw [h.log.end_, Nat.mod_add_mod, ← List.append_assoc, secSum_append (rs.map (·.2) ++ us), show secSum [b] = secN b.length by simp [secSum], Nat.add_assoc]
  · show l.used + secN b.length = _
    rw [h.log.used, ← List.append_assoc, secSum_append (rs.map (·.2) ++ us), show secSum [b] = secN b.length by simp [secSum]]
  · show d.wait ++ putsW (n - 2) l.end_ (secsB l.turn b) = _
    rw [h.wait, h.log.turn, h.log.end_, secs_append, putsW_append _ _ _ _ hm, Nat.mod_add_mod, secs_len, secSum_append, Nat.add_assoc, show secs T [b] = secsB T b by simp [secs]]
/-- what waits is written -/
theorem Inv.flush (h : Inv n l d T first start nx rs us) (x : Bool) : Inv n { l with waits := x } d.all T first start nx (rs ++ us.map fun b => (T, b)) [] := by
  refine ⟨h.shown, ⟨h.log.turn, h.log.first, ?_, ?_, ?_, ?_⟩, rfl, fun _ => rfl⟩
  · show l.recs = _
    rw [h.log.recs, List.map_append, snd_pairs, List.append_nil]
  · show l.places = _
    rw [h.log.places, List.map_append, snd_pairs, List.append_nil]
  · show l.end_ = _
    rw [h.log.end_, List.map_append, snd_pairs, List.append_nil]
  · show l.used = _
    rw [h.log.used, List.map_append, snd_pairs, List.append_nil]
/-- a head is told of what is safe -/
theorem told_inv {I : List (List UInt8)} {q : List (Nat × List UInt8)} (hb : Bas I n T first start q) (hl : Lg l T first (n - 2) start (q.map (·.2))) (hT : T + 1 < 256) (k : Nat) (hk : k ≤ q.length) (hf : first + k + 70000 < 18446744073709551616) (w : Bool) (down : Bool) (armed : Nat) :
    Inv n { l with turn := l.turn + 1, first := l.first + k, recs := l.recs.drop k, places := l.places.drop k, used := l.used - secSum (l.recs.take k), waits := w } ⟨I.set ((l.turn + 1) % 2) (tellB l k), [], down, armed⟩ (T + 1) (first + k) ((start + secSum ((q.take k).map (·.2))) % (n - 2)) (first + q.length) (q.drop k) [] := by
  have hn3 := hb.n3
  have hn64 := hb.n64
  have he : l.end_ < 18446744073709551616 := by
    rw [hl.end_]
    have := Nat.mod_lt (start + secSum (q.map (·.2))) (show 0 < n - 2 by omega)
    omega
  have ht := bas_tell hb hT k hk hf l.end_ he
  have hbt : tellB l k = hdB (T + 1) (first + k) (first + q.length) ((start + secSum ((q.take k).map (·.2))) % (n - 2)) l.end_ := by
    unfold tellB
    rw [hl.turn, hl.first, hl.recs, List.length_map]
    congr 1
    simp only [hl.places]
    split
    · rw [plc_get, List.map_take]
    · rename_i hlt
      rw [plc_len, List.length_map] at hlt
      rw [hl.end_, List.take_of_length_le (by omega)]
  refine ⟨by rw [hbt, hl.turn]; exact ht, ⟨by show l.turn + 1 = _; rw [hl.turn], by show l.first + k = _; rw [hl.first], ?_, ?_, ?_, ?_⟩, rfl, fun _ => rfl⟩
  · show l.recs.drop k = _
    rw [hl.recs, List.append_nil, List.map_drop]
  · show l.places.drop k = _
    rw [hl.places, List.append_nil, List.map_drop, plc_drop, List.map_take]
    exact plc_same _ (Nat.mod_mod _ _).symm
  · show l.end_ = _
    rw [hl.end_, List.append_nil, Nat.mod_add_mod, List.map_drop, List.map_take, Nat.add_assoc, secSum_td]
  · show l.used - secSum (l.recs.take k) = _
    rw [hl.used, hl.recs, List.append_nil, List.map_drop]
    have := secSum_td (q.map (·.2)) k
    omega
end
/-- a log that is up, on a calm disk -/
structure Up (n : Nat) (l : LogD) (d : DskD) (T first : Nat) (rs : List (Nat × List UInt8)) (us : List (List UInt8)) : Prop where
  inv : ∃ start nx, Inv n l d T first start nx rs us
  calm : Calm d
  dead : l.dead = false
section
variable {n : Nat} {l : LogD} {d : DskD} {T first : Nat} {rs : List (Nat × List UInt8)} {us : List (List UInt8)}
theorem Up.good (h : Up n l d T first rs us) : Good n l d ∧ 3 ≤ n ∧ l.end_ < n - 2 ∧ l.recs = rs.map (·.2) ++ us ∧ l.first = first ∧ l.turn = T ∧ d.wait.length ≤ 65536 ∧ first + 70000 < 18446744073709551616 ∧ T < 256 := by
  obtain ⟨start, nx, hi⟩ := h.inv
  have hn3 := hi.img.bas.n3
  have hfit := hi.img.fit
  refine ⟨⟨hi.img.bas.len, h.calm, h.dead, by rw [hi.log.used, hi.log.recs], by rw [hi.log.used, secSum_append]; exact hfit⟩, hn3, ?_, hi.log.recs, hi.log.first, hi.log.turn, hi.wait_len, hi.img.bas.f64, hi.img.bas.T1⟩
  rw [hi.log.end_]
  exact Nat.mod_lt _ (by omega)
theorem append_up (h : Up n l d T first rs us) {b : List UInt8} (hb : b.length ≤ 32768) (hf : secSum (rs.map (·.2) ++ us) + secN b.length ≤ n - 2) :
    ∃ l' d', appendL l d b = (l', d', 0) ∧ Up n l' d' T first rs (us ++ [b]) := by
  obtain ⟨hg, hn3, he, hr, _⟩ := h.good
  obtain ⟨start, nx, hi⟩ := h.inv
  refine ⟨_, _, append_good hg hn3 he hb (by rw [hg.sum, hr]; exact hf), ⟨⟨start, nx, hi.append hb hf⟩, ⟨h.calm.down, h.calm.armed⟩, h.dead⟩⟩
theorem sync_up (h : Up n l d T first rs us) : ∃ l' d', syncL l d = (l', d', 0) ∧ Up n l' d' T first (rs ++ us.map fun b => (T, b)) [] := by
  obtain ⟨hg, _⟩ := h.good
  obtain ⟨start, nx, hi⟩ := h.inv
  rw [sync_good hg]
  split
  · exact ⟨_, _, rfl, ⟨⟨start, nx, hi.flush false⟩, h.calm.all, h.dead⟩⟩
  · rename_i hw
    have hus := hi.wts (by simpa using hw)
    subst hus
    exact ⟨_, _, rfl, by simpa using h⟩
theorem cut_up (h : Up n l d T first rs us) (hT : T + 1 < 256) {k : Nat} (h1 : first ≤ k) (h2 : k ≤ first + (rs.map (·.2) ++ us).length) (h64 : k + 70000 < 18446744073709551616) :
    ∃ l' d' T' rs', cutL l d k = (l', d', 0) ∧ T' ≤ T + 1 ∧ Up n l' d' T' k rs' [] ∧ rs'.map (·.2) = (rs.map (·.2) ++ us).drop (k - first) := by
  obtain ⟨hg, hn3, _, hr, hfi, htu, _⟩ := h.good
  rw [cut_good hg hn3 (by rw [hfi]; exact h1) (by rw [hfi, hr]; exact h2)]
  split
  · rename_i hk
    obtain ⟨l', d', he, hu⟩ := sync_up h
    rw [hk, hfi]
    exact ⟨l', d', T, _, he, Nat.le_succ _, hu, by rw [List.map_append, snd_pairs, Nat.sub_self, List.drop_zero]⟩
  · obtain ⟨start, nx, hi⟩ := h.inv
    have hi2 := hi.flush l.waits
    have hlg := hi2.log
    rw [List.append_nil] at hlg
    have hq : (rs ++ us.map fun b => (T, b)).length = (rs.map (·.2) ++ us).length := by simp
    have := told_inv (l := { l with waits := l.waits }) hi2.img.bas hlg hT (k - first) (by rw [hq]; omega) (by rw [Nat.add_sub_cancel' h1]; exact h64) false d.down d.armed
    rw [show first + (k - first) = k by omega] at this
    have hfk : l.first + (k - first) = k := by rw [hfi]; omega
    refine ⟨_, _, T + 1, (rs ++ us.map fun b => (T, b)).drop (k - first), rfl, Nat.le_refl _, ⟨⟨(start + secSum (((rs ++ us.map fun b => (T, b)).take (k - first)).map (·.2))) % (n - 2), first + (rs ++ us.map fun b => (T, b)).length, ?_⟩, ⟨h.calm.down, h.calm.armed⟩, h.dead⟩, ?_⟩
    · simp only [hfk] at this
      rw [hfi]
      exact this
    · rw [List.map_drop, List.map_append, snd_pairs]
theorem open_up (h : Up n l d T first rs us) (hT : T + 1 < 256) : ∃ l' d' rs', openL d = (l', d', 0) ∧ Up n l' d' (T + 1) first rs' [] ∧ rs'.map (·.2) = rs.map (·.2) ++ us := by
  obtain ⟨start, nx, hi⟩ := h.inv
  have hn3 := hi.img.bas.n3
  have hs : Sees d (keepW d.kept d.wait) n := ⟨h.calm.down, hi.img.bas.len, rfl, hn3⟩
  obtain ⟨m, e, hm, hb, hf, hB, _⟩ := img_find hs hi.shown
  rw [List.length_nil] at hm
  obtain rfl : m = 0 := by omega
  rw [List.take_nil, List.append_nil] at hf
  rw [List.take_nil, List.map_nil, List.append_nil] at hB
  have hL : Lg (lgS T first (n - 2) start ((rs ++ us.map fun b => (T, b)).map (·.2))) T first (n - 2) start ((rs ++ us.map fun b => (T, b)).map (·.2)) := ⟨rfl, rfl, rfl, rfl, rfl, rfl⟩
  have hG : Good n (lgS T first (n - 2) start ((rs ++ us.map fun b => (T, b)).map (·.2))) d := ⟨hi.img.bas.len, h.calm, rfl, rfl, hB.fit⟩
  have ht := told_inv hB hL hT 0 (Nat.zero_le _) hB.f64 false d.down d.armed
  have ho : openL d = tellL (lgS T first (n - 2) start ((rs ++ us.map fun b => (T, b)).map (·.2))) d 0 := by
    unfold openL
    rw [if_neg (by rw [h.calm.down]; decide), hb, hf]
    rfl
  rw [ho, tell_good hG hn3]
  refine ⟨_, _, _, rfl, ⟨⟨_, _, ht⟩, ⟨h.calm.down, h.calm.armed⟩, rfl⟩, ?_⟩
  rw [List.drop_zero, List.map_append, snd_pairs]
end
theorem ring_new {n : Nat} (hn : 3 ≤ n) (p : Nat) : ringAt (newD n).kept (n - 2) p = List.replicate 64 0 := by
  have hm := Nat.mod_lt p (show 0 < n - 2 by omega)
  unfold ringAt newD
  rw [List.getD_eq_getElem?_getD, List.getElem?_replicate_of_lt (by omega)]
  rfl
theorem new_up (n : Nat) (hn : 3 ≤ n) (h64 : n ≤ 65536) : ∃ l d, openL (newD n) = (l, d, 0) ∧ Up n l d 1 0 [] [] := by
  have hf : findL zeroL (newD n) zeroH = (zeroL, 0) := by
    unfold findL
    rw [if_neg (by rw [newD_len]; show ¬ (n < 3 ∨ n - 2 ≤ 0 ∨ 0 < 0); omega), newD_len, show n - 1 = (n - 2) + 1 by omega, findF, if_pos ⟨rfl, Nat.le_refl _⟩]
    rfl
  have hz : ∀ i, i < n → (newD n).kept.getD i [] = List.replicate 64 0 := fun i hi => by
    unfold newD
    rw [List.getD_eq_getElem?_getD, List.getElem?_replicate_of_lt hi]
    rfl
  have hr0 : rdN (List.replicate 64 0) 56 = 0 := rdN_zero 56
  have hB : Bas (newD n).kept n 0 0 0 [] := ⟨newD_len n, hn, h64, fun i hi => by rw [hz i hi]; exact zero_sm, by omega, by omega, fun p => by rw [ring_new hn p]; unfold sback; rw [hr0]; exact Nat.le_refl _, trivial, Nat.zero_le _, by rw [hz 0 (by omega)]; exact ⟨rdN_zero 0, hr0⟩, by omega⟩
  have hL : Lg zeroL 0 0 (n - 2) 0 [] := ⟨rfl, rfl, rfl, rfl, (Nat.zero_mod _).symm, rfl⟩
  have hG : Good n zeroL (newD n) := ⟨newD_len n, ⟨rfl, rfl⟩, rfl, rfl, Nat.zero_le _⟩
  have ho : openL (newD n) = tellL zeroL (newD n) 0 := by
    unfold openL
    rw [if_neg (show ¬ ((newD n).down = true) from Bool.false_ne_true), newD_best, hf]
    rfl
  have ht := told_inv hB hL (by omega) 0 (Nat.le_refl _) (by omega) false false 0
  rw [ho, tell_good hG hn]
  exact ⟨_, _, rfl, ⟨⟨_, _, ht⟩, ⟨rfl, rfl⟩, rfl⟩⟩
end Go.Proofs.Ytlnnfdjhejdgdaa
