/- A region that draws its order, in which two lists of one's own are each made longer by one element, laid out in a block of its own: walked once. No program in sight.
Contract: (*Disk).Write.
The operations of a plain region walked in two parts; blocks stored in their middle; whole structs read and stored at an operation. No program in sight.
Contract: (*Disk).Read.
Contract: (*Disk).Flush.
Plain: bytes read as values. No program in sight. -/
import Derived.Test.YtnlhjhpikjmoaaaGreatDoorSeq
import Derived.Test.YtnlhjhpikjmoaaaGreatDoorW4
import Derived.Outline
import Derived.Deep.DeepCutAuto
import Derived.Test.YtnlhjhpikjmoaaaGreatDoorSeqG
import Derived.Test.YtnlhjhpikjmoaaaGreatDoorReg
namespace Go.Proofs.YtnlhjhpikjmoaaaGreatDoor
open Go.RowKit
structure Pu (α : Type) where
  b : Nat
  a : Nat
  v : Value
  l : List α
  x : α
  cs : Array Value
def Ap (o1 o2 : Option Nat) : Prop := ∀ g, o1 = some g → o2 ≠ some g
theorem Ap.symm {o1 o2 : Option Nat} (h : Ap o1 o2) : Ap o2 o1 := fun g h1 h2 => h g h2 h1
theorem Ap.none_l (o : Option Nat) : Ap none o := fun _ h => by cases h
theorem gives_app0' {α : Type} {E : Rel α} {okd : Nat → Prop} {base : Nat} {P : Program} {tS tE : TypeId} (hT : RowTy P tS tE E.sz E.wt) (hsz : 0 < E.sz) {o : Oper} {a : Act} {Φ : Value → World → Prop} (s x : Operand)
    (ho : o.op = .call { callee := .builtin .append, args := #[s, x], argTypes := #[tS, tS] })
    (v : Value) (l : List α) (w : World) (hs : a.eval s = v) (hown : OwnL E okd base tE w v l)
    (A : Option Addr) (c : Nat) (l2 : List α) (css : List (List Value)) (hx : a.eval x = .slice A l2.length c) (hr : Rd w E.sz A l2.length css.flatten) (hch : Chunks E (fun b => okd b ∧ some b ≠ v.ownBlock) w css l2)
    (hlen : (l.length + l2.length) * E.wt ≤ 140737488355328) (hlen2 : l.length + l2.length ≤ 140737488355328) (hbase : base ≤ w.heap.size)
    (h : ∀ v' w', OwnL E okd base tE w' v' (l ++ l2) → Kp (fun b => some b ≠ v.ownBlock) w w' → (v'.ownBlock = v.ownBlock ∨ v'.ownBlock = some w.heap.size) → Φ v' w') : Gives P o a w Φ := by
  obtain ⟨i, z, hi, hz, h1, h2, h3⟩ := hT.info
  obtain ⟨cso, hrow, hcho⟩ := hown
  have key : ∃ v' w', (Builtin.append_ #[tS, tS] o.type #[v, .slice A l2.length c]).run P w = .ok v' w' ∧ w'.ownsRow base tE E.sz v' (l.length + l2.length) (cso.flatten ++ css.flatten) ∧ w.grownBy w' v.ownBlock ∧ (v'.ownBlock = v.ownBlock ∨ v'.ownBlock = some w.heap.size) := by
    rcases A with _ | ad
    · have hm : l2.length = 0 := by
        rcases Nat.eq_zero_or_pos l2.length with h0 | h0
        · exact h0
        · obtain ⟨_, _, h, _⟩ := hr.2 h0
          cases h
      have hn : css.flatten = [] := List.eq_nil_of_length_eq_zero (by rw [hch.flat, hm]; simp)
      rw [hm, hn]
      exact ⟨v, w, run_append_nil_src w base tS o.type tE i E.sz hT.ht hi v _ _ hrow c, by simpa using hrow, World.grownBy.refl _ _, .inl rfl⟩
    · have hcells : ∀ j u, css.flatten[j]? = some u → w.cell? (ad.add j) = some u := by
        intro j u hu
        rcases Nat.eq_zero_or_pos l2.length with h0 | h0
        · have hn : css.flatten = [] := List.eq_nil_of_length_eq_zero (by rw [hch.flat, h0]; simp)
          rw [hn] at hu
          simp at hu
        · obtain ⟨b, off, h, hc⟩ := hr.2 h0
          injection h with h
          subst h
          rw [Addr.add_lit]
          exact hc j u hu
      obtain ⟨v', w', hrun, h4, h5, _, h6⟩ := run_append_own_at (P := P) w base tS o.type tE i z E.sz E.wt hT.ht hi hz h1 h2 h3 hsz v _ _ hrow ad l2.length c css.flatten hch.flat hcells hch.one (by unfold maxLen; omega) hlen hbase
      exact ⟨v', w', hrun, h4, h5, h6⟩
  obtain ⟨v', w', hrun, h4, h5, h6⟩ := key
  unfold Gives execOp
  simp only [ho, resolve, invoke, builtin, Sem.run_bind, Sem.run_pure, Result.andThen_ok, List.map_toArray, List.map_cons, List.map_nil, hs, hx, hrun, giv]
  refine h v' w' ⟨cso ++ css, ?_, ?_⟩ (.of_grown h5 fun _ h => h) h6
  · rw [List.length_append, List.flatten_append]; exact h4
  · have hk : Kp (fun b => okd b ∧ some b ≠ v.ownBlock) w w' := .of_grown h5 fun _ h => h.2
    refine ((hcho.mono (ok' := fun b => (okd b ∧ some b ≠ v.ownBlock) ∧ b < w.heap.size) fun b hb hlt => ⟨hb, hlt⟩).append (hch.mono (ok' := fun b => (okd b ∧ some b ≠ v.ownBlock) ∧ b < w.heap.size) fun b hb hlt => ⟨hb, hlt⟩)).kp (hk.mono fun b hb => hb.1) |>.mono fun b hb _ => ⟨hb.1.1, ?_⟩
    rcases h6 with h6 | h6
    · rw [h6]; exact hb.1.2
    · rw [h6]
      intro e
      have := Option.some.inj e
      omega
section
variable {α : Type}
def Pu.cur (p : Pu α) (M : Nat → Bool) (e : Nat → Value) : Value := if M p.a = true then e p.a else p.v
def Pu.now (p : Pu α) (M : Nat → Bool) : List α := if M p.a = true then p.l ++ [p.x] else p.l
def Pu.bx (p : Pu α) (M : Nat → Bool) (e : Nat → Value) : Option Nat := if M p.b = true ∧ M p.a = false then (e p.b).ownBlock else none
def Pu.bok (T : TypeId) (p : Pu α) (M : Nat → Bool) (e : Nat → Value) (w : World) : Prop := M p.b = true → M p.a = false → ∃ g, e p.b = .slice (some ⟨g, 0, none⟩) 1 1 ∧ Blk w g T p.cs
structure PuInv (E : Rel α) (okd : Nat → Prop) (base : Nat) (T : TypeId) (bad : Nat → Prop) (p q : Pu α) (w : World) (M : Nat → Bool) (e : Nat → Value) (w' : World) : Prop where
  kp : Kp (fun b => ¬ bad b) w w'
  op : OwnL E okd base T w' (p.cur M e) (p.now M)
  oq : OwnL E okd base T w' (q.cur M e) (q.now M)
  bp : p.bok T M e w'
  bq : q.bok T M e w'
  a1 : Ap (p.cur M e).ownBlock (q.cur M e).ownBlock
  a2 : Ap (p.bx M e) (p.cur M e).ownBlock
  a3 : Ap (p.bx M e) (q.cur M e).ownBlock
  a4 : Ap (q.bx M e) (p.cur M e).ownBlock
  a5 : Ap (q.bx M e) (q.cur M e).ownBlock
  a6 : Ap (p.bx M e) (q.bx M e)
variable {E : Rel α} {okd : Nat → Prop} {base : Nat} {T : TypeId} {bad : Nat → Prop} {p q : Pu α} {w w1 w2 : World} {M : Nat → Bool} {e : Nat → Value}
theorem Pu.bx_lt (h : p.bok T M e w1) : ∀ g, p.bx M e = some g → g < w1.heap.size := by
  intro g hg
  unfold Pu.bx at hg
  split at hg
  · rename_i hc
    obtain ⟨g', he, hb⟩ := h hc.1 hc.2
    rw [he] at hg
    cases hg
    exact hb.lt
  · cases hg
theorem OwnL.ap_new {v : Value} {l : List α} (h : OwnL E okd base T w1 v l) : Ap (some w1.heap.size) v.ownBlock := fun g hg hv => by
  cases hg
  exact absurd (h.lt _ hv).2 (by omega)
theorem Pu.bx_new (h : p.bok T M e w1) : Ap (some w1.heap.size) (p.bx M e) := fun g hg hv => by
  cases hg
  exact absurd (Pu.bx_lt h _ hv) (by omega)
theorem PuInv.box (h : PuInv E okd base T bad p q w M e w1) (hd1 : p.b ≠ p.a) (hd2 : p.b ≠ q.a) (hd3 : p.b ≠ q.b) (hM : M p.b = false) :
    PuInv E okd base T bad p q w (on M p.b) (upd e p.b (.slice (some ⟨w1.heap.size, 0, none⟩) 1 1)) (w1.alloc (.cells p.cs T)) := by
  have hal : Below w1.heap.size w1 (w1.alloc (.cells p.cs T)) := (Below.refl _ _).alloc (Nat.le_refl _) _
  have m1 : on M p.b p.a = M p.a := by simp [on, hd1.symm]
  have m2 : on M p.b q.a = M q.a := by simp [on, hd2.symm]
  have m3 : on M p.b q.b = M q.b := by simp [on, hd3.symm]
  have m4 : on M p.b p.b = true := by simp [on]
  have u1 : upd e p.b (.slice (some ⟨w1.heap.size, 0, none⟩) 1 1) p.a = e p.a := by simp [upd, hd1.symm]
  have u2 : upd e p.b (.slice (some ⟨w1.heap.size, 0, none⟩) 1 1) q.a = e q.a := by simp [upd, hd2.symm]
  have u3 : upd e p.b (.slice (some ⟨w1.heap.size, 0, none⟩) 1 1) q.b = e q.b := by simp [upd, hd3.symm]
  have u4 : upd e p.b (.slice (some ⟨w1.heap.size, 0, none⟩) 1 1) p.b = .slice (some ⟨w1.heap.size, 0, none⟩) 1 1 := by simp [upd]
  have c1 : p.cur (on M p.b) (upd e p.b (.slice (some ⟨w1.heap.size, 0, none⟩) 1 1)) = p.cur M e := by unfold Pu.cur; rw [m1, u1]
  have c2 : q.cur (on M p.b) (upd e p.b (.slice (some ⟨w1.heap.size, 0, none⟩) 1 1)) = q.cur M e := by unfold Pu.cur; rw [m2, u2]
  have n1 : p.now (on M p.b) = p.now M := by unfold Pu.now; rw [m1]
  have n2 : q.now (on M p.b) = q.now M := by unfold Pu.now; rw [m2]
  have b2 : q.bx (on M p.b) (upd e p.b (.slice (some ⟨w1.heap.size, 0, none⟩) 1 1)) = q.bx M e := by unfold Pu.bx; rw [m2, m3, u3]
  have b1 : p.bx (on M p.b) (upd e p.b (.slice (some ⟨w1.heap.size, 0, none⟩) 1 1)) = none ∨ p.bx (on M p.b) (upd e p.b (.slice (some ⟨w1.heap.size, 0, none⟩) 1 1)) = some w1.heap.size := by
    unfold Pu.bx
    rw [m4, u4]
    split
    · exact .inr rfl
    · exact .inl rfl
  have ap : ∀ o, Ap (some w1.heap.size) o → Ap (p.bx (on M p.b) (upd e p.b (.slice (some ⟨w1.heap.size, 0, none⟩) 1 1))) o := fun o ho => by
    rcases b1 with b1 | b1 <;> rw [b1]
    · exact Ap.none_l o
    · exact ho
  refine ⟨h.kp.alloc _, by rw [c1, n1]; exact h.op.below hal, by rw [c2, n2]; exact h.oq.below hal, ?_, ?_, by rw [c1, c2]; exact h.a1, ?_, ?_, by rw [b2, c1]; exact h.a4, by rw [b2, c2]; exact h.a5, ?_⟩
  · intro _ _
    exact ⟨w1.heap.size, u4, Blk.new w1 _ _⟩
  · intro h1 h2
    rw [m3] at h1
    rw [m2] at h2
    obtain ⟨g, he, hb⟩ := h.bq h1 h2
    exact ⟨g, by rw [u3]; exact he, hb.alloc _⟩
  · rw [c1]; exact ap _ h.op.ap_new
  · rw [c2]; exact ap _ h.oq.ap_new
  · rw [b2]; exact ap _ (Pu.bx_new h.bq)
theorem PuInv.cong {e' : Nat → Value} (hM : ∀ d, M d = true → e d = e' d) (h : PuInv E okd base T bad p q w M e w1) : PuInv E okd base T bad p q w M e' w1 := by
  have c : ∀ r : Pu α, r.cur M e' = r.cur M e := fun r => by
    unfold Pu.cur
    split
    · rename_i hr; rw [hM _ hr]
    · rfl
  have b : ∀ r : Pu α, r.bx M e' = r.bx M e := fun r => by
    unfold Pu.bx
    split
    · rename_i hr; rw [hM _ hr.1]
    · rfl
  have k : ∀ r : Pu α, r.bok T M e w1 → r.bok T M e' w1 := fun r hr h1 h2 => by
    obtain ⟨g, he, hb⟩ := hr h1 h2
    exact ⟨g, by rw [← hM _ h1]; exact he, hb⟩
  exact ⟨h.kp, by rw [c]; exact h.op, by rw [c]; exact h.oq, k _ h.bp, k _ h.bq, by rw [c, c]; exact h.a1, by rw [b, c]; exact h.a2, by rw [b, c]; exact h.a3, by rw [b, c]; exact h.a4, by rw [b, c]; exact h.a5, by rw [b, b]; exact h.a6⟩
end
section
variable {α : Type} {P : Program} {ops : Array Oper} {w : World} {E : Rel α} {okd : Nat → Prop} {base : Nat} {T : TypeId} {bad : Nat → Prop} {p q : Pu α} {wild : List Nat} {v : Nat → Value} {Q : Act → World → Prop}
def Pu.apart (p q : Pu α) : Bool := p.b != p.a && (p.b != q.a && (p.b != q.b && (p.a != q.a && (p.a != q.b && q.b != q.a))))
end
end Go.Proofs.YtnlhjhpikjmoaaaGreatDoor
namespace Go.Proofs.YtnlhjhpikjmoaaaGreatDoor
open Go.RowKit
theorem Tryz.rowWt : RowTy Tryz.prog 89 95 65 72 := rowTy_mk Tryz.underlying89 (by kernel_rfl)
theorem Tryz.infoSec2 : (Tryz.prog.info? 93).map (·.size) = some 64 := by kernel_rfl
theorem still_ld {P : Program} {o : Oper} {a : Act} {w : World} {g k : Nat} {cs : Array Value} {ty : TypeId} {x : Operand} {d : TypeDesc} (ho : o.op = .load ty x) (hx : a.eval x = .pointer (some ⟨g, k, none⟩)) (hk : w.rangeAt g k cs.toList) (hu : P.underlying ty = some d) (hd : d.isRow = true) (hi : (P.info? ty).map (·.size) = some cs.size) : StillAt P o a w (.agg cs) := by
  have hr := run_loadVar_mid (P := P) w g k ty cs.toList d hk hu hd (by simpa using hi)
  refine .inl ?_
  unfold execOp
  simp only [ho, hx, Instr.loadAt, Instr.sureAddr, Sem.run_bind, Sem.run_pure, Result.andThen_ok, hr]
theorem still_arr {P : Program} {o : Oper} {a : Act} {w : World} {A : Option Addr} {n c m : Nat} {e : TypeId} {ty : TypeId} {x : Operand} (ho : o.op = .sliceToArrayPointer ty x) (hx : a.eval x = .slice A n c) (hu : P.underlying ty = some (.array m e)) (hn : m ≤ n) : StillAt P o a w (.pointer A) := by
  refine .inl ?_
  unfold execOp
  simp only [ho, hx, Instr.arrayAt, Sem.run_bind, run_underlying hu, Result.andThen_ok]
  rw [if_neg (by omega)]
  rfl
theorem still_build {P : Program} {o : Oper} {a : Act} {w : World} {ty : TypeId} {parts : List (Nat × Operand)} (vs : List (Nat × Value)) {u : Value} (ho : o.op = .build ty parts.toArray) (hx : (parts.map fun (i, x) => (i, a.eval x)) = vs) (h : (Instr.build ty vs.toArray).run P w = .ok u w) : StillAt P o a w u := by
  refine .inl ?_
  unfold execOp
  simp only [ho, List.map_toArray, hx, Sem.run_bind, h, Result.andThen_ok]
  rfl
theorem gives_bslice {P : Program} {o : Oper} {a : Act} {w w' : World} {Φ : Value → World → Prop} {ty : TypeId} {n : Nat} {parts : List (Nat × Operand)} (vs : List (Nat × Value)) {u : Value} (ho : o.op = .buildSlice ty n parts.toArray) (hx : (parts.map fun (i, x) => (i, a.eval x)) = vs) (h : (Instr.buildSlice ty n vs.toArray).run P w = .ok u w') (hp : Φ u w') : Gives P o a w Φ := by
  unfold Gives execOp
  simp only [ho, List.map_toArray, hx, Sem.run_bind, h, Result.andThen_ok]
  exact hp
set_option maxRecDepth 100000 in
set_option maxHeartbeats 6400000 in
theorem dWrite_any {ft okb : Nat → Prop} {g : Nat} {d : DskD} {w : World} (h : DiskR ft w g d) (vb : Value) (lb : List UInt8) (hb : RB okb w vb lb) (hbf : ∀ b, okb b → ¬ ft b) (p : Int) (hp : I64 p) (hwl : d.wait.length + 1 ≤ 1000000000) :
    Calls Tryz.prog 82 #[.pointer (some ⟨g, 0, none⟩), .int .i64 p, vb] w fun e w' => e = .returned (.int .i64 (d.write p lb).2) ∧ DiskR (fun b => ft b ∨ w.heap.size ≤ b) w' g (d.write p lb).1 ∧ Kp (fun b => ¬ ft b) w w' := by
  have hR := h
  have hR0 : DiskR (fun b => ft b ∨ w.heap.size ≤ b) w g d := h.mono fun b hb _ => .inl hb
  obtain ⟨kb, vw, h1, h2, h3, h4, h5, h6, h7, h8, h9, h10, h11, h12, h13, h14⟩ := h
  obtain ⟨c0, c1, c2, c3⟩ := dk_cells h1
  obtain ⟨A, c, rfl, hc, hlen, hrd, hob⟩ := hb.open_
  by_cases hd : d.down = true
  · have hw : d.write p lb = (d, 3) := by unfold DskD.write; rw [if_pos hd]
    rw [hw]
    clear h1 h2 h3 h9 h10 hrd hob hw
    go_enter Tryz.func82, Tryz.ntmps82
    go_wp2_with fail
    refine (up_any hR).mono ?_
    rw [if_pos hd]
    rintro e w1 ⟨rfl, rfl⟩
    go_wp2_with fail
    refine (fine_any 3 _).mono ?_
    rintro e w1 ⟨rfl, rfl⟩
    go_wp2
    go_ret
    exact ⟨rfl, hR0, Kp.refl _ _⟩
  by_cases hbad : p < 0 ∨ (d.kept.length : Int) ≤ p ∨ lb.length ≠ 64
  · have hw : d.write p lb = (d, 1) := by unfold DskD.write; rw [if_neg hd, if_pos hbad]
    rw [hw]
    clear h1 h2 h3 h9 h10 hrd hob hw
    go_enter Tryz.func82, Tryz.ntmps82
    go_wp2_with fail
    refine (up_any hR).mono ?_
    rw [if_neg hd]
    rintro e w1 ⟨rfl, rfl⟩
    go_wp2_with fail
    refine (fine_any 0 _).mono ?_
    rintro e w1 ⟨rfl, rfl⟩
    by_cases p0 : p < 0
    · have t1 : decide (p < 0) = true := decide_eq_true p0
      have t1' : decide (p ≤ -1) = true := decide_eq_true (by omega)
      go_wp2
      go_ret
      exact ⟨rfl, hR0, Kp.refl _ _⟩
    have t1 : decide (p < 0) = false := decide_eq_false p0
    by_cases p1 : (d.kept.length : Int) ≤ p
    · have t2 : decide ((d.kept.length : Int) ≤ p) = true := decide_eq_true p1
      go_wp2
      go_ret
      exact ⟨rfl, hR0, Kp.refl _ _⟩
    have t2 : decide ((d.kept.length : Int) ≤ p) = false := decide_eq_false p1
    have p2 : lb.length ≠ 64 := by omega
    have t3 : ((lb.length : Int) == 64) = false := by simpa using (show ¬ (lb.length : Int) = 64 by omega)
    have t3' : decide ((lb.length : Int) = 64) = false := decide_eq_false (by omega)
    go_wp2
    go_ret
    exact ⟨rfl, hR0, Kp.refl _ _⟩
  have hp0 : 0 ≤ p ∧ p < (d.kept.length : Int) ∧ lb.length = 64 := by omega
  obtain ⟨hp0, hp1, hl64⟩ := hp0
  obtain ⟨q, rfl⟩ : ∃ q : Nat, p = (q : Int) := ⟨p.toNat, by omega⟩
  obtain ⟨bb, boff, rfl, hcells⟩ := hrd.2 (by omega)
  have hbb : ¬ ft bb := hbf _ (hob (by omega) _ rfl)
  obtain ⟨d1, hd1⟩ : ∃ d1 : DskD, d1 = { d with wait := d.wait ++ [(q, lb)] } := ⟨_, rfl⟩
  have hw : d.write (q : Int) lb = (d1.hit.1, if d1.hit.2 = true then 3 else 0) := by
    unfold DskD.write
    rw [if_neg hd, if_neg hbad, hd1]
    rfl
  rw [hw]
  obtain ⟨hh, hhe⟩ : ∃ hh, hh = d1.hit.2 := ⟨_, rfl⟩
  simp only [← hhe]
  have HHE := Lib.hid hhe
  clear hhe
  have t1 : decide ((q : Int) < 0) = false := decide_eq_false (by omega)
  have t2 : decide ((d.kept.length : Int) ≤ (q : Int)) = false := decide_eq_false (by omega)
  have t2' : decide (d.kept.length ≤ q) = false := decide_eq_false (by omega)
  rw [hl64]
  have HD := Lib.hid hd
  have HD1 := Lib.hid hd1
  have HW := Lib.hid hw
  have HL := Lib.hid hl64
  have HQ : Hid (q < d.kept.length) := Lib.hid (by omega)
  clear hbad hp0 hp1 hp hd hd1 hw hl64 hc hlen hrd hob hb
  go_enter Tryz.func82, Tryz.ntmps82
  go_wp2_with fail
  refine (up_any hR).mono ?_
  rw [if_neg HD.out]
  rintro e w1 ⟨rfl, rfl⟩
  go_wp2_with fail
  refine (fine_any 0 _).mono ?_
  rintro e w1 ⟨rfl, rfl⟩
  go_upto_region 6 with fail
  have lw : ∀ s : Later w1, s.val.cell? ⟨g, 1, none⟩ = some vw := Later.cell c1
  have hbad1 : ¬ (bb = g ∨ some bb = vw.ownBlock) := fun e => e.elim (fun e => hbb (e ▸ h7)) fun e => hbb (h9 _ e.symm)
  obtain ⟨C, hC⟩ : ∃ C : Array Value, C = #[.int .i64 (q : Int)] ++ (bs lb).toArray := ⟨_, rfl⟩
  have hC0 : (bs lb).toArray.size = 64 := by rw [List.size_toArray, bs_len]; exact HL.out
  have hC1 : C.size = 65 := by rw [hC, Array.size_append, hC0]; rfl
  have hbw := build_write (q : Int) (bs lb).toArray hC0
  rw [← hC] at hbw
  have HBW := Lib.hid hbw
  clear hbw
  refine wp_seqB (fun b => b = g ∨ some b = vw.ownBlock) 11 [10, 11, 14] (by as_aux_lemma => kernel_rfl) (by as_aux_lemma => kernel_rfl) fun w4 hb4 => ?_
  refine seqB_pre 4 (by kernel_rfl) ?_
  simp only [List.take_succ_cons, List.take_zero, List.drop_succ_cons, List.drop_zero]
  repeat (go_big_quiet_step (fail))
  refine wpQuiet_nil ?_
  refine seqB_pre0 1 (by kernel_rfl) (by kernel_rfl) ?_
  simp only [List.take_succ_cons, List.take_zero, List.drop_succ_cons, List.drop_zero]
  repeat (go_big_quiet_step (fail))
  refine wpQuiet_nil ?_
  refine seqB_pre 2 (by kernel_rfl) ?_
  simp only [List.take_succ_cons, List.take_zero, List.drop_succ_cons, List.drop_zero]
  repeat (go_big_quiet_step (fail))
  refine wpQuiet_nil ?_
  refine seqB_still (.pointer (some ⟨bb, boff, none⟩)) rfl rfl (fun s => still_arr (n := 64) rfl rfl Tryz.underlying93 (Nat.le_refl _)) ?_
  simp only [Act.put, List.setIfInBounds_toArray, List.set_cons_succ, List.set_cons_zero]
  refine seqB_still (.agg (bs lb).toArray) rfl rfl (fun s => still_ld (g := bb) (k := boff) rfl rfl (fun j u hu => LaterB.cell (hcells j u (by simpa using hu)) hbad1 s) Tryz.underlying93 rfl (by rw [hC0]; exact Tryz.infoSec2)) ?_
  simp only [Act.put, List.setIfInBounds_toArray, List.set_cons_succ, List.set_cons_zero]
  refine seqB_still (.agg C) rfl rfl (fun s => still_build [(0, .int .i64 (q : Int)), (1, .agg (bs lb).toArray)] rfl rfl (HBW.out _)) ?_
  simp only [Act.put, List.setIfInBounds_toArray, List.set_cons_succ, List.set_cons_zero]
  refine seqB_wild0 hb4 rfl rfl fun K hK => ?_
  refine gives_bslice [(0, .agg C)] rfl rfl (slice_write C hC1 w4) ?_
  have hal : Below w4.heap.size w4 (w4.alloc (.cells C 95)) := (Below.refl _ _).alloc (Nat.le_refl _) _
  refine hK _ _ (hal) fun hb5 => ?_
  clear hK
  clear K
  simp only [Act.put, List.setIfInBounds_toArray, List.set_cons_succ, List.set_cons_zero]
  have hown : OwnL rWt (fun _ => False) 0 95 (w4.alloc (.cells C 95)) vw d.wait := h3.below hb5
  have kg5 := h1.below hb5 h1.lt
  have kk5 := h2.below hb5 h2.lt
  have hC2 : C.toList = .int .i64 (q : Int) :: bs lb := by rw [hC]; simp
  refine seqB_wild (Kp.of_below hb5) rfl rfl fun K hK => ?_
  refine gives_app0' (E := rWt) Tryz.rowWt (by decide) _ _ rfl vw d.wait _ rfl hown (some ⟨w4.heap.size, 0, none⟩) 1 [(q, lb)] [C.toList] rfl (show Rd _ 65 _ _ _ by simpa using Rd.new w4 95 65 1 C (by simpa using hC1)) (Chunks.single (E := rWt) (show rWt.rel _ _ C.toList (q, lb) from ⟨hC2, HL.out⟩)) ?_ ?_ (Nat.zero_le _) fun v' w6 hown6 hk6 hloc => ?_
  · show (d.wait.length + 1) * 72 ≤ _
    omega
  · show d.wait.length + 1 ≤ _
    omega
  have hkk : Kp (fun b => ¬ (b = g ∨ some b = vw.ownBlock)) (w4.alloc (.cells C 95)) w6 := hk6.mono fun b hb e => hb (.inr e)
  refine hK _ _ (hkk) fun hK6 => ?_
  clear hK
  clear K
  simp only [Act.put, List.setIfInBounds_toArray, List.set_cons_succ, List.set_cons_zero]
  refine seqB_pre 2 (by kernel_rfl) ?_
  simp only [List.take_succ_cons, List.take_zero, List.drop_succ_cons, List.drop_zero]
  repeat (go_big_quiet_step (fail))
  refine wpQuiet_nil ?_
  have kg6 := kg5.kp hk6 h5
  have kk6 := kk5.kp hk6 h6
  have fg6 := fun i => kg6.frozen i
  have c16 : w6.cell? ⟨g, 1, none⟩ = some vw := kg6.cell 1
  obtain ⟨A', c', rfl, _⟩ := hown6.form
  obtain ⟨nn, hnn⟩ : ∃ nn, nn = (d.wait ++ [(q, lb)]).length := ⟨_, rfl⟩
  rw [← hnn] at hown6 hloc ⊢
  have HNN := Lib.hid hnn
  clear hnn
  refine seqB_wild hK6 rfl rfl fun K hK => ?_
  unfold Gives
  go_simp
  have hkp : Kp (fun b => ¬ (b = g ∨ some b = vw.ownBlock)) w6 (w6.setCell ⟨g, 1, none⟩ (.slice A' nn c')) := (Kp.refl _ _).setCell (fun _ h => h (.inl rfl)) _
  refine hK _ _ hkp fun hK7 => ?_
  clear hK
  clear K
  simp only [Act.put, List.setIfInBounds_toArray, List.set_cons_succ, List.set_cons_zero]
  refine seqB_nil ?_
  have hgl : g < w1.heap.size := h1.lt
  have hz5 : w1.heap.size ≤ w4.heap.size := hb4.size
  have hng : (Value.slice A' nn c').ownBlock ≠ some g := by
    rcases hloc with e | e
    · rw [e]; exact fun e => h5 e.symm
    · rw [e]; intro e; have := Option.some.inj e; simp at this; omega
  have hnk : (Value.slice A' nn c').ownBlock ≠ some kb := by
    have := h2.lt
    rcases hloc with e | e
    · rw [e]; exact fun e => h6 e.symm
    · rw [e]; intro e; have := Option.some.inj e; simp at this; omega
  have kg7 := kg6.set_ 1 (.slice A' nn c')
  have kk7 := kk6.far (p := ⟨g, 1, none⟩) h4 (.slice A' nn c')
  have ho7 : OwnL rWt (fun _ => False) 0 95 (w6.setCell ⟨g, 1, none⟩ (.slice A' nn c')) (.slice A' nn c') (d.wait ++ [(q, lb)]) := hown6.kp (ok := fun b => b ≠ g) ((Kp.refl _ _).setCell (fun _ h => h rfl) _) (fun _ h => h.elim) fun b hb e => hng (by rw [hb, e])
  have hR7 : DiskR (fun b => ft b ∨ w1.heap.size ≤ b) (w6.setCell ⟨g, 1, none⟩ (.slice A' nn c')) g d1 := by
    rw [HD1.out]
    refine ⟨kb, .slice A' nn c', by simpa using kg7, kk7, ho7, h4, fun e => hng e.symm, fun e => hnk e.symm, .inl h7, .inl h8, fun b hb => ?_, ⟨h10.kept, fun x hx => ?_⟩, h11, h12, h13, ?_⟩
    · rcases hloc with e | e
      · exact .inl (h9 b (by rw [← e]; exact hb))
      · rw [e] at hb
        have := Option.some.inj hb
        simp at this
        exact .inr (by omega)
    · rcases List.mem_append.1 hx with hx | hx
      · exact h10.wait x hx
      · rw [List.mem_singleton.1 hx]
        exact ⟨HQ.out, HL.out⟩
    · show (d.wait ++ [(q, lb)]).length ≤ _
      rw [List.length_append]
      exact hwl
  have hKf : Kp (fun b => ¬ ft b) w1 (w6.setCell ⟨g, 1, none⟩ (.slice A' nn c')) := hK7.mono fun b hb e => e.elim (fun e => hb (e ▸ h7)) fun e => hb (h9 b e.symm)
  have HK := Lib.hid hKf
  have HR7 := Lib.hid hR7
  clear hKf hR7 ho7 kk7 kg7 hng hnk c16 fg6 kg6 kk6 hown6 hk6 hloc hK6 hK7 hkp hkk hown kg5 kk5 hal hb5 c0 c1 c2 c3 lw h1 h2 h3
  go_upto_region 7 with fail
  refine name_world (fun w7 => DiskR (fun b => ft b ∨ w1.heap.size ≤ b) w7 g d1 ∧ Kp (fun b => ¬ ft b) w1 w7) ⟨HR7.out, HK.out⟩ ?_
  clear HR7 HK
  rintro w7 ⟨hR7, hK7⟩
  have HH := Lib.hid (hit_any hR7)
  rw [← HHE.out] at HH
  clear HHE
  go_wp2_with fail
  refine HH.out.mono ?_
  rintro e w8 ⟨rfl, hR8, hK8⟩
  have hK9 : Kp (fun b => ¬ ft b) w1 w8 := hK7.trans (hK8.mono fun b hb e => hb (e ▸ h7))
  clear HH
  cases hh
  · go_wp2
    go_ret
    exact ⟨rfl, hR8, hK9⟩
  · go_wp2
    go_ret
    exact ⟨rfl, hR8, hK9⟩
end Go.Proofs.YtnlhjhpikjmoaaaGreatDoor
namespace Go.Proofs.YtnlhjhpikjmoaaaGreatDoor
open Go.RowKit
section
variable {P : Program} {ops : Array Oper} {Q : Exit → Act → World → Prop}
def thenL (P : Program) (ops : Array Oper) (Q : Exit → Act → World → Prop) (r : List Oper) : Exit → Act → World → Prop
  | .normal, a, w => wpList P ops Q r a w
  | x, a, w => Q x a w
theorem upon_thenL {o : Oper} {a : Act} {r : List Oper} {K K' : Act → World → Prop} (h : ∀ a w, K' a w → K a w) : ∀ {y : Result Next}, o.upon P a K' (thenL P ops Q r) y → o.upon P a K Q y := by
  intro y hy
  unfold Oper.upon at hy ⊢
  split at hy
  · exact h _ _ hy
  · exact h _ _ hy
  · exact h _ _ hy
  · refine Calls.mono hy fun e w' he => ?_
    cases e with
    | returned v => exact h _ _ he
    | panicked chain => exact he
    | outgrown => exact he
  · refine Rows.mono hy fun v w' he => h _ _ he
  · exact hy
  · exact hy.elim
theorem wpList_app : ∀ (l r : List Oper) {a : Act} {w : World}, wpList P ops (thenL P ops Q r) l a w → wpList P ops Q (l ++ r) a w
  | [], _, _, _, h => h
  | o :: l, r, a, w, h => by
    rw [List.cons_append]
    unfold wpList at h ⊢
    split at h
    · rename_i hw
      rw [if_pos hw]
      rcases h with h | ⟨h1, h2⟩
      · exact .inl (upon_thenL (fun a' w' => wpList_app l r) h)
      · exact .inr ⟨h1, h2⟩
    · rename_i hw
      rw [if_neg hw]
      exact wpList_app l r h
theorem wpList_split (n : Nat) {l : List Oper} {a : Act} {w : World} (h : wpList P ops (thenL P ops Q (l.drop n)) (l.take n) a w) : wpList P ops Q l a w := by
  have := wpList_app (l.take n) (l.drop n) h
  rwa [List.take_append_drop] at this
theorem wp_region_split (n : Nat) {id : Nat} {l : List Oper} {a : Act} {w : World} (h : wpList P l.toArray (thenL P l.toArray Q (l.drop n)) (l.take n) a w) : (Code.region id l.toArray false).wp P Q a w := wp_region_lit (wpList_split n h)
end
theorem foldl_set_at (vs : List Value) (o : Nat) : ∀ (n : Nat) (C : Array Value), n ≤ vs.length → o + vs.length ≤ C.size → ((List.range n).foldl (fun a i => a.setIfInBounds (o + i) (vs.getD i undef)) C).toList = C.toList.take o ++ vs.take n ++ C.toList.drop (o + n)
  | 0, C, _, hs => by simp
  | n + 1, C, hn, hs => by
    have h1 := foldl_set_at vs o n C (by omega) hs
    rw [List.range_succ, List.foldl_append, List.foldl_cons, List.foldl_nil, Array.toList_setIfInBounds, h1]
    have hl : (C.toList.take o ++ vs.take n).length = o + n := by simp; omega
    have hlt : o + n < C.toList.length := by simp; omega
    have hd : C.toList.drop (o + n) = C.toList[o + n] :: C.toList.drop (o + n + 1) := List.drop_eq_getElem_cons hlt
    rw [hd, List.set_append_right _ _ (by omega), hl, Nat.sub_self, List.set_cons_zero, List.take_succ_eq_append_getElem (by omega)]
    have e : vs.getD n undef = vs[n] := by simp [List.getD, List.getElem?_eq_getElem (show n < vs.length by omega)]
    rw [e]
    simp only [List.append_assoc, List.cons_append, List.nil_append, Nat.add_assoc]
section
variable {w : World} {g : Nat} {T : TypeId}
theorem Blk.there_at {C : Array Value} (h : Blk w g T C) (o n : Nat) (hn : o + n ≤ C.size) : w.there g o n := fun j hj => by
  exact ⟨by rw [h.cell (o + j), Array.getElem?_eq_getElem (by omega)]; rfl, h.frozen (o + j)⟩
theorem Blk.setCells_mid {A C B : Array Value} (h : Blk w g T (A ++ C ++ B)) (cs : Array Value) (hs : cs.size = C.size) : Blk (w.setCells g A.size cs.toList) g T (A ++ cs ++ B) := by
  have h1 := h.setCells_at cs.toList A.size
  have h2 := foldl_set_at cs.toList A.size cs.toList.length (A ++ C ++ B) (Nat.le_refl _) (by simp; omega)
  have h3 : (List.range cs.toList.length).foldl (fun a i => a.setIfInBounds (A.size + i) (cs.toList.getD i undef)) (A ++ C ++ B) = A ++ cs ++ B := by
    refine Array.ext' ?_
    rw [h2, List.take_length]
    simp only [Array.toList_append, Array.length_toList]
    have e1 : (A.toList ++ C.toList ++ B.toList).take A.size = A.toList := by rw [List.append_assoc]; exact List.take_left' (by simp)
    have e2 : (A.toList ++ C.toList ++ B.toList).drop (A.size + cs.size) = B.toList := List.drop_left' (by simp [hs])
    rw [e1, e2]
  rwa [h3] at h1
end
end Go.Proofs.YtnlhjhpikjmoaaaGreatDoor
namespace Go.Proofs.YtnlhjhpikjmoaaaGreatDoor
open Go.RowKit
theorem wpList_ld {P : Program} {ops : Array Oper} {rest : List Oper} {o : Oper} {a : Act} {w : World} {Q : Exit → Act → World → Prop} {g k : Nat} {cs : Array Value} (hgd : o.guard = none) {ty : TypeId} {x : Operand} (ho : o.op = .load ty x) (hx : a.eval x = .pointer (some ⟨g, k, none⟩)) (hk : w.rangeAt g k cs.toList) {d : TypeDesc} (hu : P.underlying ty = some d) (hd : d.isRow = true) (hi : (P.info? ty).map (·.size) = some cs.size)
    (h : wpList P ops Q rest (a.put o.dst (.agg cs)) w) : wpList P ops Q (o :: rest) a w := by
  have := wpList_load_mid (P := P) (ops := ops) (rest := rest) (op := o) (a := a) (w := w) (Q := Q) hgd ty x ho g k hx cs.toList d hk hu hd (by simpa using hi)
  exact this (by simpa using h)
theorem wpList_st {P : Program} {ops : Array Oper} {rest : List Oper} {o : Oper} {a : Act} {Q : Exit → Act → World → Prop} {w : World} {g : Nat} {T : TypeId} {C : Array Value} (hgd : o.guard = none) {ty : TypeId} {x y : Operand} (ho : o.op = .store ty x y) (cs : Array Value) (hx : a.eval x = .pointer (some ⟨g, 0, none⟩)) (hy : a.eval y = .agg cs) (hk : Blk w g T C) (hs : C.size = cs.size) (hi : (P.info? ty).map (·.size) = some cs.size) (h1 : cs.all (·.oneCell') = true)
    (h : Blk (w.setCells g 0 cs.toList) g T cs → wpList P ops Q rest a (w.setCells g 0 cs.toList)) (hdst : o.dst = none) : wpList P ops Q (o :: rest) a w :=
  wpList_storeB hgd ho cs hx hy hk hs hi h1 (by rw [hdst]; exact h)
theorem Blk.rangeW {w : World} {g : Nat} {T : TypeId} {C : Array Value} (h : Blk w g T C) (k : Nat) (l : List Value) (hl : ∀ j v, l[j]? = some v → C[k + j]? = some v) : w.rangeAt g k l := fun j v hv => (h.cell (k + j)).trans (hl j v hv)
theorem bs_all (l : List UInt8) : (bs l).toArray.all (·.oneCell') = true := by
  rw [Array.all_eq_true_iff_forall_mem]
  intro u hu
  exact bs_one _ u (by simpa using hu)
theorem wt_all (n : Int) (l : List UInt8) : (#[Value.int .i64 n] ++ (bs l).toArray).all (·.oneCell') = true := by
  rw [Array.all_append, bs_all, Bool.and_true]
  simp [Value.oneCell']
theorem Tryz.infoWt2 : (Tryz.prog.info? 95).map (·.size) = some 65 := by kernel_rfl
theorem wt_range (n : Int) (l : List UInt8) : ∀ j v, (bs l)[j]? = some v → (#[Value.int .i64 n] ++ (bs l).toArray)[1 + j]? = some v := by
  intro j v hv
  rw [← Array.getElem?_toList, Array.toList_append, Nat.add_comm]
  exact hv
set_option maxRecDepth 100000 in
set_option maxHeartbeats 6400000 in
theorem dRead_any {ft : Nat → Prop} {g : Nat} {d : DskD} {w : World} (h : DiskR ft w g d) (p : Int) (hp : I64 p) :
    Calls Tryz.prog 48 #[.pointer (some ⟨g, 0, none⟩), .int .i64 p] w fun e w' => (∃ v, e = .returned (.tuple #[v, .int .i64 (d.read p).2]) ∧ RB (fun b => w.heap.size ≤ b) w' v (d.read p).1) ∧ Below w.heap.size w w' := by
  have hR := h
  obtain ⟨kb, vw, h1, h2, h3, h4, h5, h6, h7, h8, h9, h10, h11, h12, h13, h14⟩ := h
  obtain ⟨c0, c1, c2, c3⟩ := dk_cells h1
  by_cases hd : d.down = true
  · have hw : d.read p = ([], 3) := by unfold DskD.read; rw [if_pos hd]
    rw [hw]
    clear h1 h2 h3 h9 h10 hw
    go_enter Tryz.func48, Tryz.ntmps48
    go_wp2_with fail
    refine (up_any hR).mono ?_
    rw [if_pos hd]
    rintro e w1 ⟨rfl, rfl⟩
    go_wp2_with fail
    refine (fine_any 3 _).mono ?_
    rintro e w1 ⟨rfl, rfl⟩
    go_wp2
    go_ret2
    exact ⟨⟨_, rfl, RSl.nil_ _ _ _⟩, Below.refl _ _⟩
  by_cases hbad : p < 0 ∨ (d.kept.length : Int) ≤ p
  · have hw : d.read p = ([], 1) := by unfold DskD.read; rw [if_neg hd, if_pos hbad]
    rw [hw]
    clear h1 h2 h3 h9 h10 hw
    go_enter Tryz.func48, Tryz.ntmps48
    go_wp2_with fail
    refine (up_any hR).mono ?_
    rw [if_neg hd]
    rintro e w1 ⟨rfl, rfl⟩
    go_wp2_with fail
    refine (fine_any 0 _).mono ?_
    rintro e w1 ⟨rfl, rfl⟩
    by_cases p0 : p < 0
    · have t1 : decide (p < 0) = true := decide_eq_true p0
      have t1' : decide (p ≤ -1) = true := decide_eq_true (by omega)
      go_wp2
      go_ret2
      exact ⟨⟨_, rfl, RSl.nil_ _ _ _⟩, Below.refl _ _⟩
    have t1 : decide (p < 0) = false := decide_eq_false p0
    have t2 : decide ((d.kept.length : Int) ≤ p) = true := decide_eq_true (by omega)
    go_wp2
    go_ret2
    exact ⟨⟨_, rfl, RSl.nil_ _ _ _⟩, Below.refl _ _⟩
  have hp0 : 0 ≤ p ∧ p < (d.kept.length : Int) := by omega
  obtain ⟨hp0, hp1⟩ := hp0
  obtain ⟨q, rfl⟩ : ∃ q : Nat, p = (q : Int) := ⟨p.toNat, by omega⟩
  have hq : q < d.kept.length := by omega
  have hw : d.read (q : Int) = (d.shown q, 0) := by unfold DskD.read; rw [if_neg hd, if_neg hbad]; rfl
  rw [hw]
  have t1 : decide ((q : Int) < 0) = false := decide_eq_false (by omega)
  have t2 : decide ((d.kept.length : Int) ≤ (q : Int)) = false := decide_eq_false (by omega)
  have t2' : decide (d.kept.length ≤ q) = false := decide_eq_false (by omega)
  have t4 : decide ((q : Int) < (d.kept.length : Int)) = true := decide_eq_true (by omega)
  have t4' : decide (q < d.kept.length) = true := decide_eq_true hq
  have hrg := sec_range h2 h10.kept hq
  have hs0 : d.kept[q].length = 64 := h10.kept _ (List.getElem_mem _)
  obtain ⟨s0, hs⟩ : ∃ s0, s0 = d.kept[q] := ⟨_, rfl⟩
  rw [← hs] at hrg hs0
  have hsh : d.shown q = showW q s0 d.wait := by unfold DskD.shown; rw [List.getD_eq_getElem?_getD, List.getElem?_eq_getElem hq, hs]; rfl
  rw [hsh]
  have HW64 : Hid (∀ p ∈ d.wait, p.2.length = 64) := Lib.hid fun p hp => (h10.wait p hp).2
  have hwl := h3.rsl (ok := fun _ => True) (by decide) (show d.wait.length * 72 ≤ _ by omega) (fun _ _ => trivial) (fun _ h => h.elim)
  obtain ⟨A5, c5, rfl, _, _⟩ := hwl.form
  have HD := Lib.hid hd
  have HS0 := Lib.hid hs0
  have hsz : (bs s0).toArray.size = 64 := by rw [List.size_toArray, bs_len, hs0]
  clear hbad hp0 hp1 hp hd hw hsh hs hs0 h3 h2
  go_enter Tryz.func48, Tryz.ntmps48
  go_wp2_with fail
  refine (up_any hR).mono ?_
  rw [if_neg HD.out]
  rintro e w1 ⟨rfl, rfl⟩
  go_wp2_with fail
  refine (fine_any 0 _).mono ?_
  rintro e w1 ⟨rfl, rfl⟩
  go_upto_region 6 with fail
  refine wp_region_split 6 ?_
  simp only [List.take_succ_cons, List.take_zero, List.drop_succ_cons, List.drop_zero]
  go_wp2
  show wpList _ _ _ _ _ _
  refine wpList_ld (g := kb) (k := q * 64) (cs := (bs s0).toArray) rfl rfl rfl (by simpa using hrg) Tryz.underlying93 rfl (by rw [List.size_toArray, bs_len, HS0.out]; exact Tryz.infoSec2) ?_
  simp only [Act.put, List.setIfInBounds_toArray, List.set_cons_succ, List.set_cons_zero]
  refine wpList_split 1 ?_
  simp only [List.take_succ_cons, List.take_zero, List.drop_succ_cons, List.drop_zero]
  go_wp2
  show wpList _ _ _ _ _ _
  refine wpList_st (C := Array.replicate 64 (.int .u8 0)) rfl rfl (bs s0).toArray rfl rfl (Blk.new_ rfl) (by rw [hsz]; simp) (by rw [hsz]; exact Tryz.infoSec2) (bs_all _) ?_ rfl
  intro k1
  have hBs := below_setCells (B := w1.heap.size) (a := w1) (b := w1.heap.size) (Nat.le_refl _) (bs s0).toArray.toList 0 ((Below.refl _ _).alloc (Nat.le_refl _) (.cells (Array.replicate 64 (.int .u8 0)) 93))
  go_upto_region 7 with fail
  refine name_world (fun w2 => Below w1.heap.size w1 w2 ∧ Blk w2 w1.heap.size 93 (bs s0).toArray) ⟨hBs, k1⟩ ?_
  clear hBs k1
  rintro w2 ⟨hB2, k1⟩
  have c1b := (hB2.cell (p := ⟨g, 1, none⟩) h1.lt).trans c1
  clear c0 c1 c2 c3 t1 t2 t2' t4 t4' hrg
  go_wp2
  clear c1b
  go_loopw [40] (fun j wr => ∃ i : Nat, i ≤ d.wait.length ∧ j = .int .i64 (i : Int) ∧ Below w1.heap.size w1 wr ∧ Blk wr w1.heap.size 93 (bs (showW q s0 (d.wait.take i))).toArray) (fun j _ => d.wait.length - (intOf j).toNat)
  case atStart => exact ⟨0, by omega, rfl, hB2, by simpa [showW] using k1⟩
  case round =>
    obtain ⟨i, hi, rfl, hb, ks⟩ := hrel
    have h64 : (showW q s0 (d.wait.take i)).length = 64 := showW_64 q _ _ HS0.out fun p hp => HW64.out p (List.mem_of_mem_take hp)
    by_cases hlt : i < d.wait.length
    · have u0 : decide ((i : Int) < (d.wait.length : Int)) = true := decide_eq_true (by omega)
      obtain ⟨b9, off9, c9, cs9, hv9, _, ⟨rfl, hp64⟩, hcell9⟩ := (hwl.below hb).at_ hlt
      simp only [Value.slice.injEq, true_and] at hv9
      obtain ⟨rfl, rfl⟩ := hv9
      have hstep : showW q s0 (d.wait.take (i + 1)) = if d.wait[i].1 = q then d.wait[i].2 else showW q s0 (d.wait.take i) := by
        unfold showW
        rw [List.take_succ_eq_append_getElem hlt, List.foldl_append]
        rfl
      obtain ⟨pw, hpw⟩ : ∃ pw, pw = d.wait[i] := ⟨_, rfl⟩
      rw [← hpw] at hcell9 hp64 hstep
      have HST := Lib.hid hstep
      clear hpw hstep
      obtain ⟨S, hS⟩ : ∃ S, S = showW q s0 (d.wait.take i) := ⟨_, rfl⟩
      rw [← hS] at ks h64 HST
      clear hS
      have hpsz : (bs pw.2).toArray.size = 64 := by rw [List.size_toArray, bs_len, hp64]
      have hwsz : (#[Value.int .i64 (pw.1 : Int)] ++ (bs pw.2).toArray).size = 65 := by rw [Array.size_append, hpsz]; rfl
      have HP64 := Lib.hid hp64
      have HH64 := Lib.hid h64
      clear hp64 h64
      go_upto_region 9 with fail
      refine wp_region_split 1 ?_
      simp only [List.take_succ_cons, List.take_zero, List.drop_succ_cons, List.drop_zero]
      go_wp2
      show wpList _ _ _ _ _ _
      refine wpList_ld (g := b9) (k := off9 + i * 65) (cs := #[Value.int .i64 (pw.1 : Int)] ++ (bs pw.2).toArray) rfl rfl rfl (fun j u hu => hcell9 j u (by simpa using hu)) Tryz.underlying95 rfl (by rw [hwsz]; exact Tryz.infoWt2) ?_
      simp only [Act.put, List.setIfInBounds_toArray, List.set_cons_succ, List.set_cons_zero]
      refine wpList_split 1 ?_
      simp only [List.take_succ_cons, List.take_zero, List.drop_succ_cons, List.drop_zero]
      go_wp2
      show wpList _ _ _ _ _ _
      refine wpList_st rfl rfl (#[Value.int .i64 (pw.1 : Int)] ++ (bs pw.2).toArray) rfl rfl (Blk.new_ rfl) (by rw [hwsz]; simp) (by rw [hwsz]; exact Tryz.infoWt2) (wt_all _ _) ?_ rfl
      intro kw
      have hBw := fun zs => below_setCells (B := wr.heap.size) (a := wr) (b := wr.heap.size) (Nat.le_refl _) (#[Value.int .i64 (pw.1 : Int)] ++ (bs pw.2).toArray).toList 0 ((Below.refl _ _).alloc (Nat.le_refl _) (.cells zs 95))
      go_upto_region 10 with fail
      refine name_world (fun w3 => Below wr.heap.size wr w3 ∧ Blk w3 wr.heap.size 95 (#[Value.int .i64 (pw.1 : Int)] ++ (bs pw.2).toArray)) ⟨hBw _, kw⟩ ?_
      clear hBw kw
      rintro w3 ⟨hB3, kw⟩
      have ks3 := ks.below hB3 ks.lt
      have q0 : w3.cell? ⟨wr.heap.size, 0, none⟩ = some (.int .i64 (pw.1 : Int)) := (kw.cell 0).trans (by rw [← Array.getElem?_toList, Array.toList_append]; rfl)
      have hne : w1.heap.size ≠ wr.heap.size := by have := ks.lt; omega
      have hbs := hb.trans (hB3.mono hb.size)
      obtain ⟨wb, hwb⟩ : ∃ wb, wb = wr.heap.size := ⟨_, rfl⟩
      rw [← hwb] at kw q0 hne
      rw [← hwb]
      clear hwb hcell9 hb ks
      by_cases he : pw.1 = q
      · have u1 : ((pw.1 : Int) == (q : Int)) = true := by simp [he]
        have u1' : (pw.1 == q) = true := by simp [he]
        have HE := Lib.hid he
        clear he
        go_upto_region 11 with fail
        refine wp_region_split 1 ?_
        simp only [List.take_succ_cons, List.take_zero, List.drop_succ_cons, List.drop_zero]
        go_wp2
        show wpList _ _ _ _ _ _
        refine wpList_ld (g := wb) (k := 1) (cs := (bs pw.2).toArray) rfl rfl rfl (kw.rangeW 1 _ (by simpa using wt_range (pw.1 : Int) pw.2)) Tryz.underlying93 rfl (by rw [hpsz]; exact Tryz.infoSec2) ?_
        simp only [Act.put, List.setIfInBounds_toArray, List.set_cons_succ, List.set_cons_zero]
        refine wpList_st rfl rfl (bs pw.2).toArray rfl rfl ks3 (by rw [hpsz, List.size_toArray, bs_len, HH64.out]) (by rw [hpsz]; exact Tryz.infoSec2) (bs_all _) ?_ rfl
        intro ks4
        have hB4 := below_setCells (B := w1.heap.size) (a := w1) (b := w1.heap.size) (Nat.le_refl _) (bs pw.2).toArray.toList 0 hbs
        generalize hwr : World.setCells w3 w1.heap.size 0 (bs pw.2).toArray.toList = w4 at ks4 hB4 ⊢
        clear hwr q0
        go_wp2
        go_roundw
        case rel => exact ⟨i + 1, by omega, by go_num, hB4, by rw [HST.out, if_pos HE.out]; exact ks4⟩
        case measure => simp [intOf]; omega
      · have u1 : ((pw.1 : Int) == (q : Int)) = false := by simpa using (show ¬ (pw.1 : Int) = (q : Int) by omega)
        have u1' : (pw.1 == q) = false := by simpa using he
        have HE := Lib.hid he
        clear he
        go_wp2
        go_roundw
        case rel => exact ⟨i + 1, by omega, by go_num, hbs, by rw [HST.out, if_neg HE.out]; exact ks3⟩
        case measure => simp [intOf]; omega
    · have u0 : decide ((i : Int) < (d.wait.length : Int)) = false := decide_eq_false (by omega)
      have hti : d.wait.take i = d.wait := List.take_of_length_le (by omega)
      rw [hti] at ks h64
      have HH64 := Lib.hid h64
      clear h64 hti
      go_wp2
      go_ret2
      refine ⟨⟨_, rfl, ?_⟩, hb⟩
      refine RB.mk_ (A := some ⟨w1.heap.size, 0, none⟩) (n := 64) (c := 64) ⟨by rw [bs_len, HH64.out], fun _ => ⟨_, 0, rfl, fun j u hu => ?_⟩⟩ (Nat.le_refl _) (by omega) fun _ a ha => ?_
      · rw [Nat.zero_add]
        exact (ks.cell j).trans (by simpa using hu)
      · cases ha
        exact Nat.le_refl _
end Go.Proofs.YtnlhjhpikjmoaaaGreatDoor
namespace Go.Proofs.YtnlhjhpikjmoaaaGreatDoor
open Go.RowKit
theorem gives_st {P : Program} {o : Oper} {a : Act} {w : World} {g k : Nat} {T : TypeId} {C : Array Value} {Φ : Value → World → Prop} {ty : TypeId} {x y : Operand} (ho : o.op = .store ty x y) (cs : Array Value) (hx : a.eval x = .pointer (some ⟨g, k, none⟩)) (hy : a.eval y = .agg cs) (hk : Blk w g T C) (hs : k + cs.size ≤ C.size) (hi : (P.info? ty).map (·.size) = some cs.size) (h1 : cs.all (·.oneCell') = true)
    (h : Φ undef (w.setCells g k cs.toList)) : Gives P o a w Φ := by
  unfold Gives execOp
  simp only [ho, hx, hy, Sem.run_bind, Sem.run_pure, run_storeAt_mid w g k ty cs (hk.there_at k cs.size hs) hi h1, Result.andThen_ok, giv]
  exact h
theorem sec_store {w : World} {kb : Nat} {T : TypeId} {k : List (List UInt8)} (h : Blk w kb T (secCells k).toArray) (hk : ∀ s ∈ k, s.length = 64) {i : Nat} (hi : i < k.length) {s : List UInt8} (hs : s.length = 64) : Blk (w.setCells kb (i * 64) (bs s).toArray.toList) kb T (secCells (k.set i s)).toArray := by
  have e0 : secCells k = secCells (k.take i) ++ bs k[i] ++ secCells (k.drop (i + 1)) := by
    have := secCells_split k i hi k[i]
    rwa [List.set_getElem_self] at this
  have hl : (secCells (k.take i)).toArray.size = i * 64 := by
    rw [List.size_toArray, secCells_len _ fun s hs => hk s (List.mem_of_mem_take hs), List.length_take, Nat.min_eq_left (by omega)]
  have h2 : Blk w kb T ((secCells (k.take i)).toArray ++ (bs k[i]).toArray ++ (secCells (k.drop (i + 1))).toArray) := by
    have e : (secCells k).toArray = (secCells (k.take i)).toArray ++ (bs k[i]).toArray ++ (secCells (k.drop (i + 1))).toArray := by
      apply Array.ext'
      simp [e0]
    rwa [e] at h
  have h3 := h2.setCells_mid (bs s).toArray (by rw [List.size_toArray, List.size_toArray, bs_len, bs_len, hs, hk _ (List.getElem_mem _)])
  rw [hl] at h3
  have e : (secCells (k.set i s)).toArray = (secCells (k.take i)).toArray ++ (bs s).toArray ++ (secCells (k.drop (i + 1))).toArray := by
    apply Array.ext'
    rw [secCells_split k i hi s]
    simp
  rw [e]
  exact h3
theorem keepW_take (k : List (List UInt8)) (l : List (Nat × List UInt8)) {i : Nat} (hi : i < l.length) : keepW k (l.take (i + 1)) = (keepW k (l.take i)).set l[i].1 l[i].2 := by
  unfold keepW
  rw [List.take_succ_eq_append_getElem hi, List.foldl_append]
  rfl
theorem OwnL.rslP {α : Type} {E : Rel α} {okd ok : Nat → Prop} {base : Nat} {T : TypeId} {w : World} {v : Value} {l : List α} (h : OwnL E okd base T w v l) (hb : l.length * E.wt ≤ 140737488351232) (hrow : ∀ b, base ≤ b → some b = v.ownBlock → ok b) (hd : ∀ b, okd b → ok b) : RSl E ok w v l := by
  have hlt := h.lt
  obtain ⟨css, ho, hch⟩ := h
  obtain ⟨A, c, rfl, hc, _⟩ := own_slice w ho
  refine ⟨A, l.length, c, css, rfl, hc, rfl, hb, Rd.of_own ho, hch.mono fun b hb _ => hd b hb.1, fun _ a ha => ?_⟩
  subst ha
  exact hrow _ (hlt _ rfl).1 rfl
set_option maxRecDepth 100000 in
set_option maxHeartbeats 6400000 in
theorem dFlush_any {ft : Nat → Prop} {g : Nat} {d : DskD} {w : World} (h : DiskR ft w g d) :
    Calls Tryz.prog 80 #[.pointer (some ⟨g, 0, none⟩)] w fun e w' => e = .returned (.int .i64 d.flush.2) ∧ DiskR ft w' g d.flush.1 ∧ Kp (fun b => ¬ ft b) w w' := by
  have hR := h
  have hft := h.ft
  by_cases hd : d.down = true
  · have hw : d.flush = (d, 3) := by unfold DskD.flush; rw [if_pos hd]
    rw [hw]
    go_enter Tryz.func80, Tryz.ntmps80
    go_wp2_with fail
    refine (up_any hR).mono ?_
    rw [if_pos hd]
    rintro e w1 ⟨rfl, rfl⟩
    go_wp2_with fail
    refine (fine_any 3 _).mono ?_
    rintro e w1 ⟨rfl, rfl⟩
    go_wp2
    go_ret
    exact ⟨rfl, hR, Kp.refl _ _⟩
  have HD := Lib.hid hd
  obtain ⟨d1, hd1⟩ : ∃ d1, d1 = d.hit.1 := ⟨_, rfl⟩
  have hkw : d1.kept = d.kept ∧ d1.wait = d.wait := by
    rw [hd1]
    unfold DskD.hit
    split <;> exact ⟨rfl, rfl⟩
  have HH := Lib.hid (hit_any (w := w) hR)
  rw [← hd1] at HH
  by_cases hh : d.hit.2 = true
  · have hw : d.flush = (d1, 3) := by unfold DskD.flush; rw [if_neg hd, if_pos hh, hd1]
    rw [hw]
    rw [hh] at HH
    clear hd hd1 hw hh hkw
    go_enter Tryz.func80, Tryz.ntmps80
    go_wp2_with fail
    refine (up_any hR).mono ?_
    rw [if_neg HD.out]
    rintro e w1 ⟨rfl, rfl⟩
    go_wp2_with fail
    refine (fine_any 0 _).mono ?_
    rintro e w1 ⟨rfl, rfl⟩
    go_wp2_with fail
    refine HH.out.mono ?_
    rintro e w2 ⟨rfl, hR2, hK2⟩
    go_wp2
    go_ret
    exact ⟨rfl, hR2, hK2.mono fun b hb e => hb (e ▸ hft)⟩
  have hhf : d.hit.2 = false := by simpa using hh
  have hw : d.flush = ({ d1 with kept := keepW d1.kept d1.wait, wait := [] }, 0) := by
    unfold DskD.flush
    rw [if_neg hd, if_neg hh, hkw.1, hkw.2, hd1]
  rw [hw]
  rw [hhf] at HH
  clear hd hd1 hw hh hkw hhf
  go_enter Tryz.func80, Tryz.ntmps80
  go_wp2_with fail
  refine (up_any hR).mono ?_
  rw [if_neg HD.out]
  rintro e w1 ⟨rfl, rfl⟩
  go_wp2_with fail
  refine (fine_any 0 _).mono ?_
  rintro e w1 ⟨rfl, rfl⟩
  go_wp2_with fail
  refine HH.out.mono ?_
  rintro e w2 ⟨rfl, hR2, hK2⟩
  have hK2' : Kp (fun b => ¬ ft b) w1 w2 := hK2.mono fun b hb e => hb (e ▸ hft)
  obtain ⟨kb, vw, h1, h2, h3, h4, h5, h6, h7, h8, h9, h10, h11, h12, h13, h14⟩ := hR2
  obtain ⟨c0, c1, c2, c3⟩ := dk_cells h1
  have hwl : RSl rWt (fun b => some b = vw.ownBlock) w2 vw d1.wait := h3.rslP (show d1.wait.length * 72 ≤ _ by omega) (fun b _ e => e) (fun _ h => h.elim)
  obtain ⟨A5, c5, rfl, _, _⟩ := hwl.form
  have H10k := Lib.hid h10.kept
  have H10w := Lib.hid h10.wait
  clear HH HD hR h3
  go_upto_region 6 with fail
  go_wp2
  go_loopw [20] (fun j wr => ∃ i : Nat, i ≤ d1.wait.length ∧ j = .int .i64 (i : Int) ∧ Kp (fun b => b ≠ kb) w2 wr ∧ Blk wr kb 93 (secCells (keepW d1.kept (d1.wait.take i))).toArray) (fun j _ => d1.wait.length - (intOf j).toNat)
  case atStart => exact ⟨0, by omega, rfl, Kp.refl _ _, by simpa [keepW] using h2⟩
  case round =>
    obtain ⟨i, hi, rfl, hk, ks⟩ := hrel
    have kg := h1.kp hk (Ne.symm h4)
    obtain ⟨r0, r1, r2, r3⟩ := dk_cells kg
    by_cases hlt : i < d1.wait.length
    · have u0 : decide ((i : Int) < (d1.wait.length : Int)) = true := decide_eq_true (by omega)
      have hKlen : (keepW d1.kept (d1.wait.take i)).length = d1.kept.length := keepW_len _ _
      have hK64 : ∀ s ∈ keepW d1.kept (d1.wait.take i), s.length = 64 := keepW_64 _ _ H10k.out fun p hp => (H10w.out p (List.mem_of_mem_take hp)).2
      have hwt := H10w.out _ (List.getElem_mem hlt)
      have hstep := keepW_take d1.kept d1.wait hlt
      obtain ⟨b9, off9, c9, cs9, hv9, hb9, ⟨rfl, hp64⟩, hcell9⟩ := hwl.at_ hlt
      simp only [Value.slice.injEq, true_and] at hv9
      obtain ⟨rfl, rfl⟩ := hv9
      obtain ⟨pw, hpw⟩ : ∃ pw, pw = d1.wait[i] := ⟨_, rfl⟩
      rw [← hpw] at hcell9 hp64 hstep hwt
      obtain ⟨K, hKd⟩ : ∃ K, K = keepW d1.kept (d1.wait.take i) := ⟨_, rfl⟩
      rw [← hKd] at ks hKlen hK64 hstep
      have HST := Lib.hid hstep
      have hq : pw.1 < d1.kept.length := hwt.1
      have hb9k : b9 ≠ kb := fun e => h6 (by rw [← hb9, e])
      have hcell : ∀ j u, (#[Value.int .i64 (pw.1 : Int)] ++ (bs pw.2).toArray).toList[j]? = some u → wr.cell? ⟨b9, off9 + i * 65 + j, none⟩ = some u := fun j u hu => hk.cell (p := ⟨b9, off9 + i * 65 + j, none⟩) hb9k (hcell9 j u (by simpa using hu))
      have hpsz : (bs pw.2).toArray.size = 64 := by rw [List.size_toArray, bs_len, hp64]
      have hwsz : (#[Value.int .i64 (pw.1 : Int)] ++ (bs pw.2).toArray).size = 65 := by rw [Array.size_append, hpsz]; rfl
      have HP64 := Lib.hid hp64
      have HK64 := Lib.hid hK64
      have HKL := Lib.hid hKlen
      clear hp64 hstep hpw hKd hwt hcell9 hK64 hKlen
      go_upto_region 8 with fail
      refine wp_region_split 1 ?_
      simp only [List.take_succ_cons, List.take_zero, List.drop_succ_cons, List.drop_zero]
      go_wp2
      show wpList _ _ _ _ _ _
      refine wpList_ld (g := b9) (k := off9 + i * 65) (cs := #[Value.int .i64 (pw.1 : Int)] ++ (bs pw.2).toArray) rfl rfl rfl (fun j u hu => hcell j u hu) Tryz.underlying95 rfl (by rw [hwsz]; exact Tryz.infoWt2) ?_
      simp only [Act.put, List.setIfInBounds_toArray, List.set_cons_succ, List.set_cons_zero]
      refine wpList_split 1 ?_
      simp only [List.take_succ_cons, List.take_zero, List.drop_succ_cons, List.drop_zero]
      go_wp2
      show wpList _ _ _ _ _ _
      refine wpList_st rfl rfl (#[Value.int .i64 (pw.1 : Int)] ++ (bs pw.2).toArray) rfl rfl (Blk.new_ rfl) (by rw [hwsz]; simp) (by rw [hwsz]; exact Tryz.infoWt2) (wt_all _ _) ?_ rfl
      intro kw
      have hBw := fun zs => below_setCells (B := wr.heap.size) (a := wr) (b := wr.heap.size) (Nat.le_refl _) (#[Value.int .i64 (pw.1 : Int)] ++ (bs pw.2).toArray).toList 0 ((Below.refl _ _).alloc (Nat.le_refl _) (.cells zs 95))
      go_upto_region 9 with fail
      refine name_world (fun w3 => Below wr.heap.size wr w3 ∧ Blk w3 wr.heap.size 95 (#[Value.int .i64 (pw.1 : Int)] ++ (bs pw.2).toArray)) ⟨hBw _, kw⟩ ?_
      clear hBw kw
      rintro w3 ⟨hB3, kw⟩
      have ks3 := ks.below hB3 ks.lt
      have kg3 := kg.below hB3 kg.lt
      have hk3 : Kp (fun b => b ≠ kb) w2 w3 := hk.trans (.of_below hB3)
      have hwk : wr.heap.size ≠ kb := by have := ks.lt; omega
      obtain ⟨wb, hwb⟩ : ∃ wb, wb = wr.heap.size := ⟨_, rfl⟩
      rw [← hwb] at kw hwk
      rw [← hwb]
      have lg : ∀ s : LaterB w3 (fun b => b = kb), s.val.cell? ⟨g, 0, none⟩ = some (.slice (some ⟨kb, 0, none⟩) d1.kept.length d1.kept.length) := LaterB.cell (kg3.cell 0) (Ne.symm h4)
      have lq : ∀ s : LaterB w3 (fun b => b = kb), s.val.cell? ⟨wb, 0, none⟩ = some (.int .i64 (pw.1 : Int)) := LaterB.cell ((kw.cell 0).trans (by rw [← Array.getElem?_toList, Array.toList_append]; rfl)) hwk
      clear hwb hcell hk ks kg r0 r1 r2 r3
      refine wp_seqB (fun b => b = kb) 9 [9] (by as_aux_lemma => kernel_rfl) (by as_aux_lemma => kernel_rfl) fun w4 hb4 => ?_
      refine seqB_pre 7 (by kernel_rfl) ?_
      simp only [List.take_succ_cons, List.take_zero, List.drop_succ_cons, List.drop_zero]
      repeat (go_big_quiet_step (fail))
      refine wpQuiet_nil ?_
      refine seqB_still (.agg (bs pw.2).toArray) rfl rfl (fun s => still_ld (g := wb) (k := 1) rfl rfl ((kw.kp s.kp hwk).rangeW 1 _ (by simpa using wt_range (pw.1 : Int) pw.2)) Tryz.underlying93 rfl (by rw [hpsz]; exact Tryz.infoSec2)) ?_
      simp only [Act.put, List.setIfInBounds_toArray, List.set_cons_succ, List.set_cons_zero]
      refine seqB_pre 1 (by kernel_rfl) ?_
      simp only [List.take_succ_cons, List.take_zero, List.drop_succ_cons, List.drop_zero]
      repeat (go_big_quiet_step (fail))
      refine wpQuiet_nil ?_
      have ks4 := ks3.below hb4 ks3.lt
      have kss := sec_store ks4 HK64.out (i := pw.1) (by rw [HKL.out]; exact hq) HP64.out
      refine seqB_wild (Kp.of_below hb4) rfl rfl fun K hK => ?_
      refine gives_st (k := pw.1 * 64) rfl (bs pw.2).toArray (by simp [Act.eval]) rfl ks4 (by rw [hpsz, List.size_toArray, secCells_len _ HK64.out, HKL.out]; omega) (by rw [hpsz]; exact Tryz.infoSec2) (bs_all _) ?_
      have hst := Kp.setCells (ok := fun b => ¬ b = kb) (a := w4) (b := kb) (fun _ hh => hh rfl) (bs pw.2).toArray.toList (pw.1 * 64) (Kp.refl _ _)
      generalize hwr : World.setCells w4 kb (pw.1 * 64) (bs pw.2).toArray.toList = w5 at kss hst ⊢
      clear hwr
      refine hK _ _ (hst) fun hK5 => ?_
      clear hK
      clear K
      simp only [Act.put, List.setIfInBounds_toArray, List.set_cons_succ, List.set_cons_zero]
      refine seqB_nil ?_
      have hk5 : Kp (fun b => b ≠ kb) w2 w5 := hk3.trans hK5
      clear lg lq
      go_wp2
      go_roundw
      case rel => exact ⟨i + 1, by omega, by go_num, hk5, by rw [HST.out]; exact kss⟩
      case measure => simp [intOf]; omega
    · have u0 : decide ((i : Int) < (d1.wait.length : Int)) = false := decide_eq_false (by omega)
      have hti : d1.wait.take i = d1.wait := List.take_of_length_le (by omega)
      rw [hti] at ks
      have fg := fun i => kg.frozen i
      have hkp : Kp (fun b => b ≠ g) wr (wr.setCell ⟨g, 1, none⟩ (.slice none 0 0)) := (Kp.refl _ _).setCell (fun _ h => h rfl) _
      have kgz := kg.set_ 1 (.slice none 0 0)
      have ksz := ks.far (p := ⟨g, 1, none⟩) h4 (.slice none 0 0)
      have hfin : DiskR ft (wr.setCell ⟨g, 1, none⟩ (.slice none 0 0)) g { d1 with kept := keepW d1.kept d1.wait, wait := [] } := by
        refine ⟨kb, .slice none 0 0, ?_, ksz, OwnL.nil_ _ _ _ _ _, h4, by simp [Value.ownBlock], by simp [Value.ownBlock], h7, h8, (fun b hb => by cases hb), ⟨keepW_64 _ _ H10k.out fun p hp => (H10w.out p hp).2, (fun p hp => by cases hp)⟩, ?_⟩
        · have e := keepW_len d1.wait d1.kept
          simp only [e]
          simpa using kgz
        · refine ⟨by simp only [keepW_len]; omega, by simp only [keepW_len]; omega, h13, by simp⟩
      have hKf : Kp (fun b => ¬ ft b) w1 (wr.setCell ⟨g, 1, none⟩ (.slice none 0 0)) := (hK2'.trans (hk.mono fun b hb e => hb (e ▸ h8))).trans (hkp.mono fun b hb e => hb (e ▸ h7))
      have HF := Lib.hid hfin
      clear hfin kgz ksz hkp hti hwl
      go_wp2
      go_ret
      exact ⟨rfl, HF.out, hKf⟩
end Go.Proofs.YtnlhjhpikjmoaaaGreatDoor
namespace Go.Proofs.YtnlhjhpikjmoaaaGreatDoor
def beNat (l : List UInt8) : Nat := l.foldl (fun u c => u * 256 + c.toNat) 0
theorem beNat_snoc (l : List UInt8) (c : UInt8) : beNat (l ++ [c]) = beNat l * 256 + c.toNat := by simp [beNat]
theorem fold_lt (l : List UInt8) : ∀ u : Nat, l.foldl (fun u c => u * 256 + c.toNat) u < (u + 1) * 256 ^ l.length := by
  induction l with
  | nil => intro u; simp
  | cons c l ih =>
    intro u
    have h1 := ih (u * 256 + c.toNat)
    have h2 := c.toNat_lt
    have h3 : (u * 256 + c.toNat + 1) * 256 ^ l.length ≤ ((u + 1) * 256) * 256 ^ l.length := Nat.mul_le_mul_right _ (by omega)
    rw [List.foldl_cons, List.length_cons, Nat.pow_succ, Nat.mul_comm (256 ^ l.length) 256, ← Nat.mul_assoc]
    omega
theorem beNat_lt (l : List UInt8) : beNat l < 256 ^ l.length := by
  have := fold_lt l 0
  simpa [beNat] using this
theorem or_step (U : Nat) (y : UInt8) (hU : U < 72057594037927936) : bits .or .u64 (IntKind.u64.wrap ((U : Int) * 256)) (IntKind.u64.wrap (y.toNat : Int)) = ((U * 256 + y.toNat : Nat) : Int) := by
  have hy := y.toNat_lt
  have e1 : IntKind.u64.wrap ((U : Int) * 256) = ((U * 256 : Nat) : Int) := by rw [IntKind.wrap_u64]; omega
  have e2 : IntKind.u64.wrap (y.toNat : Int) = (y.toNat : Int) := by rw [IntKind.wrap_u64]; omega
  rw [e1, e2, u64_or_nat _ _ (by omega) (by omega), nat_join 8 (U * 256) y.toNat (by omega) (by omega)]
theorem beNat_be8 (u : Nat) (h : u < 18446744073709551616) : beNat (be8 u) = u := by
  simp only [be8, beNat, List.foldl_cons, List.foldl_nil]
  simp
  omega
end Go.Proofs.YtnlhjhpikjmoaaaGreatDoor
