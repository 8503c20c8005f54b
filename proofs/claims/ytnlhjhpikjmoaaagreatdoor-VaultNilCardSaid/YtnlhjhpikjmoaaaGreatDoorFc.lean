/- Contracts: fault.Code, by errors.As. -/
import Derived.Test.YtnlhjhpikjmoaaaGreatDoorDat
import Derived.Test.YtnlhjhpikjmoaaaGreatDoorNum
import Derived.Test.YtnlhjhpikjmoaaaGreatDoorSeqG
import Derived.Deep.DeepCutAuto
import Derived.Deep.CutBlock
import Derived.WalkKit
import Derived.LaidEql
import Derived.Stop.Asserts
import Derived.RowKitTokens
namespace Go.Proofs.YtnlhjhpikjmoaaaGreatDoor
open Go.RowKit

/-- an error of a code, wrapped so often -/
def ErrV : Nat → World → Value → Int → Prop
  | 0, _, v, c => v = .iface 40 (.int .i64 c)
  | k + 1, w, v, c => ∃ (b : Nat) (s u : Value), v = .iface 113 (.pointer (some ⟨b, 0, none⟩)) ∧ Blk w b 115 #[s, u] ∧ ErrV k w u c
theorem ErrV.below {w w' : World} (hb : Below w.heap.size w w') : ∀ {k : Nat} {v : Value} {c : Int}, ErrV k w v c → ErrV k w' v c
  | 0, _, _, h => h
  | _ + 1, _, _, ⟨b, s, u, h1, h2, h3⟩ => ⟨b, s, u, h1, h2.below hb h2.lt, ErrV.below hb h3⟩
theorem ErrV.uniq {w : World} : ∀ {k : Nat} {v : Value} {c : Int} {k' : Nat} {c' : Int}, ErrV k w v c → ErrV k' w v c' → k = k'
  | 0, _, _, 0, _, _, _ => rfl
  | 0, _, _, _ + 1, _, h, ⟨b, s, u, h1, _⟩ => by
    have h : _ = _ := h
    rw [h] at h1
    cases h1
  | _ + 1, _, _, 0, _, ⟨b, s, u, h1, _⟩, h => by
    have h : _ = _ := h
    rw [h] at h1
    cases h1
  | k + 1, _, _, k' + 1, _, ⟨b, s, u, h1, h2, h3⟩, ⟨b', s', u', h1', h2', h3'⟩ => by
    rw [h1] at h1'
    obtain rfl : b = b' := by simpa using h1'
    have e := (h2.cell 1).symm.trans (h2'.cell 1)
    obtain rfl : u = u' := by simpa using e
    rw [ErrV.uniq h3 h3']
noncomputable def depthV (w : World) (c : Int) (v : Value) : Nat := Classical.epsilon fun j => ErrV j w v c
theorem depthV_eq {w : World} {k : Nat} {v : Value} {c : Int} (h : ErrV k w v c) : depthV w c v = k :=
  ErrV.uniq (Classical.epsilon_spec (p := fun j => ErrV j w v c) ⟨k, h⟩) h
theorem ErrV.form {w : World} : ∀ {k : Nat} {v : Value} {c : Int}, ErrV k w v c → ∃ t u, v = .iface t u
  | 0, _, _, h => ⟨_, _, h⟩
  | _ + 1, _, _, ⟨_, _, _, h, _⟩ => ⟨_, _, h⟩
end Go.Proofs.YtnlhjhpikjmoaaaGreatDoor

namespace Go.Proofs.YtnlhjhpikjmoaaaGreatDoor
open Go.RowKit Go.Extern.Stop Go.Stop Go.Extern

theorem Tryz.fcVal (t : Addr) (w : World) : (ReflectliteValue.unpack (.iface 80 (.pointer (some t)))).run Tryz.prog w
    = .ok (.agg #[.pointer (some ⟨1, 80, none⟩), .pointer (some ⟨w.heap.size, 0, none⟩), .int .u64 150]) (w.alloc (.cells #[.pointer (some t)] 80)) := by kernel_rfl
theorem Tryz.fcType (a : Addr) (w : World) : (ReflectliteValue.methodAny (ReflectliteValue.valueError "reflectlite.Value.Type" 0) (fun t _ _ _ => ReflectliteType.toType t) #[.agg #[.pointer (some ⟨1, 80, none⟩), .pointer (some a), .int .u64 150]]).run Tryz.prog w
    = .ok (.iface 149 (.agg #[.pointer (some ⟨1, 80, none⟩)])) w := by kernel_rfl
theorem Tryz.fcMKind (h : Value) (w : World) : (Go.method 310 149 (.agg #[h]) "Kind").run Tryz.prog w = .ok (124, h) w := by kernel_rfl
theorem Tryz.fcKindP (w : World) : ((ReflectliteType.abiMethod fun t => (fun a : Nat => Value.int IntKind.u8 (a : Int)) <$> Rtype.kind t) #[.pointer (some ⟨1, 80, none⟩)]).run Tryz.prog w = .ok (.int .u8 22) w := by kernel_rfl
theorem Tryz.fcKindE (w : World) : ((ReflectliteType.abiMethod fun t => (fun a : Nat => Value.int IntKind.u8 (a : Int)) <$> Rtype.kind t) #[.pointer (some ⟨1, 40, none⟩)]).run Tryz.prog w = .ok (.int .u8 2) w := by kernel_rfl
theorem fc_rlm (z : Sem Value) (f : TypeId → Addr → Nat → Nat → Sem Value) (v : Value) :
    ReflectliteValue.method z f #[v] = (do match ← ReflectliteValue.parts v with | none => z | some (t, a, fl) => f t a fl (fl % 32)) := rfl
theorem Tryz.fcPartsP (a : Addr) (w : World) : (ReflectliteValue.parts (.agg #[.pointer (some ⟨1, 80, none⟩), .pointer (some a), .int .u64 150])).run Tryz.prog w = .ok (some (80, a, 150)) w := by kernel_rfl
theorem Tryz.fcIsNil (a p : Addr) (W : World) (ha : W.cell? a = some (.pointer (some p))) :
    (ReflectliteValue.method (ReflectliteValue.valueError "reflectlite.Value.IsNil" 0) ReflectliteValue.isNil #[.agg #[.pointer (some ⟨1, 80, none⟩), .pointer (some a), .int .u64 150]]).run Tryz.prog W = .ok (.bool false) W := by
  rw [fc_rlm]
  simp only [Sem.run_bind, Tryz.fcPartsP, Result.andThen]
  simp [ReflectliteValue.isNil, loadVar, isAgg, underlying, Tryz.underlying80, ha, Result.andThen]
theorem Tryz.fcMElem (h : Value) (w : World) : (Go.method 310 149 (.agg #[h]) "Elem").run Tryz.prog w = .ok (138, .agg #[h]) w := by kernel_rfl
theorem Tryz.fcMImpl (h : Value) (w : World) : (Go.method 310 149 (.agg #[h]) "Implements").run Tryz.prog w = .ok (139, .agg #[h]) w := by kernel_rfl
theorem Tryz.fcMAssign (h : Value) (w : World) : (Go.method 310 149 (.agg #[h]) "AssignableTo").run Tryz.prog w = .ok (136, .agg #[h]) w := by kernel_rfl
theorem Tryz.fcElem (w : World) : (ReflectliteType.method ReflectliteType.elem #[.agg #[.pointer (some ⟨1, 80, none⟩)]]).run Tryz.prog w = .ok (.iface 149 (.agg #[.pointer (some ⟨1, 40, none⟩)])) w := by kernel_rfl
theorem Tryz.fcImpl (w : World) : (ReflectliteType.relation "Implements" ReflectliteType.implements_ #[.agg #[.pointer (some ⟨1, 40, none⟩)], .iface 149 (.agg #[.pointer (some ⟨1, 37, none⟩)])]).run Tryz.prog w = .ok (.bool true) w := by kernel_rfl
theorem Tryz.fcTypeE (v : Value) (w : World) : (ReflectliteType.typeOf #[.iface 40 v]).run Tryz.prog w = .ok (.iface 149 (.agg #[.pointer (some ⟨1, 40, none⟩)])) w := by kernel_rfl
theorem Tryz.fcTypeF (v : Value) (w : World) : (ReflectliteType.typeOf #[.iface 113 v]).run Tryz.prog w = .ok (.iface 149 (.agg #[.pointer (some ⟨1, 113, none⟩)])) w := by kernel_rfl
theorem Tryz.fcAssignE (w : World) : (ReflectliteType.relation "AssignableTo" ReflectliteType.assignableTo #[.agg #[.pointer (some ⟨1, 40, none⟩)], .iface 149 (.agg #[.pointer (some ⟨1, 40, none⟩)])]).run Tryz.prog w = .ok (.bool true) w := by kernel_rfl
theorem Tryz.fcAssignF (w : World) : (ReflectliteType.relation "AssignableTo" ReflectliteType.assignableTo #[.agg #[.pointer (some ⟨1, 113, none⟩)], .iface 149 (.agg #[.pointer (some ⟨1, 40, none⟩)])]).run Tryz.prog w = .ok (.bool false) w := by kernel_rfl
theorem Tryz.fcValE (c : Int) (w : World) : (ReflectliteValue.unpack (.iface 40 (.int .i64 c))).run Tryz.prog w
    = .ok (.agg #[.pointer (some ⟨1, 40, none⟩), .pointer (some ⟨w.heap.size, 0, none⟩), .int .u64 130]) (w.alloc (.cells #[.int .i64 c] 40)) := by kernel_rfl
theorem Tryz.fcElemOf (w : World) : (Rtype.elem? 80).run Tryz.prog w = .ok (some 40) w := by kernel_rfl
theorem Tryz.fcMk (p : Addr) (w : World) : (ReflectliteValue.mk 40 p ReflectliteValue.flagAddr).run Tryz.prog w = .ok (.agg #[.pointer (some ⟨1, 40, none⟩), .pointer (some p), .int .u64 386]) w := by kernel_rfl
theorem Tryz.fcElemV (a p : Addr) (W : World) (ha : W.cell? a = some (.pointer (some p))) :
    (ReflectliteValue.method (ReflectliteValue.valueError "reflectlite.Value.Elem" 0) ReflectliteValue.elem #[.agg #[.pointer (some ⟨1, 80, none⟩), .pointer (some a), .int .u64 150]]).run Tryz.prog W
      = .ok (.agg #[.pointer (some ⟨1, 40, none⟩), .pointer (some p), .int .u64 386]) W := by
  rw [fc_rlm]
  simp only [Sem.run_bind, Tryz.fcPartsP, Result.andThen]
  simp [ReflectliteValue.elem, loadVar, isAgg, underlying, Tryz.underlying80, ha, Result.andThen, Tryz.fcElemOf, Tryz.fcMk]
theorem fc_rls (v x : Value) : ReflectliteValue.set #[v, x] = (do
    let (some (dst, a, fl), some (src, b, _)) := (← ReflectliteValue.parts v, ← ReflectliteValue.parts x)
      | unsupported (.noEntry "extern/(internal/reflectlite.Value).Set.zeroValue")
    if fl / ReflectliteValue.flagAddr % 2 == 0 then unsupported (.noEntry "extern/(internal/reflectlite.Value).Set.unaddressable")
    let val ← loadVar src b
    if ← Rtype.directlyAssignable dst src then storeVar dst a val
    else if ← Rtype.implements dst src then
      if (← Rtype.kind src) == 20 then
        match val with
        | .nilIface => unsupported (.noEntry "extern/reflectlite: a nil value of one interface type handed on as a value of another")
        | _ => storeVar dst a val
      else storeVar dst a (.iface src val)
    else panicString ("reflectlite.Set: value of type " ++ (← Rtype.spelt src) ++ " is not assignable to type " ++ (← Rtype.spelt dst))
    pure (.tuple #[])) := rfl
theorem Tryz.fcPartsA (a : Addr) (w : World) : (ReflectliteValue.parts (.agg #[.pointer (some ⟨1, 40, none⟩), .pointer (some a), .int .u64 386])).run Tryz.prog w = .ok (some (40, a, 386)) w := by kernel_rfl
theorem Tryz.fcPartsB (a : Addr) (w : World) : (ReflectliteValue.parts (.agg #[.pointer (some ⟨1, 40, none⟩), .pointer (some a), .int .u64 130])).run Tryz.prog w = .ok (some (40, a, 130)) w := by kernel_rfl
theorem Tryz.fcDirect (w : World) : (Rtype.directlyAssignable 40 40).run Tryz.prog w = .ok true w := by kernel_rfl
theorem Tryz.fcSet (ta b : Addr) (c : Int) (old : Value) (W : World) (hb : W.cell? b = some (.int .i64 c)) (ht : W.cell? ta = some old) (hf : W.frozen? ta = false) :
    (ReflectliteValue.set #[.agg #[.pointer (some ⟨1, 40, none⟩), .pointer (some ta), .int .u64 386], .agg #[.pointer (some ⟨1, 40, none⟩), .pointer (some b), .int .u64 130]]).run Tryz.prog W
      = .ok (.tuple #[]) (W.setCell ta (.int .i64 c)) := by
  rw [fc_rls]
  simp only [Sem.run_bind, Tryz.fcPartsA, Tryz.fcPartsB, Result.andThen]
  simp [ReflectliteValue.flagAddr, loadVar, isAgg, underlying, Tryz.underlying40, hb, Result.andThen, Tryz.fcDirect, storeVar, Value.cells, storeCells, Addr.add]
  rw [run_store Tryz.prog W ta _ _ (by rfl)]
  simp [ht, hf]
theorem Tryz.fcNoAs (v : Value) (xT : TypeId) (w : World) : (Instr.typeAssert (.iface 113 v) xT 154 true).run Tryz.prog w = .ok (.tuple #[.nilIface, .bool false]) w := run_typeAssert_lacksB Tryz.underlying154 (by kernel_rfl) (by kernel_rfl) v xT w
theorem Tryz.fcUnw (v : Value) (xT : TypeId) (w : World) : (Instr.typeAssert (.iface 113 v) xT 157 true).run Tryz.prog w = .ok (.tuple #[.iface 113 v, .bool true]) w := run_typeAssert_hasB Tryz.underlying157 (by kernel_rfl) v xT w
theorem Tryz.fcMUnw (v : Value) (w : World) : (Go.method 310 113 v "Unwrap").run Tryz.prog w = .ok (131, v) w := by kernel_rfl
theorem unwrap_any {b : Nat} {s u : Value} {w : World} (h : Blk w b 115 #[s, u]) : Calls Tryz.prog 131 #[.pointer (some ⟨b, 0, none⟩)] w fun e w' => e = .returned u ∧ w' = w := by
  have c1 : w.cell? ⟨b, 1, none⟩ = some u := h.cell 1
  go_enter Tryz.func131, Tryz.ntmps131
  go_wp2
  go_ret
  exact ⟨rfl, rfl⟩
set_option maxRecDepth 100000 in
set_option maxHeartbeats 6400000 in
theorem as66_any {w : World} {k : Nat} {v : Value} {c : Int} (hE : ErrV k w v c) (t a : Nat) (ht : Blk w t 40 #[.int .i64 0]) (ha : w.cell? ⟨a, 0, none⟩ = some (.pointer (some ⟨t, 0, none⟩))) :
    Calls Tryz.prog 66 #[v, .iface 80 (.pointer (some ⟨t, 0, none⟩)), .agg #[.pointer (some ⟨1, 80, none⟩), .pointer (some ⟨a, 0, none⟩), .int .u64 150], .iface 149 (.agg #[.pointer (some ⟨1, 40, none⟩)])] w fun e w' => e = .returned (.bool true) ∧ Blk w' t 40 #[.int .i64 c] ∧ Kp (fun b => b ≠ t) w w' := by
  have h93 := @run_callFunc_extern Tryz.prog 93 _ ReflectliteType.typeOf Tryz.func93 (by kernel_rfl) (by kernel_rfl) (by kernel_rfl) (by kernel_rfl)
  have h136 := @run_callFunc_extern Tryz.prog 136 _ (ReflectliteType.relation "AssignableTo" ReflectliteType.assignableTo) Tryz.func136 (by kernel_rfl) (by kernel_rfl) (by kernel_rfl) (by kernel_rfl)
  have h94 := @run_callFunc_extern Tryz.prog 94 _ (ReflectliteValue.method (ReflectliteValue.valueError "reflectlite.Value.Elem" 0) ReflectliteValue.elem) Tryz.func94 (by kernel_rfl) (by kernel_rfl) (by kernel_rfl) (by kernel_rfl)
  have h63 := @run_callFunc_extern Tryz.prog 63 _ (fun args => ReflectliteValue.unpack (args.getD 0 (.tuple #[]))) Tryz.func63 (by kernel_rfl) (by kernel_rfl) (by kernel_rfl) (by kernel_rfl)
  have h95 := @run_callFunc_extern Tryz.prog 95 _ ReflectliteValue.set Tryz.func95 (by kernel_rfl) (by kernel_rfl) (by kernel_rfl) (by kernel_rfl)
  have tE := Tryz.fcTypeE
  have tF := Tryz.fcTypeF
  have mA := Tryz.fcMAssign
  have aE := Tryz.fcAssignE
  have aF := Tryz.fcAssignF
  have vE := Tryz.fcValE
  have nA := Tryz.fcNoAs
  have uW := Tryz.fcUnw
  have mU := Tryz.fcMUnw
  have HE := Lib.hid hE
  have HT := Lib.hid ht
  have HA := Lib.hid ha
  have hlta := World.block_lt_of_cell? w _ ha
  obtain ⟨tv, uv, rfl⟩ := hE.form
  clear hE ht ha
  go_enter Tryz.func66, Tryz.ntmps66
  go_upto_region 1 with fail
  obtain ⟨gb, hgb⟩ : ∃ gb, gb = w.heap.size := ⟨_, rfl⟩
  refine name_world (fun w1 => Blk w1 gb 123 #[.pointer (some ⟨1, 80, none⟩), .pointer (some ⟨a, 0, none⟩), .int .u64 150] ∧ Below w.heap.size w w1) ⟨by rw [hgb]; exact Blk.new _ _ _, (Below.refl _ _).alloc (Nat.le_refl _) _⟩ ?_
  rintro w1 ⟨kb, hB1⟩
  rw [← hgb]
  have HGB := Lib.hid hgb
  clear hgb
  have HE1 := Lib.hid (HE.out.below hB1)
  have kt := HT.out.below hB1 HT.out.lt
  have ca : w1.cell? ⟨a, 0, none⟩ = some (.pointer (some ⟨t, 0, none⟩)) := (hB1.cell (p := ⟨a, 0, none⟩) hlta).trans HA.out
  go_loopw [0] (fun vv wr => ∃ j, Hid (ErrV j w1 vv c) ∧ wr = w1) (fun vv _ => depthV w1 c vv)
  case atStart => exact ⟨k, HE1, rfl⟩
  case round =>
    obtain ⟨j, HJ, hwr⟩ := hrel
    rw [hwr]
    clear hwr
    match j, HJ with
    | 0, HJ =>
      have hj : _ = _ := HJ.out
      subst hj
      have cb0 : w1.cell? ⟨gb, 0, none⟩ = some (.pointer (some ⟨1, 80, none⟩)) := kb.cell 0
      have cb1 : w1.cell? ⟨gb, 1, none⟩ = some (.pointer (some ⟨a, 0, none⟩)) := kb.cell 1
      have cb2 : w1.cell? ⟨gb, 2, none⟩ = some (.int .u64 150) := kb.cell 2
      have el := Tryz.fcElemV ⟨a, 0, none⟩ ⟨t, 0, none⟩ w1 ca
      have hal : Below w1.heap.size w1 (w1.alloc (.cells #[.int .i64 c] 40)) := (Below.refl _ _).alloc (Nat.le_refl _) _
      have kt2 := kt.below hal kt.lt
      have st := Tryz.fcSet ⟨t, 0, none⟩ ⟨w1.heap.size, 0, none⟩ c (.int .i64 0) (w1.alloc (.cells #[.int .i64 c] 40)) ((Blk.new w1 _ _).cell 0) (kt2.cell 0) (kt2.frozen 0)
      have hres : Blk ((w1.alloc (.cells #[.int .i64 c] 40)).setCell ⟨t, 0, none⟩ (.int .i64 c)) t 40 #[.int .i64 c] := kt2.set_ 0 _
      have hkp : Kp (fun b => b ≠ t) w ((w1.alloc (.cells #[.int .i64 c] 40)).setCell ⟨t, 0, none⟩ (.int .i64 c)) := ((Kp.of_below hB1).trans (.of_below hal)).setCell (p := ⟨t, 0, none⟩) (fun _ h => h rfl) _
      have HRES := Lib.hid (And.intro hres hkp)
      clear hres hkp kt2 hal
      go_wp2
      go_ret
      exact ⟨rfl, HRES.out⟩
    | j + 1, HJ =>
      obtain ⟨b, s, u, hv, kf, hu⟩ := HJ.out
      have hdp := depthV_eq HJ.out
      subst hv
      have hdu := depthV_eq hu
      have HU := Lib.hid hu
      have HUW := Lib.hid (unwrap_any kf)
      obtain ⟨tu, uu, rfl⟩ := hu.form
      have HDP := Lib.hid hdp
      have HDU := Lib.hid hdu
      clear kf hu hdp hdu HJ
      go_wp2_with fail
      refine HUW.out.mono ?_
      rintro e w2 ⟨rfl, rfl⟩
      go_wp2
      go_roundw
      case rel => exact ⟨j, HU, by first | rfl | trivial⟩
      case measure => rw [HDP.out, HDU.out]; omega
set_option maxRecDepth 100000 in
set_option maxHeartbeats 6400000 in
theorem asCode_any {w : World} {k : Nat} {v : Value} {c : Int} (hE : ErrV k w v c) (t : Nat) (ht : Blk w t 40 #[.int .i64 0]) (hg : w.cell? ⟨0, 0, none⟩ = some (.iface 149 (.agg #[.pointer (some ⟨1, 37, none⟩)]))) :
    Calls Tryz.prog 37 #[v, .iface 80 (.pointer (some ⟨t, 0, none⟩))] w fun e w' => e = .returned (.bool true) ∧ Blk w' t 40 #[.int .i64 c] ∧ Kp (fun b => b ≠ t) w w' := by
  have h63 := @run_callFunc_extern Tryz.prog 63 _ (fun args => ReflectliteValue.unpack (args.getD 0 (.tuple #[]))) Tryz.func63 (by kernel_rfl) (by kernel_rfl) (by kernel_rfl) (by kernel_rfl)
  have h64 := @run_callFunc_extern Tryz.prog 64 _ (ReflectliteValue.methodAny (ReflectliteValue.valueError "reflectlite.Value.Type" 0) (fun t _ _ _ => ReflectliteType.toType t)) Tryz.func64 (by kernel_rfl) (by kernel_rfl) (by kernel_rfl) (by kernel_rfl)
  have h65 := @run_callFunc_extern Tryz.prog 65 _ (ReflectliteValue.method (ReflectliteValue.valueError "reflectlite.Value.IsNil" 0) ReflectliteValue.isNil) Tryz.func65 (by kernel_rfl) (by kernel_rfl) (by kernel_rfl) (by kernel_rfl)
  have h124 := @run_callFunc_extern Tryz.prog 124 _ (ReflectliteType.abiMethod fun t => do pure (.int .u8 (← Rtype.kind t))) Tryz.func124 (by kernel_rfl) (by kernel_rfl) (by kernel_rfl) (by kernel_rfl)
  have h138 := @run_callFunc_extern Tryz.prog 138 _ (ReflectliteType.method ReflectliteType.elem) Tryz.func138 (by kernel_rfl) (by kernel_rfl) (by kernel_rfl) (by kernel_rfl)
  have h139 := @run_callFunc_extern Tryz.prog 139 _ (ReflectliteType.relation "Implements" ReflectliteType.implements_) Tryz.func139 (by kernel_rfl) (by kernel_rfl) (by kernel_rfl) (by kernel_rfl)
  have f6 := Tryz.fcVal
  have f7 := Tryz.fcType
  have mK := Tryz.fcMKind
  have mE := Tryz.fcMElem
  have mI := Tryz.fcMImpl
  have kP := Tryz.fcKindP
  have kE := Tryz.fcKindE
  have eP := Tryz.fcElem
  have iE := Tryz.fcImpl
  obtain ⟨W2, hW2⟩ : ∃ W2, W2 = ((w.alloc (.cells #[.pointer (some ⟨t, 0, none⟩)] 80)).alloc (.cells #[.pointer (some ⟨1, 80, none⟩), .pointer (some ⟨w.heap.size, 0, none⟩), .int .u64 150] 123)) := ⟨_, rfl⟩
  have hB2 : Below w.heap.size w W2 := by rw [hW2]; exact ((Below.refl _ _).alloc (Nat.le_refl _) _).alloc (by simp) _
  have hca : W2.cell? ⟨w.heap.size, 0, none⟩ = some (.pointer (some ⟨t, 0, none⟩)) := by rw [hW2]; exact ((Blk.new w _ _).alloc _).cell 0
  have n8 := Tryz.fcIsNil ⟨w.heap.size, 0, none⟩ ⟨t, 0, none⟩ W2 hca
  have hg2 : W2.cell? ⟨0, 0, none⟩ = some (.iface 149 (.agg #[.pointer (some ⟨1, 37, none⟩)])) := (hB2.cell (p := ⟨0, 0, none⟩) (World.block_lt_of_cell? w _ hg)).trans hg
  have HAS := Lib.hid (as66_any (hE.below hB2) t w.heap.size (ht.below hB2 ht.lt) hca)
  have HB2 := Lib.hid hB2
  obtain ⟨tv, uv, rfl⟩ := hE.form
  rw [hW2] at n8 hg2
  have HW2 := Lib.hid hW2
  clear hE ht hg hB2 hca hW2
  go_enter Tryz.func37, Tryz.ntmps37
  go_wp2_with fail
  rw [← HW2.out]
  refine HAS.out.mono ?_
  rintro e w3 ⟨rfl, hk3, hK3⟩
  have HR := Lib.hid (And.intro hk3 ((Kp.of_below (ok := fun b => b ≠ t) HB2.out).trans hK3))
  clear hk3 hK3
  go_wp2
  go_ret
  exact ⟨rfl, HR.out⟩
set_option maxRecDepth 100000 in
set_option maxHeartbeats 1600000 in
/-- fault.Code of an error of a code -/
theorem code_err {w : World} {k : Nat} {v : Value} {c : Int} (hE : ErrV k w v c) (hg : w.cell? ⟨0, 0, none⟩ = some (.iface 149 (.agg #[.pointer (some ⟨1, 37, none⟩)]))) :
    Calls Tryz.prog 15 #[v] w fun e w' => e = .returned (.int .i64 c) ∧ Below w.heap.size w w' := by
  obtain ⟨t, ht⟩ : ∃ t, t = w.heap.size := ⟨_, rfl⟩
  have hal : Below w.heap.size w (w.alloc (.cells #[.int .i64 0] 40)) := (Below.refl _ _).alloc (Nat.le_refl _) _
  have HA := Lib.hid (asCode_any (hE.below hal) t (by rw [ht]; exact Blk.new _ _ _) ((hal.cell (p := ⟨0, 0, none⟩) (World.block_lt_of_cell? w _ hg)).trans hg))
  have HAL := Lib.hid hal
  have HT := Lib.hid ht
  obtain ⟨tv, uv, rfl⟩ := hE.form
  clear hE hg hal
  go_enter Tryz.func15, Tryz.ntmps15
  go_upto_region 4 with fail
  rw [← ht]
  clear ht
  go_wp2_with fail
  refine HA.out.mono ?_
  rintro e w3 ⟨rfl, hk3, hK3⟩
  have c0 : w3.cell? ⟨t, 0, none⟩ = some (.int .i64 c) := hk3.cell 0
  have HR := Lib.hid (show Below w.heap.size w w3 from HAL.out.trans (hK3.below (Nat.le_trans (Nat.le_refl _) HAL.out.size) fun b hb e => by have := HT.out; omega))
  clear hk3 hK3
  go_wp2
  go_ret
  exact ⟨rfl, HR.out⟩
theorem code_nil (w : World) : Calls Tryz.prog 15 #[.nilIface] w fun e w' => e = .returned (.int .i64 0) ∧ w' = w := by
  go_enter Tryz.func15, Tryz.ntmps15
  go_wp2
  go_ret
  exact ⟨rfl, rfl⟩
end Go.Proofs.YtnlhjhpikjmoaaaGreatDoor
