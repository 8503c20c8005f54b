/- Contracts: fault.Code, by errors.As.
Contracts: the bytes of values.
What the cells of pairs, owners, routes, spans say. No program in sight.
What the cells of values, columns, tables, indexes say. No program in sight.
Blocks read and written whole; what the cells of a command say. No program in sight.
The disk and the log as plain data: what each function of packages disk and wal computes. No program in sight.
The disk in memory: sectors, what waits.
Contracts: errors.Is of two error numbers; disk.fine, up, hit, Down, Size, New.
Structs and slices put together of parts of many cells. Contract: disk.New.
A write put together; contract: (*Disk).Write. -/
import Derived.Test.YtnlhjhpikjmoaaaGreatDoorReg
import Derived.Test.YtnlhjhpikjmoaaaGreatDoorSeqG
import Derived.Deep.DeepCutAuto
import Derived.Deep.CutBlock
import Derived.WalkKit
import Derived.LaidEql
import Derived.Stop.Asserts
import Derived.RowKitTokens
import Derived.Deep.MidRow
import Derived.Lib.IfaceEq
import Derived.Laws.MakeOwn
import Derived.Great.BuildSlice
namespace Go.Proofs.YtnlhjhpikjmoaaaGreatDoor
open Go.RowKit
def ErrV : Nat → World → Value → Int → Prop
  | 0, _, v, c => v = .iface 40 (.int .i64 c)
  | k + 1, w, v, c => ∃ (b : Nat) (s u : Value), v = .iface 113 (.pointer (some ⟨b, 0, none⟩)) ∧ Blk w b 115 #[s, u] ∧ ErrV k w u c
theorem ErrV.below {w w' : World} (hb : Below w.heap.size w w') : ∀ {k : Nat} {v : Value} {c : Int}, ErrV k w v c → ErrV k w' v c
  | 0, _, _, h => h
  | _ + 1, _, _, ⟨b, s, u, h1, h2, h3⟩ => ⟨b, s, u, h1, h2.below hb h2.lt, ErrV.below hb h3⟩
theorem ErrV.uniq {w : World} : ∀ {k : Nat} {v : Value} {c : Int} {k' : Nat} {c' : Int}, ErrV k w v c → ErrV k' w v c' → k = k'
  | 0, _, _, 0, _, _, _ => rfl
  | 0, _, _, _ + 1, _, h, ⟨b, s, u, h1, _⟩ => by
    have h : _ = _ := h
    rw [h] at h1
    cases h1
  | _ + 1, _, _, 0, _, ⟨b, s, u, h1, _⟩, h => by
    have h : _ = _ := h
    rw [h] at h1
    cases h1
  | k + 1, _, _, k' + 1, _, ⟨b, s, u, h1, h2, h3⟩, ⟨b', s', u', h1', h2', h3'⟩ => by
    rw [h1] at h1'
    obtain rfl : b = b' := by simpa using h1'
    have e := (h2.cell 1).symm.trans (h2'.cell 1)
    obtain rfl : u = u' := by simpa using e
    rw [ErrV.uniq h3 h3']
noncomputable def depthV (w : World) (c : Int) (v : Value) : Nat := Classical.epsilon fun j => ErrV j w v c
theorem depthV_eq {w : World} {k : Nat} {v : Value} {c : Int} (h : ErrV k w v c) : depthV w c v = k :=
  ErrV.uniq (Classical.epsilon_spec (p := fun j => ErrV j w v c) ⟨k, h⟩) h
theorem ErrV.form {w : World} : ∀ {k : Nat} {v : Value} {c : Int}, ErrV k w v c → ∃ t u, v = .iface t u
  | 0, _, _, h => ⟨_, _, h⟩
  | _ + 1, _, _, ⟨_, _, _, h, _⟩ => ⟨_, _, h⟩
end Go.Proofs.YtnlhjhpikjmoaaaGreatDoor
namespace Go.Proofs.YtnlhjhpikjmoaaaGreatDoor
open Go.RowKit Go.Extern.Stop Go.Stop Go.Extern
theorem Tryz.fcVal (t : Addr) (w : World) : (ReflectliteValue.unpack (.iface 80 (.pointer (some t)))).run Tryz.prog w
    = .ok (.agg #[.pointer (some ⟨1, 80, none⟩), .pointer (some ⟨w.heap.size, 0, none⟩), .int .u64 150]) (w.alloc (.cells #[.pointer (some t)] 80)) := by kernel_rfl
theorem Tryz.fcType (a : Addr) (w : World) : (ReflectliteValue.methodAny (ReflectliteValue.valueError "reflectlite.Value.Type" 0) (fun t _ _ _ => ReflectliteType.toType t) #[.agg #[.pointer (some ⟨1, 80, none⟩), .pointer (some a), .int .u64 150]]).run Tryz.prog w
    = .ok (.iface 149 (.agg #[.pointer (some ⟨1, 80, none⟩)])) w := by kernel_rfl
theorem Tryz.fcMKind (h : Value) (w : World) : (Go.method 310 149 (.agg #[h]) "Kind").run Tryz.prog w = .ok (124, h) w := by kernel_rfl
theorem Tryz.fcKindP (w : World) : ((ReflectliteType.abiMethod fun t => (fun a : Nat => Value.int IntKind.u8 (a : Int)) <$> Rtype.kind t) #[.pointer (some ⟨1, 80, none⟩)]).run Tryz.prog w = .ok (.int .u8 22) w := by kernel_rfl
theorem Tryz.fcKindE (w : World) : ((ReflectliteType.abiMethod fun t => (fun a : Nat => Value.int IntKind.u8 (a : Int)) <$> Rtype.kind t) #[.pointer (some ⟨1, 40, none⟩)]).run Tryz.prog w = .ok (.int .u8 2) w := by kernel_rfl
theorem fc_rlm (z : Sem Value) (f : TypeId → Addr → Nat → Nat → Sem Value) (v : Value) :
    ReflectliteValue.method z f #[v] = (do match ← ReflectliteValue.parts v with | none => z | some (t, a, fl) => f t a fl (fl % 32)) := rfl
theorem Tryz.fcPartsP (a : Addr) (w : World) : (ReflectliteValue.parts (.agg #[.pointer (some ⟨1, 80, none⟩), .pointer (some a), .int .u64 150])).run Tryz.prog w = .ok (some (80, a, 150)) w := by kernel_rfl
theorem Tryz.fcIsNil (a p : Addr) (W : World) (ha : W.cell? a = some (.pointer (some p))) :
    (ReflectliteValue.method (ReflectliteValue.valueError "reflectlite.Value.IsNil" 0) ReflectliteValue.isNil #[.agg #[.pointer (some ⟨1, 80, none⟩), .pointer (some a), .int .u64 150]]).run Tryz.prog W = .ok (.bool false) W := by
  rw [fc_rlm]
  simp only [Sem.run_bind, Tryz.fcPartsP, Result.andThen]
  simp [ReflectliteValue.isNil, loadVar, isAgg, underlying, Tryz.underlying80, ha, Result.andThen]
theorem Tryz.fcMElem (h : Value) (w : World) : (Go.method 310 149 (.agg #[h]) "Elem").run Tryz.prog w = .ok (138, .agg #[h]) w := by kernel_rfl
theorem Tryz.fcMImpl (h : Value) (w : World) : (Go.method 310 149 (.agg #[h]) "Implements").run Tryz.prog w = .ok (139, .agg #[h]) w := by kernel_rfl
theorem Tryz.fcMAssign (h : Value) (w : World) : (Go.method 310 149 (.agg #[h]) "AssignableTo").run Tryz.prog w = .ok (136, .agg #[h]) w := by kernel_rfl
theorem Tryz.fcElem (w : World) : (ReflectliteType.method ReflectliteType.elem #[.agg #[.pointer (some ⟨1, 80, none⟩)]]).run Tryz.prog w = .ok (.iface 149 (.agg #[.pointer (some ⟨1, 40, none⟩)])) w := by kernel_rfl
theorem Tryz.fcImpl (w : World) : (ReflectliteType.relation "Implements" ReflectliteType.implements_ #[.agg #[.pointer (some ⟨1, 40, none⟩)], .iface 149 (.agg #[.pointer (some ⟨1, 37, none⟩)])]).run Tryz.prog w = .ok (.bool true) w := by kernel_rfl
theorem Tryz.fcTypeE (v : Value) (w : World) : (ReflectliteType.typeOf #[.iface 40 v]).run Tryz.prog w = .ok (.iface 149 (.agg #[.pointer (some ⟨1, 40, none⟩)])) w := by kernel_rfl
theorem Tryz.fcTypeF (v : Value) (w : World) : (ReflectliteType.typeOf #[.iface 113 v]).run Tryz.prog w = .ok (.iface 149 (.agg #[.pointer (some ⟨1, 113, none⟩)])) w := by kernel_rfl
theorem Tryz.fcAssignE (w : World) : (ReflectliteType.relation "AssignableTo" ReflectliteType.assignableTo #[.agg #[.pointer (some ⟨1, 40, none⟩)], .iface 149 (.agg #[.pointer (some ⟨1, 40, none⟩)])]).run Tryz.prog w = .ok (.bool true) w := by kernel_rfl
theorem Tryz.fcAssignF (w : World) : (ReflectliteType.relation "AssignableTo" ReflectliteType.assignableTo #[.agg #[.pointer (some ⟨1, 113, none⟩)], .iface 149 (.agg #[.pointer (some ⟨1, 40, none⟩)])]).run Tryz.prog w = .ok (.bool false) w := by kernel_rfl
theorem Tryz.fcValE (c : Int) (w : World) : (ReflectliteValue.unpack (.iface 40 (.int .i64 c))).run Tryz.prog w
    = .ok (.agg #[.pointer (some ⟨1, 40, none⟩), .pointer (some ⟨w.heap.size, 0, none⟩), .int .u64 130]) (w.alloc (.cells #[.int .i64 c] 40)) := by kernel_rfl
theorem Tryz.fcElemOf (w : World) : (Rtype.elem? 80).run Tryz.prog w = .ok (some 40) w := by kernel_rfl
theorem Tryz.fcMk (p : Addr) (w : World) : (ReflectliteValue.mk 40 p ReflectliteValue.flagAddr).run Tryz.prog w = .ok (.agg #[.pointer (some ⟨1, 40, none⟩), .pointer (some p), .int .u64 386]) w := by kernel_rfl
theorem Tryz.fcElemV (a p : Addr) (W : World) (ha : W.cell? a = some (.pointer (some p))) :
    (ReflectliteValue.method (ReflectliteValue.valueError "reflectlite.Value.Elem" 0) ReflectliteValue.elem #[.agg #[.pointer (some ⟨1, 80, none⟩), .pointer (some a), .int .u64 150]]).run Tryz.prog W
      = .ok (.agg #[.pointer (some ⟨1, 40, none⟩), .pointer (some p), .int .u64 386]) W := by
  rw [fc_rlm]
  simp only [Sem.run_bind, Tryz.fcPartsP, Result.andThen]
  simp [ReflectliteValue.elem, loadVar, isAgg, underlying, Tryz.underlying80, ha, Result.andThen, Tryz.fcElemOf, Tryz.fcMk]
theorem fc_rls (v x : Value) : ReflectliteValue.set #[v, x] = (do
    let (some (dst, a, fl), some (src, b, _)) := (← ReflectliteValue.parts v, ← ReflectliteValue.parts x)
      | unsupported (.noEntry "extern/(internal/reflectlite.Value).Set.zeroValue")
    if fl / ReflectliteValue.flagAddr % 2 == 0 then unsupported (.noEntry "extern/(internal/reflectlite.Value).Set.unaddressable")
    let val ← loadVar src b
    if ← Rtype.directlyAssignable dst src then storeVar dst a val
    else if ← Rtype.implements dst src then
      if (← Rtype.kind src) == 20 then
        match val with
        | .nilIface => unsupported (.noEntry "extern/reflectlite: a nil value of one interface type handed on as a value of another")
        | _ => storeVar dst a val
      else storeVar dst a (.iface src val)
    else panicString ("reflectlite.Set: value of type " ++ (← Rtype.spelt src) ++ " is not assignable to type " ++ (← Rtype.spelt dst))
    pure (.tuple #[])) := rfl
theorem Tryz.fcPartsA (a : Addr) (w : World) : (ReflectliteValue.parts (.agg #[.pointer (some ⟨1, 40, none⟩), .pointer (some a), .int .u64 386])).run Tryz.prog w = .ok (some (40, a, 386)) w := by kernel_rfl
theorem Tryz.fcPartsB (a : Addr) (w : World) : (ReflectliteValue.parts (.agg #[.pointer (some ⟨1, 40, none⟩), .pointer (some a), .int .u64 130])).run Tryz.prog w = .ok (some (40, a, 130)) w := by kernel_rfl
theorem Tryz.fcDirect (w : World) : (Rtype.directlyAssignable 40 40).run Tryz.prog w = .ok true w := by kernel_rfl
theorem Tryz.fcSet (ta b : Addr) (c : Int) (old : Value) (W : World) (hb : W.cell? b = some (.int .i64 c)) (ht : W.cell? ta = some old) (hf : W.frozen? ta = false) :
    (ReflectliteValue.set #[.agg #[.pointer (some ⟨1, 40, none⟩), .pointer (some ta), .int .u64 386], .agg #[.pointer (some ⟨1, 40, none⟩), .pointer (some b), .int .u64 130]]).run Tryz.prog W
      = .ok (.tuple #[]) (W.setCell ta (.int .i64 c)) := by
  rw [fc_rls]
  simp only [Sem.run_bind, Tryz.fcPartsA, Tryz.fcPartsB, Result.andThen]
  simp [ReflectliteValue.flagAddr, loadVar, isAgg, underlying, Tryz.underlying40, hb, Result.andThen, Tryz.fcDirect, storeVar, Value.cells, storeCells, Addr.add]
  rw [run_store Tryz.prog W ta _ _ (by rfl)]
  simp [ht, hf]
theorem Tryz.fcNoAs (v : Value) (xT : TypeId) (w : World) : (Instr.typeAssert (.iface 113 v) xT 154 true).run Tryz.prog w = .ok (.tuple #[.nilIface, .bool false]) w := run_typeAssert_lacksB Tryz.underlying154 (by kernel_rfl) (by kernel_rfl) v xT w
theorem Tryz.fcUnw (v : Value) (xT : TypeId) (w : World) : (Instr.typeAssert (.iface 113 v) xT 157 true).run Tryz.prog w = .ok (.tuple #[.iface 113 v, .bool true]) w := run_typeAssert_hasB Tryz.underlying157 (by kernel_rfl) v xT w
theorem Tryz.fcMUnw (v : Value) (w : World) : (Go.method 310 113 v "Unwrap").run Tryz.prog w = .ok (131, v) w := by kernel_rfl
theorem unwrap_any {b : Nat} {s u : Value} {w : World} (h : Blk w b 115 #[s, u]) : Calls Tryz.prog 131 #[.pointer (some ⟨b, 0, none⟩)] w fun e w' => e = .returned u ∧ w' = w := by
  have c1 : w.cell? ⟨b, 1, none⟩ = some u := h.cell 1
  go_enter Tryz.func131, Tryz.ntmps131
  go_wp2
  go_ret
  exact ⟨rfl, rfl⟩
set_option maxRecDepth 100000 in
set_option maxHeartbeats 6400000 in
theorem as66_any {w : World} {k : Nat} {v : Value} {c : Int} (hE : ErrV k w v c) (t a : Nat) (ht : Blk w t 40 #[.int .i64 0]) (ha : w.cell? ⟨a, 0, none⟩ = some (.pointer (some ⟨t, 0, none⟩))) :
    Calls Tryz.prog 66 #[v, .iface 80 (.pointer (some ⟨t, 0, none⟩)), .agg #[.pointer (some ⟨1, 80, none⟩), .pointer (some ⟨a, 0, none⟩), .int .u64 150], .iface 149 (.agg #[.pointer (some ⟨1, 40, none⟩)])] w fun e w' => e = .returned (.bool true) ∧ Blk w' t 40 #[.int .i64 c] ∧ Kp (fun b => b ≠ t) w w' := by
  have h93 := @run_callFunc_extern Tryz.prog 93 _ ReflectliteType.typeOf Tryz.func93 (by kernel_rfl) (by kernel_rfl) (by kernel_rfl) (by kernel_rfl)
  have h136 := @run_callFunc_extern Tryz.prog 136 _ (ReflectliteType.relation "AssignableTo" ReflectliteType.assignableTo) Tryz.func136 (by kernel_rfl) (by kernel_rfl) (by kernel_rfl) (by kernel_rfl)
  have h94 := @run_callFunc_extern Tryz.prog 94 _ (ReflectliteValue.method (ReflectliteValue.valueError "reflectlite.Value.Elem" 0) ReflectliteValue.elem) Tryz.func94 (by kernel_rfl) (by kernel_rfl) (by kernel_rfl) (by kernel_rfl)
  have h63 := @run_callFunc_extern Tryz.prog 63 _ (fun args => ReflectliteValue.unpack (args.getD 0 (.tuple #[]))) Tryz.func63 (by kernel_rfl) (by kernel_rfl) (by kernel_rfl) (by kernel_rfl)
  have h95 := @run_callFunc_extern Tryz.prog 95 _ ReflectliteValue.set Tryz.func95 (by kernel_rfl) (by kernel_rfl) (by kernel_rfl) (by kernel_rfl)
  have tE := Tryz.fcTypeE
  have tF := Tryz.fcTypeF
  have mA := Tryz.fcMAssign
  have aE := Tryz.fcAssignE
  have aF := Tryz.fcAssignF
  have vE := Tryz.fcValE
  have nA := Tryz.fcNoAs
  have uW := Tryz.fcUnw
  have mU := Tryz.fcMUnw
  have HE := Lib.hid hE
  have HT := Lib.hid ht
  have HA := Lib.hid ha
  have hlta := World.block_lt_of_cell? w _ ha
  obtain ⟨tv, uv, rfl⟩ := hE.form
  clear hE ht ha
  go_enter Tryz.func66, Tryz.ntmps66
  go_upto_region 1 with fail
  obtain ⟨gb, hgb⟩ : ∃ gb, gb = w.heap.size := ⟨_, rfl⟩
  refine name_world (fun w1 => Blk w1 gb 123 #[.pointer (some ⟨1, 80, none⟩), .pointer (some ⟨a, 0, none⟩), .int .u64 150] ∧ Below w.heap.size w w1) ⟨by rw [hgb]; exact Blk.new _ _ _, (Below.refl _ _).alloc (Nat.le_refl _) _⟩ ?_
  rintro w1 ⟨kb, hB1⟩
  rw [← hgb]
  have HGB := Lib.hid hgb
  clear hgb
  have HE1 := Lib.hid (HE.out.below hB1)
  have kt := HT.out.below hB1 HT.out.lt
  have ca : w1.cell? ⟨a, 0, none⟩ = some (.pointer (some ⟨t, 0, none⟩)) := (hB1.cell (p := ⟨a, 0, none⟩) hlta).trans HA.out
  go_loopw [0] (fun vv wr => ∃ j, Hid (ErrV j w1 vv c) ∧ wr = w1) (fun vv _ => depthV w1 c vv)
  case atStart => exact ⟨k, HE1, rfl⟩
  case round =>
    obtain ⟨j, HJ, hwr⟩ := hrel
    rw [hwr]
    clear hwr
    match j, HJ with
    | 0, HJ =>
      have hj : _ = _ := HJ.out
      subst hj
      have cb0 : w1.cell? ⟨gb, 0, none⟩ = some (.pointer (some ⟨1, 80, none⟩)) := kb.cell 0
      have cb1 : w1.cell? ⟨gb, 1, none⟩ = some (.pointer (some ⟨a, 0, none⟩)) := kb.cell 1
      have cb2 : w1.cell? ⟨gb, 2, none⟩ = some (.int .u64 150) := kb.cell 2
      have el := Tryz.fcElemV ⟨a, 0, none⟩ ⟨t, 0, none⟩ w1 ca
      have hal : Below w1.heap.size w1 (w1.alloc (.cells #[.int .i64 c] 40)) := (Below.refl _ _).alloc (Nat.le_refl _) _
      have kt2 := kt.below hal kt.lt
      have st := Tryz.fcSet ⟨t, 0, none⟩ ⟨w1.heap.size, 0, none⟩ c (.int .i64 0) (w1.alloc (.cells #[.int .i64 c] 40)) ((Blk.new w1 _ _).cell 0) (kt2.cell 0) (kt2.frozen 0)
      have hres : Blk ((w1.alloc (.cells #[.int .i64 c] 40)).setCell ⟨t, 0, none⟩ (.int .i64 c)) t 40 #[.int .i64 c] := kt2.set_ 0 _
      have hkp : Kp (fun b => b ≠ t) w ((w1.alloc (.cells #[.int .i64 c] 40)).setCell ⟨t, 0, none⟩ (.int .i64 c)) := ((Kp.of_below hB1).trans (.of_below hal)).setCell (p := ⟨t, 0, none⟩) (fun _ h => h rfl) _
      have HRES := Lib.hid (And.intro hres hkp)
      clear hres hkp kt2 hal
      go_wp2
      go_ret
      exact ⟨rfl, HRES.out⟩
    | j + 1, HJ =>
      obtain ⟨b, s, u, hv, kf, hu⟩ := HJ.out
      have hdp := depthV_eq HJ.out
      subst hv
      have hdu := depthV_eq hu
      have HU := Lib.hid hu
      have HUW := Lib.hid (unwrap_any kf)
      obtain ⟨tu, uu, rfl⟩ := hu.form
      have HDP := Lib.hid hdp
      have HDU := Lib.hid hdu
      clear kf hu hdp hdu HJ
      go_wp2_with fail
      refine HUW.out.mono ?_
      rintro e w2 ⟨rfl, rfl⟩
      go_wp2
      go_roundw
      case rel => exact ⟨j, HU, by first | rfl | trivial⟩
      case measure => rw [HDP.out, HDU.out]; omega
set_option maxRecDepth 100000 in
set_option maxHeartbeats 6400000 in
theorem asCode_any {w : World} {k : Nat} {v : Value} {c : Int} (hE : ErrV k w v c) (t : Nat) (ht : Blk w t 40 #[.int .i64 0]) (hg : w.cell? ⟨0, 0, none⟩ = some (.iface 149 (.agg #[.pointer (some ⟨1, 37, none⟩)]))) :
    Calls Tryz.prog 37 #[v, .iface 80 (.pointer (some ⟨t, 0, none⟩))] w fun e w' => e = .returned (.bool true) ∧ Blk w' t 40 #[.int .i64 c] ∧ Kp (fun b => b ≠ t) w w' := by
  have h63 := @run_callFunc_extern Tryz.prog 63 _ (fun args => ReflectliteValue.unpack (args.getD 0 (.tuple #[]))) Tryz.func63 (by kernel_rfl) (by kernel_rfl) (by kernel_rfl) (by kernel_rfl)
  have h64 := @run_callFunc_extern Tryz.prog 64 _ (ReflectliteValue.methodAny (ReflectliteValue.valueError "reflectlite.Value.Type" 0) (fun t _ _ _ => ReflectliteType.toType t)) Tryz.func64 (by kernel_rfl) (by kernel_rfl) (by kernel_rfl) (by kernel_rfl)
  have h65 := @run_callFunc_extern Tryz.prog 65 _ (ReflectliteValue.method (ReflectliteValue.valueError "reflectlite.Value.IsNil" 0) ReflectliteValue.isNil) Tryz.func65 (by kernel_rfl) (by kernel_rfl) (by kernel_rfl) (by kernel_rfl)
  have h124 := @run_callFunc_extern Tryz.prog 124 _ (ReflectliteType.abiMethod fun t => do pure (.int .u8 (← Rtype.kind t))) Tryz.func124 (by kernel_rfl) (by kernel_rfl) (by kernel_rfl) (by kernel_rfl)
  have h138 := @run_callFunc_extern Tryz.prog 138 _ (ReflectliteType.method ReflectliteType.elem) Tryz.func138 (by kernel_rfl) (by kernel_rfl) (by kernel_rfl) (by kernel_rfl)
  have h139 := @run_callFunc_extern Tryz.prog 139 _ (ReflectliteType.relation "Implements" ReflectliteType.implements_) Tryz.func139 (by kernel_rfl) (by kernel_rfl) (by kernel_rfl) (by kernel_rfl)
  have f6 := Tryz.fcVal
  have f7 := Tryz.fcType
  have mK := Tryz.fcMKind
  have mE := Tryz.fcMElem
  have mI := Tryz.fcMImpl
  have kP := Tryz.fcKindP
  have kE := Tryz.fcKindE
  have eP := Tryz.fcElem
  have iE := Tryz.fcImpl
  obtain ⟨W2, hW2⟩ : ∃ W2, W2 = ((w.alloc (.cells #[.pointer (some ⟨t, 0, none⟩)] 80)).alloc (.cells #[.pointer (some ⟨1, 80, none⟩), .pointer (some ⟨w.heap.size, 0, none⟩), .int .u64 150] 123)) := ⟨_, rfl⟩
  have hB2 : Below w.heap.size w W2 := by rw [hW2]; exact ((Below.refl _ _).alloc (Nat.le_refl _) _).alloc (by simp) _
  have hca : W2.cell? ⟨w.heap.size, 0, none⟩ = some (.pointer (some ⟨t, 0, none⟩)) := by rw [hW2]; exact ((Blk.new w _ _).alloc _).cell 0
  have n8 := Tryz.fcIsNil ⟨w.heap.size, 0, none⟩ ⟨t, 0, none⟩ W2 hca
  have hg2 : W2.cell? ⟨0, 0, none⟩ = some (.iface 149 (.agg #[.pointer (some ⟨1, 37, none⟩)])) := (hB2.cell (p := ⟨0, 0, none⟩) (World.block_lt_of_cell? w _ hg)).trans hg
  have HAS := Lib.hid (as66_any (hE.below hB2) t w.heap.size (ht.below hB2 ht.lt) hca)
  have HB2 := Lib.hid hB2
  obtain ⟨tv, uv, rfl⟩ := hE.form
  rw [hW2] at n8 hg2
  have HW2 := Lib.hid hW2
  clear hE ht hg hB2 hca hW2
  go_enter Tryz.func37, Tryz.ntmps37
  go_wp2_with fail
  rw [← HW2.out]
  refine HAS.out.mono ?_
  rintro e w3 ⟨rfl, hk3, hK3⟩
  have HR := Lib.hid (And.intro hk3 ((Kp.of_below (ok := fun b => b ≠ t) HB2.out).trans hK3))
  clear hk3 hK3
  go_wp2
  go_ret
  exact ⟨rfl, HR.out⟩
set_option maxRecDepth 100000 in
set_option maxHeartbeats 1600000 in
theorem code_err {w : World} {k : Nat} {v : Value} {c : Int} (hE : ErrV k w v c) (hg : w.cell? ⟨0, 0, none⟩ = some (.iface 149 (.agg #[.pointer (some ⟨1, 37, none⟩)]))) :
    Calls Tryz.prog 15 #[v] w fun e w' => e = .returned (.int .i64 c) ∧ Below w.heap.size w w' := by
  obtain ⟨t, ht⟩ : ∃ t, t = w.heap.size := ⟨_, rfl⟩
  have hal : Below w.heap.size w (w.alloc (.cells #[.int .i64 0] 40)) := (Below.refl _ _).alloc (Nat.le_refl _) _
  have HA := Lib.hid (asCode_any (hE.below hal) t (by rw [ht]; exact Blk.new _ _ _) ((hal.cell (p := ⟨0, 0, none⟩) (World.block_lt_of_cell? w _ hg)).trans hg))
  have HAL := Lib.hid hal
  have HT := Lib.hid ht
  obtain ⟨tv, uv, rfl⟩ := hE.form
  clear hE hg hal
  go_enter Tryz.func15, Tryz.ntmps15
  go_upto_region 4 with fail
  rw [← ht]
  clear ht
  go_wp2_with fail
  refine HA.out.mono ?_
  rintro e w3 ⟨rfl, hk3, hK3⟩
  have c0 : w3.cell? ⟨t, 0, none⟩ = some (.int .i64 c) := hk3.cell 0
  have HR := Lib.hid (show Below w.heap.size w w3 from HAL.out.trans (hK3.below (Nat.le_trans (Nat.le_refl _) HAL.out.size) fun b hb e => by have := HT.out; omega))
  clear hk3 hK3
  go_wp2
  go_ret
  exact ⟨rfl, HR.out⟩
theorem code_nil (w : World) : Calls Tryz.prog 15 #[.nilIface] w fun e w' => e = .returned (.int .i64 0) ∧ w' = w := by
  go_enter Tryz.func15, Tryz.ntmps15
  go_wp2
  go_ret
  exact ⟨rfl, rfl⟩
end Go.Proofs.YtnlhjhpikjmoaaaGreatDoor
namespace Go.Proofs.YtnlhjhpikjmoaaaGreatDoor
open Go.RowKit
theorem Tryz.infoU8 : (Tryz.prog.info? 5).map (fun i => (i.zero, i.size, i.bytes)) = some (some (.int .u8 0), 1, 1) := by kernel_rfl
def OwnB (base : Nat) (w : World) (A : Option Addr) (n c : Nat) (l : List UInt8) : Prop := w.ownsRow base 5 1 (.slice A n c) n (bs l)
theorem OwnB.nil_ (base : Nat) (w : World) : OwnB base w none 0 0 [] := World.ownsRow_nil _ _ _ _
theorem OwnB.alloc {base : Nat} {w : World} {A : Option Addr} {n c : Nat} {l : List UInt8} (h : OwnB base w A n c l) (o : Obj) : OwnB base (w.alloc o) A n c l := World.ownsRow.alloc h o
theorem OwnB.mono {base B : Nat} {w : World} {A : Option Addr} {n c : Nat} {l : List UInt8} (h : OwnB B w A n c l) (hb : base ≤ B) : OwnB base w A n c l := by
  refine ⟨h.1, ?_⟩
  rcases h.2 with h2 | ⟨g, cap, cur, hv, hg, r⟩
  · exact .inl h2
  · exact .inr ⟨g, cap, cur, hv, Nat.le_trans hb hg, r⟩
theorem OwnB.belowB {base : Nat} {w w' : World} {A : Option Addr} {n c : Nat} {l : List UInt8} (h : OwnB base w A n c l) (hb : Below w.heap.size w w') : OwnB base w' A n c l := by
  refine ⟨h.1, ?_⟩
  rcases h.2 with h2 | ⟨g, cap, cur, hv, hg, hh, r⟩
  · exact .inl h2
  · exact .inr ⟨g, cap, cur, hv, hg, (hb.block g (Array.getElem?_eq_some_iff.1 hh).1).trans hh, r⟩
theorem OwnB.len {base : Nat} {w : World} {A : Option Addr} {n c : Nat} {l : List UInt8} (h : OwnB base w A n c l) : l.length = n := by
  have := h.1; simpa using this
theorem OwnB.rd {base : Nat} {w : World} {A : Option Addr} {n c : Nat} {l : List UInt8} (h : OwnB base w A n c l) : Rd w 1 A n (bs l) := Rd.of_own h
theorem wp_append_bytes {ops : Array Oper} {rest : List Oper} {o : Oper} {a : Act} {Q : Exit → Act → World → Prop} (hgd : o.guard = none) (s x : Operand)
    (ho : o.op = .call { callee := .builtin .append, args := #[s, x], argTypes := #[25, 25] })
    (base : Nat) (A0 : Option Addr) (n c0 : Nat) (l : List UInt8) (w : World) (hs : a.eval s = .slice A0 n c0) (hown : OwnB base w A0 n c0 l)
    (A : Option Addr) (m c : Nat) (l2 : List UInt8) (hx : a.eval x = .slice A m c) (hr : Rd w 1 A m (bs l2)) (hlen : n + m ≤ 140737488355328) (hbase : base ≤ w.heap.size)
    (h : ∀ A' c' w', OwnB base w' A' (n + m) c' (l ++ l2) → Below base w w' → wpList Tryz.prog ops Q rest (a.put o.dst (.slice A' (n + m) c')) w') : wpList Tryz.prog ops Q (o :: rest) a w := by
  obtain ⟨i0, hi0, hz0, hz1, hz2⟩ := info_parts Tryz.infoU8
  refine wpList_append_rd w hgd s x _ ho base 5 i0 _ 1 1 Tryz.underlying25 hi0 hz0 hz1 hz2 rfl (by omega) A0 n c0 (bs l) hs hown A m c (bs l2) hx hr (bs_one l2) (by unfold maxLen; omega) (by omega) hbase fun A' c' w' h2 h3 => h A' c' w' ?_ h3
  unfold OwnB
  rw [bs_append]
  exact h2
theorem wp_append_byte {ops : Array Oper} {rest : List Oper} {o : Oper} {a : Act} {Q : Exit → Act → World → Prop} (hgd : o.guard = none) (s x : Operand)
    (ho : o.op = .call { callee := .builtin .append, args := #[s, x], argTypes := #[25, 25] })
    (base : Nat) (A0 : Option Addr) (n c0 : Nat) (l : List UInt8) (w : World) (X : Int) (b : UInt8) (hX : X = (b.toNat : Int)) (hs : a.eval s = .slice A0 n c0) (hown : OwnB base w A0 n c0 l)
    (hx : a.eval x = .slice (some ⟨w.heap.size, 0, none⟩) 1 1) (hlen : n + 1 ≤ 140737488355328) (hbase : base ≤ w.heap.size)
    (h : ∀ A' c' w', OwnB base w' A' (n + 1) c' (l ++ [b]) → Below base w w' → wpList Tryz.prog ops Q rest (a.put o.dst (.slice A' (n + 1) c')) w') : wpList Tryz.prog ops Q (o :: rest) a (w.alloc (.cells #[.int .u8 X] 5)) := by
  subst hX
  refine wp_append_bytes hgd s x ho base A0 n c0 l _ hs (hown.alloc _) _ 1 1 [b] hx (Rd.new w _ 1 1 _ rfl) hlen (by simp; omega) fun A' c' w' h2 h3 => h A' c' w' h2 (((Below.refl _ _).alloc hbase _).trans h3)
theorem OwnB.cap {base : Nat} {w : World} {A : Option Addr} {n c : Nat} {l : List UInt8} (h : OwnB base w A n c l) : n ≤ c := by
  obtain ⟨A', c', hv, hc, _⟩ := own_slice w h
  simp only [Value.slice.injEq] at hv
  obtain ⟨_, _, rfl⟩ := hv
  exact hc
end Go.Proofs.YtnlhjhpikjmoaaaGreatDoor
namespace Go.Proofs.YtnlhjhpikjmoaaaGreatDoor
open Go.RowKit
def I64 (i : Int) : Prop := -9223372036854775808 ≤ i ∧ i < 9223372036854775808
structure PairD where
  k : List UInt8
  v : List UInt8
  n : Int
def rPair : Rel PairD where
  sz := 3
  wt := 56
  rel ok w cs p := ∃ a b, cs = [a, b, .int .i64 p.n] ∧ RB ok w a p.k ∧ RB ok w b p.v ∧ I64 p.n
  len := by rintro ok w cs d ⟨a, b, rfl, _⟩; rfl
  one := by
    rintro ok w cs d ⟨a, b, rfl, h1, h2, _⟩ u hu
    simp at hu
    rcases hu with rfl | rfl | rfl
    · exact h1.one
    · exact h2.one
    · rfl
  kp := by
    rintro ok w w' cs d hk ⟨a, b, rfl, h1, h2, h3⟩
    exact ⟨a, b, rfl, h1.kp hk, h2.kp hk, h3⟩
  mono := by
    rintro ok ok' w cs d hm ⟨a, b, rfl, h1, h2, h3⟩
    exact ⟨a, b, rfl, h1.mono (by decide) hm, h2.mono (by decide) hm, h3⟩
end Go.Proofs.YtnlhjhpikjmoaaaGreatDoor
namespace Go.Proofs.YtnlhjhpikjmoaaaGreatDoor
open Go.RowKit
def rInt : Rel Int where
  sz := 1
  wt := 8
  rel _ _ cs i := cs = [.int .i64 i] ∧ I64 i
  len := by rintro ok w cs d ⟨rfl, _⟩; rfl
  one := by
    rintro ok w cs d ⟨rfl, _⟩ u hu
    simp at hu
    subst hu
    rfl
  kp := fun _ h => h
  mono := fun _ h => h
def rVal : Rel Val where
  sz := 3
  wt := 32
  rel _ _ cs x := cs = x.cs ∧ x.ok
  len := by rintro ok w cs d ⟨rfl, _⟩; rfl
  one := by
    rintro ok w cs d ⟨rfl, _⟩ u hu
    simp [Val.cs] at hu
    rcases hu with rfl | rfl | rfl <;> rfl
  kp := fun _ h => h
  mono := fun _ h => h
structure ColD where
  name : ByteArray
  kind : Int
  null : Bool
def rCol : Rel ColD where
  sz := 3
  wt := 32
  rel _ _ cs c := cs = [.string c.name, .int .i64 c.kind, .bool c.null] ∧ I64 c.kind ∧ c.name.size ≤ 9223372036854775807
  len := by rintro ok w cs d ⟨rfl, _⟩; rfl
  one := by
    rintro ok w cs d ⟨rfl, _⟩ u hu
    simp at hu
    rcases hu with rfl | rfl | rfl <;> rfl
  kp := fun _ h => h
  mono := fun _ h => h
theorem chunks_vals {ok : Nat → Prop} {w : World} : ∀ {css : List (List Value)} {l : List Val}, Chunks rVal ok w css l → css.flatten = vcs l ∧ okVals l
  | [], [], _ => ⟨rfl, fun x hx => by cases hx⟩
  | _ :: _, x :: l, h => by
    obtain ⟨h1, h2⟩ := chunks_vals h.2
    refine ⟨by rw [List.flatten_cons, h1, h.1.1]; rfl, fun y hy => ?_⟩
    rcases List.mem_cons.1 hy with rfl | hy
    · exact h.1.2
    · exact h2 y hy
  | [], _ :: _, h => h.elim
  | _ :: _, [], h => h.elim
theorem vals_chunks (ok : Nat → Prop) (w : World) : ∀ l : List Val, okVals l → Chunks rVal ok w (l.map Val.cs) l ∧ (l.map Val.cs).flatten = vcs l
  | [], _ => ⟨trivial, rfl⟩
  | x :: l, h => ⟨⟨⟨rfl, h x (by simp)⟩, (vals_chunks ok w l fun y hy => h y (by simp [hy])).1⟩, by rw [List.map_cons, List.flatten_cons, (vals_chunks ok w l fun y hy => h y (by simp [hy])).2]; rfl⟩
abbrev RV (ok : Nat → Prop) (w : World) (v : Value) (l : List Val) : Prop := RSl rVal ok w v l
section
variable {ok : Nat → Prop} {w : World}
theorem RV.open_ {v : Value} {l : List Val} (h : RV ok w v l) : ∃ A c, v = .slice A l.length c ∧ l.length ≤ c ∧ l.length ≤ 4398046510976 ∧ Rd w 3 A l.length (vcs l) ∧ okVals l ∧ (0 < l.length → ∀ a, A = some a → ok a.block) := by
  obtain ⟨A, n, c, css, rfl, hc, hn, hb, hr, hch, ho⟩ := h
  subst hn
  obtain ⟨h1, h2⟩ := chunks_vals hch
  rw [h1] at hr
  exact ⟨A, c, rfl, hc, by simp [rVal] at hb; omega, hr, h2, ho⟩
theorem RV.mk_ {A : Option Addr} {n c : Nat} {l : List Val} (hr : Rd w 3 A n (vcs l)) (hc : n ≤ c) (hb : n ≤ 4398046510976) (hk : okVals l) (ho : 0 < n → ∀ a, A = some a → ok a.block) : RV ok w (.slice A n c) l := by
  obtain ⟨h1, h2⟩ := vals_chunks ok w l hk
  have hn : l.length = n := by have := hr.1; rw [vcs_length] at this; omega
  refine ⟨A, n, c, _, rfl, hc, hn, by simp [rVal]; omega, ?_, h1, ho⟩
  rw [h2]
  exact hr
end
structure TabD where
  id : Int
  name : ByteArray
  cols : List ColD
  key : List Int
structure TabR (ok : Nat → Prop) (w : World) (a b : Value) (d : TabD) : Prop where
  cols : RSl rCol ok w a d.cols
  key : RSl rInt ok w b d.key
  id : I64 d.id
  nm : d.name.size ≤ 9223372036854775807
theorem TabR.below {ok : Nat → Prop} {w w' : World} {a b : Value} {d : TabD} (h : TabR ok w a b d) (hb : Below w.heap.size w w') : TabR ok w' a b d := ⟨h.cols.below hb, h.key.below hb, h.id, h.nm⟩
def at_ (row : List Val) (k : Int) : Option Val := if 0 ≤ k ∧ k < row.length then row[k.toNat]? else none
end Go.Proofs.YtnlhjhpikjmoaaaGreatDoor
namespace Go.Proofs.YtnlhjhpikjmoaaaGreatDoor
open Go.RowKit
section
variable {w w' : World} {g : Nat} {T : TypeId} {C : Array Value}
theorem Blk.range (h : Blk w g T C) : w.rangeAt g 0 C.toList := fun j v hv => by
  rw [Nat.zero_add, h.cell j]
  simpa using hv
theorem Blk.there (h : Blk w g T C) : w.there g 0 C.size := fun j hj => by
  rw [Nat.zero_add]
  exact ⟨by rw [h.cell j, Array.getElem?_eq_getElem hj]; rfl, h.frozen j⟩
theorem Blk.setCells_at : ∀ (vs : List Value) (o : Nat) {w : World} {C : Array Value}, Blk w g T C → Blk (w.setCells g o vs) g T ((List.range vs.length).foldl (fun a i => a.setIfInBounds (o + i) (vs.getD i undef)) C)
  | [], _, _, _, h => h
  | v :: r, o, w, C, h => by
    have := Blk.setCells_at r (o + 1) (h.set_ o v)
    rw [World.setCells, List.length_cons, List.range_succ_eq_map, List.foldl_cons, List.foldl_map]
    simpa [Nat.add_assoc, Nat.add_comm 1] using this
theorem foldl_set (vs : List Value) : ∀ (n : Nat) (C : Array Value), n ≤ vs.length → C.size = vs.length → ((List.range n).foldl (fun a i => a.setIfInBounds (0 + i) (vs.getD i undef)) C).toList = vs.take n ++ C.toList.drop n ∧ ((List.range n).foldl (fun a i => a.setIfInBounds (0 + i) (vs.getD i undef)) C).size = vs.length
  | 0, C, _, hs => by simp [hs]
  | n + 1, C, hn, hs => by
    obtain ⟨h1, h2⟩ := foldl_set vs n C (by omega) hs
    rw [List.range_succ, List.foldl_append, List.foldl_cons, List.foldl_nil]
    refine ⟨?_, by simpa using h2⟩
    rw [Array.toList_setIfInBounds, h1, Nat.zero_add]
    have hl : (vs.take n).length = n := by simp; omega
    have hd : C.toList.drop n = C.toList[n]'(by simp [hs]; omega) :: C.toList.drop (n + 1) := List.drop_eq_getElem_cons (by simp [hs]; omega)
    rw [hd, List.set_append_right _ _ (by omega), hl, Nat.sub_self, List.set_cons_zero, List.take_succ_eq_append_getElem (by omega), List.append_assoc]
    simp [List.getD, List.getElem?_eq_getElem (show n < vs.length by omega)]
theorem Blk.setCells (h : Blk w g T C) (cs : Array Value) (hs : C.size = cs.size) : Blk (w.setCells g 0 cs.toList) g T cs := by
  have h1 := h.setCells_at cs.toList 0
  obtain ⟨h2, _⟩ := foldl_set cs.toList cs.toList.length C (Nat.le_refl _) (by simpa using hs)
  have h3 : (List.range cs.toList.length).foldl (fun a i => a.setIfInBounds (0 + i) (cs.toList.getD i undef)) C = cs := by
    refine Array.ext' ?_
    rw [h2, List.take_length, List.drop_of_length_le (by simp [hs]), List.append_nil]
  rwa [h3] at h1
theorem Kp.setCells {ok : Nat → Prop} {a : World} {b : Nat} (hb : b < a.heap.size → ¬ ok b) : ∀ (vs : List Value) (o : Nat) {w : World}, Kp ok a w → Kp ok a (w.setCells b o vs)
  | [], _, _, h => h
  | v :: r, o, _, h => by rw [World.setCells]; exact Kp.setCells hb r (o + 1) (h.setCell (p := ⟨b, o, none⟩) hb v)
theorem below_setCells {B : Nat} {a : World} {b : Nat} (hb : B ≤ b) : ∀ (vs : List Value) (o : Nat) {w : World}, Below B a w → Below B a (w.setCells b o vs)
  | [], _, _, h => h
  | v :: r, o, _, h => by rw [World.setCells]; exact below_setCells hb r (o + 1) (h.setCell (p := ⟨b, o, none⟩) hb v)
@[simp] theorem size_setCells {b : Nat} : ∀ (vs : List Value) (o : Nat) {w : World}, (w.setCells b o vs).heap.size = w.heap.size
  | [], _, _ => rfl
  | v :: r, o, _ => by rw [World.setCells, size_setCells r (o + 1)]; simp
theorem Blk.loadAt {P : Program} {ty : TypeId} {d : TypeDesc} (h : Blk w g T C) (hu : P.underlying ty = some d) (hd : d.isRow = true) (hi : (P.info? ty).map (·.size) = some C.size) : (Instr.loadAt ty (.pointer (some ⟨g, 0, none⟩))).run P w = .ok (.agg C) w := by
  have := run_loadAt_mid (P := P) w g 0 ty C.toList d h.range hu hd (by simpa using hi)
  simpa using this
theorem Blk.loadVar {P : Program} {ty : TypeId} {d : TypeDesc} (h : Blk w g T C) (hu : P.underlying ty = some d) (hd : d.isRow = true) (hi : (P.info? ty).map (·.size) = some C.size) : (Go.loadVar ty ⟨g, 0, none⟩).run P w = .ok (.agg C) w := by
  have := run_loadVar_mid (P := P) w g 0 ty C.toList d h.range hu hd (by simpa using hi)
  simpa using this
variable {P : Program} {ops : Array Oper} {rest : List Oper} {o : Oper} {a : Act} {Q : Exit → Act → World → Prop}
theorem wpList_storeB (hgd : o.guard = none) {ty : TypeId} {x y : Operand} (ho : o.op = .store ty x y) (cs : Array Value) (hx : a.eval x = .pointer (some ⟨g, 0, none⟩)) (hy : a.eval y = .agg cs) (hk : Blk w g T C) (hs : C.size = cs.size) (hi : (P.info? ty).map (·.size) = some cs.size) (h1 : cs.all (·.oneCell') = true)
    (h : Blk (w.setCells g 0 cs.toList) g T cs → wpList P ops Q rest (a.put o.dst undef) (w.setCells g 0 cs.toList)) : wpList P ops Q (o :: rest) a w :=
  wpList_store_mid hgd ty x y ho g 0 cs hx hy (hs ▸ hk.there) hi h1 (h (hk.setCells cs hs))
end
theorem asAddr_ok {P : Program} (p : Addr) (w : World) : (asAddr (.pointer (some p))).run P w = .ok p w := rfl
structure CmdD where
  kind : Int
  n : Int
  flag : Bool
  key : List UInt8
  from_ : List UInt8
  upto : List UInt8
  pairs : List PairD
structure CmdR (ok : Nat → Prop) (w : World) (key fr ut pairs : Value) (d : CmdD) : Prop where
  key : RB ok w key d.key
  fr : RB ok w fr d.from_
  upto : RB ok w ut d.upto
  pairs : RSl rPair ok w pairs d.pairs
section
variable {ok ok' : Nat → Prop} {w w' : World} {key fr ut pairs : Value} {d : CmdD}
theorem CmdR.below (h : CmdR ok w key fr ut pairs d) (hb : Below w.heap.size w w') : CmdR ok w' key fr ut pairs d :=
  ⟨h.key.below hb, h.fr.below hb, h.upto.below hb, h.pairs.below hb⟩
theorem CmdR.kp (hk : Kp ok w w') (h : CmdR ok w key fr ut pairs d) : CmdR ok w' key fr ut pairs d := ⟨h.key.kp hk, h.fr.kp hk, h.upto.kp hk, h.pairs.kp hk⟩
theorem CmdR.mono (hm : ∀ b, ok b → b < w.heap.size → ok' b) (h : CmdR ok w key fr ut pairs d) : CmdR ok' w key fr ut pairs d := ⟨h.key.mono (by decide) hm, h.fr.mono (by decide) hm, h.upto.mono (by decide) hm, h.pairs.mono (by decide) hm⟩
end
end Go.Proofs.YtnlhjhpikjmoaaaGreatDoor
namespace Go.Proofs.YtnlhjhpikjmoaaaGreatDoor
open Go.RowKit
structure DskD where
  kept : List (List UInt8)
  wait : List (Nat × List UInt8)
  down : Bool
  armed : Nat
def DskD.hit (d : DskD) : DskD × Bool := if d.armed = 0 then (d, false) else ({ d with armed := d.armed - 1, down := decide (d.armed - 1 = 0) }, decide (d.armed - 1 = 0))
def showW (i : Nat) (s : List UInt8) (l : List (Nat × List UInt8)) : List UInt8 := l.foldl (fun s p => if p.1 = i then p.2 else s) s
def DskD.shown (d : DskD) (i : Nat) : List UInt8 := showW i (d.kept.getD i []) d.wait
def DskD.read (d : DskD) (i : Int) : List UInt8 × Int := if d.down = true then ([], 3) else if i < 0 ∨ (d.kept.length : Int) ≤ i then ([], 1) else (d.shown i.toNat, 0)
def DskD.write (d : DskD) (i : Int) (b : List UInt8) : DskD × Int :=
  if d.down = true then (d, 3) else if i < 0 ∨ (d.kept.length : Int) ≤ i ∨ b.length ≠ 64 then (d, 1) else
  (({ d with wait := d.wait ++ [(i.toNat, b)] } : DskD).hit.1, if ({ d with wait := d.wait ++ [(i.toNat, b)] } : DskD).hit.2 = true then 3 else 0)
def keepW (k : List (List UInt8)) (l : List (Nat × List UInt8)) : List (List UInt8) := l.foldl (fun k p => k.set p.1 p.2) k
def DskD.flush (d : DskD) : DskD × Int :=
  if d.down = true then (d, 3) else if d.hit.2 = true then (d.hit.1, 3) else ({ d.hit.1 with kept := keepW d.kept d.wait, wait := [] }, 0)
def newD (n : Nat) : DskD := ⟨List.replicate n (List.replicate 64 0), [], false, 0⟩
structure DskD.Ok (d : DskD) : Prop where
  kept : ∀ s ∈ d.kept, s.length = 64
  wait : ∀ p ∈ d.wait, p.1 < d.kept.length ∧ p.2.length = 64
theorem keepW_len : ∀ (l : List (Nat × List UInt8)) (k : List (List UInt8)), (keepW k l).length = k.length
  | [], k => rfl
  | p :: l, k => by
    show (keepW (k.set p.1 p.2) l).length = _
    rw [keepW_len l, List.length_set]
theorem keepW_64 : ∀ (l : List (Nat × List UInt8)) (k : List (List UInt8)), (∀ s ∈ k, s.length = 64) → (∀ p ∈ l, p.2.length = 64) → ∀ s ∈ keepW k l, s.length = 64
  | [], k, h, _ => h
  | p :: l, k, h, hl => keepW_64 l (k.set p.1 p.2) (fun s hs => (List.mem_or_eq_of_mem_set hs).elim (h s) fun e => e ▸ hl p (by simp)) fun q hq => hl q (List.mem_cons_of_mem _ hq)
theorem showW_64 (i : Nat) : ∀ (l : List (Nat × List UInt8)) (s : List UInt8), s.length = 64 → (∀ p ∈ l, p.2.length = 64) → (showW i s l).length = 64
  | [], s, h, _ => h
  | p :: l, s, h, hl => by
    show (showW i (if p.1 = i then p.2 else s) l).length = 64
    refine showW_64 i l _ ?_ fun q hq => hl q (List.mem_cons_of_mem _ hq)
    split
    · exact hl p (by simp)
    · exact h
theorem DskD.shown_64 {d : DskD} (h : d.Ok) {i : Nat} (hi : i < d.kept.length) : (d.shown i).length = 64 :=
  showW_64 i _ _ (by rw [List.getD_eq_getElem?_getD, List.getElem?_eq_getElem hi]; exact h.kept _ (List.getElem_mem _)) fun p hp => (h.wait p hp).2
end Go.Proofs.YtnlhjhpikjmoaaaGreatDoor
namespace Go.Proofs.YtnlhjhpikjmoaaaGreatDoor
open Go.RowKit
theorem bs_len (l : List UInt8) : (bs l).length = l.length := by simp [bs]
def rWt : Rel (Nat × List UInt8) where
  sz := 65
  wt := 72
  rel _ _ cs p := cs = .int .i64 (p.1 : Int) :: bs p.2 ∧ p.2.length = 64
  len := by rintro ok w cs d ⟨rfl, h⟩; rw [List.length_cons, bs_len, h]
  one := by
    rintro ok w cs d ⟨rfl, _⟩ u hu
    rcases List.mem_cons.1 hu with rfl | hu
    · rfl
    · exact bs_one _ u hu
  kp := fun _ h => h
  mono := fun _ h => h
def secCells : List (List UInt8) → List Value
  | [] => []
  | s :: k => bs s ++ secCells k
theorem secCells_len : ∀ (k : List (List UInt8)), (∀ s ∈ k, s.length = 64) → (secCells k).length = k.length * 64
  | [], _ => rfl
  | s :: k, h => by
    rw [secCells, List.length_append, bs_len, h s (by simp), secCells_len k fun t ht => h t (List.mem_cons_of_mem _ ht), List.length_cons]
    omega
theorem secCells_get : ∀ (k : List (List UInt8)), (∀ s ∈ k, s.length = 64) → ∀ (i : Nat) (hi : i < k.length) (j : Nat), j < 64 → (secCells k)[i * 64 + j]? = (bs k[i])[j]?
  | s :: k, h, 0, _, j, hj => by
    rw [secCells, Nat.zero_mul, Nat.zero_add, List.getElem?_append_left (by rw [bs_len, h s (by simp)]; exact hj)]
    rfl
  | s :: k, h, i + 1, hi, j, hj => by
    have h0 := h s (by simp)
    rw [secCells, List.getElem?_append_right (by rw [bs_len, h0]; omega), bs_len, h0, show (i + 1) * 64 + j - 64 = i * 64 + j by omega]
    exact secCells_get k (fun t ht => h t (List.mem_cons_of_mem _ ht)) i (by simpa using hi) j hj
theorem secCells_split : ∀ (k : List (List UInt8)) (i : Nat) (hi : i < k.length) (s : List UInt8), secCells (k.set i s) = secCells (k.take i) ++ bs s ++ secCells (k.drop (i + 1))
  | t :: k, 0, _, s => by simp [secCells]
  | t :: k, i + 1, hi, s => by
    rw [List.set_cons_succ, List.take_succ_cons, List.drop_succ_cons, secCells, secCells, secCells_split k i (by simpa using hi) s]
    simp
def DiskR (ft : Nat → Prop) (w : World) (g : Nat) (d : DskD) : Prop :=
  ∃ kb vw, Blk w g 91 #[.slice (some ⟨kb, 0, none⟩) d.kept.length d.kept.length, vw, .bool d.down, .int .i64 (d.armed : Int)] ∧ Blk w kb 93 (secCells d.kept).toArray ∧
    OwnL rWt (fun _ => False) 0 95 w vw d.wait ∧ kb ≠ g ∧ some g ≠ vw.ownBlock ∧ some kb ≠ vw.ownBlock ∧ ft g ∧ ft kb ∧ (∀ b, vw.ownBlock = some b → ft b) ∧ d.Ok ∧ 1 ≤ d.kept.length ∧ d.kept.length ≤ 65536 ∧ d.armed < 9223372036854775808 ∧ d.wait.length ≤ 1000000000
theorem DiskR.kp {ft ok : Nat → Prop} {w w' : World} {g : Nat} {d : DskD} (h : DiskR ft w g d) (hk : Kp ok w w') (hok : ∀ b, ft b → ok b) : DiskR ft w' g d := by
  obtain ⟨kb, vw, h1, h2, h3, h4, h5, h6, h7, h8, h9, h10⟩ := h
  exact ⟨kb, vw, h1.kp hk (hok _ h7), h2.kp hk (hok _ h8), h3.kp hk (fun _ h => h.elim) fun b hb => hok b (h9 b hb), h4, h5, h6, h7, h8, h9, h10⟩
theorem DiskR.below {ft : Nat → Prop} {w w' : World} {g : Nat} {d : DskD} (h : DiskR ft w g d) (hb : Below w.heap.size w w') : DiskR ft w' g d := h.kp (.of_below hb (ok := fun _ => True)) fun _ _ => trivial
theorem DiskR.mono {ft ft' : Nat → Prop} {w : World} {g : Nat} {d : DskD} (h : DiskR ft w g d) (hm : ∀ b, ft b → b < w.heap.size → ft' b) : DiskR ft' w g d := by
  obtain ⟨kb, vw, h1, h2, h3, h4, h5, h6, h7, h8, h9, h10⟩ := h
  exact ⟨kb, vw, h1, h2, h3, h4, h5, h6, hm _ h7 h1.lt, hm _ h8 h2.lt, fun b hb => hm b (h9 b hb) (h3.lt b hb).2, h10⟩
theorem DiskR.lt {ft : Nat → Prop} {w : World} {g : Nat} {d : DskD} (h : DiskR ft w g d) : g < w.heap.size := by
  obtain ⟨kb, vw, h1, _⟩ := h
  exact h1.lt
theorem DiskR.ft {ft : Nat → Prop} {w : World} {g : Nat} {d : DskD} (h : DiskR ft w g d) : ft g := by
  obtain ⟨kb, vw, h1, h2, h3, h4, h5, h6, h7, _⟩ := h
  exact h7
theorem DiskR.ok {ft : Nat → Prop} {w : World} {g : Nat} {d : DskD} (h : DiskR ft w g d) : d.Ok ∧ 1 ≤ d.kept.length ∧ d.kept.length ≤ 65536 ∧ d.armed < 9223372036854775808 ∧ d.wait.length ≤ 1000000000 := by
  obtain ⟨kb, vw, h1, h2, h3, h4, h5, h6, h7, h8, h9, h10⟩ := h
  exact h10
theorem dk_cells {w : World} {g : Nat} {T : TypeId} {a b c d : Value} (h : Blk w g T #[a, b, c, d]) : w.cell? ⟨g, 0, none⟩ = some a ∧ w.cell? ⟨g, 1, none⟩ = some b ∧ w.cell? ⟨g, 2, none⟩ = some c ∧ w.cell? ⟨g, 3, none⟩ = some d := ⟨h.cell 0, h.cell 1, h.cell 2, h.cell 3⟩
theorem sec_range {w : World} {kb : Nat} {T : TypeId} {k : List (List UInt8)} (h : Blk w kb T (secCells k).toArray) (hk : ∀ s ∈ k, s.length = 64) {i : Nat} (hi : i < k.length) : w.rangeAt kb (i * 64) (bs k[i]) := fun j v hv => by
  have hj : j < 64 := by
    have := (List.getElem?_eq_some_iff.1 hv).1
    rw [bs_len, hk _ (List.getElem_mem _)] at this
    exact this
  rw [h.cell (i * 64 + j), List.getElem?_toArray, secCells_get k hk i hi j hj]
  exact hv
end Go.Proofs.YtnlhjhpikjmoaaaGreatDoor
namespace Go.Proofs.YtnlhjhpikjmoaaaGreatDoor
open Go.RowKit Go.Extern.Stop Go.Stop Go.Extern
theorem Tryz.isTypeOf (v : Value) (w : World) : (Extern.ReflectliteType.typeOf #[.iface 40 v]).run Tryz.prog w = .ok (.iface 149 (.agg #[typeHandle Tryz.prog 40])) w := by kernel_rfl
theorem Tryz.isComparable (w : World) : (callFunc 137 #[.agg #[typeHandle Tryz.prog 40]]).run Tryz.prog w = .ok (.value (.bool true)) w := by
  rw [@run_callFunc_extern Tryz.prog 137 _ (Extern.ReflectliteType.method fun t => do Go.Extern.Rtype.noPackHeld "Comparable" t; pure (.bool (← typeInfo t).comparable)) Tryz.func137 (by kernel_rfl) (by kernel_rfl) (by kernel_rfl) (by kernel_rfl)]
  kernel_rfl
theorem Tryz.isMethodComparable (v : Value) (w : World) : (Go.method 310 149 v "Comparable").run Tryz.prog w = .ok (137, v) w := by kernel_rfl
theorem Tryz.isComp : (Tryz.prog.info? 40).map (·.comparable) = some true := by kernel_rfl
theorem Tryz.noIs (v : Value) (xT : TypeId) (w : World) : (Instr.typeAssert (.iface 40 v) xT 177 true).run Tryz.prog w = .ok (.tuple #[.nilIface, .bool false]) w := run_typeAssert_lacksB Tryz.underlying177 (by kernel_rfl) (by kernel_rfl) v xT w
theorem Tryz.noUnwrap (v : Value) (xT : TypeId) (w : World) : (Instr.typeAssert (.iface 40 v) xT 157 true).run Tryz.prog w = .ok (.tuple #[.nilIface, .bool false]) w := run_typeAssert_lacksB Tryz.underlying157 (by kernel_rfl) (by kernel_rfl) v xT w
theorem Tryz.noUnwraps (v : Value) (xT : TypeId) (w : World) : (Instr.typeAssert (.iface 40 v) xT 159 true).run Tryz.prog w = .ok (.tuple #[.nilIface, .bool false]) w := run_typeAssert_lacksB Tryz.underlying159 (by kernel_rfl) (by kernel_rfl) v xT w
set_option maxRecDepth 100000 in
set_option maxHeartbeats 3200000 in
theorem errIs_any (a b : Int) (w : World) :
    Calls Tryz.prog 92 #[.iface 40 (.int .i64 a), .iface 40 (.int .i64 b)] w fun e w' => e = .returned (.bool (a == b)) ∧ w' = w := by
  have h8 := @run_callFunc_extern Tryz.prog 93 _ Extern.ReflectliteType.typeOf Tryz.func93 (by kernel_rfl) (by kernel_rfl) (by kernel_rfl) (by kernel_rfl)
  have tT := Tryz.isTypeOf
  have cT := Tryz.isComparable
  have mR := Tryz.isMethodComparable
  have nE := Tryz.noIs
  have uE := Tryz.noUnwrap
  have vE := Tryz.noUnwraps
  have heq := Lib.run_eql_iface_int (P := Tryz.prog) w (k := .i64) a b Tryz.underlying37 Tryz.isComp Tryz.underlying40
  cases hab : (a == b) <;> rw [hab] at heq
  · go_enter Tryz.func92, Tryz.ntmps92
    go_wp2
    refine wp_loop_rounds 1 ?_
    rw [rounds_succ]
    go_wp2
    go_ret
    exact ⟨rfl, rfl⟩
  · go_enter Tryz.func92, Tryz.ntmps92
    go_wp2
    refine wp_loop_rounds 1 ?_
    rw [rounds_succ]
    go_wp2
    go_ret
    exact ⟨rfl, rfl⟩
theorem fine_any (a : Int) (w : World) : Calls Tryz.prog 76 #[.iface 40 (.int .i64 a)] w fun e w' => e = .returned (.bool (a == 0)) ∧ w' = w := by
  go_enter Tryz.func76, Tryz.ntmps76
  go_wp2_with fail
  refine (errIs_any a 0 _).mono ?_
  rintro e w1 ⟨rfl, rfl⟩
  go_wp2
  go_ret
  exact ⟨rfl, rfl⟩
section
variable {ft : Nat → Prop} {g : Nat} {d : DskD} {w : World}
theorem up_any (h : DiskR ft w g d) : Calls Tryz.prog 75 #[.pointer (some ⟨g, 0, none⟩)] w fun e w' => e = .returned (.int .i64 (if d.down = true then 3 else 0)) ∧ w' = w := by
  obtain ⟨kb, vw, hb, _⟩ := h
  obtain ⟨c0, c1, c2, c3⟩ := dk_cells hb
  cases hd : d.down <;> rw [hd] at c2
  · go_enter Tryz.func75, Tryz.ntmps75
    go_wp2
    go_ret
    exact ⟨rfl, rfl⟩
  · go_enter Tryz.func75, Tryz.ntmps75
    go_wp2
    go_ret
    exact ⟨rfl, rfl⟩
theorem dDown_any (h : DiskR ft w g d) : Calls Tryz.prog 25 #[.pointer (some ⟨g, 0, none⟩)] w fun e w' => e = .returned (.bool d.down) ∧ w' = w := by
  obtain ⟨kb, vw, hb, _⟩ := h
  obtain ⟨c0, c1, c2, c3⟩ := dk_cells hb
  go_enter Tryz.func25, Tryz.ntmps25
  go_wp2
  go_ret
  exact ⟨rfl, rfl⟩
theorem dSize_any (h : DiskR ft w g d) : Calls Tryz.prog 47 #[.pointer (some ⟨g, 0, none⟩)] w fun e w' => e = .returned (.int .i64 (d.kept.length : Int)) ∧ w' = w := by
  obtain ⟨kb, vw, hb, _⟩ := h
  obtain ⟨c0, c1, c2, c3⟩ := dk_cells hb
  go_enter Tryz.func47, Tryz.ntmps47
  go_wp2
  go_ret
  exact ⟨rfl, rfl⟩
theorem hit_any (h : DiskR ft w g d) : Calls Tryz.prog 101 #[.pointer (some ⟨g, 0, none⟩)] w fun e w' => e = .returned (.bool d.hit.2) ∧ DiskR ft w' g d.hit.1 ∧ Kp (fun b => b ≠ g) w w' := by
  obtain ⟨kb, vw, h1, h2, h3, h4, h5, h6, h7, h8, h9, h10, h11, h12, h13, h14⟩ := h
  obtain ⟨c0, c1, c2, c3⟩ := dk_cells h1
  have fg := fun i => h1.frozen i
  by_cases ha : d.armed = 0
  · have t : ((d.armed : Int) == 0) = true := by rw [ha]; rfl
    have hh : d.hit = (d, false) := by unfold DskD.hit; rw [if_pos ha]
    rw [hh]
    have hR : DiskR ft w g d := ⟨kb, vw, h1, h2, h3, h4, h5, h6, h7, h8, h9, h10, h11, h12, h13, h14⟩
    clear h1 h2 h3 h9 h10
    go_enter Tryz.func101, Tryz.ntmps101
    go_wp2
    go_ret
    exact ⟨rfl, hR, Kp.refl _ _⟩
  · have t : ((d.armed : Int) == 0) = false := by simpa using ha
    have t' : decide ((d.armed : Int) = 0) = false := decide_eq_false (by omega)
    obtain ⟨k, hk⟩ : ∃ k, d.armed = k + 1 := ⟨d.armed - 1, by omega⟩
    have e1 : (d.armed : Int) - 1 = (k : Int) := by omega
    have hh : d.hit = ({ d with armed := k, down := decide (k = 0) }, decide (k = 0)) := by unfold DskD.hit; rw [if_neg ha, hk]; rfl
    rw [hh]
    have hfin : ∀ b, b = decide (k = 0) → DiskR ft ((w.setCell ⟨g, 3, none⟩ (.int .i64 (k : Int))).setCell ⟨g, 2, none⟩ (.bool b)) g { d with armed := k, down := decide (k = 0) } := fun b hb => by
      subst hb
      have hbb : Blk ((w.setCell ⟨g, 3, none⟩ (.int .i64 (k : Int))).setCell ⟨g, 2, none⟩ (.bool (decide (k = 0)))) g 91 #[.slice (some ⟨kb, 0, none⟩) d.kept.length d.kept.length, vw, .bool (decide (k = 0)), .int .i64 (k : Int)] := by simpa using (h1.set_ 3 (.int .i64 (k : Int))).set_ 2 (.bool (decide (k = 0)))
      have hK : Kp (fun b => b ≠ g) w ((w.setCell ⟨g, 3, none⟩ (.int .i64 (k : Int))).setCell ⟨g, 2, none⟩ (.bool (decide (k = 0)))) := ((Kp.refl _ _).setCell (fun _ h => h rfl) _).setCell (fun _ h => h rfl) _
      exact ⟨kb, vw, hbb, h2.kp hK h4, h3.kp hK (fun _ h => h.elim) (fun b hb e => h5 (by rw [← e]; exact hb.symm)), h4, h5, h6, h7, h8, h9, ⟨h10.kept, h10.wait⟩, h11, h12, by show k < _; omega, h14⟩
    have hK : ∀ b, Kp (fun b => b ≠ g) w ((w.setCell ⟨g, 3, none⟩ (.int .i64 (k : Int))).setCell ⟨g, 2, none⟩ (.bool b)) := fun b => ((Kp.refl _ _).setCell (fun _ h => h rfl) _).setCell (fun _ h => h rfl) _
    have HF := Lib.hid hfin
    clear hfin h1 h2 h3 h9 h10 hk ha hh
    by_cases k0 : k = 0
    · subst k0
      have u : (((0 : Nat) : Int) == 0) = true := rfl
      go_enter Tryz.func101, Tryz.ntmps101
      go_wp2
      go_ret
      simp only [e1, u]
      exact ⟨rfl, HF.out _ rfl, hK _⟩
    · have u : ((k : Int) == 0) = false := by simpa using k0
      have u' : decide ((k : Int) = 0) = false := decide_eq_false (by omega)
      have u2 : decide (k = 0) = false := decide_eq_false k0
      rw [u2]
      go_enter Tryz.func101, Tryz.ntmps101
      go_wp2
      go_ret
      simp only [e1, u]
      exact ⟨rfl, by have := HF.out _ u2.symm; rw [u2] at this; exact this, hK _⟩
end
end Go.Proofs.YtnlhjhpikjmoaaaGreatDoor
namespace Go.Proofs.YtnlhjhpikjmoaaaGreatDoor
open Go.RowKit
theorem zipFold : ∀ (vs : List Value) (k off : Nat) (cs : Array Value), off + k + vs.length ≤ cs.size → ((vs.zipIdx k).foldl (fun (cs : Array Value) (p : Value × Nat) => cs.setIfInBounds (off + p.2) p.1) cs).toList = cs.toList.take (off + k) ++ vs ++ cs.toList.drop (off + k + vs.length)
  | [], k, off, cs, _ => by simp
  | v :: vs, k, off, cs, h => by
    have ih := zipFold vs (k + 1) off (cs.setIfInBounds (off + k) v) (by simp only [Array.size_setIfInBounds]; simp at h; omega)
    rw [List.zipIdx_cons, List.foldl_cons, ih, Array.toList_setIfInBounds]
    have hk : off + k < cs.toList.length := by simp at h ⊢; omega
    rw [show off + (k + 1) = (off + k) + 1 by omega, List.drop_set_of_lt (by omega), List.take_succ_eq_append_getElem (by simpa using hk), List.take_set_of_le (Nat.le_refl _), List.getElem_set_self]
    simp only [List.append_assoc, List.singleton_append, List.length_cons]
    rw [show off + k + 1 + vs.length = off + k + (vs.length + 1) by omega]
theorem fill_part (vs cs : Array Value) (off : Nat) (h : off + vs.size ≤ cs.size) : (vs.zipIdx.foldl (fun cs (p : Value × Nat) => cs.setIfInBounds (off + p.2) p.1) cs).toList = cs.toList.take off ++ vs.toList ++ cs.toList.drop (off + vs.size) := by
  have := zipFold vs.toList 0 off cs (by simpa using h)
  rw [← Array.foldl_toList, Array.toList_zipIdx]
  simpa using this
theorem Tryz.infoSec : (Tryz.prog.info? 93).map (fun i => (i.zero, i.size, i.bytes)) = some (some (.agg (Array.replicate 64 (.int .u8 0))), 64, 64) := by kernel_rfl
theorem zero_sectors : ∀ n : Nat, secCells (List.replicate n (List.replicate 64 0)) = List.replicate (n * 64) (.int .u8 0)
  | 0 => rfl
  | n + 1 => by
    rw [List.replicate_succ, secCells, zero_sectors n, show bs (List.replicate 64 0) = List.replicate 64 (.int .u8 0) by simp [bs], List.replicate_append_replicate]
    congr 1
    omega
theorem made_sectors (n : Nat) : madeCells (Array.replicate 64 (.int .u8 0)) (n * 64) = (secCells (List.replicate n (List.replicate 64 0))).toArray := by
  rw [zero_sectors]
  apply Array.ext
  · simp [madeCells]
  · intro i h1 h2
    simp only [madeCells, Array.getElem_map, Array.getElem_range, Array.size_replicate, List.getElem_toArray, List.getElem_replicate]
    rw [getElem!_pos _ _ (by simp; omega), Array.getElem_replicate]
theorem newD_ok (n : Nat) : (newD n).Ok := ⟨fun s hs => by
  have := List.eq_of_mem_replicate hs
  rw [this]; rfl, fun p hp => by cases hp⟩
set_option maxRecDepth 100000 in
theorem dNew_any (n : Nat) (h1 : 1 ≤ n) (h2 : n ≤ 65536) (w : World) : Calls Tryz.prog 18 #[.int .i64 (n : Int)] w fun e w' => (∃ g, e = .returned (.tuple #[.pointer (some ⟨g, 0, none⟩), .int .i64 0]) ∧ w.heap.size ≤ g ∧ DiskR (fun b => w.heap.size ≤ b) w' g (newD n)) ∧ Below w.heap.size w w' := by
  obtain ⟨i, hi, hz, hs, hb⟩ := info_parts Tryz.infoSec
  have hm := run_make (P := Tryz.prog) w 88 93 i _ Tryz.underlying88 hi hz .i64 .i64 (n : Int) (n : Int) (by omega) (Int.le_refl _) (by rw [hb]; omega) (by omega)
  have hm2 : (Instr.makeSlice 88 (.int .i64 (n : Int)) (.int .i64 (n : Int))).run Tryz.prog w = .ok (.slice (some ⟨w.heap.size, 0, none⟩) n n) (w.alloc (.cells (secCells (List.replicate n (List.replicate 64 0))).toArray 93)) := by
    rw [hm, hs]
    simp only [Int.toNat_natCast]
    rw [← made_sectors]
    rfl
  clear hm
  have t1 : decide ((n : Int) < 1) = false := decide_eq_false (by omega)
  have t2 : decide ((65536 : Int) < (n : Int)) = false := decide_eq_false (by omega)
  have t3 : decide ((n : Int) ≤ 0) = false := decide_eq_false (by omega)
  obtain ⟨C, hC⟩ : ∃ C, C = (secCells (List.replicate n (List.replicate 64 0))).toArray := ⟨_, rfl⟩
  rw [← hC] at hm2
  have HC := Lib.hid hC
  clear hC hi hz hs hb
  go_enter Tryz.func18, Tryz.ntmps18
  go_wp2
  go_ret2
  have hal : Below w.heap.size w ((w.alloc (.cells C 93)).alloc (.cells #[.slice (some ⟨w.heap.size, 0, none⟩) n n, .slice none 0 0, .bool false, .int .i64 0] 91)) := ((Below.refl _ _).alloc (Nat.le_refl _) _).alloc (by simp) _
  refine ⟨⟨w.heap.size + 1, rfl, by omega, w.heap.size, .slice none 0 0, ?_, ?_, OwnL.nil_ _ _ _ _ _, by omega, by simp [Value.ownBlock], by simp [Value.ownBlock], by omega, Nat.le_refl _, (fun b hb => by cases hb), newD_ok n, ?_⟩, hal⟩
  · have : Blk ((w.alloc (.cells C 93)).alloc (.cells #[.slice (some ⟨w.heap.size, 0, none⟩) n n, .slice none 0 0, .bool false, .int .i64 0] 91)) (w.heap.size + 1) 91 #[.slice (some ⟨w.heap.size, 0, none⟩) n n, .slice none 0 0, .bool false, .int .i64 0] := Blk.new_ (by simp)
    simpa [newD] using this
  · have : Blk ((w.alloc (.cells C 93)).alloc (.cells #[.slice (some ⟨w.heap.size, 0, none⟩) n n, .slice none 0 0, .bool false, .int .i64 0] 91)) w.heap.size 93 C := (Blk.new w _ _).alloc _
    rw [HC.out] at this ⊢
    exact this
  · simp [newD]
    omega
end Go.Proofs.YtnlhjhpikjmoaaaGreatDoor
namespace Go.Proofs.YtnlhjhpikjmoaaaGreatDoor
open Go.RowKit
theorem fill_two (p : Nat → Option (Nat × Nat)) (Z : Array Value) (v0 v1 : Value) (a b : Nat) (h0 : p 0 = some (0, a)) (h1 : p 1 = some (a, b)) (s0 : v0.cells.size = a) (s1 : v1.cells.size = b) (hZ : Z.size = a + b) :
    Instr.fill p Z [(0, v0), (1, v1)] = some (v0.cells ++ v1.cells) := by
  unfold Instr.fill
  simp only [h0]
  have c0 : (v0.cells.size != a || decide (0 + v0.cells.size > Z.size)) = false := by simp [s0]; omega
  rw [if_neg (by simp [s0]; omega)]
  unfold Instr.fill
  simp only [h1]
  have hz1 : (v0.cells.zipIdx.foldl (fun cs (p : Value × Nat) => cs.setIfInBounds (0 + p.2) p.1) Z).size = a + b := by
    rw [← Array.length_toList, fill_part _ _ _ (by omega)]
    simp
    omega
  have hz2 : (v0.cells.zipIdx.foldl (fun cs (p : Value × Nat) => cs.setIfInBounds (0 + p.2) p.1) Z).toList = v0.cells.toList ++ Z.toList.drop a := by
    rw [fill_part _ _ _ (by omega)]
    simp [s0]
  rw [if_neg (by rw [hz1]; simp [s1])]
  unfold Instr.fill
  congr 1
  apply Array.ext'
  rw [fill_part _ _ _ (by rw [hz1]; omega), hz2]
  simp [s0, s1]
  omega
theorem fill_one (p : Nat → Option (Nat × Nat)) (Z : Array Value) (v0 : Value) (a : Nat) (h0 : p 0 = some (0, a)) (s0 : v0.cells.size = a) (hZ : Z.size = a) : Instr.fill p Z [(0, v0)] = some v0.cells := by
  unfold Instr.fill
  simp only [h0]
  rw [if_neg (by simp [s0]; omega)]
  unfold Instr.fill
  congr 1
  apply Array.ext'
  rw [fill_part _ _ _ (by omega)]
  simp [s0]
  omega
theorem Tryz.zeroWt (w : World) : (zeroValue 95).run Tryz.prog w = .ok (.agg (Array.replicate 65 undef |>.mapIdx fun i _ => if i = 0 then .int .i64 0 else .int .u8 0)) w := by kernel_rfl
theorem zWt_size : (Value.agg (Array.replicate 65 undef |>.mapIdx fun i _ => if i = 0 then .int .i64 0 else .int .u8 0)).cells.size = 65 := by simp [Value.cells]
theorem build_write (n : Int) (C : Array Value) (hC : C.size = 64) (w : World) : (Instr.build 95 #[(0, .int .i64 n), (1, .agg C)]).run Tryz.prog w = .ok (.agg (#[.int .i64 n] ++ C)) w := by
  unfold Instr.build
  simp only [Sem.run_bind, Tryz.zeroWt, Result.andThen_ok, run_underlying Tryz.underlying95]
  rw [show (Array.mapM (fun (f : Field) => (do let x ← sizeOf f.type; pure (f.offset, x) : Sem (Nat × Nat))) #[{ name := "at", type := 3, offset := 0, embedded := false, tag := "", pkgPath := "armoire/disk", byteOffset := 0 }, { name := "s", type := 93, offset := 1, embedded := false, tag := "", pkgPath := "armoire/disk", byteOffset := 8 }]).run Tryz.prog w = .ok #[(0, 1), (1, 64)] w by kernel_rfl]
  simp only [Result.andThen_ok]
  rw [fill_two _ _ (.int .i64 n) (.agg C) 1 64 rfl rfl rfl hC zWt_size]
  rfl
theorem Tryz.infoWt : (Tryz.prog.info? 95).map (fun i => (i.zero, i.size, i.bytes)) = some (some (.agg (Array.replicate 65 undef |>.mapIdx fun i _ => if i = 0 then .int .i64 0 else .int .u8 0)), 65, 72) := by kernel_rfl
theorem slice_write (C : Array Value) (hC : C.size = 65) (w : World) : (Instr.buildSlice 89 1 #[(0, .agg C)]).run Tryz.prog w = .ok (.slice (some ⟨w.heap.size, 0, none⟩) 1 1) (w.alloc (.cells C 95)) := by
  obtain ⟨i, hi, hz, hs, hb⟩ := info_parts Tryz.infoWt
  refine run_buildSlice w _ _ 1 _ C i _ Tryz.underlying89 hi hz (by rw [hs]; decide) (by rw [hs]; decide) ?_
  rw [hs]
  refine (fill_one _ _ (.agg C) 65 (by simp) hC (by simp)).trans rfl
end Go.Proofs.YtnlhjhpikjmoaaaGreatDoor
