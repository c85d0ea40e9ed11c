/- errors.As at a target that is a struct of one whole number. -/
import Derived.Test.YtpcekfimhnojnaaGreatDoorTab
import Derived.Test.YtpcekfimhnojnaaGreatDoorSXAS
import Derived.WalkKit
import Derived.LaidEql
import Derived.Stop.Asserts
import Derived.Stop.IfaceNil
import Derived.RowKitTokens
namespace Go.Proofs.YtpcekfimhnojnaaGreatDoor
open Go.RowKit Go.Extern.Stop Go.Stop Go.Extern

theorem AsR.valueOfP (t : Addr) (w : World) : (ReflectliteValue.unpack (.iface 306 (.pointer (some t)))).run Tryz.prog w
    = .ok (.agg #[.pointer (some ⟨4, 306, none⟩), .pointer (some ⟨w.heap.size, 0, none⟩), .int .u64 150]) (w.alloc (.cells #[.pointer (some t)] 306)) := by kernel_rfl
theorem AsR.typeP (a : Addr) (w : World) : (ReflectliteValue.methodAny (ReflectliteValue.valueError "reflectlite.Value.Type" 0) (fun t _ _ _ => ReflectliteType.toType t) #[.agg #[.pointer (some ⟨4, 306, none⟩), .pointer (some a), .int .u64 150]]).run Tryz.prog w
    = .ok (.iface 442 (.agg #[.pointer (some ⟨4, 306, none⟩)])) w := by kernel_rfl
theorem AsR.methodKind (h : Value) (w : World) : (Go.method 626 442 (.agg #[h]) "Kind").run Tryz.prog w = .ok (415, h) w := by kernel_rfl
theorem AsR.kindP (w : World) : ((ReflectliteType.abiMethod fun t => (fun a : Nat => Value.int IntKind.u8 (a : Int)) <$> Rtype.kind t) #[.pointer (some ⟨4, 306, none⟩)]).run Tryz.prog w = .ok (.int .u8 22) w := by kernel_rfl
theorem AsR.kindT (w : World) : ((ReflectliteType.abiMethod fun t => (fun a : Nat => Value.int IntKind.u8 (a : Int)) <$> Rtype.kind t) #[.pointer (some ⟨4, 302, none⟩)]).run Tryz.prog w = .ok (.int .u8 25) w := by kernel_rfl
theorem AsR.rlm (z : Sem Value) (f : TypeId → Addr → Nat → Nat → Sem Value) (v : Value) :
    ReflectliteValue.method z f #[v] = (do match ← ReflectliteValue.parts v with | none => z | some (t, a, fl) => f t a fl (fl % 32)) := rfl
theorem AsR.partsP (a : Addr) (w : World) : (ReflectliteValue.parts (.agg #[.pointer (some ⟨4, 306, none⟩), .pointer (some a), .int .u64 150])).run Tryz.prog w = .ok (some (306, a, 150)) w := by kernel_rfl
theorem AsR.isNilP (a p : Addr) (W : World) (ha : W.cell? a = some (.pointer (some p))) :
    (ReflectliteValue.method (ReflectliteValue.valueError "reflectlite.Value.IsNil" 0) ReflectliteValue.isNil #[.agg #[.pointer (some ⟨4, 306, none⟩), .pointer (some a), .int .u64 150]]).run Tryz.prog W = .ok (.bool false) W := by
  rw [AsR.rlm]
  simp only [Sem.run_bind, AsR.partsP, Result.andThen]
  simp [ReflectliteValue.isNil, loadVar, isAgg, underlying, Tryz.underlying306, ha, Result.andThen]
theorem AsR.methodElem (h : Value) (w : World) : (Go.method 626 442 (.agg #[h]) "Elem").run Tryz.prog w = .ok (433, .agg #[h]) w := by kernel_rfl
theorem AsR.methodImplements (h : Value) (w : World) : (Go.method 626 442 (.agg #[h]) "Implements").run Tryz.prog w = .ok (434, .agg #[h]) w := by kernel_rfl
theorem AsR.methodAssignableTo (h : Value) (w : World) : (Go.method 626 442 (.agg #[h]) "AssignableTo").run Tryz.prog w = .ok (431, .agg #[h]) w := by kernel_rfl
theorem AsR.elemP (w : World) : (ReflectliteType.method ReflectliteType.elem #[.agg #[.pointer (some ⟨4, 306, none⟩)]]).run Tryz.prog w = .ok (.iface 442 (.agg #[.pointer (some ⟨4, 302, none⟩)])) w := by kernel_rfl
theorem AsR.implementsT (w : World) : (ReflectliteType.relation "Implements" ReflectliteType.implements_ #[.agg #[.pointer (some ⟨4, 302, none⟩)], .iface 442 (.agg #[.pointer (some ⟨4, 288, none⟩)])]).run Tryz.prog w = .ok (.bool true) w := by kernel_rfl
theorem AsR.typeOfT (v : Value) (w : World) : (ReflectliteType.typeOf #[.iface 302 v]).run Tryz.prog w = .ok (.iface 442 (.agg #[.pointer (some ⟨4, 302, none⟩)])) w := by kernel_rfl
theorem AsR.assignableT (w : World) : (ReflectliteType.relation "AssignableTo" ReflectliteType.assignableTo #[.agg #[.pointer (some ⟨4, 302, none⟩)], .iface 442 (.agg #[.pointer (some ⟨4, 302, none⟩)])]).run Tryz.prog w = .ok (.bool true) w := by kernel_rfl
theorem AsR.valueOfT (k : IntKind) (n : Int) (w : World) : (ReflectliteValue.unpack (.iface 302 (.agg #[.int k n]))).run Tryz.prog w
    = .ok (.agg #[.pointer (some ⟨4, 302, none⟩), .pointer (some ⟨w.heap.size, 0, none⟩), .int .u64 153]) (w.alloc (.cells #[.int k n] 302)) := by kernel_rfl
theorem AsR.elemOfP (w : World) : (Rtype.elem? 306).run Tryz.prog w = .ok (some 302) w := by kernel_rfl
theorem AsR.mkT (p : Addr) (w : World) : (ReflectliteValue.mk 302 p ReflectliteValue.flagAddr).run Tryz.prog w = .ok (.agg #[.pointer (some ⟨4, 302, none⟩), .pointer (some p), .int .u64 409]) w := by kernel_rfl
theorem AsR.elemVP (a p : Addr) (W : World) (ha : W.cell? a = some (.pointer (some p))) :
    (ReflectliteValue.method (ReflectliteValue.valueError "reflectlite.Value.Elem" 0) ReflectliteValue.elem #[.agg #[.pointer (some ⟨4, 306, none⟩), .pointer (some a), .int .u64 150]]).run Tryz.prog W
      = .ok (.agg #[.pointer (some ⟨4, 302, none⟩), .pointer (some p), .int .u64 409]) W := by
  rw [AsR.rlm]
  simp only [Sem.run_bind, AsR.partsP, Result.andThen]
  simp [ReflectliteValue.elem, loadVar, isAgg, underlying, Tryz.underlying306, ha, Result.andThen, AsR.elemOfP, AsR.mkT]
theorem AsR.rls (v x : Value) : ReflectliteValue.set #[v, x] = (do
    let (some (dst, a, fl), some (src, b, _)) := (← ReflectliteValue.parts v, ← ReflectliteValue.parts x)
      | unsupported (.noEntry "extern/(internal/reflectlite.Value).Set.zeroValue")
    if fl / ReflectliteValue.flagAddr % 2 == 0 then unsupported (.noEntry "extern/(internal/reflectlite.Value).Set.unaddressable")
    let val ← loadVar src b
    if ← Rtype.directlyAssignable dst src then storeVar dst a val
    else if ← Rtype.implements dst src then
      if (← Rtype.kind src) == 20 then
        match val with
        | .nilIface => unsupported (.noEntry "extern/reflectlite: a nil value of one interface type handed on as a value of another")
        | _ => storeVar dst a val
      else storeVar dst a (.iface src val)
    else panicString ("reflectlite.Set: value of type " ++ (← Rtype.spelt src) ++ " is not assignable to type " ++ (← Rtype.spelt dst))
    pure (.tuple #[])) := rfl
theorem AsR.partsTa (a : Addr) (w : World) : (ReflectliteValue.parts (.agg #[.pointer (some ⟨4, 302, none⟩), .pointer (some a), .int .u64 409])).run Tryz.prog w = .ok (some (302, a, 409)) w := by kernel_rfl
theorem AsR.partsT (a : Addr) (w : World) : (ReflectliteValue.parts (.agg #[.pointer (some ⟨4, 302, none⟩), .pointer (some a), .int .u64 153])).run Tryz.prog w = .ok (some (302, a, 153)) w := by kernel_rfl
theorem AsR.directT (w : World) : (Rtype.directlyAssignable 302 302).run Tryz.prog w = .ok true w := by kernel_rfl
theorem AsR.sizeT (w : World) : (sizeOf 302).run Tryz.prog w = .ok 1 w := by kernel_rfl
theorem AsR.loadT (b : Addr) (x : Value) (W : World) (hb : W.cell? b = some x) : (loadVar 302 b).run Tryz.prog W = .ok (.agg #[x]) W := by
  simp [loadVar, isAgg, underlying, Tryz.underlying302, Result.andThen, AsR.sizeT, loadCells, loadCellsFrom, Addr.add, hb]
theorem AsR.setT (ta b : Addr) (k : IntKind) (n : Int) (old : Value) (W : World) (hb : W.cell? b = some (.int k n)) (ht : W.cell? ta = some old) (hf : W.frozen? ta = false) :
    (ReflectliteValue.set #[.agg #[.pointer (some ⟨4, 302, none⟩), .pointer (some ta), .int .u64 409], .agg #[.pointer (some ⟨4, 302, none⟩), .pointer (some b), .int .u64 153]]).run Tryz.prog W
      = .ok (.tuple #[]) (W.setCell ta (.int k n)) := by
  rw [AsR.rls]
  simp only [Sem.run_bind, AsR.partsTa, AsR.partsT, Result.andThen]
  simp [ReflectliteValue.flagAddr, AsR.loadT b _ W hb, Result.andThen, AsR.directT, storeVar, Value.cells, storeCells, Addr.add]
  rw [run_store Tryz.prog W ta _ _ (by rfl)]
  simp [ht, hf]

/-- The world behind errors.As's own copies. -/
noncomputable def AsR.W2 (t : Addr) (w : World) : World := ((w.alloc (.cells #[.pointer (some t)] 306)).alloc (.cells #[.pointer (some ⟨4, 306, none⟩), .pointer (some ⟨w.heap.size, 0, none⟩), .int .u64 150] 391)).alloc (.cells #[.pointer (some ⟨4, 306, none⟩), .pointer (some ⟨w.heap.size, 0, none⟩), .int .u64 150] 391)

set_option maxRecDepth 100000 in
set_option maxHeartbeats 4000000 in
theorem AsR.as_hit (k : IntKind) (n : Int) (t : Addr) (old : Value) (w : World) (hg : w.cell? ⟨0, 0, none⟩ = some (.iface 442 (.agg #[.pointer (some ⟨4, 288, none⟩)]))) (ht0 : w.cell? t = some old) (hf0 : w.frozen? t = false) :
    Calls Tryz.prog 196 #[.iface 302 (.agg #[.int k n]), .iface 306 (.pointer (some t))] w fun ev w' => ev = .returned (.bool true) ∧ w' = ((AsR.W2 t w).alloc (.cells #[.int k n] 302)).setCell t (.int k n) := by
  unfold AsR.W2
  have hO := @run_callFunc_extern Tryz.prog 296 _ ReflectliteType.typeOf Tryz.func296 (by kernel_rfl) (by kernel_rfl) (by kernel_rfl) (by kernel_rfl)
  have hA := @run_callFunc_extern Tryz.prog 431 _ (ReflectliteType.relation "AssignableTo" ReflectliteType.assignableTo) Tryz.func431 (by kernel_rfl) (by kernel_rfl) (by kernel_rfl) (by kernel_rfl)
  have hV := @run_callFunc_extern Tryz.prog 298 _ (fun args => ReflectliteValue.unpack (args.getD 0 (.tuple #[]))) Tryz.func298 (by kernel_rfl) (by kernel_rfl) (by kernel_rfl) (by kernel_rfl)
  have hT := @run_callFunc_extern Tryz.prog 299 _ (ReflectliteValue.methodAny (ReflectliteValue.valueError "reflectlite.Value.Type" 0) (fun t _ _ _ => ReflectliteType.toType t)) Tryz.func299 (by kernel_rfl) (by kernel_rfl) (by kernel_rfl) (by kernel_rfl)
  have hN := @run_callFunc_extern Tryz.prog 300 _ (ReflectliteValue.method (ReflectliteValue.valueError "reflectlite.Value.IsNil" 0) ReflectliteValue.isNil) Tryz.func300 (by kernel_rfl) (by kernel_rfl) (by kernel_rfl) (by kernel_rfl)
  have hK := @run_callFunc_extern Tryz.prog 415 _ (ReflectliteType.abiMethod fun t => do pure (.int .u8 (← Rtype.kind t))) Tryz.func415 (by kernel_rfl) (by kernel_rfl) (by kernel_rfl) (by kernel_rfl)
  have hE := @run_callFunc_extern Tryz.prog 433 _ (ReflectliteType.method ReflectliteType.elem) Tryz.func433 (by kernel_rfl) (by kernel_rfl) (by kernel_rfl) (by kernel_rfl)
  have hI := @run_callFunc_extern Tryz.prog 434 _ (ReflectliteType.relation "Implements" ReflectliteType.implements_) Tryz.func434 (by kernel_rfl) (by kernel_rfl) (by kernel_rfl) (by kernel_rfl)
  have vP := AsR.valueOfP
  have tP := AsR.typeP
  have mK := AsR.methodKind
  have mE := AsR.methodElem
  have mI := AsR.methodImplements
  have mA := AsR.methodAssignableTo
  have kP := AsR.kindP
  have kT := AsR.kindT
  have eP := AsR.elemP
  have iT := AsR.implementsT
  have nP := AsR.isNilP ⟨w.heap.size, 0, none⟩ t ((w.alloc (.cells #[.pointer (some t)] 306)).alloc (.cells #[.pointer (some ⟨4, 306, none⟩), .pointer (some ⟨w.heap.size, 0, none⟩), .int .u64 150] 391)) (by simp)
  have hlt : 0 < w.heap.size := by
    rcases Nat.lt_or_ge 0 w.heap.size with h | h
    · exact h
    · simp [World.cell?, Array.getElem?_eq_none h] at hg
  have hg2 : ((w.alloc (.cells #[.pointer (some t)] 306)).alloc (.cells #[.pointer (some ⟨4, 306, none⟩), .pointer (some ⟨w.heap.size, 0, none⟩), .int .u64 150] 391)).cell? ⟨0, 0, none⟩ = some (.iface 442 (.agg #[.pointer (some ⟨4, 288, none⟩)])) := by
    rw [World.cell?_alloc_lt _ _ ⟨0, 0, none⟩ (by first | (simp; done) | (simp; omega)), World.cell?_alloc_lt _ _ ⟨0, 0, none⟩ hlt]; exact hg
  have hnil2 := fun w' => run_eql_iface_nil (P := Tryz.prog) (w := w') 20 (by kernel_rfl) 306 (.pointer (some t))
  have hnil := fun w' => run_eql_iface_nil (P := Tryz.prog) (w := w') 288 (by kernel_rfl) 302 (.agg #[.int k n])
  have hEl := @run_callFunc_extern Tryz.prog 351 _ (ReflectliteValue.method (ReflectliteValue.valueError "reflectlite.Value.Elem" 0) ReflectliteValue.elem) Tryz.func351 (by kernel_rfl) (by kernel_rfl) (by kernel_rfl) (by kernel_rfl)
  have hS := @run_callFunc_extern Tryz.prog 352 _ ReflectliteValue.set Tryz.func352 (by kernel_rfl) (by kernel_rfl) (by kernel_rfl) (by kernel_rfl)
  have tO := AsR.typeOfT
  have aT := AsR.assignableT
  have vT := AsR.valueOfT
  have htl : t.block < w.heap.size := by
    rcases Nat.lt_or_ge t.block w.heap.size with h | h
    · exact h
    · simp [World.cell?, Array.getElem?_eq_none h] at ht0
  have el := AsR.elemVP ⟨w.heap.size, 0, none⟩ t (((w.alloc (.cells #[.pointer (some t)] 306)).alloc (.cells #[.pointer (some ⟨4, 306, none⟩), .pointer (some ⟨w.heap.size, 0, none⟩), .int .u64 150] 391)).alloc (.cells #[.pointer (some ⟨4, 306, none⟩), .pointer (some ⟨w.heap.size, 0, none⟩), .int .u64 150] 391)) (by rw [World.cell?_alloc_lt _ _ ⟨w.heap.size, 0, none⟩ (by simp; omega)]; simp)
  have st := AsR.setT t ⟨w.heap.size + 1 + 1 + 1, 0, none⟩ k n old ((((w.alloc (.cells #[.pointer (some t)] 306)).alloc (.cells #[.pointer (some ⟨4, 306, none⟩), .pointer (some ⟨w.heap.size, 0, none⟩), .int .u64 150] 391)).alloc (.cells #[.pointer (some ⟨4, 306, none⟩), .pointer (some ⟨w.heap.size, 0, none⟩), .int .u64 150] 391)).alloc (.cells #[.int k n] 302))
    (by rw [World.cell?_alloc_at _ _ _ _ (by simp)]; rfl)
    (by rw [World.cell?_alloc_lt _ _ t (by simp; omega), World.cell?_alloc_lt _ _ t (by simp; omega), World.cell?_alloc_lt _ _ t (by simp; omega), World.cell?_alloc_lt _ _ t htl]; exact ht0)
    (by rw [World.frozen?_alloc_old _ _ t (by simp; omega), World.frozen?_alloc_old _ _ t (by simp; omega), World.frozen?_alloc_old _ _ t (by simp; omega), World.frozen?_alloc_old _ _ t (Nat.ne_of_lt htl)]; exact hf0)
  go_enter Tryz.func196, Tryz.ntmps196
  go_wp2
  refine wp_loop_rounds 1 ?_
  rw [rounds_succ]
  go_wp2
  go_ret
  exact ⟨rfl, rfl⟩

theorem AsR.as_nil (t : Value) (w : World) : Calls Tryz.prog 196 #[.nilIface, t] w fun e w' => e = .returned (.bool false) ∧ w' = w := by
  go_enter Tryz.func196, Tryz.ntmps196
  go_wp2
  go_ret
  exact ⟨rfl, rfl⟩

theorem AsR.typeOfM0 (v : Value) (w : World) : (ReflectliteType.typeOf #[.iface 304 v]).run Tryz.prog w = .ok (.iface 442 (.agg #[.pointer (some ⟨4, 304, none⟩)])) w := by kernel_rfl
theorem AsR.assignableM0 (w : World) : (ReflectliteType.relation "AssignableTo" ReflectliteType.assignableTo #[.agg #[.pointer (some ⟨4, 304, none⟩)], .iface 442 (.agg #[.pointer (some ⟨4, 302, none⟩)])]).run Tryz.prog w = .ok (.bool false) w := by kernel_rfl
theorem AsR.noAs0 (v : Value) (xT : TypeId) (w : World) : (Instr.typeAssert (.iface 304 v) xT 454 true).run Tryz.prog w = .ok (.tuple #[.nilIface, .bool false]) w := run_typeAssert_lacksB Tryz.underlying454 (by kernel_rfl) (by kernel_rfl) v xT w
theorem AsR.noU0 (v : Value) (xT : TypeId) (w : World) : (Instr.typeAssert (.iface 304 v) xT 447 true).run Tryz.prog w = .ok (.tuple #[.nilIface, .bool false]) w := run_typeAssert_lacksB Tryz.underlying447 (by kernel_rfl) (by kernel_rfl) v xT w
theorem AsR.noUs0 (v : Value) (xT : TypeId) (w : World) : (Instr.typeAssert (.iface 304 v) xT 449 true).run Tryz.prog w = .ok (.tuple #[.nilIface, .bool false]) w := run_typeAssert_lacksB Tryz.underlying449 (by kernel_rfl) (by kernel_rfl) v xT w

set_option maxRecDepth 100000 in
set_option maxHeartbeats 4000000 in
theorem AsR.as_miss0 (x : Value) (t : Addr) (w : World) (hg : w.cell? ⟨0, 0, none⟩ = some (.iface 442 (.agg #[.pointer (some ⟨4, 288, none⟩)]))) :
    Calls Tryz.prog 196 #[.iface 304 x, .iface 306 (.pointer (some t))] w fun ev w' => ev = .returned (.bool false) ∧ w' = AsR.W2 t w := by
  unfold AsR.W2
  have hO := @run_callFunc_extern Tryz.prog 296 _ ReflectliteType.typeOf Tryz.func296 (by kernel_rfl) (by kernel_rfl) (by kernel_rfl) (by kernel_rfl)
  have hA := @run_callFunc_extern Tryz.prog 431 _ (ReflectliteType.relation "AssignableTo" ReflectliteType.assignableTo) Tryz.func431 (by kernel_rfl) (by kernel_rfl) (by kernel_rfl) (by kernel_rfl)
  have hV := @run_callFunc_extern Tryz.prog 298 _ (fun args => ReflectliteValue.unpack (args.getD 0 (.tuple #[]))) Tryz.func298 (by kernel_rfl) (by kernel_rfl) (by kernel_rfl) (by kernel_rfl)
  have hT := @run_callFunc_extern Tryz.prog 299 _ (ReflectliteValue.methodAny (ReflectliteValue.valueError "reflectlite.Value.Type" 0) (fun t _ _ _ => ReflectliteType.toType t)) Tryz.func299 (by kernel_rfl) (by kernel_rfl) (by kernel_rfl) (by kernel_rfl)
  have hN := @run_callFunc_extern Tryz.prog 300 _ (ReflectliteValue.method (ReflectliteValue.valueError "reflectlite.Value.IsNil" 0) ReflectliteValue.isNil) Tryz.func300 (by kernel_rfl) (by kernel_rfl) (by kernel_rfl) (by kernel_rfl)
  have hK := @run_callFunc_extern Tryz.prog 415 _ (ReflectliteType.abiMethod fun t => do pure (.int .u8 (← Rtype.kind t))) Tryz.func415 (by kernel_rfl) (by kernel_rfl) (by kernel_rfl) (by kernel_rfl)
  have hE := @run_callFunc_extern Tryz.prog 433 _ (ReflectliteType.method ReflectliteType.elem) Tryz.func433 (by kernel_rfl) (by kernel_rfl) (by kernel_rfl) (by kernel_rfl)
  have hI := @run_callFunc_extern Tryz.prog 434 _ (ReflectliteType.relation "Implements" ReflectliteType.implements_) Tryz.func434 (by kernel_rfl) (by kernel_rfl) (by kernel_rfl) (by kernel_rfl)
  have vP := AsR.valueOfP
  have tP := AsR.typeP
  have mK := AsR.methodKind
  have mE := AsR.methodElem
  have mI := AsR.methodImplements
  have mA := AsR.methodAssignableTo
  have kP := AsR.kindP
  have kT := AsR.kindT
  have eP := AsR.elemP
  have iT := AsR.implementsT
  have nP := AsR.isNilP ⟨w.heap.size, 0, none⟩ t ((w.alloc (.cells #[.pointer (some t)] 306)).alloc (.cells #[.pointer (some ⟨4, 306, none⟩), .pointer (some ⟨w.heap.size, 0, none⟩), .int .u64 150] 391)) (by simp)
  have hlt : 0 < w.heap.size := by
    rcases Nat.lt_or_ge 0 w.heap.size with h | h
    · exact h
    · simp [World.cell?, Array.getElem?_eq_none h] at hg
  have hg2 : ((w.alloc (.cells #[.pointer (some t)] 306)).alloc (.cells #[.pointer (some ⟨4, 306, none⟩), .pointer (some ⟨w.heap.size, 0, none⟩), .int .u64 150] 391)).cell? ⟨0, 0, none⟩ = some (.iface 442 (.agg #[.pointer (some ⟨4, 288, none⟩)])) := by
    rw [World.cell?_alloc_lt _ _ ⟨0, 0, none⟩ (by first | (simp; done) | (simp; omega)), World.cell?_alloc_lt _ _ ⟨0, 0, none⟩ hlt]; exact hg
  have hnil2 := fun w' => run_eql_iface_nil (P := Tryz.prog) (w := w') 20 (by kernel_rfl) 306 (.pointer (some t))
  have hnil := fun w' => run_eql_iface_nil (P := Tryz.prog) (w := w') 288 (by kernel_rfl) 304 x
  have tO := AsR.typeOfM0
  have aT := AsR.assignableM0
  have n1 := AsR.noAs0
  have n2 := AsR.noU0
  have n3 := AsR.noUs0
  go_enter Tryz.func196, Tryz.ntmps196
  go_wp2
  refine wp_loop_rounds 1 ?_
  rw [rounds_succ]
  go_wp2
  go_ret
  exact ⟨rfl, rfl⟩

theorem AsR.spec : Go.SX.AsSpec Tryz.prog 196 302 306 0 [304] (.iface 442 (.agg #[.pointer (some ⟨4, 288, none⟩)])) where
  body := by kernel_rfl
  hit := fun k n a old w hg h1 h2 => ⟨_, _, _, _, by have h := AsR.as_hit k n a old w hg h1 h2; unfold AsR.W2 at h; exact h⟩
  nil := AsR.as_nil
  miss := fun m hm x a w hg => by
    simp only [List.mem_cons, List.not_mem_nil, or_false] at hm
    rcases hm with rfl
    · exact ⟨_, _, _, by have h := AsR.as_miss0 x a w hg; unfold AsR.W2 at h; exact h⟩

/-- errors.As, as an override. -/
noncomputable def Tryz.asAsR : Go.SX.Ov := Go.SX.asOv 196 302 306 0 442 4 288 [304]
theorem Tryz.asAsR_ok : Go.SX.OvOK Tryz.prog Tryz.asAsR := Go.SX.asOv_ok AsR.spec
end Go.Proofs.YtpcekfimhnojnaaGreatDoor
