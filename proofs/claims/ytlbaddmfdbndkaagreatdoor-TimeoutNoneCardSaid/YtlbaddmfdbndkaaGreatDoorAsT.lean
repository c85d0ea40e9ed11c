/- errors.As at a target that is a struct of one whole number. -/
import Derived.Test.YtlbaddmfdbndkaaGreatDoorTab
import Derived.Test.YtlbaddmfdbndkaaGreatDoorSXAS
import Derived.WalkKit
import Derived.LaidEql
import Derived.Stop.Asserts
import Derived.Stop.IfaceNil
import Derived.RowKitTokens
namespace Go.Proofs.YtlbaddmfdbndkaaGreatDoor
open Go.RowKit Go.Extern.Stop Go.Stop Go.Extern

theorem AsT.valueOfP (t : Addr) (w : World) : (ReflectliteValue.unpack (.iface 94 (.pointer (some t)))).run Tryz.prog w
    = .ok (.agg #[.pointer (some ⟨4, 94, none⟩), .pointer (some ⟨w.heap.size, 0, none⟩), .int .u64 150]) (w.alloc (.cells #[.pointer (some t)] 94)) := by kernel_rfl
theorem AsT.typeP (a : Addr) (w : World) : (ReflectliteValue.methodAny (ReflectliteValue.valueError "reflectlite.Value.Type" 0) (fun t _ _ _ => ReflectliteType.toType t) #[.agg #[.pointer (some ⟨4, 94, none⟩), .pointer (some a), .int .u64 150]]).run Tryz.prog w
    = .ok (.iface 240 (.agg #[.pointer (some ⟨4, 94, none⟩)])) w := by kernel_rfl
theorem AsT.methodKind (h : Value) (w : World) : (Go.method 519 240 (.agg #[h]) "Kind").run Tryz.prog w = .ok (313, h) w := by kernel_rfl
theorem AsT.kindP (w : World) : ((ReflectliteType.abiMethod fun t => (fun a : Nat => Value.int IntKind.u8 (a : Int)) <$> Rtype.kind t) #[.pointer (some ⟨4, 94, none⟩)]).run Tryz.prog w = .ok (.int .u8 22) w := by kernel_rfl
theorem AsT.kindT (w : World) : ((ReflectliteType.abiMethod fun t => (fun a : Nat => Value.int IntKind.u8 (a : Int)) <$> Rtype.kind t) #[.pointer (some ⟨4, 70, none⟩)]).run Tryz.prog w = .ok (.int .u8 25) w := by kernel_rfl
theorem AsT.rlm (z : Sem Value) (f : TypeId → Addr → Nat → Nat → Sem Value) (v : Value) :
    ReflectliteValue.method z f #[v] = (do match ← ReflectliteValue.parts v with | none => z | some (t, a, fl) => f t a fl (fl % 32)) := rfl
theorem AsT.partsP (a : Addr) (w : World) : (ReflectliteValue.parts (.agg #[.pointer (some ⟨4, 94, none⟩), .pointer (some a), .int .u64 150])).run Tryz.prog w = .ok (some (94, a, 150)) w := by kernel_rfl
theorem AsT.isNilP (a p : Addr) (W : World) (ha : W.cell? a = some (.pointer (some p))) :
    (ReflectliteValue.method (ReflectliteValue.valueError "reflectlite.Value.IsNil" 0) ReflectliteValue.isNil #[.agg #[.pointer (some ⟨4, 94, none⟩), .pointer (some a), .int .u64 150]]).run Tryz.prog W = .ok (.bool false) W := by
  rw [AsT.rlm]
  simp only [Sem.run_bind, AsT.partsP, Result.andThen]
  simp [ReflectliteValue.isNil, loadVar, isAgg, underlying, Tryz.underlying94, ha, Result.andThen]
theorem AsT.methodElem (h : Value) (w : World) : (Go.method 519 240 (.agg #[h]) "Elem").run Tryz.prog w = .ok (326, .agg #[h]) w := by kernel_rfl
theorem AsT.methodImplements (h : Value) (w : World) : (Go.method 519 240 (.agg #[h]) "Implements").run Tryz.prog w = .ok (327, .agg #[h]) w := by kernel_rfl
theorem AsT.methodAssignableTo (h : Value) (w : World) : (Go.method 519 240 (.agg #[h]) "AssignableTo").run Tryz.prog w = .ok (324, .agg #[h]) w := by kernel_rfl
theorem AsT.elemP (w : World) : (ReflectliteType.method ReflectliteType.elem #[.agg #[.pointer (some ⟨4, 94, none⟩)]]).run Tryz.prog w = .ok (.iface 240 (.agg #[.pointer (some ⟨4, 70, none⟩)])) w := by kernel_rfl
theorem AsT.implementsT (w : World) : (ReflectliteType.relation "Implements" ReflectliteType.implements_ #[.agg #[.pointer (some ⟨4, 70, none⟩)], .iface 240 (.agg #[.pointer (some ⟨4, 44, none⟩)])]).run Tryz.prog w = .ok (.bool true) w := by kernel_rfl
theorem AsT.typeOfT (v : Value) (w : World) : (ReflectliteType.typeOf #[.iface 70 v]).run Tryz.prog w = .ok (.iface 240 (.agg #[.pointer (some ⟨4, 70, none⟩)])) w := by kernel_rfl
theorem AsT.assignableT (w : World) : (ReflectliteType.relation "AssignableTo" ReflectliteType.assignableTo #[.agg #[.pointer (some ⟨4, 70, none⟩)], .iface 240 (.agg #[.pointer (some ⟨4, 70, none⟩)])]).run Tryz.prog w = .ok (.bool true) w := by kernel_rfl
theorem AsT.valueOfT (k : IntKind) (n : Int) (w : World) : (ReflectliteValue.unpack (.iface 70 (.agg #[.int k n]))).run Tryz.prog w
    = .ok (.agg #[.pointer (some ⟨4, 70, none⟩), .pointer (some ⟨w.heap.size, 0, none⟩), .int .u64 153]) (w.alloc (.cells #[.int k n] 70)) := by kernel_rfl
theorem AsT.elemOfP (w : World) : (Rtype.elem? 94).run Tryz.prog w = .ok (some 70) w := by kernel_rfl
theorem AsT.mkT (p : Addr) (w : World) : (ReflectliteValue.mk 70 p ReflectliteValue.flagAddr).run Tryz.prog w = .ok (.agg #[.pointer (some ⟨4, 70, none⟩), .pointer (some p), .int .u64 409]) w := by kernel_rfl
theorem AsT.elemVP (a p : Addr) (W : World) (ha : W.cell? a = some (.pointer (some p))) :
    (ReflectliteValue.method (ReflectliteValue.valueError "reflectlite.Value.Elem" 0) ReflectliteValue.elem #[.agg #[.pointer (some ⟨4, 94, none⟩), .pointer (some a), .int .u64 150]]).run Tryz.prog W
      = .ok (.agg #[.pointer (some ⟨4, 70, none⟩), .pointer (some p), .int .u64 409]) W := by
  rw [AsT.rlm]
  simp only [Sem.run_bind, AsT.partsP, Result.andThen]
  simp [ReflectliteValue.elem, loadVar, isAgg, underlying, Tryz.underlying94, ha, Result.andThen, AsT.elemOfP, AsT.mkT]
theorem AsT.rls (v x : Value) : ReflectliteValue.set #[v, x] = (do
    let (some (dst, a, fl), some (src, b, _)) := (← ReflectliteValue.parts v, ← ReflectliteValue.parts x)
      | unsupported (.noEntry "extern/(internal/reflectlite.Value).Set.zeroValue")
    if fl / ReflectliteValue.flagAddr % 2 == 0 then unsupported (.noEntry "extern/(internal/reflectlite.Value).Set.unaddressable")
    let val ← loadVar src b
    if ← Rtype.directlyAssignable dst src then storeVar dst a val
    else if ← Rtype.implements dst src then
      if (← Rtype.kind src) == 20 then
        match val with
        | .nilIface => unsupported (.noEntry "extern/reflectlite: a nil value of one interface type handed on as a value of another")
        | _ => storeVar dst a val
      else storeVar dst a (.iface src val)
    else panicString ("reflectlite.Set: value of type " ++ (← Rtype.spelt src) ++ " is not assignable to type " ++ (← Rtype.spelt dst))
    pure (.tuple #[])) := rfl
theorem AsT.partsTa (a : Addr) (w : World) : (ReflectliteValue.parts (.agg #[.pointer (some ⟨4, 70, none⟩), .pointer (some a), .int .u64 409])).run Tryz.prog w = .ok (some (70, a, 409)) w := by kernel_rfl
theorem AsT.partsT (a : Addr) (w : World) : (ReflectliteValue.parts (.agg #[.pointer (some ⟨4, 70, none⟩), .pointer (some a), .int .u64 153])).run Tryz.prog w = .ok (some (70, a, 153)) w := by kernel_rfl
theorem AsT.directT (w : World) : (Rtype.directlyAssignable 70 70).run Tryz.prog w = .ok true w := by kernel_rfl
theorem AsT.sizeT (w : World) : (sizeOf 70).run Tryz.prog w = .ok 1 w := by kernel_rfl
theorem AsT.loadT (b : Addr) (x : Value) (W : World) (hb : W.cell? b = some x) : (loadVar 70 b).run Tryz.prog W = .ok (.agg #[x]) W := by
  simp [loadVar, isAgg, underlying, Tryz.underlying70, Result.andThen, AsT.sizeT, loadCells, loadCellsFrom, Addr.add, hb]
theorem AsT.setT (ta b : Addr) (k : IntKind) (n : Int) (old : Value) (W : World) (hb : W.cell? b = some (.int k n)) (ht : W.cell? ta = some old) (hf : W.frozen? ta = false) :
    (ReflectliteValue.set #[.agg #[.pointer (some ⟨4, 70, none⟩), .pointer (some ta), .int .u64 409], .agg #[.pointer (some ⟨4, 70, none⟩), .pointer (some b), .int .u64 153]]).run Tryz.prog W
      = .ok (.tuple #[]) (W.setCell ta (.int k n)) := by
  rw [AsT.rls]
  simp only [Sem.run_bind, AsT.partsTa, AsT.partsT, Result.andThen]
  simp [ReflectliteValue.flagAddr, AsT.loadT b _ W hb, Result.andThen, AsT.directT, storeVar, Value.cells, storeCells, Addr.add]
  rw [run_store Tryz.prog W ta _ _ (by rfl)]
  simp [ht, hf]

/-- The world behind errors.As's own copies. -/
noncomputable def AsT.W2 (t : Addr) (w : World) : World := ((w.alloc (.cells #[.pointer (some t)] 94)).alloc (.cells #[.pointer (some ⟨4, 94, none⟩), .pointer (some ⟨w.heap.size, 0, none⟩), .int .u64 150] 157)).alloc (.cells #[.pointer (some ⟨4, 94, none⟩), .pointer (some ⟨w.heap.size, 0, none⟩), .int .u64 150] 157)

set_option maxRecDepth 100000 in
set_option maxHeartbeats 4000000 in
theorem AsT.as_hit (k : IntKind) (n : Int) (t : Addr) (old : Value) (w : World) (hg : w.cell? ⟨0, 0, none⟩ = some (.iface 240 (.agg #[.pointer (some ⟨4, 44, none⟩)]))) (ht0 : w.cell? t = some old) (hf0 : w.frozen? t = false) :
    Calls Tryz.prog 45 #[.iface 70 (.agg #[.int k n]), .iface 94 (.pointer (some t))] w fun ev w' => ev = .returned (.bool true) ∧ w' = ((AsT.W2 t w).alloc (.cells #[.int k n] 70)).setCell t (.int k n) := by
  unfold AsT.W2
  have hO := @run_callFunc_extern Tryz.prog 89 _ ReflectliteType.typeOf Tryz.func89 (by kernel_rfl) (by kernel_rfl) (by kernel_rfl) (by kernel_rfl)
  have hA := @run_callFunc_extern Tryz.prog 324 _ (ReflectliteType.relation "AssignableTo" ReflectliteType.assignableTo) Tryz.func324 (by kernel_rfl) (by kernel_rfl) (by kernel_rfl) (by kernel_rfl)
  have hV := @run_callFunc_extern Tryz.prog 85 _ (fun args => ReflectliteValue.unpack (args.getD 0 (.tuple #[]))) Tryz.func85 (by kernel_rfl) (by kernel_rfl) (by kernel_rfl) (by kernel_rfl)
  have hT := @run_callFunc_extern Tryz.prog 86 _ (ReflectliteValue.methodAny (ReflectliteValue.valueError "reflectlite.Value.Type" 0) (fun t _ _ _ => ReflectliteType.toType t)) Tryz.func86 (by kernel_rfl) (by kernel_rfl) (by kernel_rfl) (by kernel_rfl)
  have hN := @run_callFunc_extern Tryz.prog 87 _ (ReflectliteValue.method (ReflectliteValue.valueError "reflectlite.Value.IsNil" 0) ReflectliteValue.isNil) Tryz.func87 (by kernel_rfl) (by kernel_rfl) (by kernel_rfl) (by kernel_rfl)
  have hK := @run_callFunc_extern Tryz.prog 313 _ (ReflectliteType.abiMethod fun t => do pure (.int .u8 (← Rtype.kind t))) Tryz.func313 (by kernel_rfl) (by kernel_rfl) (by kernel_rfl) (by kernel_rfl)
  have hE := @run_callFunc_extern Tryz.prog 326 _ (ReflectliteType.method ReflectliteType.elem) Tryz.func326 (by kernel_rfl) (by kernel_rfl) (by kernel_rfl) (by kernel_rfl)
  have hI := @run_callFunc_extern Tryz.prog 327 _ (ReflectliteType.relation "Implements" ReflectliteType.implements_) Tryz.func327 (by kernel_rfl) (by kernel_rfl) (by kernel_rfl) (by kernel_rfl)
  have vP := AsT.valueOfP
  have tP := AsT.typeP
  have mK := AsT.methodKind
  have mE := AsT.methodElem
  have mI := AsT.methodImplements
  have mA := AsT.methodAssignableTo
  have kP := AsT.kindP
  have kT := AsT.kindT
  have eP := AsT.elemP
  have iT := AsT.implementsT
  have nP := AsT.isNilP ⟨w.heap.size, 0, none⟩ t ((w.alloc (.cells #[.pointer (some t)] 94)).alloc (.cells #[.pointer (some ⟨4, 94, none⟩), .pointer (some ⟨w.heap.size, 0, none⟩), .int .u64 150] 157)) (by simp)
  have hlt : 0 < w.heap.size := by
    rcases Nat.lt_or_ge 0 w.heap.size with h | h
    · exact h
    · simp [World.cell?, Array.getElem?_eq_none h] at hg
  have hg2 : ((w.alloc (.cells #[.pointer (some t)] 94)).alloc (.cells #[.pointer (some ⟨4, 94, none⟩), .pointer (some ⟨w.heap.size, 0, none⟩), .int .u64 150] 157)).cell? ⟨0, 0, none⟩ = some (.iface 240 (.agg #[.pointer (some ⟨4, 44, none⟩)])) := by
    rw [World.cell?_alloc_lt _ _ ⟨0, 0, none⟩ (by first | (simp; done) | (simp; omega)), World.cell?_alloc_lt _ _ ⟨0, 0, none⟩ hlt]; exact hg
  have hnil2 := fun w' => run_eql_iface_nil (P := Tryz.prog) (w := w') 20 (by kernel_rfl) 94 (.pointer (some t))
  have hnil := fun w' => run_eql_iface_nil (P := Tryz.prog) (w := w') 44 (by kernel_rfl) 70 (.agg #[.int k n])
  have hEl := @run_callFunc_extern Tryz.prog 155 _ (ReflectliteValue.method (ReflectliteValue.valueError "reflectlite.Value.Elem" 0) ReflectliteValue.elem) Tryz.func155 (by kernel_rfl) (by kernel_rfl) (by kernel_rfl) (by kernel_rfl)
  have hS := @run_callFunc_extern Tryz.prog 156 _ ReflectliteValue.set Tryz.func156 (by kernel_rfl) (by kernel_rfl) (by kernel_rfl) (by kernel_rfl)
  have tO := AsT.typeOfT
  have aT := AsT.assignableT
  have vT := AsT.valueOfT
  have htl : t.block < w.heap.size := by
    rcases Nat.lt_or_ge t.block w.heap.size with h | h
    · exact h
    · simp [World.cell?, Array.getElem?_eq_none h] at ht0
  have el := AsT.elemVP ⟨w.heap.size, 0, none⟩ t (((w.alloc (.cells #[.pointer (some t)] 94)).alloc (.cells #[.pointer (some ⟨4, 94, none⟩), .pointer (some ⟨w.heap.size, 0, none⟩), .int .u64 150] 157)).alloc (.cells #[.pointer (some ⟨4, 94, none⟩), .pointer (some ⟨w.heap.size, 0, none⟩), .int .u64 150] 157)) (by rw [World.cell?_alloc_lt _ _ ⟨w.heap.size, 0, none⟩ (by simp; omega)]; simp)
  have st := AsT.setT t ⟨w.heap.size + 1 + 1 + 1, 0, none⟩ k n old ((((w.alloc (.cells #[.pointer (some t)] 94)).alloc (.cells #[.pointer (some ⟨4, 94, none⟩), .pointer (some ⟨w.heap.size, 0, none⟩), .int .u64 150] 157)).alloc (.cells #[.pointer (some ⟨4, 94, none⟩), .pointer (some ⟨w.heap.size, 0, none⟩), .int .u64 150] 157)).alloc (.cells #[.int k n] 70))
    (by rw [World.cell?_alloc_at _ _ _ _ (by simp)]; rfl)
    (by rw [World.cell?_alloc_lt _ _ t (by simp; omega), World.cell?_alloc_lt _ _ t (by simp; omega), World.cell?_alloc_lt _ _ t (by simp; omega), World.cell?_alloc_lt _ _ t htl]; exact ht0)
    (by rw [World.frozen?_alloc_old _ _ t (by simp; omega), World.frozen?_alloc_old _ _ t (by simp; omega), World.frozen?_alloc_old _ _ t (by simp; omega), World.frozen?_alloc_old _ _ t (Nat.ne_of_lt htl)]; exact hf0)
  go_enter Tryz.func45, Tryz.ntmps45
  go_wp2
  refine wp_loop_rounds 1 ?_
  rw [rounds_succ]
  go_wp2
  go_ret
  exact ⟨rfl, rfl⟩

theorem AsT.as_nil (t : Value) (w : World) : Calls Tryz.prog 45 #[.nilIface, t] w fun e w' => e = .returned (.bool false) ∧ w' = w := by
  go_enter Tryz.func45, Tryz.ntmps45
  go_wp2
  go_ret
  exact ⟨rfl, rfl⟩

theorem AsT.typeOfM0 (v : Value) (w : World) : (ReflectliteType.typeOf #[.iface 51 v]).run Tryz.prog w = .ok (.iface 240 (.agg #[.pointer (some ⟨4, 51, none⟩)])) w := by kernel_rfl
theorem AsT.assignableM0 (w : World) : (ReflectliteType.relation "AssignableTo" ReflectliteType.assignableTo #[.agg #[.pointer (some ⟨4, 51, none⟩)], .iface 240 (.agg #[.pointer (some ⟨4, 70, none⟩)])]).run Tryz.prog w = .ok (.bool false) w := by kernel_rfl
theorem AsT.noAs0 (v : Value) (xT : TypeId) (w : World) : (Instr.typeAssert (.iface 51 v) xT 244 true).run Tryz.prog w = .ok (.tuple #[.nilIface, .bool false]) w := run_typeAssert_lacksB Tryz.underlying244 (by kernel_rfl) (by kernel_rfl) v xT w
theorem AsT.noU0 (v : Value) (xT : TypeId) (w : World) : (Instr.typeAssert (.iface 51 v) xT 247 true).run Tryz.prog w = .ok (.tuple #[.nilIface, .bool false]) w := run_typeAssert_lacksB Tryz.underlying247 (by kernel_rfl) (by kernel_rfl) v xT w
theorem AsT.noUs0 (v : Value) (xT : TypeId) (w : World) : (Instr.typeAssert (.iface 51 v) xT 248 true).run Tryz.prog w = .ok (.tuple #[.nilIface, .bool false]) w := run_typeAssert_lacksB Tryz.underlying248 (by kernel_rfl) (by kernel_rfl) v xT w

set_option maxRecDepth 100000 in
set_option maxHeartbeats 4000000 in
theorem AsT.as_miss0 (x : Value) (t : Addr) (w : World) (hg : w.cell? ⟨0, 0, none⟩ = some (.iface 240 (.agg #[.pointer (some ⟨4, 44, none⟩)]))) :
    Calls Tryz.prog 45 #[.iface 51 x, .iface 94 (.pointer (some t))] w fun ev w' => ev = .returned (.bool false) ∧ w' = AsT.W2 t w := by
  unfold AsT.W2
  have hO := @run_callFunc_extern Tryz.prog 89 _ ReflectliteType.typeOf Tryz.func89 (by kernel_rfl) (by kernel_rfl) (by kernel_rfl) (by kernel_rfl)
  have hA := @run_callFunc_extern Tryz.prog 324 _ (ReflectliteType.relation "AssignableTo" ReflectliteType.assignableTo) Tryz.func324 (by kernel_rfl) (by kernel_rfl) (by kernel_rfl) (by kernel_rfl)
  have hV := @run_callFunc_extern Tryz.prog 85 _ (fun args => ReflectliteValue.unpack (args.getD 0 (.tuple #[]))) Tryz.func85 (by kernel_rfl) (by kernel_rfl) (by kernel_rfl) (by kernel_rfl)
  have hT := @run_callFunc_extern Tryz.prog 86 _ (ReflectliteValue.methodAny (ReflectliteValue.valueError "reflectlite.Value.Type" 0) (fun t _ _ _ => ReflectliteType.toType t)) Tryz.func86 (by kernel_rfl) (by kernel_rfl) (by kernel_rfl) (by kernel_rfl)
  have hN := @run_callFunc_extern Tryz.prog 87 _ (ReflectliteValue.method (ReflectliteValue.valueError "reflectlite.Value.IsNil" 0) ReflectliteValue.isNil) Tryz.func87 (by kernel_rfl) (by kernel_rfl) (by kernel_rfl) (by kernel_rfl)
  have hK := @run_callFunc_extern Tryz.prog 313 _ (ReflectliteType.abiMethod fun t => do pure (.int .u8 (← Rtype.kind t))) Tryz.func313 (by kernel_rfl) (by kernel_rfl) (by kernel_rfl) (by kernel_rfl)
  have hE := @run_callFunc_extern Tryz.prog 326 _ (ReflectliteType.method ReflectliteType.elem) Tryz.func326 (by kernel_rfl) (by kernel_rfl) (by kernel_rfl) (by kernel_rfl)
  have hI := @run_callFunc_extern Tryz.prog 327 _ (ReflectliteType.relation "Implements" ReflectliteType.implements_) Tryz.func327 (by kernel_rfl) (by kernel_rfl) (by kernel_rfl) (by kernel_rfl)
  have vP := AsT.valueOfP
  have tP := AsT.typeP
  have mK := AsT.methodKind
  have mE := AsT.methodElem
  have mI := AsT.methodImplements
  have mA := AsT.methodAssignableTo
  have kP := AsT.kindP
  have kT := AsT.kindT
  have eP := AsT.elemP
  have iT := AsT.implementsT
  have nP := AsT.isNilP ⟨w.heap.size, 0, none⟩ t ((w.alloc (.cells #[.pointer (some t)] 94)).alloc (.cells #[.pointer (some ⟨4, 94, none⟩), .pointer (some ⟨w.heap.size, 0, none⟩), .int .u64 150] 157)) (by simp)
  have hlt : 0 < w.heap.size := by
    rcases Nat.lt_or_ge 0 w.heap.size with h | h
    · exact h
    · simp [World.cell?, Array.getElem?_eq_none h] at hg
  have hg2 : ((w.alloc (.cells #[.pointer (some t)] 94)).alloc (.cells #[.pointer (some ⟨4, 94, none⟩), .pointer (some ⟨w.heap.size, 0, none⟩), .int .u64 150] 157)).cell? ⟨0, 0, none⟩ = some (.iface 240 (.agg #[.pointer (some ⟨4, 44, none⟩)])) := by
    rw [World.cell?_alloc_lt _ _ ⟨0, 0, none⟩ (by first | (simp; done) | (simp; omega)), World.cell?_alloc_lt _ _ ⟨0, 0, none⟩ hlt]; exact hg
  have hnil2 := fun w' => run_eql_iface_nil (P := Tryz.prog) (w := w') 20 (by kernel_rfl) 94 (.pointer (some t))
  have hnil := fun w' => run_eql_iface_nil (P := Tryz.prog) (w := w') 44 (by kernel_rfl) 51 x
  have tO := AsT.typeOfM0
  have aT := AsT.assignableM0
  have n1 := AsT.noAs0
  have n2 := AsT.noU0
  have n3 := AsT.noUs0
  go_enter Tryz.func45, Tryz.ntmps45
  go_wp2
  refine wp_loop_rounds 1 ?_
  rw [rounds_succ]
  go_wp2
  go_ret
  exact ⟨rfl, rfl⟩

theorem AsT.spec : Go.SX.AsSpec Tryz.prog 45 70 94 0 [51] (.iface 240 (.agg #[.pointer (some ⟨4, 44, none⟩)])) where
  body := by kernel_rfl
  hit := fun k n a old w hg h1 h2 => ⟨_, _, _, _, by have h := AsT.as_hit k n a old w hg h1 h2; unfold AsT.W2 at h; exact h⟩
  nil := AsT.as_nil
  miss := fun m hm x a w hg => by
    simp only [List.mem_cons, List.not_mem_nil, or_false] at hm
    rcases hm with rfl
    · exact ⟨_, _, _, by have h := AsT.as_miss0 x a w hg; unfold AsT.W2 at h; exact h⟩

/-- errors.As, as an override. -/
noncomputable def Tryz.asAsT : Go.SX.Ov := Go.SX.asOv 45 70 94 0 240 4 44 [51]
theorem Tryz.asAsT_ok : Go.SX.OvOK Tryz.prog Tryz.asAsT := Go.SX.asOv_ok AsT.spec
end Go.Proofs.YtlbaddmfdbndkaaGreatDoor
