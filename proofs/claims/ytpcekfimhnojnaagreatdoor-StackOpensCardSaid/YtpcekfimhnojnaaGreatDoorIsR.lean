/- errors.Is at a target that is a text, the error being such a one, or a struct. -/
import Derived.Test.YtpcekfimhnojnaaGreatDoorTab
import Derived.Test.YtpcekfimhnojnaaGreatDoorSXS
import Derived.WalkKit
import Derived.LaidEql
import Derived.Stop.Asserts
import Derived.Stop.IfaceNil
import Derived.RowKitTokens
namespace Go.Proofs.YtpcekfimhnojnaaGreatDoor
open Go.RowKit Go.Extern.Stop Go.Stop Go.Extern

theorem IsR.eqStr {ms : Array (String × TypeId)} (t : TypeId) (a b : ByteArray) (w : World) (ht : Tryz.prog.underlying t = some (.interface ms)) (hc : (Tryz.prog.info? 304).map (·.comparable) = some true) (hx : Tryz.prog.underlying 304 = some .string) :
    (Go.binOp .eql t (.iface 304 (.string a)) (.iface 304 (.string b))).run Tryz.prog w = .ok (.bool (a == b)) w := by
  cases hi : Tryz.prog.info? 304 with
  | none => simp [hi] at hc
  | some i =>
    have hcc : i.comparable = true := by simpa [hi] using hc
    have h : ∀ d : Nat, (Op.equalIn (d + 2) t (.iface 304 (.string a)) (.iface 304 (.string b))).run Tryz.prog w = .ok (a == b) w := fun d => by
      simp [Op.equalIn, run_underlying ht, run_underlying hx, typeInfo, hi, hcc]
    simp only [binOp]
    simp [Op.equal, Op.maxDepth, h 9998]

theorem IsR.typeOfT (v : Value) (w : World) : (ReflectliteType.typeOf #[.iface 304 v]).run Tryz.prog w = .ok (.iface 442 (.agg #[.pointer (some ⟨4, 304, none⟩)])) w := by kernel_rfl
theorem IsR.comparableT (w : World) : ((ReflectliteType.method fun t => do Rtype.noPackHeld "Comparable" t; (fun a : TypeInfo => Value.bool a.comparable) <$> typeInfo t) #[.agg #[.pointer (some ⟨4, 304, none⟩)]]).run Tryz.prog w = .ok (.bool true) w := by kernel_rfl
theorem IsR.methodComparable (v : Value) (w : World) : (Go.method 626 442 v "Comparable").run Tryz.prog w = .ok (432, v) w := by kernel_rfl

theorem IsR.noIs0 (v : Value) (xT : TypeId) (w : World) : (Instr.typeAssert (.iface 304 v) xT 444 true).run Tryz.prog w = .ok (.tuple #[.nilIface, .bool false]) w := run_typeAssert_lacksB Tryz.underlying444 (by kernel_rfl) (by kernel_rfl) v xT w
theorem IsR.noU0 (v : Value) (xT : TypeId) (w : World) : (Instr.typeAssert (.iface 304 v) xT 447 true).run Tryz.prog w = .ok (.tuple #[.nilIface, .bool false]) w := run_typeAssert_lacksB Tryz.underlying447 (by kernel_rfl) (by kernel_rfl) v xT w
theorem IsR.noUs0 (v : Value) (xT : TypeId) (w : World) : (Instr.typeAssert (.iface 304 v) xT 449 true).run Tryz.prog w = .ok (.tuple #[.nilIface, .bool false]) w := run_typeAssert_lacksB Tryz.underlying449 (by kernel_rfl) (by kernel_rfl) v xT w

set_option maxRecDepth 100000 in
set_option maxHeartbeats 4000000 in
theorem IsR.is0 (x : Value) (b : ByteArray) (w : World) (r : Bool) (heq : ∀ w, (Go.binOp .eql 288 (.iface 304 x) (.iface 304 (.string b)) ).run Tryz.prog w = .ok (.bool r) w) :
    Calls Tryz.prog 195 #[.iface 304 x, .iface 304 (.string b)] w fun ev w' => ev = .returned (.bool r) ∧ w' = w := by
  have hO := @run_callFunc_extern Tryz.prog 296 _ ReflectliteType.typeOf Tryz.func296 (by kernel_rfl) (by kernel_rfl) (by kernel_rfl) (by kernel_rfl)
  have hC := @run_callFunc_extern Tryz.prog 432 _ (ReflectliteType.method fun t => do Rtype.noPackHeld "Comparable" t; pure (.bool (← typeInfo t).comparable)) Tryz.func432 (by kernel_rfl) (by kernel_rfl) (by kernel_rfl) (by kernel_rfl)
  have tO := IsR.typeOfT
  have tC := IsR.comparableT
  have mC := IsR.methodComparable
  have n1 := IsR.noIs0
  have n2 := IsR.noU0
  have n3 := IsR.noUs0
  have hn1 := fun w' => run_eql_iface_nil (P := Tryz.prog) (w := w') 288 (by kernel_rfl) 304 x
  have hn2 := fun w' => run_eql_iface_nil (P := Tryz.prog) (w := w') 288 (by kernel_rfl) 304 (.string b)
  cases r with
  | true =>
    go_enter Tryz.func195, Tryz.ntmps195
    go_wp2
    refine wp_loop_rounds 1 ?_
    rw [rounds_succ]
    go_wp2
    go_ret
    exact ⟨rfl, rfl⟩
  | false =>
    go_enter Tryz.func195, Tryz.ntmps195
    go_wp2
    refine wp_loop_rounds 1 ?_
    rw [rounds_succ]
    go_wp2
    go_ret
    exact ⟨rfl, rfl⟩

theorem IsR.noIs1 (v : Value) (xT : TypeId) (w : World) : (Instr.typeAssert (.iface 302 v) xT 444 true).run Tryz.prog w = .ok (.tuple #[.nilIface, .bool false]) w := run_typeAssert_lacksB Tryz.underlying444 (by kernel_rfl) (by kernel_rfl) v xT w
theorem IsR.noU1 (v : Value) (xT : TypeId) (w : World) : (Instr.typeAssert (.iface 302 v) xT 447 true).run Tryz.prog w = .ok (.tuple #[.nilIface, .bool false]) w := run_typeAssert_lacksB Tryz.underlying447 (by kernel_rfl) (by kernel_rfl) v xT w
theorem IsR.noUs1 (v : Value) (xT : TypeId) (w : World) : (Instr.typeAssert (.iface 302 v) xT 449 true).run Tryz.prog w = .ok (.tuple #[.nilIface, .bool false]) w := run_typeAssert_lacksB Tryz.underlying449 (by kernel_rfl) (by kernel_rfl) v xT w

set_option maxRecDepth 100000 in
set_option maxHeartbeats 4000000 in
theorem IsR.is1 (x : Value) (b : ByteArray) (w : World) (r : Bool) (heq : ∀ w, (Go.binOp .eql 288 (.iface 302 x) (.iface 304 (.string b)) ).run Tryz.prog w = .ok (.bool r) w) :
    Calls Tryz.prog 195 #[.iface 302 x, .iface 304 (.string b)] w fun ev w' => ev = .returned (.bool r) ∧ w' = w := by
  have hO := @run_callFunc_extern Tryz.prog 296 _ ReflectliteType.typeOf Tryz.func296 (by kernel_rfl) (by kernel_rfl) (by kernel_rfl) (by kernel_rfl)
  have hC := @run_callFunc_extern Tryz.prog 432 _ (ReflectliteType.method fun t => do Rtype.noPackHeld "Comparable" t; pure (.bool (← typeInfo t).comparable)) Tryz.func432 (by kernel_rfl) (by kernel_rfl) (by kernel_rfl) (by kernel_rfl)
  have tO := IsR.typeOfT
  have tC := IsR.comparableT
  have mC := IsR.methodComparable
  have n1 := IsR.noIs1
  have n2 := IsR.noU1
  have n3 := IsR.noUs1
  have hn1 := fun w' => run_eql_iface_nil (P := Tryz.prog) (w := w') 288 (by kernel_rfl) 302 x
  have hn2 := fun w' => run_eql_iface_nil (P := Tryz.prog) (w := w') 288 (by kernel_rfl) 304 (.string b)
  cases r with
  | true =>
    go_enter Tryz.func195, Tryz.ntmps195
    go_wp2
    refine wp_loop_rounds 1 ?_
    rw [rounds_succ]
    go_wp2
    go_ret
    exact ⟨rfl, rfl⟩
  | false =>
    go_enter Tryz.func195, Tryz.ntmps195
    go_wp2
    refine wp_loop_rounds 1 ?_
    rw [rounds_succ]
    go_wp2
    go_ret
    exact ⟨rfl, rfl⟩

theorem IsR.val {vs : List Go.SX.AV} {v : Go.SX.AV} {e1 e2 : Value} {r : Bool} (hv : v = .bool r) (hd : ∀ env x, Go.SX.Dens env vs x → x = [e1, e2])
    (hc : ∀ w, Calls Tryz.prog 195 #[e1, e2] w fun ev w' => ev = .returned (.bool r) ∧ w' = w) (R : Go.SX.Heap) (n : Nat) : Go.SX.Ctr Tryz.prog 195 vs R [] n n v [] := by
  refine ⟨by kernel_rfl, Nat.le_refl _, rfl, ?_⟩
  intro env F w xs hx _ _
  have hxs : xs = #[e1, e2] := by apply Array.ext'; simpa using hd env xs.toList hx
  subst hxs
  refine (hc w).mono ?_
  rintro ev w' ⟨rfl, rfl⟩
  subst hv
  exact ⟨env, F, _, rfl, ⟨Go.SX.Env.le.refl _, fun _ _ => rfl, ⟨fun hl => by simp [Go.SX.lookN] at hl, fun hl => by simp [Go.SX.lookN] at hl⟩, fun hl => by simp [Go.SX.lookN] at hl, Go.SX.FrameW.refl _ _⟩, by simp only [Go.SX.Den]⟩

/-- errors.Is, as an override. -/
noncomputable def Tryz.isIsR : Go.SX.Ov := fun g vs pre R n => match Nat.beq g 195, pre with
  | true, [] => match vs with
    | [.iface m e, .iface t (.str b)] => match Nat.beq t 304 with
      | true => match e with
        | .str a => match Nat.beq m 304 with
          | true => some (.bool (Go.SX.eqBs a.data.toList b.data.toList), [], n)
          | false => none
        | .agg [.int k i] => match [302].any (Nat.beq m) with
          | true => some (.bool false, [], n)
          | false => none
        | _ => none
      | false => none
    | _ => none
  | _, _ => none

theorem Tryz.isIsR_ok : Go.SX.OvOK Tryz.prog Tryz.isIsR := by
  intro g vs pre R n v post n' h
  unfold Tryz.isIsR at h
  split at h
  · rename_i hg
    have hg := Nat.eq_of_beq_eq_true hg
    subst hg
    split at h
    · rename_i m e t b
      split at h
      · rename_i ht
        have ht := Nat.eq_of_beq_eq_true ht
        subst ht
        split at h
        · rename_i a
          split at h
          · rename_i hm
            have hm := Nat.eq_of_beq_eq_true hm
            subst hm
            simp only [Option.some.injEq, Prod.mk.injEq] at h
            obtain ⟨rfl, rfl, rfl⟩ := h
            refine IsR.val (e1 := .iface 304 (.string a)) (e2 := .iface 304 (.string b)) rfl ?_ (fun w => IsR.is0 _ b w _ fun w => ?_) R _
            · intro env x hx
              simp only [Go.SX.Dens, Go.SX.Den] at hx
              obtain ⟨u1, _, rfl, ⟨_, rfl, rfl⟩, u2, _, rfl, ⟨_, rfl, rfl⟩, rfl⟩ := hx
              rfl
            · rw [IsR.eqStr _ a b w Tryz.underlying288 (by kernel_rfl) Tryz.underlying304]
              rw [show (a == b) = Go.SX.eqBs a.data.toList b.data.toList from by
                rw [Go.SX.eqBs_eq, Bool.eq_iff_iff, decide_eq_true_eq]
                show (a.data == b.data) = true ↔ _
                rw [beq_iff_eq]
                exact ⟨fun h => by rw [h], fun h => Array.ext' h⟩]
          · cases h
        · rename_i k i
          split at h
          · rename_i hm
            simp only [Option.some.injEq, Prod.mk.injEq] at h
            obtain ⟨rfl, rfl, rfl⟩ := h
            have hm' : m ∈ [302] := by
              rw [List.any_eq_true] at hm
              obtain ⟨y, hy, hb⟩ := hm
              have := Nat.eq_of_beq_eq_true hb
              subst this; exact hy
            simp only [List.mem_cons, List.not_mem_nil, or_false] at hm'
            rcases hm' with rfl
            · refine IsR.val (e1 := .iface 302 (.agg #[.int k i])) (e2 := .iface 304 (.string b)) rfl ?_ (fun w => IsR.is1 _ b w false fun w => run_eql_iface_types _ _ _ _ Tryz.underlying288 (by decide) w) R _
              intro env x hx
              simp only [Go.SX.Dens, Go.SX.Den] at hx
              obtain ⟨u1, _, rfl, ⟨_, rfl, q, rfl, _, _, hq, rfl, rfl⟩, u2, _, rfl, ⟨_, rfl, rfl⟩, rfl⟩ := hx
              have hq' := congrArg List.toArray hq
              simp only [Array.toArray_toList] at hq'
              rw [hq']
          · cases h
        · cases h
      · cases h
    · cases h
  · cases h
end Go.Proofs.YtpcekfimhnojnaaGreatDoor
