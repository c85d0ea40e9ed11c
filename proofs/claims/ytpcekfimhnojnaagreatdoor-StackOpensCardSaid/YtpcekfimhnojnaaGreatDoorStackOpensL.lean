/- StackOpens: the law footbridge/footbridgelaw36.StackOpens answers true at every input: its example calls go as they should, and on what is none each function gives its value for none. No condition. -/
import Derived.Test.YtpcekfimhnojnaaGreatDoorRows
import Derived.Test.YtpcekfimhnojnaaGreatDoorTie
import Derived.Test.YtpcekfimhnojnaaGreatDoorCards
import Derived.Test.YtpcekfimhnojnaaGreatDoorTab
import Derived.Test.YtpcekfimhnojnaaGreatDoorSXZ
import Derived.Test.YtpcekfimhnojnaaGreatDoorStackOpensR
import Derived.Test.YtpcekfimhnojnaaGreatDoorSO
import Derived.LaidMore
import Derived.LaidHandle
import Derived.Deep.DeepLaidRun
import Derived.Lay
import Derived.SevenTiedAt
import Derived.Stop.Joined
import Derived.JoinedOf
namespace Go.Proofs.YtpcekfimhnojnaaGreatDoor
open Go.SX Go.ChangeShapes Go.WideShapes Go.ChangeAt Go.RowKit


theorem stackOpens_cell {w : World} (h : laidMetH Tryz.prog [("unicode/utf8.acceptRanges", Rows.laid_unicode_utf8_acceptRanges), ("errors.errorType", Rows.laid_errors_errorType), ("unicode/utf8.first", Rows.laid_unicode_utf8_first)] w) : w.cell? ⟨0, 0, none⟩ = some (.iface 442 (.agg #[.pointer (some ⟨4, 288, none⟩)])) := by
  have hall : ((List.range Tryz.prog.types.size).all fun t => !Tryz.prog.rowNamed t [101, 114, 114, 111, 114] || Nat.beq t 288) = true := by kernel_rfl
  have h := handle_cell h (x := ("errors.errorType", Rows.laid_errors_errorType)) (by simp) (by kernel_rfl) (by kernel_rfl) (g := 0) (u := 442) (ty := 288) (name := [101, 114, 114, 111, 114]) (by kernel_rfl) (by kernel_rfl) (by kernel_rfl) (fun t h1 h2 => by
    have := List.all_eq_true.1 hall t (List.mem_range.2 h1)
    rw [h2] at this
    exact Nat.eq_of_beq_eq_true (by simpa using this))
  have e : typeHandle Tryz.prog 288 = .pointer (some ⟨4, 288, none⟩) := by kernel_rfl
  rw [e] at h; exact h
theorem stackOpens_own : ownKnob Tryz.prog.godebug = none := by kernel_rfl
theorem stackOpens_laidOut : laidOutB Tryz.prog = true := by kernel_rfl
theorem laidMet_base {P : Program} {w0 : World} {laid : List (String × DataW Unit)} (hf : w0.layFits P laid [] = true) (hi : w0.layIfaces P laid (w0.layVars P laid) = true) : laidMet P laid (w0.layVars P laid) := by
  have e1 : (laid.filter fun x => (laid.map (·.1)).contains x.1) = laid := List.filter_eq_self.2 fun x hx => List.contains_iff_mem.2 (List.mem_map.2 ⟨x, hx, rfl⟩)
  have e2 : (laid.filter fun x => !(laid.map (·.1)).contains x.1) = [] := List.filter_eq_nil_iff.2 fun x hx => by rw [List.contains_iff_mem.2 (List.mem_map.2 ⟨x, hx, rfl⟩)]; simp
  exact laidMet_layVars (w0 := w0) (laid.map (·.1)) [] (by rw [e1]) (by rw [e1]; exact hf) (by rw [e1]; exact hi) (by rw [e2]; exact LaidIn.none)

/-- A world in which the listed variables lie. -/
noncomputable def stackOpens_base (os : Os) : World :=
  let w0 := World.holding Tryz.prog os ⟨#[], #[], []⟩
  { w0 with heap := w0.heap.modify 0 fun
      | .cells _ t frozen => .cells #[.iface (((Tryz.prog.cutTypes.find? (·.1 == "internal/reflectlite.rtype")).map (·.2)).getD 0) (.agg #[typeHandle Tryz.prog (((List.range Tryz.prog.types.size).find? fun t => Tryz.prog.rowNamed t [101, 114, 114, 111, 114]).getD 0)])] t frozen
      | o => o }
noncomputable def stackOpens_world (os : Os) : World := (stackOpens_base os).layVars Tryz.prog [("unicode/utf8.acceptRanges", Rows.laid_unicode_utf8_acceptRanges), ("unicode/utf8.first", Rows.laid_unicode_utf8_first)]
theorem stackOpens_met (os : Os) (args : Array Value) : laidMetH Tryz.prog [("unicode/utf8.acceptRanges", Rows.laid_unicode_utf8_acceptRanges), ("errors.errorType", Rows.laid_errors_errorType), ("unicode/utf8.first", Rows.laid_unicode_utf8_first)] ((stackOpens_world os).forCall (fun _ _ => 0) ⟨#[], args, []⟩).memory := by
  refine laidMetH_of_parts (show laidMet Tryz.prog [("unicode/utf8.acceptRanges", Rows.laid_unicode_utf8_acceptRanges), ("unicode/utf8.first", Rows.laid_unicode_utf8_first)] _ from ?_) (by kernel_rfl)
  have h : laidMet Tryz.prog [("unicode/utf8.acceptRanges", Rows.laid_unicode_utf8_acceptRanges), ("unicode/utf8.first", Rows.laid_unicode_utf8_first)] (stackOpens_world os) := laidMet_base (by kernel_rfl) (by kernel_rfl)
  exact h.of_heap (by simp [World.memory, World.forCall, Input.heap])

set_option maxRecDepth 100000 in
theorem stackOpens_lifted (os : Os) (started : os.Started) (H : Type) (enc : TypeId × Value → H) :
    ReturnsInHanded {} Tryz.checked os 3 .any (fun w args => (Rows.stackOpensSpec.pre enc Tryz.prog Tryz.f3 Rows.stackOpensRow.domain false w args ∧ laidMetH Tryz.prog [("unicode/utf8.acceptRanges", Rows.laid_unicode_utf8_acceptRanges), ("errors.errorType", Rows.laid_errors_errorType), ("unicode/utf8.first", Rows.laid_unicode_utf8_first)] w) ∧ sizedMet enc Tryz.prog Tryz.f3 (OpenSpec.ofChange Rows.stackOpensSpec) false w args)
      (Rows.stackOpensSpec.post enc Tryz.prog Tryz.f3 false true false false) := by
  refine returnsInHanded_of_change_and (C := Tryz.checked) (X := fun w _ => laidMetH Tryz.prog [("unicode/utf8.acceptRanges", Rows.laid_unicode_utf8_acceptRanges), ("errors.errorType", Rows.laid_errors_errorType), ("unicode/utf8.first", Rows.laid_unicode_utf8_first)] w) (fun _ _ _ hh h => h.of_heap hh) stackOpens_own started (by kernel_rfl) Tryz.func3
    (ChangeSpec.witness_shaped (enc := enc) (C := Tryz.checked) (os := os) (X := fun w _ => laidMetH Tryz.prog [("unicode/utf8.acceptRanges", Rows.laid_unicode_utf8_acceptRanges), ("errors.errorType", Rows.laid_errors_errorType), ("unicode/utf8.first", Rows.laid_unicode_utf8_first)] w) false (stackOpens_world os) (zerosOf Tryz.prog Tryz.f3.params) 8 (World.layVars_os _ _ _)
      (World.shaped_of_ZipB (by kernel_rfl) (by kernel_rfl)) (by kernel_rfl) (by kernel_rfl) (by kernel_rfl) (stackOpens_met os _)) ?_
  intro W base args ds gs before hval hW _ hz hL _
  have hA : DataW.TrodAll enc Tryz.prog W 0 (fun _ => true) true Tryz.f3.params.toList args.toList ds _ := hW.choose_spec.choose_spec.1
  refine (Ctr.lawTG (ts := Tryz.f3.params.toList) (base := base) (h := stackOpens_law stackOpens_aw) (by kernel_rfl) (trodAll_len hA).1 (fun j t v h1 h2 => hval j t v (by simpa using h1) (by simpa using h2)) (stackOpens_cell hL)).mono fun e W' ⟨he, hb⟩ => ?_
  exact ⟨_, he, law_post (t := 4) stackOpens_laidOut (by kernel_rfl) (by kernel_rfl) Tryz.underlying4 rfl (fun l hl => by
    match l, hl with
    | [d0, d1], _ => exact ⟨rfl, rfl, rfl⟩) hW hb⟩

end Go.Proofs.YtpcekfimhnojnaaGreatDoor
