/- OutgoNone: the law footbridge/footbridgelaw30.OutgoNone answers true at every input: its example calls go as they should, and on what is none each function gives its value for none. No condition. -/
import Derived.Test.YtaomokmomkdaaaaGreatDoorRows
import Derived.Test.YtaomokmomkdaaaaGreatDoorTie
import Derived.Test.YtaomokmomkdaaaaGreatDoorCards
import Derived.Test.YtaomokmomkdaaaaGreatDoorTab
import Derived.Test.YtaomokmomkdaaaaGreatDoorSXZ
import Derived.Test.YtaomokmomkdaaaaGreatDoorOv
import Derived.LaidMore
import Derived.LaidHandle
import Derived.Deep.DeepLaidRun
import Derived.Lay
import Derived.SevenTiedAt
import Derived.Stop.Joined
import Derived.JoinedOf
namespace Go.Proofs.YtaomokmomkdaaaaGreatDoor
open Go.SX Go.ChangeShapes Go.WideShapes Go.ChangeAt Go.RowKit

theorem outgoNone_run : Tryz.evo Tryz.ovA 80 5 (argsA 0 [some 9]) [] [] 9 = .ok (.bool true, [], 2937) := by kernel_rfl
theorem outgoNone_spec : Ctr Tryz.prog 5 (argsA 0 [some 9]) [] [] 9 2937 (.bool true) [] := Tryz.ovA_ok 80 outgoNone_run

theorem outgoNone_own : ownKnob Tryz.prog.godebug = none := by kernel_rfl
theorem outgoNone_laidOut : laidOutB Tryz.prog = true := by kernel_rfl

set_option maxRecDepth 100000 in
theorem outgoNone_lifted (os : Os) (started : os.Started) (H : Type) (enc : TypeId × Value → H) :
    ReturnsInHanded {} Tryz.checked os 5 .any (fun w args => (Rows.outgoNoneSpec.pre enc Tryz.prog Tryz.f5 Rows.outgoNoneRow.domain false w args ∧ laidMetH Tryz.prog [("unicode/utf8.acceptRanges", Rows.laid_unicode_utf8_acceptRanges), ("unicode/utf8.first", Rows.laid_unicode_utf8_first)] w) ∧ sizedMet enc Tryz.prog Tryz.f5 (OpenSpec.ofChange Rows.outgoNoneSpec) false w args)
      (Rows.outgoNoneSpec.post enc Tryz.prog Tryz.f5 false true false false) := by
  refine returnsInHanded_of_change_and (C := Tryz.checked) (X := fun w _ => laidMetH Tryz.prog [("unicode/utf8.acceptRanges", Rows.laid_unicode_utf8_acceptRanges), ("unicode/utf8.first", Rows.laid_unicode_utf8_first)] w) (fun _ _ _ hh h => h.of_heap hh) outgoNone_own started (by kernel_rfl) Tryz.func5
    (ChangeSpec.witness_shaped (enc := enc) (C := Tryz.checked) (os := os) (X := fun w _ => laidMetH Tryz.prog [("unicode/utf8.acceptRanges", Rows.laid_unicode_utf8_acceptRanges), ("unicode/utf8.first", Rows.laid_unicode_utf8_first)] w) false (World.laidAll Tryz.prog os [("unicode/utf8.acceptRanges", Rows.laid_unicode_utf8_acceptRanges), ("unicode/utf8.first", Rows.laid_unicode_utf8_first)]) (zerosOf Tryz.prog Tryz.f5.params) 8 (World.laidAll_os _ _ _)
      (World.shaped_of_ZipB (by kernel_rfl) (by kernel_rfl)) (by kernel_rfl) (by kernel_rfl) (by kernel_rfl) (by rw [MakeChecks.laidMetH_plain _ _ _ (by kernel_rfl)]; exact laidMet_laidAll _ (by kernel_rfl) (by kernel_rfl))) ?_
  intro W base args ds gs before hval hW _ _ hL _
  have hA : DataW.TrodAll enc Tryz.prog W 0 (fun _ => true) true Tryz.f5.params.toList args.toList ds _ := hW.choose_spec.choose_spec.1
  refine (Ctr.law (ts := Tryz.f5.params.toList) (sh := [some 9]) (base := base) (by kernel_rfl) rfl outgoNone_spec (trodAll_len hA).1 (fun j t v h1 h2 => hval j t v (by simpa using h1) (by simpa using h2))).mono fun e W' ⟨he, hb⟩ => ?_
  exact ⟨_, he, law_post (t := 4) outgoNone_laidOut (by kernel_rfl) (by kernel_rfl) Tryz.underlying4 rfl (fun l hl => by
    match l, hl with
    | [d0], _ => exact ⟨rfl, rfl, rfl⟩) hW hb⟩

theorem outgoNone_holds : Rows.OutgoNoneSaid :=
  OpenClaim.holds_of_wide 5 Tryz.f5 rfl rfl rfl rfl rfl rfl rfl ⟨rfl, rfl, rfl, rfl, rfl⟩ rfl rfl rfl rfl rfl (by kernel_rfl) Tryz.func5 (by kernel_rfl)
    (of_decide_eq_true (by kernel_rfl)) (by unfold Func.isWrapper; first | (rw [if_pos (by decide +kernel)]; kernel_rfl) | (rw [if_neg (by decide +kernel)]; exact ⟨rfl, rfl⟩))
    (fun os started H enc _ => outgoNone_lifted os started H enc)

theorem outgoNone_card : Rows.OutgoNoneCardSaid :=
  Claim7.holds_tied_plain_at .later [] [.data, .pinned] true (true, "90b8ff677af36b8bcfd2366e0f9ee182eeb3412c31bdcf2754a887a68f8573f3") true outgoNone_holds (fun _ h => by cases h) (by kernel_rfl) (fun _ h => by cases h) outgoNone_row_tie rfl ⟨rfl, rfl⟩ (by kernel_rfl) rfl
    (fun f fn hf hfn => by
      obtain rfl : f = 5 := Option.some.inj ((show Tryz.prog.funcNamed "footbridge/footbridgelaw30.OutgoNone" = some 5 by kernel_rfl).symm.trans hf) |>.symm
      obtain rfl : fn = Tryz.f5 := (Option.some.inj (Tryz.func5.symm.trans hfn)).symm
      exact ⟨by kernel_rfl, fun j t ht => by
        rw [Tryz.params5] at ht
        have hm : t ∈ [53] := by simpa using Array.mem_of_getElem? ht
        have hall : ([53].all fun u => !Tryz.prog.wantsStandIn u) = true := by kernel_rfl
        exact (show Tryz.prog.wantsStandIn t = false by simpa using List.all_eq_true.1 hall t hm)⟩)
    (by kernel_rfl)
#print axioms outgoNone_card
end Go.Proofs.YtaomokmomkdaaaaGreatDoor
