/- IncomeNone: the law footbridge/footbridgelaw31.IncomeNone answers true at every input: its example calls go as they should, and on what is none each function gives its value for none. No condition. -/
import Derived.Test.YtjfnajoopgcohaaGreatDoorRows
import Derived.Test.YtjfnajoopgcohaaGreatDoorTie
import Derived.Test.YtjfnajoopgcohaaGreatDoorCards
import Derived.Test.YtjfnajoopgcohaaGreatDoorTab
import Derived.Test.YtjfnajoopgcohaaGreatDoorSXZ
import Derived.Test.YtjfnajoopgcohaaGreatDoorIncomeNoneR
import Derived.LaidMore
import Derived.LaidHandle
import Derived.Deep.DeepLaidRun
import Derived.Lay
import Derived.SevenTiedAt
import Derived.Stop.Joined
import Derived.JoinedOf
namespace Go.Proofs.YtjfnajoopgcohaaGreatDoor
open Go.SX Go.ChangeShapes Go.WideShapes Go.ChangeAt Go.RowKit


theorem incomeNone_own : ownKnob Tryz.prog.godebug = none := by kernel_rfl
theorem incomeNone_laidOut : laidOutB Tryz.prog = true := by kernel_rfl

set_option maxRecDepth 100000 in
theorem incomeNone_lifted (os : Os) (started : os.Started) (H : Type) (enc : TypeId × Value → H) :
    ReturnsInHanded {} Tryz.checked os 3 .any (fun w args => (Rows.incomeNoneSpec.pre enc Tryz.prog Tryz.f3 Rows.incomeNoneRow.domain false w args ∧ laidMetH Tryz.prog [("unicode/utf8.acceptRanges", Rows.laid_unicode_utf8_acceptRanges), ("unicode/utf8.first", Rows.laid_unicode_utf8_first)] w) ∧ sizedMet enc Tryz.prog Tryz.f3 (OpenSpec.ofChange Rows.incomeNoneSpec) false w args)
      (Rows.incomeNoneSpec.post enc Tryz.prog Tryz.f3 false true false false) := by
  refine returnsInHanded_of_change_and (C := Tryz.checked) (X := fun w _ => laidMetH Tryz.prog [("unicode/utf8.acceptRanges", Rows.laid_unicode_utf8_acceptRanges), ("unicode/utf8.first", Rows.laid_unicode_utf8_first)] w) (fun _ _ _ hh h => h.of_heap hh) incomeNone_own started (by kernel_rfl) Tryz.func3
    (ChangeSpec.witness_shaped (enc := enc) (C := Tryz.checked) (os := os) (X := fun w _ => laidMetH Tryz.prog [("unicode/utf8.acceptRanges", Rows.laid_unicode_utf8_acceptRanges), ("unicode/utf8.first", Rows.laid_unicode_utf8_first)] w) false (World.laidAll Tryz.prog os [("unicode/utf8.acceptRanges", Rows.laid_unicode_utf8_acceptRanges), ("unicode/utf8.first", Rows.laid_unicode_utf8_first)]) (zerosOf Tryz.prog Tryz.f3.params) 8 (World.laidAll_os _ _ _)
      (World.shaped_of_ZipB (by kernel_rfl) (by kernel_rfl)) (by kernel_rfl) (by kernel_rfl) (by kernel_rfl) (by rw [MakeChecks.laidMetH_plain _ _ _ (by kernel_rfl)]; exact laidMet_laidAll _ (by kernel_rfl) (by kernel_rfl))) ?_
  intro W base args ds gs before hval hW _ _ hL _
  have hA : DataW.TrodAll enc Tryz.prog W 0 (fun _ => true) true Tryz.f3.params.toList args.toList ds _ := hW.choose_spec.choose_spec.1
  refine (Ctr.law (ts := Tryz.f3.params.toList) (sh := [some 17]) (base := base) (by kernel_rfl) rfl incomeNone_spec (trodAll_len hA).1 (fun j t v h1 h2 => hval j t v (by simpa using h1) (by simpa using h2))).mono fun e W' ⟨he, hb⟩ => ?_
  exact ⟨_, he, law_post (t := 4) incomeNone_laidOut (by kernel_rfl) (by kernel_rfl) Tryz.underlying4 rfl (fun l hl => by
    match l, hl with
    | [d0], _ => exact ⟨rfl, rfl, rfl⟩) hW hb⟩

end Go.Proofs.YtjfnajoopgcohaaGreatDoor
