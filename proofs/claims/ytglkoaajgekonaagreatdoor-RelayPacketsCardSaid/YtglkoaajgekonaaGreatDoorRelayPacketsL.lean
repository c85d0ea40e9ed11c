/- RelayPackets: the law footbridge/footbridgelaw40.RelayPackets answers true at every input: its example calls go as they should, and on what is none each function gives its value for none. No condition. -/
import Derived.Test.YtglkoaajgekonaaGreatDoorRows
import Derived.Test.YtglkoaajgekonaaGreatDoorTie
import Derived.Test.YtglkoaajgekonaaGreatDoorCards
import Derived.Test.YtglkoaajgekonaaGreatDoorTab
import Derived.Test.YtglkoaajgekonaaGreatDoorSXZ
import Derived.Test.YtglkoaajgekonaaGreatDoorRelayPacketsR
import Derived.Test.YtglkoaajgekonaaGreatDoorRZP
import Derived.LaidMore
import Derived.LaidHandle
import Derived.Deep.DeepLaidRun
import Derived.Lay
import Derived.SevenTiedAt
import Derived.Stop.Joined
import Derived.JoinedOf
namespace Go.Proofs.YtglkoaajgekonaaGreatDoor
open Go.SX Go.ChangeShapes Go.WideShapes Go.ChangeAt Go.RowKit
theorem relayPackets_own : ownKnob Tryz.prog.godebug = none := by kernel_rfl
theorem relayPackets_laidOut : laidOutB Tryz.prog = true := by kernel_rfl
set_option maxRecDepth 100000 in
theorem relayPackets_lifted (os : Os) (started : os.Started) (H : Type) (enc : TypeId × Value → H) :
  ReturnsInHanded {} Tryz.checked os 5 .any (fun w args => (Rows.relayPacketsSpec.pre enc Tryz.prog Tryz.f5 Rows.relayPacketsRow.domain false w args ∧ laidMetH Tryz.prog [("unicode/utf8.acceptRanges", Rows.laid_unicode_utf8_acceptRanges), ("unicode/utf8.first", Rows.laid_unicode_utf8_first)] w) ∧ sizedMet enc Tryz.prog Tryz.f5 (OpenSpec.ofChange Rows.relayPacketsSpec) false w args)
   (Rows.relayPacketsSpec.post enc Tryz.prog Tryz.f5 false true false false) := by
 refine returnsInHanded_of_change_and (C := Tryz.checked) (X := fun w _ => laidMetH Tryz.prog [("unicode/utf8.acceptRanges", Rows.laid_unicode_utf8_acceptRanges), ("unicode/utf8.first", Rows.laid_unicode_utf8_first)] w) (fun _ _ _ hh h => h.of_heap hh) relayPackets_own started (by kernel_rfl) Tryz.func5
  (ChangeSpec.witness_shaped (enc := enc) (C := Tryz.checked) (os := os) (X := fun w _ => laidMetH Tryz.prog [("unicode/utf8.acceptRanges", Rows.laid_unicode_utf8_acceptRanges), ("unicode/utf8.first", Rows.laid_unicode_utf8_first)] w) false (World.laidAll Tryz.prog os [("unicode/utf8.acceptRanges", Rows.laid_unicode_utf8_acceptRanges), ("unicode/utf8.first", Rows.laid_unicode_utf8_first)]) (zerosOf Tryz.prog Tryz.f5.params) 8 (World.laidAll_os _ _ _)
   (World.shaped_of_ZipB (by kernel_rfl) (by kernel_rfl)) (by kernel_rfl) (by kernel_rfl) (by kernel_rfl) (by rw [MakeChecks.laidMetH_plain _ _ _ (by kernel_rfl)]; exact laidMet_laidAll _ (by kernel_rfl) (by kernel_rfl))) ?_
 intro W base args ds gs before hval hW _ hz hL _
 have hA : DataW.TrodAll enc Tryz.prog W 0 (fun _ => true) true Tryz.f5.params.toList args.toList ds _ := hW.choose_spec.choose_spec.1
 refine (Ctr.lawL (ts := Tryz.f5.params.toList) (base := base) (by kernel_rfl) (relayPackets_law relayPackets_aw) (fun j t v h1 h2 => hval j t v (by simpa using h1) (by simpa using h2)) hA hz).mono fun e W' ⟨he, hb⟩ => ?_
 exact ⟨_, he, law_post (t := 4) relayPackets_laidOut (by kernel_rfl) (by kernel_rfl) Tryz.underlying4 rfl (fun l hl => by
  match l, hl with
  | [d0, d1, d2], _ => exact ⟨rfl, rfl, rfl⟩) hW hb⟩
end Go.Proofs.YtglkoaajgekonaaGreatDoor
-- SQUEEZED
