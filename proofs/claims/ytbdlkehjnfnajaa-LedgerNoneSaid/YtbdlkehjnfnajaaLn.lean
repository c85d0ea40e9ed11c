/- LedgerNone: on a nil model each operation gives its value for none; the example calls go as they should. No condition. -/
import Derived.Test.YtbdlkehjnfnajaaRows
import Derived.Test.YtbdlkehjnfnajaaTab
import Derived.Test.YtbdlkehjnfnajaaSXZ
namespace Go.Proofs.Ytbdlkehjnfnajaa
open Go.SX Go.ChangeShapes Go.WideShapes Go.ChangeAt Go.RowKit

theorem none_spec : Ctr Try.prog 5 (argsA 0 [some 29]) [] [] 29 179 (.bool true) [] := Try.ev_ok 32 (by kernel_rfl)

theorem Try.own : ownKnob Try.prog.godebug = none := by kernel_rfl
theorem Try.laidOut : laidOutB Try.prog = true := by kernel_rfl

set_option maxRecDepth 100000 in
theorem none_lifted (os : Os) (started : os.Started) (H : Type) (enc : TypeId × Value → H) :
    ReturnsInHanded {} Try.checked os 5 .any (Rows.ledgerNoneSpec.pre6 enc Try.prog Try.f5 Rows.ledgerNoneRow.domain false) (Rows.ledgerNoneSpec.post enc Try.prog Try.f5 false true false false) := by
  refine returnsInHanded_of_change (C := Try.checked) Try.own started (by kernel_rfl) Try.func5
    (ChangeSpec.witness6 (enc := enc) (C := Try.checked) false ⟨#[], zerosOf Try.prog Try.f5.params, []⟩ 8 (by kernel_rfl) (by kernel_rfl) (by kernel_rfl) (by kernel_rfl)) ?_
  intro W base args ds gs before hval hW _ _
  have hA : DataW.TrodAll enc Try.prog W 0 (fun _ => true) true Try.f5.params.toList args.toList ds _ := hW.choose_spec.choose_spec.1
  refine (Ctr.law (ts := Try.f5.params.toList) (sh := [some 29]) (base := base) (by kernel_rfl) rfl none_spec (trodAll_len hA).1 (fun j t v h1 h2 => hval j t v (by simpa using h1) (by simpa using h2))).mono fun e W' ⟨he, hb⟩ => ?_
  exact ⟨_, he, law_post (t := 4) Try.laidOut (by kernel_rfl) (by kernel_rfl) Try.underlying4 rfl (fun l hl => by
    match l, hl with
    | [d], _ => exact ⟨rfl, rfl, rfl⟩) hW hb⟩

theorem ledgerNone_holds : Rows.LedgerNoneSaid :=
  OpenClaim.holds_of_wide 5 Try.f5 rfl rfl rfl rfl rfl rfl rfl ⟨rfl, rfl, rfl, rfl, rfl⟩ rfl rfl rfl rfl rfl (by kernel_rfl) Try.func5 (by kernel_rfl)
    (of_decide_eq_true (by kernel_rfl)) (by unfold Func.isWrapper; rw [if_neg (of_decide_eq_false (by kernel_rfl))]; exact ⟨rfl, rfl⟩)
    (fun os started H enc _ => none_lifted os started H enc)

#print axioms ledgerNone_holds
end Go.Proofs.Ytbdlkehjnfnajaa
