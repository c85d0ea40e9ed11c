/- A closed call, run by itself: its value serves as an override. -/
import Derived.Test.YtpcekfimhnojnaaGreatDoorPanG
import Derived.Test.YtpcekfimhnojnaaGreatDoorSXEQ
namespace Go.Proofs.YtpcekfimhnojnaaGreatDoor
open Go.SX
theorem Tryz.cutS0_run : Tryz.evo Tryz.ovQ 80 16 [] [] [] 1 = .ok ((.tup [(.agg [(.ptr 3 0), (.sv 95 2 0 2 .none), .nils, (.int .i64 0)]), (.bool .true)]), ([(95, (.row 190 2 [(.str ⟨⟨[99, 108, 105, 101, 110, 116, 47, 99, 108, 105, 101, 110, 116, 45, 48]⟩⟩), (.str ⟨⟨[1, 5, 111, 116, 104, 101, 114, 1, 1, 107, 0, 0]⟩⟩), (.str ⟨⟨[110, 101, 120, 116, 47, 99, 108, 105, 101, 110, 116]⟩⟩), (.str ⟨⟨[1, 1]⟩⟩)] .none)), (26, (.row 190 2 [(.str ⟨⟨[99, 108, 105, 101, 110, 116, 47, 99, 108, 105, 101, 110, 116, 45, 48]⟩⟩), (.str ⟨⟨[1, 5, 111, 116, 104, 101, 114, 1, 1, 107, 0, 0]⟩⟩), (.str ⟨⟨[110, 101, 120, 116, 47, 99, 108, 105, 101, 110, 116]⟩⟩), (.str ⟨⟨[1, 1]⟩⟩)] .none)), (2, (.box 297 [(.sv 26 2 0 2 .none)])), (3, (.box 168 [(.ptr 2 0), .nils]))], 96)) := by kernel_rfl
noncomputable def Tryz.cutS0 : Ov := atOvN 16 [] ((.tup [(.agg [(.ptr 3 0), (.sv 95 2 0 2 .none), .nils, (.int .i64 0)]), (.bool .true)]), ([(95, (.row 190 2 [(.str ⟨⟨[99, 108, 105, 101, 110, 116, 47, 99, 108, 105, 101, 110, 116, 45, 48]⟩⟩), (.str ⟨⟨[1, 5, 111, 116, 104, 101, 114, 1, 1, 107, 0, 0]⟩⟩), (.str ⟨⟨[110, 101, 120, 116, 47, 99, 108, 105, 101, 110, 116]⟩⟩), (.str ⟨⟨[1, 1]⟩⟩)] .none)), (26, (.row 190 2 [(.str ⟨⟨[99, 108, 105, 101, 110, 116, 47, 99, 108, 105, 101, 110, 116, 45, 48]⟩⟩), (.str ⟨⟨[1, 5, 111, 116, 104, 101, 114, 1, 1, 107, 0, 0]⟩⟩), (.str ⟨⟨[110, 101, 120, 116, 47, 99, 108, 105, 101, 110, 116]⟩⟩), (.str ⟨⟨[1, 1]⟩⟩)] .none)), (2, (.box 297 [(.sv 26 2 0 2 .none)])), (3, (.box 168 [(.ptr 2 0), .nils]))], 96))
theorem Tryz.cutS0_ok : OvOK Tryz.prog Tryz.cutS0 := atOvN_ok (by kernel_rfl) (Tryz.ovQ_ok 80 Tryz.cutS0_run)
noncomputable def Tryz.ovS0 : Ov := orOv Tryz.cutS0 Tryz.ovQ
theorem Tryz.ovS0_ok0 : OvOK Tryz.prog Tryz.ovS0 := orOv_ok Tryz.cutS0_ok Tryz.ovQ_ok0
theorem Tryz.ovS0_ok (k : Nat) : CallOK Tryz.prog (Tryz.evo Tryz.ovS0 k) := Tryz.evo_ok Tryz.ovS0_ok0 k
end Go.Proofs.YtpcekfimhnojnaaGreatDoor
