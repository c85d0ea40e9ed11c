/- Two keys, as the document makes them. -/
import Derived.Test.YtkhliljbbjapmaaGreatDoorCL
import Derived.Test.YtkhliljbbjapmaaGreatDoorSXFL
namespace Go.Proofs.YtkhliljbbjapmaaGreatDoor
open Go.SX
theorem key1 : Ctr Tryz.prog 84 [.sv 0 1 0 2 (some 2)] [] [(0, .row 9 1 [.str nextW, .str clientW] (some 2))] 1 21 (.str (joinB nextW [clientW])) [(0, .row 9 1 [.str nextW, .str clientW] (some 2))] :=
  Tryz.ev_ok 80 (show Tryz.ev 80 84 [.sv 0 1 0 2 (some 2)] [(0, .row 9 1 [.str nextW, .str clientW] (some 2))] [] 1 = .ok (.str (joinB nextW [clientW]), [(0, .row 9 1 [.str nextW, .str clientW] (some 2))], 21) by kernel_rfl)
theorem key2 : Ctr Tryz.prog 84 [.sv 0 1 0 2 (some 2)] [] [(0, .row 9 1 [.str clientW, .str client0] (some 2))] 1 29 (.str (joinB clientW [client0])) [(0, .row 9 1 [.str clientW, .str client0] (some 2))] :=
  Tryz.ev_ok 80 (show Tryz.ev 80 84 [.sv 0 1 0 2 (some 2)] [(0, .row 9 1 [.str clientW, .str client0] (some 2))] [] 1 = .ok (.str (joinB clientW [client0]), [(0, .row 9 1 [.str clientW, .str client0] (some 2))], 29) by kernel_rfl)
end Go.Proofs.YtkhliljbbjapmaaGreatDoor
