/- A chain's first block. -/
import Derived.Test.YtkhliljbbjapmaaGreatDoorCN
import Derived.Test.YtkhliljbbjapmaaGreatDoorJC
import Derived.Test.YtkhliljbbjapmaaGreatDoorOv
namespace Go.Proofs.YtkhliljbbjapmaaGreatDoor
open Go.SX
noncomputable def L0 : List KV := chainL betaW rootW
theorem L0_len : L0.length = 3 := by kernel_rfl
theorem L0_srt : Srt L0 := chainL_srt _ _
theorem L0_le : L0.length * 2 ≤ room := chainL_le _ _
def rootV : ByteArray := ⟨⟨[108, 216, 252, 230, 130, 91, 66, 46, 122, 72, 34, 184, 36, 219, 64, 116, 228, 197, 107, 38, 252, 82, 230, 58, 27, 146, 98, 98, 85, 175, 40, 40]⟩⟩
def macV : ByteArray := ⟨⟨[27, 189, 131, 160, 115, 214, 103, 197, 79, 146, 89, 134, 145, 173, 62, 82, 180, 255, 164, 164, 207, 30, 49, 170, 192, 178, 77, 173, 226, 188, 156, 240]⟩⟩
def rawV : ByteArray := ⟨⟨[1, 5, 97, 108, 112, 104, 97, 1, 1, 0, 1, 32, 108, 216, 252, 230, 130, 91, 66, 46, 122, 72, 34, 184, 36, 219, 64, 116, 228, 197, 107, 38, 252, 82, 230, 58, 27, 146, 98, 98, 85, 175, 40, 40, 1, 32, 27, 189, 131, 160, 115, 214, 103, 197, 79, 146, 89, 134, 145, 173, 62, 82, 180, 255, 164, 164, 207, 30, 49, 170, 192, 178, 77, 173, 226, 188, 156, 240]⟩⟩
def rowV : List AV := [.str ⟨⟨[97, 100, 109, 105, 110]⟩⟩, .str ⟨⟨[114, 111, 111, 116]⟩⟩, .str ⟨⟨[99, 108, 105, 101, 110, 116, 47, 99, 108, 105, 101, 110, 116, 45, 48]⟩⟩, .str ⟨⟨[1, 4, 98, 101, 116, 97, 1, 11, 107, 101, 121, 32, 111, 102, 32, 98, 101, 116, 97, 0, 0]⟩⟩, .str ⟨⟨[110, 101, 120, 116, 47, 99, 108, 105, 101, 110, 116]⟩⟩, .str ⟨⟨[1, 1]⟩⟩]
theorem rowV_eq : [cellF L0 0 0, cellF L0 0 1, cellF L0 1 0, cellF L0 1 1, cellF L0 2 0, cellF L0 2 1] = rowV := by kernel_rfl
theorem root1 : Ctr Tryz.prog 34 [.sv 2 2 0 3 (some 3)] [] [(2, .row 99 2 rowV (some 3))] 5 94 (.str rootV) [(2, .row 99 2 rowV (some 3))] :=
  Tryz.ovA_ok 80 (show Tryz.evo Tryz.ovA 80 34 [.sv 2 2 0 3 (some 3)] [(2, .row 99 2 rowV (some 3))] [] 5 = .ok (.str rootV, [(2, .row 99 2 rowV (some 3))], 94) by kernel_rfl)
theorem root0 : Ctr Tryz.prog 34 [.sv 2 2 0 3 (some 3)] [] [(2, .row 99 2 [cellF L0 0 0, cellF L0 0 1, cellF L0 1 0, cellF L0 1 1, cellF L0 2 0, cellF L0 2 1] (some 3))] 5 94 (.str rootV) [(2, .row 99 2 rowV (some 3))] := by
  rw [rowV_eq]; exact root1
theorem sign0 : Ctr Tryz.prog 33 [.str (catB keyofW alphaW), .agg [.str alphaW, .int .i64 1, .int .i64 0, .str rootV, .str ⟨⟨[]⟩⟩]] [] [] 0 0 (.tup [.agg [.str alphaW, .int .i64 1, .int .i64 0, .str rootV, .str macV], .int .i64 0]) [] :=
  Ctr.shut (Tryz.ovA_ok 80 (show Tryz.evo Tryz.ovA 80 33 [.str (catB keyofW alphaW), .agg [.str alphaW, .int .i64 1, .int .i64 0, .str rootV, .str ⟨⟨[]⟩⟩]] [] [] 5 = .ok (.tup [.agg [.str alphaW, .int .i64 1, .int .i64 0, .str rootV, .str macV], .int .i64 0], [], 44) by kernel_rfl)) rfl rfl
theorem put0h : Ctr Tryz.prog 35 [.agg [.str alphaW, .int .i64 1, .int .i64 0, .str rootV, .str macV]] [] [] 0 0 (.tup [.str rawV, .int .i64 0]) [] :=
  Ctr.shut (Tryz.ovA_ok 80 (show Tryz.evo Tryz.ovA 80 35 [.agg [.str alphaW, .int .i64 1, .int .i64 0, .str rootV, .str macV]] [] [] 5 = .ok (.tup [.str rawV, .int .i64 0], [], 18) by kernel_rfl)) rfl rfl
theorem now0 (k m : Nat) : Ctr Tryz.prog 21 [.ptr 0 0] [] [(0, chX .nils (.sv 2 8 0 k none) (.sv 3 9 0 m none))] 4 4 (.agg [.int .i64 1, .int .i64 0]) [(0, chX .nils (.sv 2 8 0 k none) (.sv 3 9 0 m none))] := by
  refine Ctr.introR (T := Tryz.T) Tryz.hT Tryz.hM Tryz.hE Tryz.func21 rfl (by kernel_rfl) rfl rfl rfl rfl ?_
  conv => whnf
  exact .mk' [] rfl rfl rfl rfl rfl rfl ⟨rfl, trivial⟩
theorem block0 (k m : Nat) : Ctr Tryz.prog 10 [.ptr 0 0] [] [(0, chX .nils (.sv 2 8 0 k none) (.sv 3 9 0 m none)), (1, jour L0)] 4 5 (.int .i64 0) [(0, chX (.sv 4 2 0 1 none) (.sv 2 8 0 k none) (.sv 3 9 0 m none)), (1, jour L0)] := by
  refine Ctr.introR (T := Tryz.T) Tryz.hT Tryz.hM Tryz.hE Tryz.func10 rfl (by kernel_rfl) rfl rfl rfl rfl ?_
  conv => whnf
  refine callR [1] (jdepthP L0) rfl rfl rfl rfl trivial ⟨rfl, trivial⟩ ?_
  conv => whnf
  refine callR [1] (jlistP L0_srt L0_le) rfl rfl rfl rfl trivial ⟨rfl, trivial⟩ ?_
  conv => whnf
  rw [L0_len]
  refine ⟨by decide, ?_⟩
  conv => whnf
  refine callR [0, 1, 2, 3] (now0 k m) rfl rfl rfl rfl trivial ⟨rfl, trivial⟩ ?_
  conv => whnf
  refine ⟨by decide, ?_⟩
  conv => whnf
  refine callR [0, 1, 5, 2, 3] root0 (post' := [(5, .row 99 2 rowV (some 3))]) rfl rfl rfl rfl trivial ⟨rfl, trivial⟩ ?_
  conv => whnf
  refine callR [] sign0 rfl rfl rfl rfl trivial trivial ?_
  conv => whnf
  refine callR [] put0h rfl rfl rfl rfl trivial trivial ?_
  conv => whnf
  refine ⟨by decide, ?_⟩
  conv => whnf
  exact .mk' [98] rfl rfl rfl rfl rfl rfl ⟨rfl, rfl, trivial⟩
end Go.Proofs.YtkhliljbbjapmaaGreatDoor
