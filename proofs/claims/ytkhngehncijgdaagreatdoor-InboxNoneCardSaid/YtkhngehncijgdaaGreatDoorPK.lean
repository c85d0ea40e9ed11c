/- path.Number and packet.Key, at whatever they are handed. -/
import Derived.Test.YtkhngehncijgdaaGreatDoorRep
import Derived.Test.YtkhngehncijgdaaGreatDoorSXZ
namespace Go.Proofs.YtkhngehncijgdaaGreatDoor
open Go.SX

theorem fin_str {n n' : Nat} {r : AV} {t : ByteArray} {H : Heap} (h : r = .str t) : Fin n n' (.str t) [] r H := by subst h; exact Fin.same rfl rfl (by simp)

set_option maxRecDepth 20000 in
theorem pathNum1 (x : Int) : ∃ s : ByteArray, s.size ≤ 140737488355328 ∧ Ctr Tryz.prog 44 [.int .i64 x] [] [] 0 0 (.str s) [] := by
  refine ⟨?s, ?h, Ctr.shut (m := 0) (k := 1) ?c rfl rfl⟩
  case c =>
    refine Ctr.introR (T := Tryz.T) Tryz.hT Tryz.hM Tryz.hE Tryz.func44 rfl (by kernel_rfl) rfl rfl rfl rfl ?_
    conv => whnf
    refine unrollR Tryz.hT Tryz.hM Tryz.hE 15 ?_
    conv => whnf
    iterate 15
      refine ⟨by decide, ?_⟩
      conv => whnf
    refine fin_str ?_
    conv => lhs; whnf
  case h => exact (show (14 : Nat) ≤ 140737488355328 by decide)

set_option maxRecDepth 20000 in
theorem packetKey1 (w p q : ByteArray) (x : Int) (hw : w.size ≤ 140737488355328) (hp : p.size ≤ 140737488355328) (hq : q.size ≤ 140737488355328) : ∃ s : ByteArray,
    Ctr Tryz.prog 17 [.str w, .agg [.str p, .str q], .int .i64 x] [] [] 0 0 (.str s) [] := by
  obtain ⟨m, hm, hc⟩ := pathNum1 x
  refine ⟨joinB w [p, q, m], Ctr.shut (m := 0) (k := 2) ?_ rfl rfl⟩
  refine Ctr.introR (T := Tryz.T) Tryz.hT Tryz.hM Tryz.hE Tryz.func17 rfl (by kernel_rfl) rfl rfl rfl rfl ?_
  conv => whnf
  refine callR [] hc rfl rfl rfl rfl trivial trivial ?_
  conv => whnf
  refine callR [1] (join1 w [p, q, m] hw (fun s hs => by simp only [List.mem_cons, List.not_mem_nil, or_false] at hs; rcases hs with rfl | rfl | rfl <;> assumption) (by simp)) rfl rfl rfl rfl trivial ⟨rfl, trivial⟩ ?_
  conv => whnf
  generalize hr : raceB _ _ = rb
  obtain rfl : rb = true := hr.symm.trans (by kernel_rfl)
  conv => whnf
  exact Fin.same rfl rfl (by simp)
end Go.Proofs.YtkhngehncijgdaaGreatDoor
