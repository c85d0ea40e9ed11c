/- ChannelNone: what the functions give at no journal, and the law. -/
import Derived.Test.YthapoblhhlclnaaGreatDoorRep
import Derived.Test.YthapoblhhlclnaaGreatDoorOv
import Derived.Test.YthapoblhhlclnaaGreatDoorSXFL
import Derived.Test.YthapoblhhlclnaaGreatDoorSXSM
import Derived.Test.YthapoblhhlclnaaGreatDoorSXZ
namespace Go.Proofs.YthapoblhhlclnaaGreatDoor
open Go.SX
noncomputable def noChn : AV := .agg [.int .i64 0, .int .i64 0, .str ⟨⟨[]⟩⟩, .str ⟨⟨[]⟩⟩, .str ⟨⟨[]⟩⟩, .str ⟨⟨[]⟩⟩]
noncomputable def atOne : AV := .agg [.int .i64 1, .str ⟨⟨[]⟩⟩]

theorem hnGet_run : Tryz.evo Tryz.ovA 80 8 [.nilp, .agg [.hd 0, .hd 1]] [] [] 2 = .ok (.tup [noChn, .int .i64 2], [], 4) := by kernel_rfl
theorem hnGet (p q : ByteArray) : Ctr Tryz.prog 8 [.nilp, .agg [.str p, .str q]] [] [] 0 0 (.tup [noChn, .int .i64 2]) [] := (Tryz.ovA_ok 80 hnGet_run).fill [.str p, .str q] rfl rfl rfl rfl 0
theorem hnInit_run : Tryz.evo Tryz.ovA 80 9 [.nilp, .hd 0, .agg [.hd 1, .hd 2, .hd 3, .hd 4, .hd 5, .hd 6]] [] [] 7 = .ok (.tup [.str ⟨⟨[]⟩⟩, .int .i64 2], [], 11) := by kernel_rfl
theorem hnInit (p : ByteArray) (x y : Int) (a b c d : ByteArray) : Ctr Tryz.prog 9 [.nilp, .str p, .agg [.int .i64 x, .int .i64 y, .str a, .str b, .str c, .str d]] [] [] 0 0 (.tup [.str ⟨⟨[]⟩⟩, .int .i64 2]) [] := (Tryz.ovA_ok 80 hnInit_run).fill [.str p, .int .i64 x, .int .i64 y, .str a, .str b, .str c, .str d] rfl rfl rfl rfl 0
theorem hnTry_run : Tryz.evo Tryz.ovA 80 10 [.nilp, .hd 0, .agg [.hd 1, .hd 2, .hd 3, .hd 4, .hd 5, .hd 6], atOne] [] [] 7 = .ok (.tup [.str ⟨⟨[]⟩⟩, .int .i64 2], [], 12) := by kernel_rfl
theorem hnTry (p : ByteArray) (x y : Int) (a b c d : ByteArray) : Ctr Tryz.prog 10 [.nilp, .str p, .agg [.int .i64 x, .int .i64 y, .str a, .str b, .str c, .str d], atOne] [] [] 0 0 (.tup [.str ⟨⟨[]⟩⟩, .int .i64 2]) [] := (Tryz.ovA_ok 80 hnTry_run).fill [.str p, .int .i64 x, .int .i64 y, .str a, .str b, .str c, .str d] rfl rfl rfl rfl 0
theorem hnAck_run : Tryz.evo Tryz.ovA 80 11 [.nilp, .agg [.hd 0, .hd 1], .hd 1, atOne] [] [] 2 = .ok (.int .i64 2, [], 8) := by kernel_rfl
theorem hnAck (p q : ByteArray) : Ctr Tryz.prog 11 [.nilp, .agg [.str p, .str q], .str q, atOne] [] [] 0 0 (.int .i64 2) [] := (Tryz.ovA_ok 80 hnAck_run).fill [.str p, .str q] rfl rfl rfl rfl 0
theorem hnDone_run : Tryz.evo Tryz.ovA 80 12 [.nilp, .agg [.hd 0, .hd 1], atOne] [] [] 2 = .ok (.int .i64 2, [], 13) := by kernel_rfl
theorem hnDone (p q : ByteArray) : Ctr Tryz.prog 12 [.nilp, .agg [.str p, .str q], atOne] [] [] 0 0 (.int .i64 2) [] := (Tryz.ovA_ok 80 hnDone_run).fill [.str p, .str q] rfl rfl rfl rfl 0
theorem hnClose_run : Tryz.evo Tryz.ovA 80 13 [.nilp, .agg [.hd 0, .hd 1]] [] [] 2 = .ok (.int .i64 2, [], 8) := by kernel_rfl
theorem hnClose (p q : ByteArray) : Ctr Tryz.prog 13 [.nilp, .agg [.str p, .str q]] [] [] 0 0 (.int .i64 2) [] := (Tryz.ovA_ok 80 hnClose_run).fill [.str p, .str q] rfl rfl rfl rfl 0
theorem hnCloseDone_run : Tryz.evo Tryz.ovA 80 14 [.nilp, .agg [.hd 0, .hd 1], atOne] [] [] 2 = .ok (.int .i64 2, [], 13) := by kernel_rfl
theorem hnCloseDone (p q : ByteArray) : Ctr Tryz.prog 14 [.nilp, .agg [.str p, .str q], atOne] [] [] 0 0 (.int .i64 2) [] := (Tryz.ovA_ok 80 hnCloseDone_run).fill [.str p, .str q] rfl rfl rfl rfl 0
theorem hnCount_run : Tryz.evo Tryz.ovA 80 41 [.nilp, .hd 0] [] [] 1 = .ok (.int .i64 0, [], 2) := by kernel_rfl
theorem hnCount (s : ByteArray) : Ctr Tryz.prog 41 [.nilp, .str s] [] [] 0 0 (.int .i64 0) [] := (Tryz.ovA_ok 80 hnCount_run).fill [.str s] rfl rfl rfl rfl 0

set_option maxRecDepth 20000 in
theorem nextKey1 (w p q : ByteArray) (hw : w.size ≤ 140737488355328) (hp : p.size ≤ 140737488355328) (hq : q.size ≤ 140737488355328) :
    Ctr Tryz.prog 42 [.str w, .agg [.str p, .str q]] [] [] 0 0 (.str (joinB ⟨⟨[110, 101, 120, 116]⟩⟩ [w, p, q])) [] := by
  refine Ctr.shut (m := 0) (k := 2) ?_ rfl rfl
  refine Ctr.introR (T := Tryz.T) Tryz.hT Tryz.hM Tryz.hE Tryz.func42 rfl (by kernel_rfl) rfl rfl rfl rfl ?_
  conv => whnf
  refine callR [1] (join1 ⟨⟨[110, 101, 120, 116]⟩⟩ [w, p, q] (by decide) (fun s hs => by simp only [List.mem_cons, List.not_mem_nil, or_false] at hs; rcases hs with rfl | rfl | rfl <;> assumption) (by simp)) rfl rfl rfl rfl trivial ⟨rfl, trivial⟩ ?_
  conv => whnf
  exact Fin.same rfl rfl (by simp)

theorem hnNext (w p q : ByteArray) (hw : w.size ≤ 140737488355328) (hp : p.size ≤ 140737488355328) (hq : q.size ≤ 140737488355328) : Ctr Tryz.prog 15 [.nilp, .str w, .agg [.str p, .str q]] [] [] 0 0 (.int .i64 0) [] := by
  refine Ctr.introR (T := Tryz.T) Tryz.hT Tryz.hM Tryz.hE Tryz.func15 rfl (by kernel_rfl) rfl rfl rfl rfl ?_
  conv => whnf
  refine callR [] (nextKey1 w p q hw hp hq) rfl rfl rfl rfl trivial trivial ?_
  conv => whnf
  refine callR [] (hnCount _) rfl rfl rfl rfl trivial trivial ?_
  conv => whnf
  exact Fin.same rfl rfl (by simp)

theorem channelNone1 (aw : Ctr Tryz.prog 16 [] [] [] 0 0 (.bool true) []) (p q : ByteArray) (x y : Int) (a b c d : ByteArray) (hp : p.size ≤ 140737488355328) (hq : q.size ≤ 140737488355328) :
    Ctr Tryz.prog 4 [.agg [.str p, .str q], .agg [.int .i64 x, .int .i64 y, .str a, .str b, .str c, .str d]] [] [] 0 0 (.bool true) [] := by
  refine Ctr.introR (T := Tryz.T) Tryz.hT Tryz.hM Tryz.hE Tryz.func4 rfl (by kernel_rfl) rfl rfl rfl rfl ?_
  conv => whnf
  refine callR [] (hnGet p q) rfl rfl rfl rfl trivial trivial ?_
  conv => whnf
  refine callR [] (hnInit p x y a b c d) rfl rfl rfl rfl trivial trivial ?_
  conv => whnf
  refine callR [] (hnTry p x y a b c d) rfl rfl rfl rfl trivial trivial ?_
  conv => whnf
  refine callR [] (hnAck p q) rfl rfl rfl rfl trivial trivial ?_
  conv => whnf
  refine callR [] (hnDone p q) rfl rfl rfl rfl trivial trivial ?_
  conv => whnf
  refine callR [] (hnClose p q) rfl rfl rfl rfl trivial trivial ?_
  conv => whnf
  refine callR [] (hnCloseDone p q) rfl rfl rfl rfl trivial trivial ?_
  conv => whnf
  refine callR [] (hnNext ⟨⟨[115, 101, 110, 100]⟩⟩ p q (by decide) hp hq) rfl rfl rfl rfl trivial trivial ?_
  conv => whnf
  refine callR [] aw rfl rfl rfl rfl trivial trivial ?_
  conv => whnf
  exact Fin.same rfl rfl (by simp)

theorem channelNone_law (aw : Ctr Tryz.prog 16 [] [] [] 0 0 (.bool true) []) : ∀ vs, okT2 [.agg [.s, .s], .agg [.i .i64, .i .i64, .s, .s, .s, .s]] vs → (∀ a ∈ vs, smallA a) → ∃ n', Ctr Tryz.prog 4 vs [] [] 0 n' (.bool true) [] := by
  intro vs hv hs
  obtain ⟨a1, _, rfl, h1, g0⟩ := okT2_agg hv
  obtain ⟨p, _, rfl, _, e1⟩ := okL2_s h1
  obtain ⟨q, _, rfl, _, e2⟩ := okL2_s e1
  obtain rfl := okL2_nil e2
  obtain ⟨a2, _, rfl, h2, g1⟩ := okT2_agg g0
  obtain rfl := okT2_nil g1
  obtain ⟨x, _, rfl, _, g2⟩ := okL2_i h2
  obtain ⟨y, _, rfl, _, g3⟩ := okL2_i g2
  obtain ⟨a, _, rfl, _, g4⟩ := okL2_s g3
  obtain ⟨b, _, rfl, _, g5⟩ := okL2_s g4
  obtain ⟨c, _, rfl, _, g6⟩ := okL2_s g5
  obtain ⟨d, _, rfl, _, g7⟩ := okL2_s g6
  obtain rfl := okL2_nil g7
  have hA : smallA (.agg [.str p, .str q]) := hs _ List.mem_cons_self
  have hr : reachBytes ≤ 140737488355328 := by decide
  exact ⟨0, channelNone1 aw p q x y a b c d (Nat.le_trans (hA p (by simp)) hr) (Nat.le_trans (hA q (by simp)) hr)⟩
end Go.Proofs.YthapoblhhlclnaaGreatDoor
