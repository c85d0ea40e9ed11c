/- TimeoutNone: what the functions give at no journal, and the law. -/
import Derived.Test.YtlbaddmfdbndkaaGreatDoorTab
import Derived.Test.YtlbaddmfdbndkaaGreatDoorOv
import Derived.Test.YtlbaddmfdbndkaaGreatDoorSXFL
import Derived.Test.YtlbaddmfdbndkaaGreatDoorSXZ
namespace Go.Proofs.YtlbaddmfdbndkaaGreatDoor
open Go.SX
noncomputable def tnPkt (n : Int) (a b c d e : ByteArray) (h t : Int) : AV := .agg [.int .i64 n, .str a, .str b, .str c, .str d, .str e, .int .i64 h, .int .i64 t]

theorem tnTimeout_run : Tryz.evo Tryz.ovA 80 5 [.nilp, .agg [.hd 0, .hd 1, .hd 2, .hd 3, .hd 4, .hd 5, .hd 6, .hd 7], .hd 8, .agg [.int .i64 0, .str ⟨⟨[]⟩⟩]] [] [] 9 = .ok (.int .i64 2, [], 12) := by kernel_rfl
theorem tnTimeout (n : Int) (a b c d e : ByteArray) (h t x : Int) : Ctr Tryz.prog 5 [.nilp, tnPkt n a b c d e h t, .int .i64 x, .agg [.int .i64 0, .str ⟨⟨[]⟩⟩]] [] [] 0 0 (.int .i64 2) [] :=
  (Tryz.ovA_ok 80 tnTimeout_run).fill [.int .i64 n, .str a, .str b, .str c, .str d, .str e, .int .i64 h, .int .i64 t, .int .i64 x] rfl rfl rfl rfl 0
theorem tnClosed_run : Tryz.evo Tryz.ovA 80 6 [.nilp, .agg [.hd 0, .hd 1, .hd 2, .hd 3, .hd 4, .hd 5, .hd 6, .hd 7], .hd 8, .nils] [] [] 9 = .ok (.int .i64 2, [], 12) := by kernel_rfl
theorem tnClosed (n : Int) (a b c d e : ByteArray) (h t x : Int) : Ctr Tryz.prog 6 [.nilp, tnPkt n a b c d e h t, .int .i64 x, .nils] [] [] 0 0 (.int .i64 2) [] :=
  (Tryz.ovA_ok 80 tnClosed_run).fill [.int .i64 n, .str a, .str b, .str c, .str d, .str e, .int .i64 h, .int .i64 t, .int .i64 x] rfl rfl rfl rfl 0

theorem timeoutNone1 (aw : Ctr Tryz.prog 7 [] [(0, globR 0 (.iface 240 (.agg #[.pointer (some ⟨4, 44, none⟩)])))] [] 1 1 (.bool true) []) (n : Int) (a b c d e : ByteArray) (h t x : Int) :
    Ctr Tryz.prog 3 [tnPkt n a b c d e h t, .int .i64 x] [(0, globR 0 (.iface 240 (.agg #[.pointer (some ⟨4, 44, none⟩)])))] [] 1 2 (.bool true) [] := by
  refine Ctr.introR (T := Tryz.T) Tryz.hT Tryz.hM Tryz.hE Tryz.func3 rfl (by kernel_rfl) rfl rfl rfl rfl ?_
  conv => whnf
  refine callR [] (tnTimeout n a b c d e h t x) rfl rfl rfl rfl trivial trivial ?_
  conv => whnf
  refine callR [] (tnClosed n a b c d e h t x) rfl rfl rfl rfl trivial trivial ?_
  conv => whnf
  refine callR [0] aw rfl rfl rfl rfl ⟨rfl, trivial⟩ trivial ?_
  conv => whnf
  exact Fin.same rfl rfl (by simp)

theorem timeoutNone_law (aw : Ctr Tryz.prog 7 [] [(0, globR 0 (.iface 240 (.agg #[.pointer (some ⟨4, 44, none⟩)])))] [] 1 1 (.bool true) []) : ∀ vs, okT2 [.agg [.i .i64, .s, .s, .s, .s, .s, .i .i64, .i .i64], .one (.i .i64)] vs → ∃ n', Ctr Tryz.prog 3 vs [(0, globR 0 (.iface 240 (.agg #[.pointer (some ⟨4, 44, none⟩)])))] [] 1 n' (.bool true) [] := by
  intro vs hv
  obtain ⟨a1, vs', rfl, h1, g0⟩ := okT2_agg hv
  obtain ⟨n, _, rfl, _, e1⟩ := okL2_i h1
  obtain ⟨a, _, rfl, _, e2⟩ := okL2_s e1
  obtain ⟨b, _, rfl, _, e3⟩ := okL2_s e2
  obtain ⟨c, _, rfl, _, e4⟩ := okL2_s e3
  obtain ⟨d, _, rfl, _, e5⟩ := okL2_s e4
  obtain ⟨e, _, rfl, _, e6⟩ := okL2_s e5
  obtain ⟨h, _, rfl, _, e7⟩ := okL2_i e6
  obtain ⟨t, _, rfl, _, e8⟩ := okL2_i e7
  obtain rfl := okL2_nil e8
  obtain ⟨v, _, rfl, ⟨x, rfl, _⟩, g1⟩ := okT2_one g0
  obtain rfl := okT2_nil g1
  exact ⟨2, timeoutNone1 aw n a b c d e h t x⟩
end Go.Proofs.YtlbaddmfdbndkaaGreatDoor
