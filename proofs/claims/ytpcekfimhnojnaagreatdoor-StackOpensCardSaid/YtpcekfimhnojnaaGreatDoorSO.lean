/- StackOpens: stack.Opens at whatever port and channel, and the law. -/
import Derived.Test.YtpcekfimhnojnaaGreatDoorTab
import Derived.Test.YtpcekfimhnojnaaGreatDoorSXZ
import Derived.Test.YtpcekfimhnojnaaGreatDoorSXU
namespace Go.Proofs.YtpcekfimhnojnaaGreatDoor
open Go.SX
def opK (b1 b2 b3 b4 : Bool) : Int := match b1 with
  | false => 7
  | true => match b2 with
    | false => 7
    | true => match b3 with
      | false => 16
      | true => match b4 with
        | false => 17
        | true => 0
theorem opens1 {p : ByteArray} {x y : Int} {a b c d : ByteArray} {b1 b2 b3 b4 : Bool} (h1 : eqB p ⟨⟨[110, 102, 116]⟩⟩ = b1) (h2 : eqB b ⟨⟨[110, 102, 116]⟩⟩ = b2) (h3 : decide (y = 1) = b3) (h4 : eqB d ⟨⟨[105, 99, 115, 55, 50, 49, 45, 49]⟩⟩ = b4) :
    Ctr Tryz.prog 4 [.str p, .agg [.int .i64 x, .int .i64 y, .str a, .str b, .str c, .str d]] [] [] 0 0 (.int .i64 (opK b1 b2 b3 b4)) [] := by
  refine Ctr.shut (m := 0) (k := 1) ?_ rfl rfl
  refine Ctr.introR (T := Tryz.T) Tryz.hT Tryz.hM Tryz.hE Tryz.func4 rfl (by kernel_rfl) rfl rfl rfl rfl ?_
  conv => whnf
  rw [h1]
  cases b1
  · conv => whnf
    exact Fin.same rfl rfl (by simp)
  · conv => whnf
    rw [h2]
    cases b2
    · conv => whnf
      exact Fin.same rfl rfl (by simp)
    · conv => whnf
      rw [h3]
      cases b3
      · conv => whnf
        exact Fin.same rfl rfl (by simp)
      · conv => whnf
        rw [h4]
        cases b4
        · conv => whnf
          exact Fin.same rfl rfl (by simp)
        · conv => whnf
          exact Fin.same rfl rfl (by simp)

theorem stackOpens1 (aw : Ctr Tryz.prog 5 [] [(0, globR 0 (.iface 442 (.agg #[.pointer (some ⟨4, 288, none⟩)])))] [] 1 1 (.bool true) []) (p : ByteArray) (x y : Int) (a b c d : ByteArray) :
    Ctr Tryz.prog 3 [.str p, .agg [.int .i64 x, .int .i64 y, .str a, .str b, .str c, .str d]] [(0, globR 0 (.iface 442 (.agg #[.pointer (some ⟨4, 288, none⟩)])))] [] 1 2 (.bool true) [] := by
  obtain ⟨b1, h1⟩ : ∃ b1, eqB p ⟨⟨[110, 102, 116]⟩⟩ = b1 := ⟨_, rfl⟩
  obtain ⟨b2, h2⟩ : ∃ b2, eqB b ⟨⟨[110, 102, 116]⟩⟩ = b2 := ⟨_, rfl⟩
  obtain ⟨b3, h3⟩ : ∃ b3, decide (y = 1) = b3 := ⟨_, rfl⟩
  obtain ⟨b4, h4⟩ : ∃ b4, eqB d ⟨⟨[105, 99, 115, 55, 50, 49, 45, 49]⟩⟩ = b4 := ⟨_, rfl⟩
  have op := opens1 (x := x) (a := a) (c := c) h1 h2 h3 h4
  refine Ctr.introR (T := Tryz.T) Tryz.hT Tryz.hM Tryz.hE Tryz.func3 rfl (by kernel_rfl) rfl rfl rfl rfl ?_
  conv => whnf
  rw [h1]
  cases b1
  · conv => whnf
    refine callR [] op rfl rfl rfl rfl trivial trivial ?_
    conv => whnf
    refine callR [0] aw rfl rfl rfl rfl ⟨rfl, trivial⟩ trivial ?_
    conv => whnf
    exact Fin.same rfl rfl (by simp)
  · conv => whnf
    rw [h2]
    cases b2
    · conv => whnf
      refine callR [] op rfl rfl rfl rfl trivial trivial ?_
      conv => whnf
      refine callR [0] aw rfl rfl rfl rfl ⟨rfl, trivial⟩ trivial ?_
      conv => whnf
      exact Fin.same rfl rfl (by simp)
    · conv => whnf
      rw [h3]
      cases b3
      · conv => whnf
        refine callR [] op rfl rfl rfl rfl trivial trivial ?_
        conv => whnf
        refine callR [0] aw rfl rfl rfl rfl ⟨rfl, trivial⟩ trivial ?_
        conv => whnf
        exact Fin.same rfl rfl (by simp)
      · conv => whnf
        rw [h4]
        cases b4
        · conv => whnf
          refine callR [] op rfl rfl rfl rfl trivial trivial ?_
          conv => whnf
          refine callR [0] aw rfl rfl rfl rfl ⟨rfl, trivial⟩ trivial ?_
          conv => whnf
          exact Fin.same rfl rfl (by simp)
        · conv => whnf
          refine callR [] op rfl rfl rfl rfl trivial trivial ?_
          conv => whnf
          refine callR [0] aw rfl rfl rfl rfl ⟨rfl, trivial⟩ trivial ?_
          conv => whnf
          exact Fin.same rfl rfl (by simp)

theorem stackOpens_law (aw : Ctr Tryz.prog 5 [] [(0, globR 0 (.iface 442 (.agg #[.pointer (some ⟨4, 288, none⟩)])))] [] 1 1 (.bool true) []) : ∀ vs, okT2 [.one .s, .agg [.i .i64, .i .i64, .s, .s, .s, .s]] vs → ∃ n', Ctr Tryz.prog 3 vs [(0, globR 0 (.iface 442 (.agg #[.pointer (some ⟨4, 288, none⟩)])))] [] 1 n' (.bool true) [] := by
  intro vs hv
  obtain ⟨v, _, rfl, ⟨p, rfl, _⟩, g0⟩ := okT2_one hv
  obtain ⟨a1, _, rfl, h1, g1⟩ := okT2_agg g0
  obtain rfl := okT2_nil g1
  obtain ⟨x, _, rfl, _, g2⟩ := okL2_i h1
  obtain ⟨y, _, rfl, _, g3⟩ := okL2_i g2
  obtain ⟨a, _, rfl, _, g4⟩ := okL2_s g3
  obtain ⟨b, _, rfl, _, g5⟩ := okL2_s g4
  obtain ⟨c, _, rfl, _, g6⟩ := okL2_s g5
  obtain ⟨d, _, rfl, _, g7⟩ := okL2_s g6
  obtain rfl := okL2_nil g7
  exact ⟨2, stackOpens1 aw p x y a b c d⟩
end Go.Proofs.YtpcekfimhnojnaaGreatDoor
