import Derived.Test.YtlbaddmfdbndkaaGreatDoorTab
import Derived.Test.YtlbaddmfdbndkaaGreatDoorSXZ
import Derived.Test.YtlbaddmfdbndkaaGreatDoorSXU
namespace Go.Proofs.YtlbaddmfdbndkaaGreatDoor
open Go.SX
noncomputable def pktV (q : Int) (s1 s2 s3 s4 s5 : ByteArray) (H T : Int) : AV := .agg [.int .i64 q, .str s1, .str s2, .str s3, .str s4, .str s5, .int .i64 H, .int .i64 T]
noncomputable def clkV (h t : Int) : AV := .agg [.int .i64 h, .int .i64 t]
def late (H T h t : Int) : Bool := (!decide (H = 0) && decide (H ≤ h)) || (!decide (T = 0) && decide (T ≤ t))

theorem passed1 (q : Int) (s1 s2 s3 s4 s5 : ByteArray) (H T h t : Int) : Ctr Tryz.prog 8 [pktV q s1 s2 s3 s4 s5 H T, clkV h t] [] [] 0 0 (.bool (late H T h t)) [] := by
  refine Ctr.introR (T := Tryz.T) Tryz.hT Tryz.hM Tryz.hE Tryz.func8 rfl (by kernel_rfl) rfl (by simp [okL_cons, okL_nil, okA_agg, okA_str, okA_int, pktV, clkV]) rfl rfl ?_
  conv => whnf
  refine bcase_intro (fun h1 => ?_) (fun h1 => ?_)
  · conv => whnf
    refine bcase_intro (fun h2 => ?_) (fun h2 => ?_)
    · conv => whnf
      rw [show late H T h t = true by simp [late, h1, h2]]
      exact Fin.same rfl rfl (by simp)
    · conv => whnf
      refine bcase_intro (fun h3 => ?_) (fun h3 => ?_)
      · conv => whnf
        rw [show late H T h t = decide (T ≤ t) by simp [late, h1, h2, h3]]
        exact Fin.same rfl rfl (by simp)
      · conv => whnf
        rw [show late H T h t = false by simp [late, h1, h2, h3]]
        exact Fin.same rfl rfl (by simp)
  · conv => whnf
    refine bcase_intro (fun h2 => ?_) (fun h2 => ?_)
    · conv => whnf
      rw [show late H T h t = decide (T ≤ t) by simp [late, h1, h2]]
      exact Fin.same rfl rfl (by simp)
    · conv => whnf
      rw [show late H T h t = false by simp [late, h1, h2]]
      exact Fin.same rfl rfl (by simp)

theorem passed2 (q : Int) (s1 s2 s3 s4 s5 : ByteArray) (H T h t : Int) : Ctr Tryz.prog 9 [pktV q s1 s2 s3 s4 s5 H T, clkV h t] [] [] 0 0 (.bool (late H T h t)) [] := by
  refine Ctr.introR (T := Tryz.T) Tryz.hT Tryz.hM Tryz.hE Tryz.func9 rfl (by kernel_rfl) rfl (by simp [okL_cons, okL_nil, okA_agg, okA_str, okA_int, pktV, clkV]) rfl rfl ?_
  conv => whnf
  refine bcase_intro (fun h1 => ?_) (fun h1 => ?_)
  · conv => whnf
    refine bcase_intro (fun h2 => ?_) (fun h2 => ?_)
    · conv => whnf
      rw [show late H T h t = true by simp [late, h1, h2]]
      exact Fin.same rfl rfl (by simp)
    · conv => whnf
      refine bcase_intro (fun h3 => ?_) (fun h3 => ?_)
      · conv => whnf
        rw [show late H T h t = decide (T ≤ t) by simp [late, h1, h2, h3]]
        exact Fin.same rfl rfl (by simp)
      · conv => whnf
        rw [show late H T h t = false by simp [late, h1, h2, h3]]
        exact Fin.same rfl rfl (by simp)
  · conv => whnf
    refine bcase_intro (fun h2 => ?_) (fun h2 => ?_)
    · conv => whnf
      rw [show late H T h t = decide (T ≤ t) by simp [late, h1, h2]]
      exact Fin.same rfl rfl (by simp)
    · conv => whnf
      rw [show late H T h t = false by simp [late, h1, h2]]
      exact Fin.same rfl rfl (by simp)

noncomputable def puT : Pure := fun g vs => match Nat.beq g 8 || Nat.beq g 9, vs with
  | true, [.agg [.int .i64 _, .str _, .str _, .str _, .str _, .str _, .int .i64 H, .int .i64 T], .agg [.int .i64 h, .int .i64 t]] => some (.bool (late H T h t))
  | _, _ => none

theorem puT_ok : PureOK Tryz.prog puT := by
  intro g vs v h
  unfold puT at h
  split at h
  · rename_i q s1 s2 s3 s4 s5 H T h' t hg
    cases h
    refine .inl fun n => ?_
    rcases Bool.or_eq_true _ _ |>.mp hg with hg | hg
    · have hg := Nat.eq_of_beq_eq_true hg
      subst hg
      exact (passed1 q s1 s2 s3 s4 s5 H T h' t).anyO (by simp [okL_cons, okL_nil, okA_agg, okA_str, okA_int, pktV, clkV]) rfl n
    · have hg := Nat.eq_of_beq_eq_true hg
      subst hg
      exact (passed2 q s1 s2 s3 s4 s5 H T h' t).anyO (by simp [okL_cons, okL_nil, okA_agg, okA_str, okA_int, pktV, clkV]) rfl n
  · cases h

theorem law1 (aw : Ctr Tryz.prog 7 [] [(0, globR 0 (.iface 240 (.agg #[.pointer (some ⟨4, 44, none⟩)])))] [] 1 1 (.bool true) []) (q : Int) (s1 s2 s3 s4 s5 : ByteArray) (H T h t h' t' : Int) : Ctr Tryz.prog 4 [pktV q s1 s2 s3 s4 s5 H T, clkV h t, clkV h' t'] [(0, globR 0 (.iface 240 (.agg #[.pointer (some ⟨4, 44, none⟩)])))] [] 1 1 (.bool true) [] := by
  refine Ctr.introR (T := Tryz.T) Tryz.hT Tryz.hM puT_ok Tryz.func4 rfl (by kernel_rfl) rfl (by simp [okL_cons, okL_nil, okA_agg, okA_str, okA_int, pktV, clkV]) rfl rfl ?_
  have key : late H T h t = true → late H T h' t' = false → h' < h ∨ t' < t := by
    intro h1 h2
    simp only [late, Bool.or_eq_true, Bool.and_eq_true, Bool.not_eq_true', decide_eq_true_eq, decide_eq_false_iff_not, Bool.or_eq_false_iff, Bool.and_eq_false_iff, Bool.not_eq_false'] at h1 h2
    omega
  conv => whnf
  cases ha : late H T h t with
  | false =>
    conv => whnf
    cases hb : late H T h' t' with
    | false =>
      conv => whnf
      refine callR [0] aw rfl rfl rfl rfl ⟨rfl, trivial⟩ trivial ?_
      conv => whnf
      exact Fin.same rfl rfl (by simp)
    | true =>
      conv => whnf
      refine callR [0] aw rfl rfl rfl rfl ⟨rfl, trivial⟩ trivial ?_
      conv => whnf
      exact Fin.same rfl rfl (by simp)
  | true =>
    conv => whnf
    cases hb : late H T h' t' with
    | true =>
      conv => whnf
      refine callR [0] aw rfl rfl rfl rfl ⟨rfl, trivial⟩ trivial ?_
      conv => whnf
      exact Fin.same rfl rfl (by simp)
    | false =>
      conv => whnf
      refine bcase_intro (fun h1 => ?_) (fun h1 => ?_)
      · conv => whnf
        refine callR [0] aw rfl rfl rfl rfl ⟨rfl, trivial⟩ trivial ?_
        conv => whnf
        exact Fin.same rfl rfl (by simp)
      · conv => whnf
        refine bcase_intro (fun h2 => ?_) (fun h2 => ?_)
        · conv => whnf
          refine callR [0] aw rfl rfl rfl rfl ⟨rfl, trivial⟩ trivial ?_
          conv => whnf
          exact Fin.same rfl rfl (by simp)
        · exact absurd (key ha hb) (by simp at h1 h2; omega)
theorem timeoutPassed_law (aw : Ctr Tryz.prog 7 [] [(0, globR 0 (.iface 240 (.agg #[.pointer (some ⟨4, 44, none⟩)])))] [] 1 1 (.bool true) []) : ∀ vs, okT2 [.agg [.i .i64, .s, .s, .s, .s, .s, .i .i64, .i .i64], .agg [.i .i64, .i .i64], .agg [.i .i64, .i .i64]] vs → ∃ n', Ctr Tryz.prog 4 vs [(0, globR 0 (.iface 240 (.agg #[.pointer (some ⟨4, 44, none⟩)])))] [] 1 n' (.bool true) [] := by
  intro vs hv
  obtain ⟨a1, _, rfl, h1, g1⟩ := okT2_agg hv
  obtain ⟨a2, _, rfl, h2, g2⟩ := okT2_agg g1
  obtain ⟨a3, _, rfl, h3, g3⟩ := okT2_agg g2
  obtain rfl := okT2_nil g3
  obtain ⟨q, _, rfl, _, g4⟩ := okL2_i h1
  obtain ⟨s1, _, rfl, _, g5⟩ := okL2_s g4
  obtain ⟨s2, _, rfl, _, g6⟩ := okL2_s g5
  obtain ⟨s3, _, rfl, _, g7⟩ := okL2_s g6
  obtain ⟨s4, _, rfl, _, g8⟩ := okL2_s g7
  obtain ⟨s5, _, rfl, _, g9⟩ := okL2_s g8
  obtain ⟨H, _, rfl, _, g10⟩ := okL2_i g9
  obtain ⟨T, _, rfl, _, g11⟩ := okL2_i g10
  obtain rfl := okL2_nil g11
  obtain ⟨h, _, rfl, _, g12⟩ := okL2_i h2
  obtain ⟨t, _, rfl, _, g13⟩ := okL2_i g12
  obtain rfl := okL2_nil g13
  obtain ⟨h', _, rfl, _, g14⟩ := okL2_i h3
  obtain ⟨t', _, rfl, _, g15⟩ := okL2_i g14
  obtain rfl := okL2_nil g15
  exact ⟨1, law1 aw q s1 s2 s3 s4 s5 H T h t h' t'⟩
end Go.Proofs.YtlbaddmfdbndkaaGreatDoor
