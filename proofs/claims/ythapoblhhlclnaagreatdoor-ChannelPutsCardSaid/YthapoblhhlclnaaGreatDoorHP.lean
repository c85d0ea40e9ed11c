import Derived.Test.YthapoblhhlclnaaGreatDoorTab
import Derived.Test.YthapoblhhlclnaaGreatDoorTxt
import Derived.Test.YthapoblhhlclnaaGreatDoorSXZ
namespace Go.Proofs.YthapoblhhlclnaaGreatDoor
open Go.SX
noncomputable def chnV (x y : Int) (a b c d : ByteArray) : AV := .agg [.int .i64 x, .int .i64 y, .str a, .str b, .str c, .str d]
theorem chnV_ok (x y : Int) (a b c d : ByteArray) (n : Nat) : okL n [chnV x y a b c d] = true := by simp [okL_cons, okL_nil, okA_agg, okA_str, okA_int, chnV]
def hputS (x y : Int) (a b c d : ByteArray) : ByteArray := catB (catB (catB (catB (catB (numS x) (numS y)) (textS a)) (textS b)) (textS c)) (textS d)
theorem hput_b0 (x y : Int) : (numS x).size + (numS y).size ≤ big := by
  have := numS_size x; have := numS_size y; unfold big; omega
theorem hput_b1 (x y : Int) (a : ByteArray) : (catB (numS x) (numS y)).size + (textS a).size ≤ big := by
  have := numS_size x; have := numS_size y; have := textS_size a; rw [cat_size]; unfold big; omega
theorem hput_b2 (x y : Int) (a b : ByteArray) : (catB (catB (numS x) (numS y)) (textS a)).size + (textS b).size ≤ big := by
  have := numS_size x; have := numS_size y; have := textS_size a; have := textS_size b; rw [cat_size, cat_size]; unfold big; omega
theorem hput_b3 (x y : Int) (a b c : ByteArray) : (catB (catB (catB (numS x) (numS y)) (textS a)) (textS b)).size + (textS c).size ≤ big := by
  have := numS_size x; have := numS_size y; have := textS_size a; have := textS_size b; have := textS_size c; rw [cat_size, cat_size, cat_size]; unfold big; omega
theorem hput_b4 (x y : Int) (a b c d : ByteArray) : (catB (catB (catB (catB (numS x) (numS y)) (textS a)) (textS b)) (textS c)).size + (textS d).size ≤ big := by
  have := numS_size x; have := numS_size y; have := textS_size a; have := textS_size b; have := textS_size c; have := textS_size d; rw [cat_size, cat_size, cat_size, cat_size]; unfold big; omega

theorem hput2 (x y : Int) (a b c d : ByteArray) : Ctr Tryz.prog 18 [chnV x y a b c d] [] [] 0 0 (.str (hputS x y a b c d)) [] := by
  refine Ctr.introR (T := Tryz.T) Tryz.hT Tryz.hM puZ_ok Tryz.func18 rfl (by kernel_rfl) rfl (chnV_ok x y a b c d 0) rfl rfl ?_
  conv => whnf
  refine ⟨hput_b0 x y, ?_⟩
  conv => whnf
  refine ⟨hput_b1 x y a, ?_⟩
  conv => whnf
  refine ⟨hput_b2 x y a b, ?_⟩
  conv => whnf
  refine ⟨hput_b3 x y a b c, ?_⟩
  conv => whnf
  refine ⟨hput_b4 x y a b c d, ?_⟩
  conv => whnf
  exact Fin.same rfl rfl (by simp)

theorem hput1 (x y : Int) (a b c d : ByteArray) : Ctr Tryz.prog 17 [chnV x y a b c d] [] [] 0 0 (.str (hputS x y a b c d)) [] := by
  refine Ctr.introR (T := Tryz.T) Tryz.hT Tryz.hM puZ_ok Tryz.func17 rfl (by kernel_rfl) rfl (chnV_ok x y a b c d 0) rfl rfl ?_
  conv => whnf
  refine ⟨hput_b0 x y, ?_⟩
  conv => whnf
  refine unrollR Tryz.hT Tryz.hM puZ_ok 5 ?_
  conv => whnf
  refine ⟨by decide, ?_⟩
  conv => whnf
  refine ⟨hput_b1 x y a, ?_⟩
  conv => whnf
  refine ⟨by decide, ?_⟩
  conv => whnf
  refine ⟨hput_b2 x y a b, ?_⟩
  conv => whnf
  refine ⟨by decide, ?_⟩
  conv => whnf
  refine ⟨hput_b3 x y a b c, ?_⟩
  conv => whnf
  refine ⟨by decide, ?_⟩
  conv => whnf
  refine ⟨hput_b4 x y a b c d, ?_⟩
  conv => whnf
  exact Fin.same rfl rfl (by simp)

noncomputable def puHP : Pure := fun g vs => match Nat.beq g 18 || Nat.beq g 17, vs with
  | true, [.agg [.int .i64 x, .int .i64 y, .str a, .str b, .str c, .str d]] => some (.str (hputS x y a b c d))
  | _, _ => match Nat.beq g 16, vs with
    | true, [] => some (.bool true)
    | _, _ => none

theorem puHP_ok (aw : Ctr Tryz.prog 16 [] [] [] 0 0 (.bool true) []) : PureOK Tryz.prog puHP := by
  intro g vs v h
  unfold puHP at h
  split at h
  · rename_i x y a b c d hg
    cases h
    refine .inl fun n => ?_
    rcases Bool.or_eq_true _ _ |>.mp hg with hg | hg
    · have hg := Nat.eq_of_beq_eq_true hg
      subst hg
      exact (hput2 x y a b c d).anyO (chnV_ok x y a b c d 0) rfl n
    · have hg := Nat.eq_of_beq_eq_true hg
      subst hg
      exact (hput1 x y a b c d).anyO (chnV_ok x y a b c d 0) rfl n
  · split at h
    · rename_i hg _
      have hg := Nat.eq_of_beq_eq_true hg
      subst hg
      cases h
      exact .inl fun n => aw.anyO rfl rfl n
    · cases h

theorem heqB_self (s : ByteArray) : eqB s s = true := by
  have : ∀ l : List UInt8, eqBs l l = true := by
    intro l
    induction l with
    | nil => rfl
    | cons x l ih => simp [eqBs, ih]
  exact this _

theorem channelPuts1 (aw : Ctr Tryz.prog 16 [] [] [] 0 0 (.bool true) []) (x y : Int) (a b c d : ByteArray) : Ctr Tryz.prog 5 [chnV x y a b c d] [] [] 0 0 (.bool true) [] := by
  refine Ctr.introR (T := Tryz.T) Tryz.hT Tryz.hM (puHP_ok aw) Tryz.func5 rfl (by kernel_rfl) rfl (chnV_ok x y a b c d 0) rfl rfl ?_
  conv => whnf
  refine bcase_intro (fun h1 => ?_) (fun h1 => ?_)
  · conv => whnf
    exact Fin.same rfl rfl (by simp)
  · conv => whnf
    refine bcase_intro (fun h2 => ?_) (fun h2 => ?_)
    · conv => whnf
      exact Fin.same rfl rfl (by simp)
    · conv => whnf
      refine bcase_intro (fun h3 => ?_) (fun h3 => ?_)
      · conv => whnf
        exact Fin.same rfl rfl (by simp)
      · conv => whnf
        refine bcase_intro (fun h4 => ?_) (fun h4 => ?_)
        · conv => whnf
          exact Fin.same rfl rfl (by simp)
        · conv => whnf
          rw [heqB_self]
          conv => whnf
          exact Fin.same rfl rfl (by simp)

theorem channelPuts_law (aw : Ctr Tryz.prog 16 [] [] [] 0 0 (.bool true) []) : ∀ vs, okT2 [.agg [.i .i64, .i .i64, .s, .s, .s, .s]] vs → ∃ n', Ctr Tryz.prog 5 vs [] [] 0 n' (.bool true) [] := by
  intro vs hv
  obtain ⟨a1, _, rfl, h1, g1⟩ := okT2_agg hv
  obtain rfl := okT2_nil g1
  obtain ⟨x, _, rfl, _, g2⟩ := okL2_i h1
  obtain ⟨y, _, rfl, _, g3⟩ := okL2_i g2
  obtain ⟨a, _, rfl, _, g4⟩ := okL2_s g3
  obtain ⟨b, _, rfl, _, g5⟩ := okL2_s g4
  obtain ⟨c, _, rfl, _, g6⟩ := okL2_s g5
  obtain ⟨d, _, rfl, _, g7⟩ := okL2_s g6
  obtain rfl := okL2_nil g7
  exact ⟨0, channelPuts1 aw x y a b c d⟩
end Go.Proofs.YthapoblhhlclnaaGreatDoor
