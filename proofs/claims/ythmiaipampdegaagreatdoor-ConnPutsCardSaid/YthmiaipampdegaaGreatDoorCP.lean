import Derived.Test.YthmiaipampdegaaGreatDoorTab
import Derived.Test.YthmiaipampdegaaGreatDoorTxt
import Derived.Test.YthmiaipampdegaaGreatDoorSXZT
namespace Go.Proofs.YthmiaipampdegaaGreatDoor
open Go.SX
noncomputable def conV (x : Int) (a b c : ByteArray) : AV := .agg [.int .i64 x, .str a, .str b, .str c]
theorem conV_ok (x : Int) (a b c : ByteArray) (n : Nat) : okL n [conV x a b c] = true := by simp [okL_cons, okL_nil, okA_agg, okA_str, okA_int, conV]
def putS (x : Int) (a b c : ByteArray) : ByteArray := catB (catB (catB (numS x) (textS a)) (textS b)) (textS c)
theorem put_b1 (x : Int) (a : ByteArray) : (numS x).size + (textS a).size ≤ big := by
  have := numS_size x; have := textS_size a; unfold big; omega
theorem put_b2 (x : Int) (a b : ByteArray) : (catB (numS x) (textS a)).size + (textS b).size ≤ big := by
  have := numS_size x; have := textS_size a; have := textS_size b; rw [cat_size]; unfold big; omega
theorem put_b3 (x : Int) (a b c : ByteArray) : (catB (catB (numS x) (textS a)) (textS b)).size + (textS c).size ≤ big := by
  have := numS_size x; have := textS_size a; have := textS_size b; have := textS_size c; rw [cat_size, cat_size]; unfold big; omega

theorem cput2 (x : Int) (a b c : ByteArray) : Ctr Tryz.prog 20 [conV x a b c] [] [] 0 0 (.str (putS x a b c)) [] := by
  refine Ctr.introR (T := Tryz.T) Tryz.hT Tryz.hM puZ_ok Tryz.func20 rfl (by kernel_rfl) rfl (conV_ok x a b c 0) rfl rfl ?_
  conv => whnf
  refine ⟨put_b1 x a, ?_⟩
  conv => whnf
  refine ⟨put_b2 x a b, ?_⟩
  conv => whnf
  refine ⟨put_b3 x a b c, ?_⟩
  conv => whnf
  exact Fin.same rfl rfl (by simp)

theorem cput1 (x : Int) (a b c : ByteArray) : Ctr Tryz.prog 19 [conV x a b c] [] [] 0 0 (.str (putS x a b c)) [] := by
  refine Ctr.introR (T := Tryz.T) Tryz.hT Tryz.hM puZ_ok Tryz.func19 rfl (by kernel_rfl) rfl (conV_ok x a b c 0) rfl rfl ?_
  conv => whnf
  refine unrollR Tryz.hT Tryz.hM puZ_ok 4 ?_
  conv => whnf
  refine ⟨by decide, ?_⟩
  conv => whnf
  refine ⟨put_b1 x a, ?_⟩
  conv => whnf
  refine ⟨by decide, ?_⟩
  conv => whnf
  refine ⟨put_b2 x a b, ?_⟩
  conv => whnf
  refine ⟨by decide, ?_⟩
  conv => whnf
  refine ⟨put_b3 x a b c, ?_⟩
  conv => whnf
  exact Fin.same rfl rfl (by simp)

noncomputable def puCP : Pure := fun g vs => match Nat.beq g 20 || Nat.beq g 19, vs with
  | true, [.agg [.int .i64 x, .str a, .str b, .str c]] => some (.str (putS x a b c))
  | _, _ => match Nat.beq g 18, vs with
    | true, [] => some (.bool true)
    | _, _ => none

theorem puCP_ok (aw : Ctr Tryz.prog 18 [] [] [] 0 0 (.bool true) []) : PureOK Tryz.prog puCP := by
  intro g vs v h
  unfold puCP at h
  split at h
  · rename_i x a b c hg
    cases h
    refine .inl fun n => ?_
    rcases Bool.or_eq_true _ _ |>.mp hg with hg | hg
    · have hg := Nat.eq_of_beq_eq_true hg
      subst hg
      exact (cput2 x a b c).anyO (conV_ok x a b c 0) rfl n
    · have hg := Nat.eq_of_beq_eq_true hg
      subst hg
      exact (cput1 x a b c).anyO (conV_ok x a b c 0) rfl n
  · split at h
    · rename_i hg _
      have hg := Nat.eq_of_beq_eq_true hg
      subst hg
      cases h
      exact .inl fun n => aw.anyO rfl rfl n
    · cases h

theorem eqB_self (s : ByteArray) : eqB s s = true := by
  have : ∀ l : List UInt8, eqBs l l = true := by
    intro l
    induction l with
    | nil => rfl
    | cons x l ih => simp [eqBs, ih]
  exact this _

theorem connPuts1 (aw : Ctr Tryz.prog 18 [] [] [] 0 0 (.bool true) []) (x : Int) (a b c : ByteArray) : Ctr Tryz.prog 5 [conV x a b c] [] [] 0 0 (.bool true) [] := by
  refine Ctr.introR (T := Tryz.T) Tryz.hT Tryz.hM (puCP_ok aw) Tryz.func5 rfl (by kernel_rfl) rfl (conV_ok x a b c 0) rfl rfl ?_
  conv => whnf
  refine bcase_intro (fun h1 => ?_) (fun h1 => ?_)
  · conv => whnf
    exact Fin.same rfl rfl (by simp)
  · conv => whnf
    refine bcase_intro (fun h2 => ?_) (fun h2 => ?_)
    · conv => whnf
      exact Fin.same rfl rfl (by simp)
    · conv => whnf
      refine bcase_intro (fun h3 => ?_) (fun h3 => ?_)
      · conv => whnf
        exact Fin.same rfl rfl (by simp)
      · conv => whnf
        rw [eqB_self]
        conv => whnf
        exact Fin.same rfl rfl (by simp)

theorem connPuts_law (aw : Ctr Tryz.prog 18 [] [] [] 0 0 (.bool true) []) : ∀ vs, okT2 [.agg [.i .i64, .s, .s, .s]] vs → ∃ n', Ctr Tryz.prog 5 vs [] [] 0 n' (.bool true) [] := by
  intro vs hv
  obtain ⟨a1, _, rfl, h1, g1⟩ := okT2_agg hv
  obtain rfl := okT2_nil g1
  obtain ⟨x, _, rfl, _, g2⟩ := okL2_i h1
  obtain ⟨a, _, rfl, _, g3⟩ := okL2_s g2
  obtain ⟨b, _, rfl, _, g4⟩ := okL2_s g3
  obtain ⟨c, _, rfl, _, g5⟩ := okL2_s g4
  obtain rfl := okL2_nil g5
  exact ⟨0, connPuts1 aw x a b c⟩
end Go.Proofs.YthmiaipampdegaaGreatDoor
