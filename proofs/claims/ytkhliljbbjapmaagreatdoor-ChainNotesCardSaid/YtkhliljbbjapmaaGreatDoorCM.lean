/- ChainNames: what a chain that is none answers, and the law. -/
import Derived.Test.YtkhliljbbjapmaaGreatDoorRC
namespace Go.Proofs.YtkhliljbbjapmaaGreatDoor
open Go.SX
theorem nilHeader (n : Int) : Ctr Tryz.prog 17 [.nilp, .int .i64 n] [] [] 0 0 (.tup [.str ⟨⟨[]⟩⟩, .int .i64 (.ofNat 2)]) [] :=
  (Tryz.ev_ok 80 (show Tryz.ev 80 17 [.nilp, .hd 0] [] [] 1 = .ok (.tup [.str ⟨⟨[]⟩⟩, .int .i64 (.ofNat 2)], [], 3) by kernel_rfl)).fill [.int .i64 n] rfl rfl rfl rfl 0
theorem nilProve (n : Int) (s : ByteArray) : Ctr Tryz.prog 18 [.nilp, .int .i64 n, .str s] [] [] 0 0 (.tup [.agg [.int .i64 (.ofNat 0), .str ⟨⟨[]⟩⟩], .int .i64 (.ofNat 2)]) [] :=
  (Tryz.ev_ok 80 (show Tryz.ev 80 18 [.nilp, .hd 0, .hd 1] [] [] 2 = .ok (.tup [.agg [.int .i64 (.ofNat 0), .str ⟨⟨[]⟩⟩], .int .i64 (.ofNat 2)], [], 5) by kernel_rfl)).fill [.int .i64 n, .str s] rfl rfl rfl rfl 0
theorem nilWas (n : Int) (s : ByteArray) : Ctr Tryz.prog 19 [.nilp, .int .i64 n, .str s] [] [] 0 0 (.tup [.str ⟨⟨[]⟩⟩, .bool false]) [] :=
  (Tryz.ev_ok 80 (show Tryz.ev 80 19 [.nilp, .hd 0, .hd 1] [] [] 2 = .ok (.tup [.str ⟨⟨[]⟩⟩, .bool false], [], 4) by kernel_rfl)).fill [.int .i64 n, .str s] rfl rfl rfl rfl 0
theorem nilNote (a : Int) (b : ByteArray) (c : ByteArray) (d : ByteArray) (e : ByteArray) (f : ByteArray) (g : Int) (h : Int) : Ctr Tryz.prog 7 [.nilp, .agg [.int .i64 a, .str b, .str c, .str d, .str e, .str f, .int .i64 g, .int .i64 h]] [] [] 0 0 (.tup []) [] :=
  (Tryz.ev_ok 80 (show Tryz.ev 80 7 [.nilp, .agg [.hd 0, .hd 1, .hd 2, .hd 3, .hd 4, .hd 5, .hd 6, .hd 7]] [] [] 8 = .ok (.tup [], [], 9) by kernel_rfl)).fill [.int .i64 a, .str b, .str c, .str d, .str e, .str f, .int .i64 g, .int .i64 h] rfl rfl rfl rfl 0
theorem nilAnswered (a : Int) (b : ByteArray) (c : ByteArray) (d : ByteArray) (e : ByteArray) (f : ByteArray) (g : Int) (h : Int) (i : ByteArray) : Ctr Tryz.prog 8 [.nilp, .agg [.int .i64 a, .str b, .str c, .str d, .str e, .str f, .int .i64 g, .int .i64 h, .str i]] [] [] 0 0 (.tup []) [] :=
  (Tryz.ev_ok 80 (show Tryz.ev 80 8 [.nilp, .agg [.hd 0, .hd 1, .hd 2, .hd 3, .hd 4, .hd 5, .hd 6, .hd 7, .hd 8]] [] [] 9 = .ok (.tup [], [], 10) by kernel_rfl)).fill [.int .i64 a, .str b, .str c, .str d, .str e, .str f, .int .i64 g, .int .i64 h, .str i] rfl rfl rfl rfl 0
theorem nilTick (n : Int) : Ctr Tryz.prog 22 [.nilp, .int .i64 n] [] [] 0 0 (.int .i64 (.ofNat 2)) [] :=
  (Tryz.ev_ok 80 (show Tryz.ev 80 22 [.nilp, .hd 0] [] [] 1 = .ok (.int .i64 (.ofNat 2), [], 1) by kernel_rfl)).fill [.int .i64 n] rfl rfl rfl rfl 0
theorem nilName : Ctr Tryz.prog 20 [.nilp] [] [] 0 0 (.str ⟨⟨[]⟩⟩) [] := Ctr.shut (m := 0) (k := 0) (Tryz.ev_ok 80 (show Tryz.ev 80 20 [.nilp] [] [] 0 = .ok (.str ⟨⟨[]⟩⟩, [], 0) by kernel_rfl)) rfl rfl
theorem nilJ : Ctr Tryz.prog 11 [.nilp] [] [] 0 0 (.nilp) [] := Ctr.shut (m := 0) (k := 0) (Tryz.ev_ok 80 (show Tryz.ev 80 11 [.nilp] [] [] 0 = .ok (.nilp, [], 0) by kernel_rfl)) rfl rfl
theorem nilHeight : Ctr Tryz.prog 15 [.nilp] [] [] 0 0 (.int .i64 (.ofNat 0)) [] := Ctr.shut (m := 0) (k := 0) (Tryz.ev_ok 80 (show Tryz.ev 80 15 [.nilp] [] [] 0 = .ok (.int .i64 (.ofNat 0), [], 0) by kernel_rfl)) rfl rfl
theorem nilNow : Ctr Tryz.prog 21 [.nilp] [] [] 0 0 (.agg [.int .i64 (.ofNat 0), .int .i64 (.ofNat 0)]) [] := Ctr.shut (m := 0) (k := 1) (Tryz.ev_ok 80 (show Tryz.ev 80 21 [.nilp] [] [] 0 = .ok (.agg [.int .i64 (.ofNat 0), .int .i64 (.ofNat 0)], [], 1) by kernel_rfl)) rfl rfl
theorem nilBlock : Ctr Tryz.prog 10 [.nilp] [] [] 0 0 (.int .i64 (.ofNat 2)) [] := Ctr.shut (m := 0) (k := 0) (Tryz.ev_ok 80 (show Tryz.ev 80 10 [.nilp] [] [] 0 = .ok (.int .i64 (.ofNat 2), [], 0) by kernel_rfl)) rfl rfl
theorem nilSent : Ctr Tryz.prog 13 [.nilp] [] [] 0 0 (.nils) [] := Ctr.shut (m := 0) (k := 0) (Tryz.ev_ok 80 (show Tryz.ev 80 13 [.nilp] [] [] 0 = .ok (.nils, [], 0) by kernel_rfl)) rfl rfl
theorem nilWritten : Ctr Tryz.prog 14 [.nilp] [] [] 0 0 (.nils) [] := Ctr.shut (m := 0) (k := 0) (Tryz.ev_ok 80 (show Tryz.ev 80 14 [.nilp] [] [] 0 = .ok (.nils, [], 0) by kernel_rfl)) rfl rfl
theorem nilCopy : Ctr Tryz.prog 9 [.nilp] [] [] 0 0 (.nilp) [] := Ctr.shut (m := 0) (k := 0) (Tryz.ev_ok 80 (show Tryz.ev 80 9 [.nilp] [] [] 0 = .ok (.nilp, [], 0) by kernel_rfl)) rfl rfl
noncomputable def puM0_0 : Pure := fun g vs => match Nat.beq g 17, vs with
  | true, [.nilp, .int .i64 _n] => some (.tup [.str ⟨⟨[]⟩⟩, .int .i64 (.ofNat 2)])
  | _, _ => none
theorem puM0_0_ok : PureOK Tryz.prog puM0_0 := by
  intro g vs v h
  unfold puM0_0 at h
  split at h
  · rename_i _n hg
    cases h
    have hg := Nat.eq_of_beq_eq_true hg
    subst hg
    exact .inl fun n0 => (nilHeader _n).anyO rfl rfl n0
  · cases h
noncomputable def puM0_1 : Pure := fun g vs => match Nat.beq g 18, vs with
  | true, [.nilp, .int .i64 _n, .str _s] => some (.tup [.agg [.int .i64 (.ofNat 0), .str ⟨⟨[]⟩⟩], .int .i64 (.ofNat 2)])
  | _, _ => none
theorem puM0_1_ok : PureOK Tryz.prog puM0_1 := by
  intro g vs v h
  unfold puM0_1 at h
  split at h
  · rename_i _n _s hg
    cases h
    have hg := Nat.eq_of_beq_eq_true hg
    subst hg
    exact .inl fun n0 => (nilProve _n _s).anyO rfl rfl n0
  · cases h
noncomputable def puM0_2 : Pure := fun g vs => match Nat.beq g 19, vs with
  | true, [.nilp, .int .i64 _n, .str _s] => some (.tup [.str ⟨⟨[]⟩⟩, .bool false])
  | _, _ => none
theorem puM0_2_ok : PureOK Tryz.prog puM0_2 := by
  intro g vs v h
  unfold puM0_2 at h
  split at h
  · rename_i _n _s hg
    cases h
    have hg := Nat.eq_of_beq_eq_true hg
    subst hg
    exact .inl fun n0 => (nilWas _n _s).anyO rfl rfl n0
  · cases h
noncomputable def puM0_3 : Pure := fun g vs => match Nat.beq g 7, vs with
  | true, [.nilp, .agg [.int .i64 _a, .str _b, .str _c, .str _d, .str _e, .str _f, .int .i64 _g, .int .i64 _h]] => some (.tup [])
  | _, _ => none
theorem puM0_3_ok : PureOK Tryz.prog puM0_3 := by
  intro g vs v h
  unfold puM0_3 at h
  split at h
  · rename_i _a _b _c _d _e _f _g _h hg
    cases h
    have hg := Nat.eq_of_beq_eq_true hg
    subst hg
    exact .inl fun n0 => (nilNote _a _b _c _d _e _f _g _h).anyO rfl rfl n0
  · cases h
noncomputable def puM0_4 : Pure := fun g vs => match Nat.beq g 8, vs with
  | true, [.nilp, .agg [.int .i64 _a, .str _b, .str _c, .str _d, .str _e, .str _f, .int .i64 _g, .int .i64 _h, .str _i]] => some (.tup [])
  | _, _ => none
theorem puM0_4_ok : PureOK Tryz.prog puM0_4 := by
  intro g vs v h
  unfold puM0_4 at h
  split at h
  · rename_i _a _b _c _d _e _f _g _h _i hg
    cases h
    have hg := Nat.eq_of_beq_eq_true hg
    subst hg
    exact .inl fun n0 => (nilAnswered _a _b _c _d _e _f _g _h _i).anyO rfl rfl n0
  · cases h
noncomputable def puM0_5 : Pure := fun g vs => match Nat.beq g 22, vs with
  | true, [.nilp, .int .i64 _n] => some (.int .i64 (.ofNat 2))
  | _, _ => none
theorem puM0_5_ok : PureOK Tryz.prog puM0_5 := by
  intro g vs v h
  unfold puM0_5 at h
  split at h
  · rename_i _n hg
    cases h
    have hg := Nat.eq_of_beq_eq_true hg
    subst hg
    exact .inl fun n0 => (nilTick _n).anyO rfl rfl n0
  · cases h
noncomputable def puM0 : Pure := (orP puM0_5 (orP puM0_4 (orP puM0_3 (orP puM0_2 (orP puM0_1 (orP puM0_0 puV))))))
theorem puM0_ok : PureOK Tryz.prog puM0 := (orP_ok puM0_5_ok (orP_ok puM0_4_ok (orP_ok puM0_3_ok (orP_ok puM0_2_ok (orP_ok puM0_1_ok (orP_ok puM0_0_ok puV_ok))))))
noncomputable def puM1_0 : Pure := fun g vs => match Nat.beq g 20, vs with
  | true, [.nilp] => some (.str ⟨⟨[]⟩⟩)
  | _, _ => none
theorem puM1_0_ok : PureOK Tryz.prog puM1_0 := by
  intro g vs v h
  unfold puM1_0 at h
  split at h
  · rename_i  hg
    cases h
    have hg := Nat.eq_of_beq_eq_true hg
    subst hg
    exact .inl fun n0 => (nilName).anyO rfl rfl n0
  · cases h
noncomputable def puM1_1 : Pure := fun g vs => match Nat.beq g 11, vs with
  | true, [.nilp] => some (.nilp)
  | _, _ => none
theorem puM1_1_ok : PureOK Tryz.prog puM1_1 := by
  intro g vs v h
  unfold puM1_1 at h
  split at h
  · rename_i  hg
    cases h
    have hg := Nat.eq_of_beq_eq_true hg
    subst hg
    exact .inl fun n0 => (nilJ).anyO rfl rfl n0
  · cases h
noncomputable def puM1_2 : Pure := fun g vs => match Nat.beq g 15, vs with
  | true, [.nilp] => some (.int .i64 (.ofNat 0))
  | _, _ => none
theorem puM1_2_ok : PureOK Tryz.prog puM1_2 := by
  intro g vs v h
  unfold puM1_2 at h
  split at h
  · rename_i  hg
    cases h
    have hg := Nat.eq_of_beq_eq_true hg
    subst hg
    exact .inl fun n0 => (nilHeight).anyO rfl rfl n0
  · cases h
noncomputable def puM1_3 : Pure := fun g vs => match Nat.beq g 21, vs with
  | true, [.nilp] => some (.agg [.int .i64 (.ofNat 0), .int .i64 (.ofNat 0)])
  | _, _ => none
theorem puM1_3_ok : PureOK Tryz.prog puM1_3 := by
  intro g vs v h
  unfold puM1_3 at h
  split at h
  · rename_i  hg
    cases h
    have hg := Nat.eq_of_beq_eq_true hg
    subst hg
    exact .inl fun n0 => (nilNow).anyO rfl rfl n0
  · cases h
noncomputable def puM1_4 : Pure := fun g vs => match Nat.beq g 10, vs with
  | true, [.nilp] => some (.int .i64 (.ofNat 2))
  | _, _ => none
theorem puM1_4_ok : PureOK Tryz.prog puM1_4 := by
  intro g vs v h
  unfold puM1_4 at h
  split at h
  · rename_i  hg
    cases h
    have hg := Nat.eq_of_beq_eq_true hg
    subst hg
    exact .inl fun n0 => (nilBlock).anyO rfl rfl n0
  · cases h
noncomputable def puM1_5 : Pure := fun g vs => match Nat.beq g 13, vs with
  | true, [.nilp] => some (.nils)
  | _, _ => none
theorem puM1_5_ok : PureOK Tryz.prog puM1_5 := by
  intro g vs v h
  unfold puM1_5 at h
  split at h
  · rename_i  hg
    cases h
    have hg := Nat.eq_of_beq_eq_true hg
    subst hg
    exact .inl fun n0 => (nilSent).anyO rfl rfl n0
  · cases h
noncomputable def puM1_6 : Pure := fun g vs => match Nat.beq g 14, vs with
  | true, [.nilp] => some (.nils)
  | _, _ => none
theorem puM1_6_ok : PureOK Tryz.prog puM1_6 := by
  intro g vs v h
  unfold puM1_6 at h
  split at h
  · rename_i  hg
    cases h
    have hg := Nat.eq_of_beq_eq_true hg
    subst hg
    exact .inl fun n0 => (nilWritten).anyO rfl rfl n0
  · cases h
noncomputable def puM1_7 : Pure := fun g vs => match Nat.beq g 9, vs with
  | true, [.nilp] => some (.nilp)
  | _, _ => none
theorem puM1_7_ok : PureOK Tryz.prog puM1_7 := by
  intro g vs v h
  unfold puM1_7 at h
  split at h
  · rename_i  hg
    cases h
    have hg := Nat.eq_of_beq_eq_true hg
    subst hg
    exact .inl fun n0 => (nilCopy).anyO rfl rfl n0
  · cases h
noncomputable def puM1 : Pure := (orP puM1_7 (orP puM1_6 (orP puM1_5 (orP puM1_4 (orP puM1_3 (orP puM1_2 (orP puM1_1 (orP puM1_0 puM0))))))))
theorem puM1_ok : PureOK Tryz.prog puM1 := (orP_ok puM1_7_ok (orP_ok puM1_6_ok (orP_ok puM1_5_ok (orP_ok puM1_4_ok (orP_ok puM1_3_ok (orP_ok puM1_2_ok (orP_ok puM1_1_ok (orP_ok puM1_0_ok puM0_ok))))))))
noncomputable def puAw : Pure := fun g vs => match Nat.beq g 5, vs with
  | true, [] => some (.bool true)
  | _, _ => none
theorem puAw_ok (aw : Ctr Tryz.prog 5 [] [] [] 0 0 (.bool true) []) : PureOK Tryz.prog puAw := by
  intro g vs v h
  unfold puAw at h
  split at h
  · rename_i hg
    cases h
    have hg := Nat.eq_of_beq_eq_true hg
    subst hg
    exact .inl fun n => aw.anyO rfl rfl n
  · cases h
noncomputable def puM : Pure := orP puAw puM1
theorem puM_ok (aw : Ctr Tryz.prog 5 [] [] [] 0 0 (.bool true) []) : PureOK Tryz.prog puM := orP_ok (puAw_ok aw) puM1_ok
noncomputable def chB (name : ByteArray) : Res := .box 69 [.str name, .ptr 1 0, .nils, .int .i64 0, .nils, .nils]
theorem cName (name : ByteArray) : Ctr Tryz.prog 20 [.ptr 0 0] [] [(0, chB name)] 2 2 (.str name) [(0, chB name)] := by
  refine Ctr.introR (T := Tryz.T) Tryz.hT Tryz.hM puC_ok Tryz.func20 rfl (by kernel_rfl) rfl rfl rfl rfl ?_
  conv => whnf
  exact .mk' [] rfl rfl rfl rfl rfl rfl ⟨rfl, trivial⟩
theorem cJ (name : ByteArray) : Ctr Tryz.prog 11 [.ptr 0 0] [] [(0, chB name)] 2 2 (.ptr 1 0) [(0, chB name)] := by
  refine Ctr.introR (T := Tryz.T) Tryz.hT Tryz.hM puC_ok Tryz.func11 rfl (by kernel_rfl) rfl rfl rfl rfl ?_
  conv => whnf
  exact .mk' [] rfl rfl rfl rfl rfl rfl ⟨rfl, trivial⟩
theorem chainL_srt (other admin : ByteArray) : Srt (chainL other admin) := setL_srt (setL_srt (setL_srt srt_nil _ _) _ _) _ _
theorem chainL_le (other admin : ByteArray) : (chainL other admin).length * 2 ≤ room := by
  have a := setL_le (setL (setL [] (joinB nextW [clientW]) (numS 1)) (joinB clientW [client0]) (clientV other (catB keyofW other) 0 0)) adminW admin
  have b := setL_le (setL [] (joinB nextW [clientW]) (numS 1)) (joinB clientW [client0]) (clientV other (catB keyofW other) 0 0)
  have c := setL_le [] (joinB nextW [clientW]) (numS 1)
  simp only [List.length_nil] at c
  unfold chainL room; omega
set_option maxRecDepth 20000 in
theorem chainNames1 (aw : Ctr Tryz.prog 5 [] [] [] 0 0 (.bool true) []) (name other admin : ByteArray) : Ctr Tryz.prog 4 [.str name, .str other, .str admin] [] [] 0 0 (.bool true) [] := by
  refine Ctr.introR (T := Tryz.T) Tryz.hT Tryz.hM (puM_ok aw) Tryz.func4 rfl (by kernel_rfl) rfl rfl rfl rfl ?_
  conv => whnf
  by_cases h1 : name.size ≤ 300
  · rw [show decide ((300 : Int) < (name.size : Int)) = false by simp; omega]
    conv => whnf
    by_cases h2 : other.size ≤ 300
    · rw [show decide ((300 : Int) < (other.size : Int)) = false by simp; omega]
      conv => whnf
      by_cases h3 : admin.size ≤ 300
      · rw [show decide ((300 : Int) < (admin.size : Int)) = false by simp; omega]
        conv => whnf
        cases hg : (plainB name && (plainB other && (plainB admin && !eqB name other))) with
        | false =>
          refine callR [] (chn_bad h1 h2 h3 hg) rfl rfl rfl rfl trivial trivial ?_
          conv => whnf
          exact .mk' [] rfl rfl rfl rfl rfl rfl trivial
        | true =>
          simp only [Bool.and_eq_true, Bool.not_eq_true'] at hg
          obtain ⟨c1, c2, c3, c4⟩ := hg
          refine callR [] (chn c1 c2 c3 c4) rfl rfl rfl rfl trivial trivial ?_
          conv => whnf
          refine callR [0, 1] (cName name) rfl rfl rfl rfl trivial ⟨rfl, trivial⟩ ?_
          conv => whnf
          rw [show eqB name name = true by simp [eqB_eq]]
          conv => whnf
          rw [c4]
          conv => whnf
          refine callR [0, 1] (cJ name) rfl rfl rfl rfl trivial ⟨rfl, trivial⟩ ?_
          conv => whnf
          refine callR [1] (jlistP (chainL_srt other admin) (chainL_le other admin)) rfl rfl rfl rfl trivial ⟨rfl, trivial⟩ ?_
          conv => whnf
          refine callR [] (new38 c2 c3) (post' := [(4, rowP (chainL other admin))]) (by simp only [renH, rowP_ren]; rfl) rfl rfl rfl trivial trivial ?_
          conv => whnf
          refine callR [3, 4] (sameR (L := chainL other admin) (M := chainL other admin) (chainL_le other admin)) (post' := [(4, rowP (chainL other admin))]) (by simp only [renH, rowP_ren]; rfl) rfl rfl rfl ⟨rfl, trivial⟩ ⟨rowP_at _ rfl, trivial⟩ ?_
          conv => whnf
          rw [show decide (chainL other admin = chainL other admin) = true by simp]
          conv => whnf
          exact .mk' [] rfl rfl rfl rfl rfl rfl trivial
      · rw [show decide ((300 : Int) < (admin.size : Int)) = true by simp; omega]
        conv => whnf
        exact .mk' [] rfl rfl rfl rfl rfl rfl trivial
    · rw [show decide ((300 : Int) < (other.size : Int)) = true by simp; omega]
      conv => whnf
      exact .mk' [] rfl rfl rfl rfl rfl rfl trivial
  · rw [show decide ((300 : Int) < (name.size : Int)) = true by simp; omega]
    conv => whnf
    exact .mk' [] rfl rfl rfl rfl rfl rfl trivial
theorem chainNames_law (aw : Ctr Tryz.prog 5 [] [] [] 0 0 (.bool true) []) : ∀ vs, okT2 [.one .s, .one .s, .one .s] vs → ∃ n', Ctr Tryz.prog 4 vs [] [] 0 n' (.bool true) [] := by
  intro vs hv
  obtain ⟨a1, _, rfl, ⟨x, rfl, _⟩, g1⟩ := okT2_one hv
  obtain ⟨a2, _, rfl, ⟨y, rfl, _⟩, g2⟩ := okT2_one g1
  obtain ⟨a3, _, rfl, ⟨z, rfl, _⟩, g3⟩ := okT2_one g2
  obtain rfl := okT2_nil g3
  exact ⟨0, chainNames1 aw x y z⟩
end Go.Proofs.YtkhliljbbjapmaaGreatDoor
