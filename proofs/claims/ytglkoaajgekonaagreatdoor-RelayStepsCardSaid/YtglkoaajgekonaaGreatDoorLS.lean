/- A store's list: all pairs, in a slice that may be read. -/
import Derived.Test.YtglkoaajgekonaaGreatDoorJN
import Derived.Test.YtglkoaajgekonaaGreatDoorSXRF
namespace Go.Proofs.YtglkoaajgekonaaGreatDoor
open Go.SX
noncomputable def puH0_0 : Pure := fun g vs => match Nat.beq g 153, vs with
  | true, [.str a, .str b] => some (.bool (decide (b.size ≤ a.size) && eqB (subB a 0 b.size) b))
  | _, _ => none
theorem puH0_0_ok : PureOK Tryz.prog puH0_0 := by
  intro g vs v h
  unfold puH0_0 at h
  split at h
  · rename_i a b hg
    cases h
    have hg := Nat.eq_of_beq_eq_true hg
    subst hg
    exact .inl fun n0 => (hpf a b).anyO rfl rfl n0
  · cases h
noncomputable def puH0 : Pure := (orP puH0_0 puC)
theorem puH0_ok : PureOK Tryz.prog puH0 := (orP_ok puH0_0_ok puC_ok)
theorem hpf2 (a b : ByteArray) : Ctr Tryz.prog 140 [.str a, .str b] [] [] 0 0 (.bool (decide (b.size ≤ a.size) && eqB (subB a 0 b.size) b)) [] := by
  refine Ctr.introR (T := Tryz.T) Tryz.hT Tryz.hM puH0_ok Tryz.func140 rfl (by kernel_rfl) rfl rfl rfl rfl ?_
  conv => whnf
  exact Fin.same rfl rfl (by simp)
noncomputable def puH_0 : Pure := fun g vs => match Nat.beq g 140, vs with
  | true, [.str a, .str b] => some (.bool (decide (b.size ≤ a.size) && eqB (subB a 0 b.size) b))
  | _, _ => none
theorem puH_0_ok : PureOK Tryz.prog puH_0 := by
  intro g vs v h
  unfold puH_0 at h
  split at h
  · rename_i a b hg
    cases h
    have hg := Nat.eq_of_beq_eq_true hg
    subst hg
    exact .inl fun n0 => (hpf2 a b).anyO rfl rfl n0
  · cases h
noncomputable def puH : Pure := (orP puH_0 puH0)
theorem puH_ok : PureOK Tryz.prog puH := (orP_ok puH_0_ok puH0_ok)
/-- What a round of begins knows of its frame. -/
noncomputable def bgL (h : Nat) : LoopR := recOf Tryz.f124 [(3, .ptr 2 0), (7, .ptr 3 0)] h
theorem subC {H l : Heap} {k : Nat} {r : Res} (h : SX.look H k = some r) (t : SX.Sub l H) : SX.Sub ((k, r) :: l) H := by
  intro j q hl
  rw [look_cons] at hl
  split at hl
  · rename_i e; subst e; cases hl; exact h
  · exact t j q hl
theorem posL_empty : ∀ L : List KV, posL L ⟨#[]⟩ = 0
  | [] => rfl
  | p :: l => by
    unfold posL
    rw [if_neg]
    unfold cmpB
    show ¬ cmpA p.1.data.toList [] < 0
    cases p.1.data.toList <;> simp [cmpA]
theorem pfx0 (a : ByteArray) : (decide ((⟨#[]⟩ : ByteArray).size ≤ a.size) && eqB (subB a 0 (⟨#[]⟩ : ByteArray).size) ⟨#[]⟩) = true := by
  have h1 : decide ((⟨#[]⟩ : ByteArray).size ≤ a.size) = true := decide_eq_true (Nat.zero_le _)
  rw [h1]; rfl
theorem bg_round (k v : ByteArray) (i : Nat) (hi : i < 4611686018427387904) : RCtr Tryz.prog 6 [.agg [.str k, .str v]] [] [(6, .loop (bgL 5)), (3, .box 3 [.int .i64 (i : Int)]), (2, .box 9 [.str ⟨#[]⟩])] 8 8 (.bool true)
    [(6, .loop (bgL 5)), (3, .box 3 [.int .i64 ((i + 1 : Nat) : Int)]), (2, .box 9 [.str ⟨#[]⟩])] := by
  refine RCtr.introR (T := Tryz.T) Tryz.hT Tryz.hM puH_ok (L := bgL 5) rfl rfl (by decide) rfl rfl rfl rfl rfl (by decide) rfl ?_
  conv => whnf
  rw [pfx0]
  conv => whnf
  have hw : IntKind.i64.wrap ((i : Int) + 1) = ((i + 1 : Nat) : Int) := by rw [wrap_small] <;> omega
  refine .mk' [] rfl rfl rfl rfl rfl rfl ⟨rfl, ?_, rfl, trivial⟩
  show some (Res.box _ [AV.int _ (IntKind.i64.wrap ((i : Int) + 1))]) = _
  rw [hw]; rfl
theorem values1 (len : Nat) : Ctr Tryz.prog 139 [.sv 0 2 0 len none] [] [] 1 2 (.fn (.func 155) [] [.ptr 1 0]) [(1, .box 27 [.sv 0 2 0 len none])] := by
  refine Ctr.introR (T := Tryz.T) Tryz.hT Tryz.hM puH_ok Tryz.func139 rfl (by kernel_rfl) rfl rfl rfl rfl ?_
  conv => whnf
  exact .mk' [1] rfl rfl rfl rfl rfl rfl ⟨rfl, trivial⟩
/-- The heap of begins' i-th round. -/
noncomputable def bgH (L : List KV) (i : Nat) : Heap := [(6, .loop (bgL 5)), (3, .box 3 [.int .i64 (i : Int)]), (2, .box 9 [.str ⟨#[]⟩]), (4, .box 27 [.sv 1 2 0 L.length none]), (1, .row 26 2 (cellsP L) none)]
theorem bgH_ok (L : List KV) (i n : Nat) (h : 7 ≤ n) : okH n (bgH L i) = true := by
  have e : ∀ k, k < 7 → k < n := fun k hk => by omega
  have e2 : okR n (.loop (bgL 5)) = true := by
    show (okF n [(3, .ptr 2 0), (7, .ptr 3 0)] && Nat.blt 5 n) = true
    simp [okF, okA_ptr, e 2, e 3, e 5]
  have e3 : okR n (.row 26 2 (cellsP L) none) = true := bare_ok (cellsP_bare L)
  rw [okH_all]
  simp only [bgH, List.all_cons, List.all_nil, e2, e3, (show Nat.blt 6 n = true from Nat.ble_eq_true_of_le (e 6 (by omega))), (show Nat.blt 3 n = true from Nat.ble_eq_true_of_le (e 3 (by omega))), (show Nat.blt 2 n = true from Nat.ble_eq_true_of_le (e 2 (by omega))), (show Nat.blt 4 n = true from Nat.ble_eq_true_of_le (e 4 (by omega))), (show Nat.blt 1 n = true from Nat.ble_eq_true_of_le (e 1 (by omega)))]
  simp [okR, okL_cons, okL_nil, okA_sv, okA_int, okA_str, e]
theorem bgH_all {L : List KV} {i : Nat} {H : Heap} {π : Nat → Nat} (h : π 6 = 6 ∧ π 5 = 5 ∧ π 3 = 3 ∧ π 2 = 2 ∧ π 4 = 4 ∧ π 1 = 1) (h6 : SX.look H 6 = some (.loop (bgL 5))) (h3 : SX.look H 3 = some (.box 3 [.int .i64 (i : Int)])) (h2 : SX.look H 2 = some (.box 9 [.str ⟨#[]⟩]))
    (h4 : SX.look H 4 = some (.box 27 [.sv 1 2 0 L.length none])) (h1 : SX.look H 1 = some (.row 26 2 (cellsP L) none)) : HasAll H π (bgH L i) := by
  obtain ⟨e6, e5, e3, e2, e4, e1⟩ := h
  refine ⟨?_, ?_, ?_, ?_, ?_, trivial⟩
  · rw [e6, h6]
    show _ = some (Res.loop { (bgL 5) with fr := [(3, .ptr (π 2) 0), (7, .ptr (π 3) 0)], dh := π 5 })
    rw [e2, e3, e5]; rfl
  · rw [e3, h3]; rfl
  · rw [e2, h2]; rfl
  · rw [e4, h4]
    show _ = some (Res.box _ [AV.sv (π 1) 2 0 L.length none])
    rw [e1]
  · rw [e1, h1, renR, bare_ren (cellsP_bare L)]
theorem vals {L : List KV} (hr : L.length * 2 ≤ room) : Ctr Tryz.prog 155 [.yld 6, .ptr 4 0] [] (bgH L 0) 7 7 (.tup []) (bgH L L.length) := by
  refine Ctr.introR (T := Tryz.T) Tryz.hT Tryz.hM puH_ok Tryz.func155 rfl (by kernel_rfl) rfl rfl ?_ rfl ?_
  · rw [List.append_nil]; exact bgH_ok L 0 7 (by omega)
  conv => whnf
  refine loopR Tryz.hT Tryz.hM puH_ok (α := {i : Nat // i ≤ L.length})
    (fun i => ([(0, .yld 6), (1, .ptr 4 0), (5, .sv 1 2 0 L.length none), (6, .int .i64 ((L.length : Nat) : Int)), (7, .int .i64 ((i.1 : Nat) : Int))], bgH L i.1)) (fun i => L.length - i.1) 7 ⟨0, Nat.zero_le _⟩ [] ?_ ?_
  · refine ⟨⟨rfl, rfl, rfl, rfl, rfl, trivial⟩, bgH_all ⟨rfl, rfl, rfl, rfl, rfl, rfl⟩ rfl rfl rfl rfl rfl, ?_, rfl⟩
    simp only [bgH_ok L 0 7 (by omega)]; rfl
  · rintro ⟨i, hi⟩
    dsimp only at hi ⊢
    conv => whnf
    refine bcase_intro (fun h => ?_) (fun h => ?_)
    · have h : i < L.length := by simpa using h
      conv => whnf
      simp only [Int.toNat_natCast, Nat.zero_add]
      refine ⟨by omega, ?_⟩
      conv => whnf
      have hrd : readA true 2 (cellsP L) (i * 2 + 0) = some (.agg [.str L[i].1, .str L[i].2]) := by have := readP (X := []) h; rwa [List.append_nil] at this
      rw [hrd]
      conv => whnf
      refine yieldR (bg_round L[i].1 L[i].2 i (by unfold room at hr; omega)) sub_nil ?_ ?_
      · exact subC rfl (subC rfl (subC rfl sub_nil))
      conv => whnf
      have hw : IntKind.i64.wrap ((i : Int) + 1) = ((i + 1 : Nat) : Int) := by rw [wrap_small] <;> (unfold room at hr; omega)
      refine ⟨⟨i + 1, by omega⟩, [], by dsimp only; omega, ⟨⟨rfl, rfl, rfl, rfl, by rw [← hw]; rfl, trivial⟩, bgH_all ⟨rfl, rfl, rfl, rfl, rfl, rfl⟩ rfl rfl rfl rfl rfl, ?_, rfl⟩⟩
      simp only [bgH_ok L (i + 1) 7 (by omega)]; rfl
    · have h : i = L.length := by simp at h; omega
      subst h
      conv => whnf
      exact Fin.same (bgH_ok L _ 7 (by omega)) rfl (by simp [lookC, bgH])
theorem clone1 {L : List KV} (hr : L.length * 2 ≤ room) (h0 : 0 < L.length) : Ctr Tryz.prog 113 [.sv 0 2 0 L.length none] [] [(0, .row 26 2 (cellsP L) none)] 1 2 (.sv 1 2 0 L.length none) [(0, .row 26 2 (cellsP L) none), (1, .row 26 2 (cellsP L) none)] := by
  refine Ctr.introR (T := Tryz.T) Tryz.hT Tryz.hM puH_ok Tryz.func113 rfl (by kernel_rfl) rfl rfl ?_ rfl ?_
  · simp [okH_all, okR, bare_ok (cellsP_bare L)]
  conv => whnf
  dsimp only
  rw [readsA_row (by rw [cellsP_len, Nat.zero_mul, Nat.zero_add]; exact Nat.le_refl _)]
  have e1 : (List.take (L.length * 2) (List.drop (0 * 2) (cellsP L))) = cellsP L := by rw [Nat.zero_mul, List.drop_zero, List.take_of_length_le (by rw [cellsP_len]; exact Nat.le_refl _)]
  rw [e1]
  have e2 : (cellsP L).all leafA = true := bare_leaf (cellsP_bare L)
  conv => whnf
  rw [e2]
  conv => whnf
  have e3 : Nat.beq L.length 0 = false := by
    cases h : L.length with
    | zero => omega
    | succ k => rfl
  rw [e3]
  conv => whnf
  have e4 : (0 + L.length).ble 0 = false := by
    rw [Nat.zero_add]
    cases h : L.length with
    | zero => omega
    | succ k => rfl
  rw [e4]
  conv => whnf
  refine ⟨by simpa using hr, ?_⟩
  conv => whnf
  rw [spine_rec, show (List.take (0 * 2) (List.drop (0 * 2) ([] : List AV)) ++ cellsP L) = cellsP L from rfl]
  conv => whnf
  simp only [Nat.zero_add]
  refine .mk' [2] rfl rfl rfl ?_ rfl rfl ⟨rowL_ren' _ rfl, rowL_ren' _ rfl, trivial⟩
  simp [okH_all, okR, bare_ok (cellsP_bare L)]
theorem clone0 : Ctr Tryz.prog 113 [.sv 0 2 0 0 none] [] [(0, .row 26 2 [] none)] 1 2 (.sv 1 2 0 0 (some 0)) [(0, .row 26 2 [] none), (1, .row 26 2 [] (some 0))] := by
  refine Ctr.introR (T := Tryz.T) Tryz.hT Tryz.hM puH_ok Tryz.func113 rfl (by kernel_rfl) rfl rfl rfl rfl ?_
  conv => whnf
  exact .mk' [1] rfl rfl rfl rfl rfl rfl ⟨rfl, rfl, trivial⟩
theorem begins1 {L : List KV} (hs : Srt L) (hr : L.length * 2 ≤ room) (hl : 0 < L.length) : Ctr Tryz.prog 124 [.ptr 0 0, .str ⟨#[]⟩] [] (stH 0 L []) 2 3 (.sv 2 2 0 L.length none) [(0, .box 139 [.sv 1 2 0 L.length none]), (1, .row 26 2 (cellsP L) none), (2, .row 26 2 (cellsP L) none)] := by
  refine Ctr.introM (T := Tryz.T) Tryz.hT Tryz.hM puH_ok Tryz.func124 rfl (by kernel_rfl) rfl rfl ?_ rfl ?_
  · rw [List.append_nil]; exact stH_ok rfl 0 2 (by omega)
  conv => whnf
  refine scopeR Tryz.hT Tryz.hM puH_ok 0 ?_
  conv => whnf
  refine callR [0, 1] (atS hs rfl ⟨#[]⟩ hr) (post' := stH 0 L []) (stH_ren rfl rfl rfl) rfl rfl rfl trivial ⟨rfl, row_ren' rfl _ rfl, trivial⟩ ?_
  conv => whnf
  rw [posL_empty]
  refine ⟨by simp [capE], ?_⟩
  conv => whnf
  refine callR [1] (values1 L.length) rfl rfl rfl rfl trivial trivial ?_
  conv => whnf
  refine rangeA (fr0 := [(3, .ptr 2 0), (7, .ptr 3 0)]) rfl ?_ (vals hr) sub_nil ?_ ?_
  · intro t v hl
    rw [look_cons] at hl
    split at hl
    · rename_i e; subst e; cases hl; rfl
    · rw [look_cons] at hl
      split at hl
      · rename_i e; subst e; cases hl; rfl
      · simp [lookN] at hl
  · refine subC rfl (subC rfl (subC rfl (subC rfl (subC ?_ sub_nil))))
    simp only [stH, List.append_nil]; rfl
  conv => whnf
  refine ⟨by simp [capE], ?_⟩
  conv => whnf
  refine callR [1] (clone1 hr hl) (post' := [(1, .row 26 2 (cellsP L) none), (7, .row 26 2 (cellsP L) none)]) ?_ rfl rfl rfl trivial ⟨rowL_ren' _ rfl, trivial⟩ ?_
  · simp only [renH, renR, bare_ren (cellsP_bare _)]; rfl
  conv => whnf
  refine .mk' [7] rfl rfl rfl ?_ rfl rfl ⟨?_, rowL_ren' _ rfl, rowL_ren' _ rfl, trivial⟩
  · simp [okH_all, okR, bare_ok (cellsP_bare _), okL_cons, okL_nil, okA_sv]
  · simp only [stH]; rfl
theorem begins0 : Ctr Tryz.prog 124 [.ptr 0 0, .str ⟨#[]⟩] [] (stH 0 [] []) 2 3 (.sv 2 2 0 0 (some 0)) [(0, .box 139 [.sv 1 2 0 0 none]), (1, .row 26 2 ([]) none), (2, .row 26 2 [] (some 0))] := by
  refine Ctr.introM (T := Tryz.T) Tryz.hT Tryz.hM puH_ok Tryz.func124 rfl (by kernel_rfl) rfl rfl ?_ rfl ?_
  · rw [List.append_nil]; exact stH_ok rfl 0 2 (by omega)
  conv => whnf
  refine scopeR Tryz.hT Tryz.hM puH_ok 0 ?_
  conv => whnf
  refine callR [0, 1] (atS (L := []) srt_nil rfl ⟨#[]⟩ (by decide)) (post' := stH 0 [] []) (stH_ren rfl rfl rfl) rfl rfl rfl trivial ⟨rfl, rfl, trivial⟩ ?_
  conv => whnf
  rw [posL_empty]
  refine ⟨by simp [capE], ?_⟩
  conv => whnf
  refine callR [1] (values1 0) rfl rfl rfl rfl trivial trivial ?_
  conv => whnf
  refine rangeA (fr0 := [(3, .ptr 2 0), (7, .ptr 3 0)]) rfl ?_ (vals (L := []) (by decide)) sub_nil ?_ ?_
  · intro t v hl
    rw [look_cons] at hl
    split at hl
    · rename_i e; subst e; cases hl; rfl
    · rw [look_cons] at hl
      split at hl
      · rename_i e; subst e; cases hl; rfl
      · simp [lookN] at hl
  · refine subC rfl (subC rfl (subC rfl (subC rfl (subC ?_ sub_nil))))
    rfl
  conv => whnf
  refine ⟨by simp [capE], ?_⟩
  conv => whnf
  refine callR [1] clone0 (post' := [(1, .row 26 2 [] none), (7, .row 26 2 [] (some 0))]) ?_ rfl rfl rfl trivial ⟨rfl, trivial⟩ ?_
  · rfl
  conv => whnf
  refine .mk' [7] rfl rfl rfl ?_ rfl rfl ⟨?_, rfl, rfl, trivial⟩
  · rfl
  · rfl
theorem slist1 {L : List KV} (hs : Srt L) (hr : L.length * 2 ≤ room) (hl : 0 < L.length) : Ctr Tryz.prog 84 [.ptr 0 0] [] (stH 0 L []) 2 3 (.sv 2 2 0 L.length none) [(0, .box 139 [.sv 1 2 0 L.length none]), (1, .row 26 2 (cellsP L) none), (2, .row 26 2 (cellsP L) none)] := by
  refine Ctr.introR (T := Tryz.T) Tryz.hT Tryz.hM puH_ok Tryz.func84 rfl (by kernel_rfl) rfl rfl ?_ rfl ?_
  · rw [List.append_nil]; exact stH_ok rfl 0 2 (by omega)
  conv => whnf
  refine callR [0, 1] (begins1 hs hr hl) (post' := [(0, .box 139 [.sv 1 2 0 L.length none]), (1, .row 26 2 (cellsP L) none), (2, .row 26 2 (cellsP L) none)]) ?_ rfl rfl rfl trivial ⟨rfl, row_ren' rfl _ rfl, trivial⟩ ?_
  · simp only [renH, renR, bare_ren (cellsP_bare _)]; rfl
  conv => whnf
  refine .mk' [2] rfl rfl rfl ?_ rfl rfl ⟨rfl, rowL_ren' _ rfl, rowL_ren' _ rfl, trivial⟩
  simp [okH_all, okR, bare_ok (cellsP_bare _), okL_cons, okL_nil, okA_sv]
theorem slist0 : Ctr Tryz.prog 84 [.ptr 0 0] [] (stH 0 [] []) 2 3 (.sv 2 2 0 0 (some 0)) [(0, .box 139 [.sv 1 2 0 0 none]), (1, .row 26 2 [] none), (2, .row 26 2 [] (some 0))] := by
  refine Ctr.introR (T := Tryz.T) Tryz.hT Tryz.hM puH_ok Tryz.func84 rfl (by kernel_rfl) rfl rfl rfl rfl ?_
  conv => whnf
  refine callR [0, 1] begins0 rfl rfl rfl rfl trivial ⟨rfl, rfl, trivial⟩ ?_
  conv => whnf
  exact .mk' [2] rfl rfl rfl rfl rfl rfl ⟨rfl, rfl, rfl, trivial⟩
theorem jlist1 {L : List KV} (hs : Srt L) (hr : L.length * 2 ≤ room) (hl : 0 < L.length) : Ctr Tryz.prog 52 [.ptr 0 0] [] (jH L) 3 4 (.sv 3 2 0 L.length none) (jH L ++ [(3, .row 26 2 (cellsP L) none)]) := by
  refine Ctr.introR (T := Tryz.T) Tryz.hT Tryz.hM puH_ok Tryz.func52 rfl (by kernel_rfl) rfl rfl ?_ rfl ?_
  · rw [List.append_nil]; exact jH_ok L
  conv => whnf
  refine callR [1, 2] (slist1 hs hr hl) (post' := [(1, .box 139 [.sv 2 2 0 L.length none]), (2, .row 26 2 (cellsP L) none), (3, .row 26 2 (cellsP L) none)]) ?_ rfl rfl rfl trivial ⟨rfl, row_ren' rfl _ (by simp only [List.append_nil]; rfl), trivial⟩ ?_
  · simp only [renH, renR, bare_ren (cellsP_bare _)]; rfl
  conv => whnf
  refine .mk' [3] rfl rfl rfl ?_ rfl rfl ⟨rfl, rfl, rowL_ren' _ rfl, rowL_ren' _ rfl, trivial⟩
  simp [jH, okH_all, okR, bare_ok (cellsP_bare _), okL_cons, okL_nil, okA_sv, okA_ptr, okA_nils]
theorem jlist0 : Ctr Tryz.prog 52 [.ptr 0 0] [] (jH []) 3 4 (.sv 3 2 0 0 (some 0)) (jH [] ++ [(3, .row 26 2 [] (some 0))]) := by
  refine Ctr.introR (T := Tryz.T) Tryz.hT Tryz.hM puH_ok Tryz.func52 rfl (by kernel_rfl) rfl rfl rfl rfl ?_
  conv => whnf
  refine callR [1, 2] slist0 rfl rfl rfl rfl trivial ⟨rfl, rfl, trivial⟩ ?_
  conv => whnf
  exact .mk' [3] rfl rfl rfl rfl rfl rfl ⟨rfl, rfl, rfl, rfl, trivial⟩
/-- The cells of a list that may be read. -/
def cellF (L : List KV) (i j : Nat) : AV := ((cellsP L)[i * 2 + j]?).getD .nilp
/-- A list of pairs that may be read. -/
def lstP (L : List KV) : Res := .abs (lst none L.length 2 (cellF L))
theorem one_id {τ : Nat → Nat} (h : τ 0 = 0) : ∀ k, k < 1 → τ k = k := by
  intro k hk
  obtain rfl : k = 0 := by omega
  exact h
theorem jH_keep {L : List KV} {k : Nat} {q0 : Res} {l : Heap} (h : 3 ≤ k) : ∀ j q, SX.look (jH L) j = some q → (q = .gone ∧ ∃ q0, SX.look (jH L ++ l) j = some q0) ∨ (j ≠ k ∧ SX.look (jH L ++ l) j = some q) := by
  have _ := q0
  intro j q hl
  refine .inr ⟨?_, by rw [look_append, hl]; rfl⟩
  have := (okH_look (jH_ok L) hl).1
  omega
theorem jlistP {L : List KV} (hs : Srt L) (hr : L.length * 2 ≤ room) : Ctr Tryz.prog 52 [.ptr 0 0] [] [(0, jour L)] 1 2 (.sl 1 L.length) [(0, jour L), (1, lstP L)] := by
  refine Ctr.pack (rest := []) (outer := [(1, lstP L)]) (by kernel_rfl) (by decide) (by decide) rfl rfl rfl rfl (fun _ _ h => by simp [lookN] at h) rfl ?_
  rintro H (⟨rfl, rfl⟩ | rfl)
  · have h0 : Ctr Tryz.prog 52 [.ptr 0 0] [] jN 2 7 .nils [(1, .box 139 [.nils]), (0, .box 96 [.ptr 1 0, .nils])] :=
      Tryz.ev_ok 80 (show Tryz.ev 80 52 [.ptr 0 0] [(0, .box 96 [.ptr 1 0, .nils]), (1, .box 139 [.nils])] [] 2 = .ok (.nils, [(1, .box 139 [.nils]), (0, .box 96 [.ptr 1 0, .nils])], 7) by kernel_rfl)
    have c := h0.asLst (post' := [(1, .box 139 [.nils]), (0, .box 96 [.ptr 1 0, .nils])]) (len := 0) (z := 2) (k := 6) (cell := cellF []) (fun env' F' w' x _ hx => by
      simp only [Den] at hx
      exact ⟨fun _ => False, ⟨none, 0, hx, Nat.le_refl _, .inl ⟨rfl, fun _ h => h⟩⟩, fun _ h => h.elim⟩) (fun j q hl => .inr ⟨by
        rw [look_cons] at hl
        split at hl
        · omega
        · rw [look_cons] at hl
          split at hl
          · omega
          · simp [lookN] at hl, hl⟩) rfl
    exact ⟨1, _, _, _, rfl, by rw [inn1 _ 0, List.append_nil]; exact c, jN, id, sg [0, 7] 9, _, .inl ⟨rfl, rfl⟩, rfl, rfl, rfl, one_id rfl, rfl, rfl, rfl, rfl, ⟨rfl, rfl, trivial⟩, ⟨rfl, trivial⟩⟩
  · rcases Nat.eq_zero_or_pos L.length with h0 | h0
    · have : L = [] := List.length_eq_zero_iff.1 h0
      subst this
      have c := jlist0.asLst (post' := jH []) (len := 0) (z := 2) (k := 3) (cell := cellF []) (fun env' F' w' x hs hx => row_reads hs (k := 3) (e := 26) (rc := some 0) (cs := []) rfl hx rfl (Nat.le_refl _) (by decide)) (jH_keep (q0 := .gone) (by decide)) rfl
      exact ⟨2, _, _, _, jH_ok [], by rw [inn1 _ 0, List.append_nil]; exact c, jH [], id, sg [0, 4] 9, _, .inr rfl, rfl, rfl, rfl, one_id rfl, rfl, rfl, rfl, rfl, ⟨rfl, rfl, rfl, trivial⟩, ⟨rfl, trivial⟩⟩
    · have c := (jlist1 hs hr h0).asLst (post' := jH L) (len := L.length) (z := 2) (k := 3) (cell := cellF L) (fun env' F' w' x hs hx => row_reads hs (k := 3) (e := 26) (rc := none) (by simp [lookC, jH]) hx (cellsP_bare L) (by rw [cellsP_len]; exact Nat.le_refl _) (by decide)) (jH_keep (q0 := .gone) (by decide)) rfl
      exact ⟨2, _, _, _, jH_ok L, by rw [inn1 _ 0, List.append_nil]; exact c, jH L, id, sg [0, 4] 9, _, .inr rfl, rfl, rfl, rfl, one_id rfl, rfl, rfl, rfl, rfl, ⟨rfl, rfl, rowL_ren' id rfl, trivial⟩, ⟨rfl, trivial⟩⟩
end Go.Proofs.YtglkoaajgekonaaGreatDoor
