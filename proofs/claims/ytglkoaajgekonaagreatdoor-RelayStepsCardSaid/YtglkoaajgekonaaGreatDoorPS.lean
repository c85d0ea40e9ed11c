/- A store of pairs: the functions of pairs, over rows of pairs of texts. -/
import Derived.Test.YtglkoaajgekonaaGreatDoorTab
import Derived.Test.YtglkoaajgekonaaGreatDoorIns
import Derived.Test.YtglkoaajgekonaaGreatDoorSXZ
import Derived.Test.YtglkoaajgekonaaGreatDoorSXJR
import Derived.Test.YtglkoaajgekonaaGreatDoorSXU
import Derived.Test.YtglkoaajgekonaaGreatDoorSXPL
namespace Go.Proofs.YtglkoaajgekonaaGreatDoor
open Go.SX
theorem cmp2 (a b : ByteArray) : Ctr Tryz.prog 130 [.str a, .str b] [] [] 0 0 (.int .i64 (cmpB a b)) [] := by
  refine Ctr.introR (T := Tryz.T) Tryz.hT Tryz.hM Tryz.hE Tryz.func130 rfl (by kernel_rfl) rfl rfl rfl rfl ?_
  conv => whnf
  exact Fin.same rfl rfl (by simp)
noncomputable def puC1_0 : Pure := fun g vs => match Nat.beq g 130, vs with
  | true, [.str a, .str b] => some (.int .i64 (cmpB a b))
  | _, _ => none
theorem puC1_0_ok : PureOK Tryz.prog puC1_0 := by
  intro g vs v h
  unfold puC1_0 at h
  split at h
  · rename_i a b hg
    cases h
    have hg := Nat.eq_of_beq_eq_true hg
    subst hg
    exact .inl fun n0 => (cmp2 a b).anyO rfl rfl n0
  · cases h
noncomputable def puC1 : Pure := (orP puC1_0 (extPure Tryz.exts))
theorem puC1_ok : PureOK Tryz.prog puC1 := (orP_ok puC1_0_ok Tryz.hE)
theorem cmp3 (a b : ByteArray) : Ctr Tryz.prog 101 [.str a, .str b] [] [] 0 0 (.int .i64 (cmpB a b)) [] := by
  refine Ctr.introR (T := Tryz.T) Tryz.hT Tryz.hM puC1_ok Tryz.func101 rfl (by kernel_rfl) rfl rfl rfl rfl ?_
  conv => whnf
  exact Fin.same rfl rfl (by simp)
noncomputable def puC2_0 : Pure := fun g vs => match Nat.beq g 101, vs with
  | true, [.str a, .str b] => some (.int .i64 (cmpB a b))
  | _, _ => none
theorem puC2_0_ok : PureOK Tryz.prog puC2_0 := by
  intro g vs v h
  unfold puC2_0 at h
  split at h
  · rename_i a b hg
    cases h
    have hg := Nat.eq_of_beq_eq_true hg
    subst hg
    exact .inl fun n0 => (cmp3 a b).anyO rfl rfl n0
  · cases h
noncomputable def puC2 : Pure := (orP puC2_0 puC1)
theorem puC2_ok : PureOK Tryz.prog puC2 := (orP_ok puC2_0_ok puC1_ok)
theorem atf (k v key : ByteArray) : Ctr Tryz.prog 121 [.agg [.str k, .str v], .str key] [] [] 0 0 (.int .i64 (cmpB k key)) [] := by
  refine Ctr.shut (m := 0) (k := 1) ?_ rfl rfl
  refine Ctr.introR (T := Tryz.T) Tryz.hT Tryz.hM puC2_ok Tryz.func121 rfl (by kernel_rfl) rfl rfl rfl rfl ?_
  conv => whnf
  exact .mk' [0] rfl rfl rfl rfl rfl rfl trivial
noncomputable def puC_0 : Pure := fun g vs => match Nat.beq g 121, vs with
  | true, [.agg [.str k, .str _v], .str key] => some (.int .i64 (cmpB k key))
  | _, _ => none
theorem puC_0_ok : PureOK Tryz.prog puC_0 := by
  intro g vs v h
  unfold puC_0 at h
  split at h
  · rename_i k _v key hg
    cases h
    have hg := Nat.eq_of_beq_eq_true hg
    subst hg
    exact .inl fun n0 => (atf k _v key).anyO rfl rfl n0
  · cases h
noncomputable def puC : Pure := (orP puC_0 puC2)
theorem puC_ok : PureOK Tryz.prog puC := (orP_ok puC_0_ok puC2_ok)
def cellsP : List KV → List AV
  | [] => []
  | p :: l => .str p.1 :: .str p.2 :: cellsP l
theorem cellsP_bare : ∀ L, (cellsP L).all bareA = true
  | [] => rfl
  | p :: l => by simp [cellsP, bareA, cellsP_bare l]
theorem cellsP_len : ∀ L, (cellsP L).length = L.length * 2
  | [] => rfl
  | p :: l => by simp [cellsP, cellsP_len l]; omega
theorem mid_wrap {i j : Nat} (h : i + j < 4611686018427387904) : IntKind.i64.wrap (shrI IntKind.u64 (IntKind.u64.wrap (IntKind.i64.wrap ((i : Int) + (j : Int)))) 1) = (((i + j) / 2 : Nat) : Int) := by
  have e1 : IntKind.i64.wrap ((i : Int) + (j : Int)) = ((i + j : Nat) : Int) := by rw [wrap_small] <;> omega
  rw [e1]
  have e2 : IntKind.u64.wrap ((i + j : Nat) : Int) = ((i + j : Nat) : Int) := by
    unfold IntKind.wrap
    have : ((i + j : Nat) : Int) % 2 ^ 64 = ((i + j : Nat) : Int) := Int.emod_eq_of_lt (by omega) (by omega)
    simp only [show IntKind.u64.signed = false from rfl, show IntKind.u64.bits = 64 from rfl, this]
    simp
  have e3 : shrI .u64 ((i + j : Nat) : Int) 1 = (((i + j) / 2 : Nat) : Int) := (Int.ofNat_fdiv (i + j) 2).symm
  rw [e2, e3, wrap_small] <;> omega
theorem cellsP_get {L : List KV} {m : Nat} (h : m < L.length) : (cellsP L)[m * 2]? = some (.str L[m].1) ∧ (cellsP L)[m * 2 + 1]? = some (.str L[m].2) := by
  induction L generalizing m with
  | nil => simp at h
  | cons p l ih =>
    cases m with
    | zero => simp [cellsP]
    | succ m =>
      have := ih (m := m) (by simpa using h)
      simp only [cellsP, show (m + 1) * 2 = m * 2 + 1 + 1 by omega, List.getElem?_cons_succ, List.getElem_cons_succ]
      exact this
theorem readP {L : List KV} {X : List AV} {m : Nat} (h : m < L.length) : readA true 2 (cellsP L ++ X) (m * 2 + 0) = some (.agg [.str L[m].1, .str L[m].2]) := by
  obtain ⟨h1, h2⟩ := cellsP_get h
  have hl : (cellsP L).length = L.length * 2 := cellsP_len L
  unfold readA
  have e : Nat.ble (m * 2 + 0 + 2) (lenR (cellsP L ++ X)) = true := Nat.ble_eq_true_of_le (by rw [lenR_eq, List.length_append]; omega)
  simp only [e, takeR_eq, dropR_eq]
  congr 2
  apply List.ext_getElem?
  intro k
  rw [List.getElem?_take]
  match k with
  | 0 => simp only [List.getElem?_drop, Nat.add_zero, Nat.zero_lt_succ, if_true]; rw [List.getElem?_append_left (by omega), h1]; rfl
  | 1 => simp only [List.getElem?_drop, Nat.add_zero, Nat.lt_add_one, if_true]; rw [List.getElem?_append_left (by omega), h2]; rfl
  | k + 2 => rw [if_neg (by omega)]; rfl
theorem readP1 {L : List KV} {X : List AV} {m o : Nat} (h : m < L.length) (ho : o < 2) : readA false 1 (cellsP L ++ X) (m * 2 + o) = some (.str (match o with | 0 => L[m].1 | _ => L[m].2)) := by
  obtain ⟨h1, h2⟩ := cellsP_get h
  have hl : (cellsP L).length = L.length * 2 := cellsP_len L
  unfold readA
  simp only [nth_eq, Nat.beq_refl]
  rw [List.getElem?_append_left (by omega)]
  match o, ho with
  | 0, _ => exact h1
  | 1, _ => exact h2
theorem splice_set {L : List KV} {X : List AV} {m : Nat} {k v : ByteArray} (h : m < L.length) : splice (cellsP L ++ X) (m * 2 + 0) [.str k, .str v] = cellsP (L.set m (k, v)) ++ X := by
  rw [splice_def]
  induction L generalizing m with
  | nil => simp at h
  | cons p l ih =>
    cases m with
    | zero => simp [cellsP]
    | succ m =>
      have := ih (m := m) (by simpa using h)
      simp only [Nat.add_zero, List.length_cons, List.length_nil] at this ⊢
      rw [show (m + 1) * 2 = m * 2 + 1 + 1 by omega, show m * 2 + 1 + 1 + (0 + 1 + 1) = m * 2 + (0 + 1 + 1) + 1 + 1 by omega]
      simp only [cellsP, List.cons_append, List.take_succ_cons, List.drop_succ_cons, List.set_cons_succ]
      rw [← this]; simp
theorem cellsP_app (L M : List KV) : cellsP (L ++ M) = cellsP L ++ cellsP M := by
  induction L with
  | nil => rfl
  | cons p l ih => simp [cellsP, ih]
theorem cellsP_take (L : List KV) (m : Nat) : (cellsP L).take (m * 2) = cellsP (L.take m) := by
  induction L generalizing m with
  | nil => simp [cellsP]
  | cons p l ih =>
    cases m with
    | zero => simp [cellsP]
    | succ m => simp [show (m + 1) * 2 = m * 2 + 1 + 1 by omega, cellsP, ih]
theorem cellsP_drop (L : List KV) (m : Nat) : (cellsP L).drop (m * 2) = cellsP (L.drop m) := by
  induction L generalizing m with
  | nil => simp [cellsP]
  | cons p l ih =>
    cases m with
    | zero => simp [cellsP]
    | succ m => simp [show (m + 1) * 2 = m * 2 + 1 + 1 by omega, cellsP, ih]
theorem cellsP_ins {L : List KV} {key v : ByteArray} (h : hasL L key = false) : (cellsP L).take (posL L key * 2) ++ [.str key, .str v] ++ (cellsP L).drop (posL L key * 2) = cellsP (setL L key v) := by
  rw [setL_new h, cellsP_app, cellsP_take, cellsP_drop, cellsP, List.append_assoc]; rfl
theorem bsf {L : List KV} (hs : Srt L) {X : List AV} (hX : X.all bareA = true) (key : ByteArray) (hr : L.length * 2 ≤ room) : Ctr Tryz.prog 99 [.sv 0 2 0 L.length none, .str key, .fn (.func 121) [] []] [] [(0, .row 26 2 (cellsP L ++ X) none)] 1 1
    (.tup [.int .i64 (posL L key), .bool (hasL L key)]) [(0, .row 26 2 (cellsP L ++ X) none)] := by
  refine Ctr.introR (T := Tryz.T) Tryz.hT Tryz.hM puC_ok Tryz.func99 rfl (by kernel_rfl) rfl rfl ?_ rfl ?_
  · simp [okH_all, okR, bare_ok (bare_app (cellsP_bare L) hX)]
  have hH : okH 1 [(0, Res.row 26 2 (cellsP L ++ X) none)] = true := by simp [okH_all, okR, bare_ok (bare_app (cellsP_bare L) hX)]
  conv => whnf
  refine loopR Tryz.hT Tryz.hM puC_ok (α := {p : Nat × Nat // p.1 ≤ posL L key ∧ posL L key ≤ p.2 ∧ p.2 ≤ L.length})
    (fun p => ([(0, .sv 0 2 0 L.length none), (1, .str key), (2, .fn (.func 121) [] []), (8, .int .i64 ((L.length : Nat) : Int)), (9, .int .i64 ((p.1.1 : Nat) : Int)), (10, .int .i64 ((p.1.2 : Nat) : Int))], [(0, .row 26 2 (cellsP L ++ X) none)]))
    (fun p => p.1.2 - p.1.1) 1 ⟨(0, L.length), Nat.zero_le _, posL_le L key, Nat.le_refl _⟩ [] ?_ ?_
  · refine ⟨⟨rfl, rfl, rfl, rfl, rfl, rfl, trivial⟩, ⟨?_, trivial⟩, ?_, rfl⟩
    · simp [renR, bare_ren (bare_app (cellsP_bare L) hX)]; rfl
    · simp [okFr, okH_all, okR, bare_ok (bare_app (cellsP_bare L) hX), okA_sv, okA_str, okA_fn, okA_int, okL_nil, nodupB]
  · rintro ⟨⟨i, j⟩, h1, h2, h3⟩
    dsimp only at h1 h2 h3 ⊢
    conv => whnf
    refine bcase_intro (fun h => ?_) (fun h => ?_)
    · have h : i < j := by simpa using h
      have hm := mid_wrap (i := i) (j := j) (by unfold room at hr; omega)
      conv => whnf
      simp only [hm, Int.toNat_natCast, Nat.zero_add]
      generalize hmm : (i + j) / 2 = m at *
      have hml : m < L.length := by omega
      refine ⟨by omega, ?_⟩
      conv => whnf
      rw [readP hml]
      conv => whnf
      have hk := posL_lt hs (key := key) hml
      refine bcase_intro (fun h4 => ?_) (fun h4 => ?_)
      · have h4 : m < posL L key := hk.1 (by simpa using h4)
        conv => whnf
        have hw : IntKind.i64.wrap ((m : Int) + 1) = ((m + 1 : Nat) : Int) := by rw [wrap_small] <;> (unfold room at hr; omega)
        simp only [hw]
        refine ⟨⟨(m + 1, j), by omega, h2, h3⟩, [], by dsimp only; omega, ⟨⟨rfl, rfl, rfl, rfl, rfl, rfl, trivial⟩, ⟨?_, trivial⟩, ?_, rfl⟩⟩
        · simp [renR, bare_ren (bare_app (cellsP_bare L) hX)]; rfl
        · simp [okFr, okH_all, okR, bare_ok (bare_app (cellsP_bare L) hX), okA_sv, okA_str, okA_fn, okA_int, okL_nil, nodupB]
      · have h4 : ¬ m < posL L key := fun e => by have := hk.2 e; simp at h4; omega
        conv => whnf
        refine ⟨⟨(i, m), h1, by omega, by omega⟩, [], by dsimp only; omega, ⟨⟨rfl, rfl, rfl, rfl, rfl, rfl, trivial⟩, ⟨?_, trivial⟩, ?_, rfl⟩⟩
        · simp [renR, bare_ren (bare_app (cellsP_bare L) hX)]; rfl
        · simp [okFr, okH_all, okR, bare_ok (bare_app (cellsP_bare L) hX), okA_sv, okA_str, okA_fn, okA_int, okL_nil, nodupB]
    · have h : i = posL L key := by simp at h; omega
      subst h
      conv => whnf
      refine bcase_intro (fun h => ?_) (fun h => ?_)
      · have h : posL L key < L.length := by simpa using h
        conv => whnf
        simp only [Int.toNat_natCast, Nat.zero_add]
        refine ⟨by omega, ?_⟩
        conv => whnf
        rw [readP h]
        conv => whnf
        rw [hasL_at h]
        exact Fin.same hH rfl (by simp [lookC])
      · conv => whnf
        have h : ¬ posL L key < L.length := by simpa using h
        rw [hasL_out (by omega)]
        exact Fin.same hH rfl (by simp [lookC])
theorem bsfN (key : ByteArray) : Ctr Tryz.prog 99 [.nils, .str key, .fn (.func 121) [] []] [] [] 0 0 (.tup [.int .i64 0, .bool false]) [] := by
  refine Ctr.introR (T := Tryz.T) Tryz.hT Tryz.hM puC_ok Tryz.func99 rfl (by kernel_rfl) rfl rfl rfl rfl ?_
  conv => whnf
  refine unrollR Tryz.hT Tryz.hM puC_ok 1 ?_
  conv => whnf
  exact Fin.same rfl rfl (by simp)
/-- A store's heap: at handle i the store, at i + 1 its row. -/
noncomputable def stH (i : Nat) (L : List KV) (X : List AV) : Heap := [(i, .box 139 [.sv (i + 1) 2 0 L.length none]), (i + 1, .row 26 2 (cellsP L ++ X) none)]
noncomputable def stN (i : Nat) : Heap := [(i, .box 139 [.nils])]
theorem stH_ok {L : List KV} {X : List AV} (hX : X.all bareA = true) (i n : Nat) (h : i + 1 < n) : okH n (stH i L X) = true := by
  have h0 : i < n := by omega
  simp [stH, okH_all, okR, bare_ok (bare_app (cellsP_bare L) hX), okL_cons, okL_nil, okA_sv, h, h0]
theorem cellsX_ren {L : List KV} {X : List AV} (hX : X.all bareA = true) (π : Nat → Nat) : renL π (cellsP L ++ X) = cellsP L ++ X := bare_ren (bare_app (cellsP_bare L) hX)
theorem row_ren {L : List KV} {X : List AV} {t : Nat} {c : Option Nat} (hX : X.all bareA = true) (π : Nat → Nat) : renR π (.row t 2 (cellsP L ++ X) c) = .row t 2 (cellsP L ++ X) c := by simp [renR, cellsX_ren hX]
theorem row_ren' {L : List KV} {X : List AV} {t : Nat} {c : Option Nat} {H : Heap} {k : Nat} (hX : X.all bareA = true) (π : Nat → Nat) (h : SX.look H (π k) = some (.row t 2 (cellsP L ++ X) c)) : SX.look H (π k) = some (renR π (.row t 2 (cellsP L ++ X) c)) := by rw [row_ren hX]; exact h
theorem stH_ren {L : List KV} {X : List AV} {π : Nat → Nat} {i j : Nat} (hX : X.all bareA = true) (h0 : π i = j) (h1 : π (i + 1) = j + 1) : renH π (stH i L X) = stH j L X := by simp [renH, renR, cellsX_ren hX, stH, h0, h1, renL, renA]
theorem atS {L : List KV} (hs : Srt L) {X : List AV} (hX : X.all bareA = true) (key : ByteArray) (hr : L.length * 2 ≤ room) : Ctr Tryz.prog 82 [.ptr 0 0, .str key] [] (stH 0 L X) 2 2
    (.tup [.int .i64 (posL L key), .bool (hasL L key)]) (stH 0 L X) := by
  refine Ctr.introR (T := Tryz.T) Tryz.hT Tryz.hM puC_ok Tryz.func82 rfl (by kernel_rfl) rfl rfl ?_ rfl ?_
  · rw [List.append_nil]; exact stH_ok hX 0 2 (by omega)
  conv => whnf
  refine callR [1] (bsf hs hX key hr) (post' := [(1, .row 26 2 (cellsP L ++ X) none)]) ?_ rfl rfl rfl trivial ⟨?_, trivial⟩ ?_
  · simp [renH, renR, cellsX_ren hX]; rfl
  · simp [renR, cellsX_ren hX]; rfl
  conv => whnf
  exact Fin.same (stH_ok hX 0 2 (by omega)) rfl (by simp [lookC, stH])
theorem atN (key : ByteArray) : Ctr Tryz.prog 82 [.ptr 0 0, .str key] [] (stN 0) 1 1 (.tup [.int .i64 0, .bool false]) (stN 0) := by
  refine Ctr.introR (T := Tryz.T) Tryz.hT Tryz.hM puC_ok Tryz.func82 rfl (by kernel_rfl) rfl rfl rfl rfl ?_
  conv => whnf
  refine callR [] (bsfN key) rfl rfl rfl rfl trivial trivial ?_
  conv => whnf
  exact Fin.same rfl rfl (by simp [lookC, stN, renH])
theorem getS {L : List KV} (hs : Srt L) {X : List AV} (hX : X.all bareA = true) (key : ByteArray) (hr : L.length * 2 ≤ room) : Ctr Tryz.prog 81 [.ptr 0 0, .str key] [] (stH 0 L X) 2 2
    (.tup [.str (getL L key), .bool (hasL L key)]) (stH 0 L X) := by
  refine Ctr.introR (T := Tryz.T) Tryz.hT Tryz.hM puC_ok Tryz.func81 rfl (by kernel_rfl) rfl rfl ?_ rfl ?_
  · rw [List.append_nil]; exact stH_ok hX 0 2 (by omega)
  conv => whnf
  refine callR [0, 1] (atS hs hX key hr) (post' := stH 0 L X) (stH_ren hX rfl rfl) rfl rfl rfl trivial ⟨rfl, row_ren' hX _ rfl, trivial⟩ ?_
  conv => whnf
  refine bcase_intro (fun h => ?_) (fun h => ?_)
  · have h : hasL L key = false := by simpa using h
    conv => whnf
    rw [getL_no h, h]
    exact Fin.same (stH_ok hX 0 2 (by omega)) rfl (by simp [lookC, stH])
  · have h : hasL L key = true := by simpa using h
    obtain ⟨hp, he⟩ := hasL_lt h
    conv => whnf
    simp only [Int.toNat_natCast, Nat.zero_add]
    refine ⟨by omega, ?_⟩
    conv => whnf
    rw [readP1 hp (by decide)]
    conv => whnf
    rw [getL_yes h hp, h]
    exact Fin.same (stH_ok hX 0 2 (by omega)) rfl (by simp [lookC, stH])
theorem getN (key : ByteArray) : Ctr Tryz.prog 81 [.ptr 0 0, .str key] [] (stN 0) 1 1 (.tup [.str ⟨#[]⟩, .bool false]) (stN 0) := by
  refine Ctr.introR (T := Tryz.T) Tryz.hT Tryz.hM puC_ok Tryz.func81 rfl (by kernel_rfl) rfl rfl rfl rfl ?_
  conv => whnf
  refine callR [0] (atN key) rfl rfl rfl rfl trivial ⟨rfl, trivial⟩ ?_
  conv => whnf
  exact Fin.same rfl rfl (by simp [lookC, stN, renH, renR, renL, renA, sg, nth])
/-- Set, at a key that is there. -/
theorem setS1 {L : List KV} (hs : Srt L) {X : List AV} (hX : X.all bareA = true) (key v : ByteArray) (hr : L.length * 2 ≤ room) (hh : hasL L key = true) : Ctr Tryz.prog 50 [.ptr 0 0, .str key, .str v] [] (stH 0 L X) 2 2
    (.bool false) (stH 0 (setL L key v) X) := by
  have hlen : (setL L key v).length = L.length := by rw [setL_length, if_pos hh]
  refine Ctr.introR (T := Tryz.T) Tryz.hT Tryz.hM puC_ok Tryz.func50 rfl (by kernel_rfl) rfl rfl ?_ rfl ?_
  · rw [List.append_nil]; exact stH_ok hX 0 2 (by omega)
  conv => whnf
  refine callR [0, 1] (atS hs hX key hr) (post' := stH 0 L X) (stH_ren hX rfl rfl) rfl rfl rfl trivial ⟨rfl, row_ren' hX _ rfl, trivial⟩ ?_
  conv => whnf
  rw [hh]
  conv => whnf
  obtain ⟨hp, he⟩ := hasL_lt hh
  simp only [Int.toNat_natCast, Nat.zero_add]
  refine ⟨by omega, ?_⟩
  conv => whnf
  have hle : (posL L key * 2 + 0 + 2).ble (cellsP L ++ X).length = true := Nat.ble_eq_true_of_le (by rw [List.length_append, cellsP_len]; omega)
  rw [hle]
  conv => whnf
  rw [spine_rec, show cellsOf (AV.agg [AV.str key, AV.str v]) = [AV.str key, AV.str v] from rfl, splice_set hp, ← setL_has hh]
  conv => whnf
  exact Fin.same (stH_ok hX 0 2 (by omega)) rfl (by simp [lookC, stH, hlen])
/-- Set, at a key that is not there. -/
theorem setS2 {L : List KV} (hs : Srt L) (key v : ByteArray) (hr : (L.length + 1) * 2 ≤ room) (hh : hasL L key = false) : Ctr Tryz.prog 50 [.ptr 0 0, .str key, .str v] [] (stH 0 L []) 2 3
    (.bool true) [(0, .box 139 [.sv 2 2 0 (L.length + 1) none]), (1, .gone), (2, .row 26 2 (cellsP (setL L key v)) none)] := by
  have hlen : (setL L key v).length = L.length + 1 := by rw [setL_length, hh]; simp
  refine Ctr.introR (T := Tryz.T) Tryz.hT Tryz.hM puC_ok Tryz.func50 rfl (by kernel_rfl) rfl rfl ?_ rfl ?_
  · rw [List.append_nil]; exact stH_ok rfl 0 2 (by omega)
  conv => whnf
  refine callR [0, 1] (atS hs rfl key (by omega)) (post' := stH 0 L []) (stH_ren rfl rfl rfl) rfl rfl rfl trivial ⟨rfl, row_ren' rfl _ rfl, trivial⟩ ?_
  conv => whnf
  rw [hh]
  conv => whnf
  have hi := posL_le L key
  refine callR [1, 3] (ins (cs := cellsP L) (L := L.length) (i := posL L key) (k := key) (v := v) (e := 26) (cellsP_bare L) (cellsP_len L) hi hr) (post' := [(1, .gone), (4, .row 26 2 (cellsP (setL L key v)) none), (3, .row 26 2 [.str key, .str v] (some 1))]) ?_ rfl rfl rfl trivial ⟨?_, rfl, trivial⟩ ?_
  · rw [cellsP_ins hh]
    simp only [renH, renR, bare_ren (cellsP_bare _)]; rfl
  · simp only [renR, bare_ren (cellsP_bare _)]
    show some (Res.row _ _ (cellsP L ++ []) none) = _
    rw [List.append_nil]
  conv => whnf
  generalize hrc : raceB _ _ = rb
  obtain rfl : rb = true := hrc.symm.trans (by kernel_rfl)
  conv => whnf
  refine .mk' [4] rfl rfl rfl ?_ rfl rfl ⟨rfl, rfl, ?_, trivial⟩
  · simp [okH_all, okR, bare_ok (cellsP_bare _), okL_cons, okL_nil, okA_sv]
  · simp only [renR, bare_ren (cellsP_bare _)]; rfl
theorem insN (e : Nat) (k v : ByteArray) : Ctr Tryz.prog 83 [.nils, .int .i64 0, .sv 0 2 0 1 (some 1)] [] [(0, .row e 2 [.str k, .str v] (some 1))] 1 2 (.sv 1 2 0 1 none) [(0, .row e 2 [.str k, .str v] (some 1)), (1, .row 26 2 [.str k, .str v] none)] := by
  refine Ctr.introR (T := Tryz.T) Tryz.hT Tryz.hM Tryz.hE Tryz.func83 rfl (by kernel_rfl) rfl rfl rfl rfl ?_
  conv => whnf
  refine ⟨by decide, ?_⟩
  conv => whnf
  refine ⟨by decide, ?_⟩
  conv => whnf
  exact .mk' [1] rfl rfl rfl rfl rfl rfl ⟨rfl, rfl, trivial⟩
theorem setN (key v : ByteArray) : Ctr Tryz.prog 50 [.ptr 0 0, .str key, .str v] [] (stN 0) 1 2
    (.bool true) (stH 0 [(key, v)] []) := by
  refine Ctr.introR (T := Tryz.T) Tryz.hT Tryz.hM puC_ok Tryz.func50 rfl (by kernel_rfl) rfl rfl rfl rfl ?_
  conv => whnf
  refine callR [0] (atN key) rfl rfl rfl rfl trivial ⟨rfl, trivial⟩ ?_
  conv => whnf
  refine callR [2] (insN 26 key v) rfl rfl rfl rfl trivial ⟨rfl, trivial⟩ ?_
  conv => whnf
  generalize hrc : raceB _ _ = rb
  obtain rfl : rb = true := hrc.symm.trans (by kernel_rfl)
  conv => whnf
  exact .mk' [3] rfl rfl rfl rfl rfl rfl ⟨rfl, rfl, trivial⟩
theorem hpf (a b : ByteArray) : Ctr Tryz.prog 153 [.str a, .str b] [] [] 0 0 (.bool (decide (b.size ≤ a.size) && eqB (subB a 0 b.size) b)) [] := by
  refine Ctr.introR (T := Tryz.T) Tryz.hT Tryz.hM puC_ok Tryz.func153 rfl (by kernel_rfl) rfl rfl rfl rfl ?_
  conv => whnf
  refine bcase_intro (fun h => ?_) (fun h => ?_)
  · have h : b.size ≤ a.size := by simpa using h
    conv => whnf
    simp only [Int.toNat_natCast]
    refine ⟨by omega, ?_⟩
    conv => whnf
    simp only [Int.toNat_natCast]
    rw [show (decide (b.size ≤ a.size) && eqB (subB a 0 b.size) b) = eqB (subB a 0 b.size) b by simp [h]]
    exact Fin.same rfl rfl (by simp)
  · have h : ¬ b.size ≤ a.size := by simpa using h
    conv => whnf
    rw [show (decide (b.size ≤ a.size) && eqB (subB a 0 b.size) b) = false by simp [h]]
    exact Fin.same rfl rfl (by simp)
end Go.Proofs.YtglkoaajgekonaaGreatDoor
