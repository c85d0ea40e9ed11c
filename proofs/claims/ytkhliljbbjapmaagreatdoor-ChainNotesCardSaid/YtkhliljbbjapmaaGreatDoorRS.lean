/- The document's store: at, Get, Set, Same over rows of pairs. -/
import Derived.Test.YtkhliljbbjapmaaGreatDoorLS
namespace Go.Proofs.YtkhliljbbjapmaaGreatDoor
open Go.SX
noncomputable def rowP (L : List KV) : Res := .row 99 2 (cellsP L) none
theorem rowP_ren (L : List KV) (π : Nat → Nat) : renR π (rowP L) = rowP L := by simp only [rowP, renR, bare_ren (cellsP_bare L)]
theorem rowP_ok (L : List KV) (n : Nat) : okR n (rowP L) = true := bare_ok (cellsP_bare L)
theorem rowP_at {L : List KV} {H : Heap} {k : Nat} (π : Nat → Nat) (h : SX.look H (π k) = some (rowP L)) : SX.look H (π k) = some (renR π (rowP L)) := by rw [rowP_ren]; exact h
theorem readK {L : List KV} {m : Nat} (h : m < L.length) : readA false 1 (cellsP L) (m * 2 + 0) = some (.str L[m].1) := by have := readP1 (X := []) h (o := 0) (by decide); rwa [List.append_nil] at this
theorem readV {L : List KV} {m : Nat} (h : m < L.length) : readA false 1 (cellsP L) (m * 2 + 1) = some (.str L[m].2) := by have := readP1 (X := []) h (o := 1) (by decide); rwa [List.append_nil] at this
theorem posL_step {L : List KV} {key : ByteArray} {i : Nat} (hp : i ≤ posL L key) (hi : i < L.length) : slt L[i].1 key = decide (i < posL L key) := by
  rw [slt_cmp]
  induction L generalizing i with
  | nil => simp at hi
  | cons p l ih =>
    unfold posL at hp ⊢
    cases i with
    | zero => by_cases h : cmpB p.1 key < 0 <;> simp [h]
    | succ i =>
      by_cases h : cmpB p.1 key < 0
      · rw [if_pos h] at hp ⊢
        have := ih (i := i) (by omega) (by simpa using hi)
        simp only [List.getElem_cons_succ, this]
        simp
      · rw [if_neg h] at hp; omega
theorem atR {L : List KV} (hr : L.length * 2 ≤ room) (key : ByteArray) : Ctr Tryz.prog 136 [.sv 0 2 0 L.length none, .str key] [] [(0, rowP L)] 1 1 (.int .i64 (posL L key)) [(0, rowP L)] := by
  refine Ctr.introR (T := Tryz.T) Tryz.hT Tryz.hM puC_ok Tryz.func136 rfl (by kernel_rfl) rfl rfl ?_ rfl ?_
  · simp [okH_all, rowP_ok]
  conv => whnf
  refine loopR Tryz.hT Tryz.hM puC_ok (α := {i : Nat // i ≤ posL L key})
    (fun i => ([(0, .sv 0 2 0 L.length none), (1, .str key), (5, .int .i64 ((i.1 : Nat) : Int))], [(0, rowP L)])) (fun i => posL L key - i.1) 1 ⟨0, Nat.zero_le _⟩ [] ?_ ?_
  · refine ⟨⟨rfl, rfl, rfl, trivial⟩, ⟨rowP_at _ rfl, trivial⟩, ?_, rfl⟩
    simp [okFr, okH_all, rowP_ok, okA_sv, okA_str, okA_int, nodupB]
  · rintro ⟨i, hi⟩
    dsimp only at hi ⊢
    conv => whnf
    have hle := posL_le L key
    by_cases h : i < L.length
    · rw [show decide (((i : Nat) : Int) < ((L.length : Nat) : Int)) = true by simpa using h]
      conv => whnf
      simp only [Int.toNat_natCast, Nat.zero_add]
      refine ⟨by omega, ?_⟩
      conv => whnf
      rw [readK h]
      conv => whnf
      rw [posL_step hi h]
      refine bcase_intro (fun h2 => ?_) (fun h2 => ?_)
      · have h2 : i < posL L key := by simpa using h2
        conv => whnf
        have hw : IntKind.i64.wrap ((i : Int) + 1) = ((i + 1 : Nat) : Int) := by rw [wrap_small] <;> (unfold room at hr; omega)
        refine ⟨⟨i + 1, h2⟩, [], by dsimp only; omega, ⟨⟨rfl, rfl, ?_, trivial⟩, ⟨rowP_at _ rfl, trivial⟩, ?_, rfl⟩⟩
        · show some (AV.int _ (IntKind.i64.wrap ((i : Int) + 1))) = _
          rw [hw]; rfl
        · simp [okFr, okH_all, rowP_ok, okA_sv, okA_str, okA_int, nodupB]
      · have h2 : i = posL L key := by simp at h2; omega
        subst h2
        conv => whnf
        exact Fin.same (by simp [okH_all, rowP_ok]) rfl (by simp [lookC])
    · rw [show decide (((i : Nat) : Int) < ((L.length : Nat) : Int)) = false by simpa using h]
      have h2 : i = posL L key := by omega
      subst h2
      conv => whnf
      exact Fin.same (by simp [okH_all, rowP_ok]) rfl (by simp [lookC])
theorem getR {L : List KV} (hr : L.length * 2 ≤ room) (key : ByteArray) : Ctr Tryz.prog 130 [.sv 0 2 0 L.length none, .str key] [] [(0, rowP L)] 1 1 (.tup [.str (getL L key), .bool (hasL L key)]) [(0, rowP L)] := by
  refine Ctr.introR (T := Tryz.T) Tryz.hT Tryz.hM puC_ok Tryz.func130 rfl (by kernel_rfl) rfl rfl ?_ rfl ?_
  · simp [okH_all, rowP_ok]
  conv => whnf
  refine callR [0] (atR hr key) (post' := [(0, rowP L)]) (by simp only [renH, rowP_ren]; rfl) rfl rfl rfl trivial ⟨rowP_at _ rfl, trivial⟩ ?_
  conv => whnf
  have hno : hasL L key = false → (AV.tup [.str (getL L key), .bool (hasL L key)]) = .tup [.str ⟨#[]⟩, .bool false] := fun h => by rw [getL_no h, h]
  by_cases h : posL L key < L.length
  · rw [show decide (((posL L key : Nat) : Int) < ((L.length : Nat) : Int)) = true by simpa using h]
    conv => whnf
    simp only [Int.toNat_natCast, Nat.zero_add]
    refine ⟨by omega, ?_⟩
    conv => whnf
    rw [readK h]
    conv => whnf
    have he : eqB L[posL L key].1 key = hasL L key := by rw [hasL_at h, eqB_cmp]
    rw [he]
    refine bcase_intro (fun h2 => ?_) (fun h2 => ?_)
    · conv => whnf
      simp only [Int.toNat_natCast, Nat.zero_add]
      refine ⟨by omega, ?_⟩
      conv => whnf
      rw [readV h]
      conv => whnf
      rw [getL_yes h2 h, h2]
      exact Fin.same (by simp [okH_all, rowP_ok]) rfl (by simp [lookC])
    · conv => whnf
      rw [hno h2]
      exact Fin.same (by simp [okH_all, rowP_ok]) rfl (by simp [lookC])
  · rw [show decide (((posL L key : Nat) : Int) < ((L.length : Nat) : Int)) = false by simpa using h]
    conv => whnf
    rw [hno (hasL_out (by omega))]
    exact Fin.same (by simp [okH_all, rowP_ok]) rfl (by simp [lookC])
theorem restL {L : List KV} {j : Nat} (h : j ≤ L.length) : ((cellsP L).drop (j * 2)).take ((L.length - j) * 2) = cellsP (L.drop j) := by
  rw [cellsP_drop, List.take_of_length_le]
  rw [cellsP_len, List.length_drop]; exact Nat.le_refl _
theorem set_cells {L : List KV} {key v : ByteArray} {j : Nat} (hj : (hasL L key = false ∧ j = posL L key) ∨ (hasL L key = true ∧ j = posL L key + 1)) :
    cellsP (L.take (posL L key)) ++ [.str key, .str v] ++ cellsP (L.drop j) = cellsP (setL L key v) ∧ posL L key + 1 + (L.length - j) = (setL L key v).length ∧ j ≤ L.length ∧ posL L key ≤ j := by
  have hle := posL_le L key
  rcases hj with ⟨h, rfl⟩ | ⟨h, rfl⟩
  · rw [setL_new h, cellsP_app, cellsP, List.append_assoc]
    refine ⟨rfl, ?_, hle, Nat.le_refl _⟩
    simp; omega
  · obtain ⟨hp, _⟩ := hasL_lt h
    rw [setL_has h, List.set_eq_take_append_cons_drop, if_pos hp, cellsP_app, cellsP, List.append_assoc]
    refine ⟨rfl, ?_, hp, by omega⟩
    simp; omega
theorem rowC_at {cs : List AV} {t : Nat} {c : Option Nat} {H : Heap} {k : Nat} (hb : cs.all bareA = true) (π : Nat → Nat) (h : SX.look H (π k) = some (.row t 2 cs c)) : SX.look H (π k) = some (renR π (.row t 2 cs c)) := by simp only [renR, bare_ren hb]; exact h
theorem beq_pos {n : Nat} (h : 0 < n) : Nat.beq n 0 = false := by
  cases n with
  | zero => omega
  | succ k => rfl
theorem ble_no {a b : Nat} (h : b < a) : Nat.ble a b = false := by
  cases hb : Nat.ble a b with
  | false => rfl
  | true => have := Nat.le_of_ble_eq_true hb; omega
theorem ble_pos {n : Nat} (h : 0 < n) : Nat.ble n 0 = false := by
  cases n with
  | zero => omega
  | succ k => rfl
theorem setR {L : List KV} (hr : (L.length + 1) * 2 ≤ room) (key v : ByteArray) : Ctr Tryz.prog 116 [.sv 0 2 0 L.length none, .str key, .str v] [] [(0, rowP L)] 1 2 (.tup [.sv 1 2 0 (setL L key v).length none, .bool (!hasL L key)]) [(0, rowP L), (1, rowP (setL L key v))] := by
  refine Ctr.introR (T := Tryz.T) Tryz.hT Tryz.hM puC_ok Tryz.func116 rfl (by kernel_rfl) rfl rfl ?_ rfl ?_
  · simp [okH_all, rowP_ok]
  conv => whnf
  have hle := posL_le L key
  have lf : ∀ M : List KV, (cellsP M).all leafA = true := fun M => bare_leaf (cellsP_bare M)
  refine callR [0] (atR (by omega) key) (post' := [(0, rowP L)]) (by simp only [renH, rowP_ren]; rfl) rfl rfl rfl trivial ⟨rowP_at _ rfl, trivial⟩ ?_
  conv => whnf
  rcases Nat.lt_or_ge (posL L key) L.length with hp | hp
  · rw [show decide (((posL L key : Nat) : Int) = ((L.length : Nat) : Int)) = false by simp; omega]
    conv => whnf
    simp only [Int.toNat_natCast, Nat.zero_add]
    refine ⟨by omega, ?_⟩
    conv => whnf
    rw [readK hp]
    conv => whnf
    have he : eqB L[posL L key].1 key = hasL L key := by rw [hasL_at hp, eqB_cmp]
    rw [he]
    generalize L[posL L key].1 = kk
    cases hh : hasL L key with
    | false =>
      conv => whnf
      refine ⟨by simp only [capE]; omega, ?_⟩
      conv => whnf
      refine ⟨by simp only [capE]; omega, ?_⟩
      conv => whnf
      simp only [Int.toNat_natCast, Nat.zero_add, Int.toNat_zero, Nat.sub_zero]
      obtain ⟨hc, hlen, hj1, hj2⟩ := set_cells (L := L) (key := key) (v := v) (j := posL L key) (.inl ⟨hh, rfl⟩)
      unfold rowP
      rw [readsA_row (by rw [cellsP_len, Nat.zero_mul, Nat.zero_add]; omega), Nat.zero_mul, List.drop_zero, cellsP_take]
      conv => whnf
      rw [lf]
      conv => whnf
      cases hz : posL L key with
      | zero =>
        rw [hz] at hc hlen hj1
        conv => whnf
        refine ⟨by decide, ?_⟩
        conv => whnf
        dsimp only
        rw [readsA_row (by rw [cellsP_len]; omega), restL (by omega)]
        conv => whnf
        rw [lf]
        conv => whnf
        rcases Nat.eq_zero_or_pos (L.length - 0) with hk | hk
        · have hd : L.drop 0 = [] := List.drop_eq_nil_of_le (by omega)
          rw [hd] at hc
          have hc : [AV.str key, AV.str v] = cellsP (setL L key v) := hc
          rw [hk] at hlen ⊢
          conv => whnf
          rw [← hc, ← hlen]
          refine .mk' [2] rfl rfl rfl ?_ rfl rfl ⟨rowP_at _ rfl, rfl, trivial⟩
          simp [okH_all, okR, bare_ok (cellsP_bare L), okL_cons, okL_nil, okA_str]
        · rw [beq_pos hk]
          conv => whnf
          rw [show Nat.ble ((0 + (0 + 1) + (L.length - 0)) * 2) [AV.str key, AV.str v].length = false from ble_no (by simp only [List.length_cons, List.length_nil]; omega)]
          conv => whnf
          refine ⟨by omega, ?_⟩
          rw [spine_eq]
          conv => whnf
          have hc : [AV.str key, AV.str v] ++ cellsP (L.drop 0) = cellsP (setL L key v) := hc
          rw [← hc, ← hlen]
          refine .mk' [3] rfl rfl rfl ?_ rfl rfl ⟨rowP_at _ rfl, rowC_at (by simp [cellsP_bare, bareA]) _ rfl, trivial⟩
          simp [okH_all, okR, bare_ok (cellsP_bare _), okL_cons, okL_nil, okA_str]
      | succ q =>
        rw [hz] at hc hlen hj1
        conv => whnf
        refine ⟨by omega, ?_⟩
        rw [spine_eq]
        conv => whnf
        have hq : (cellsP (L.take (q + 1))).length = (q + 1) * 2 := by rw [cellsP_len, List.length_take]; omega
        rw [show Nat.ble ((0 + (0 + (q + 1))) * 2) (([] : List AV) ++ cellsP (L.take (q + 1))).length = true from Nat.ble_eq_true_of_le (by rw [List.nil_append, hq]; omega)]
        conv => whnf
        rw [show Nat.ble ((0 + (0 + (q + 1)) + 1) * 2) (([] : List AV) ++ cellsP (L.take (q + 1))).length = false from ble_no (by rw [List.nil_append, hq]; omega)]
        conv => whnf
        refine ⟨by omega, ?_⟩
        rw [spine_eq]
        conv => whnf
        dsimp only
        rw [readsA_row (by rw [cellsP_len]; omega), restL (by omega)]
        conv => whnf
        rw [lf]
        conv => whnf
        rcases Nat.eq_zero_or_pos (L.length - (q + 1)) with hk | hk
        · have hd : L.drop (q + 1) = [] := List.drop_eq_nil_of_le (by omega)
          rw [hd] at hc
          rw [hk] at hlen ⊢
          conv => whnf
          have hm : List.take ((0 + (q + 1)) * 2) (List.drop (0 * 2) (([] : List AV) ++ cellsP (L.take (q + 1)))) ++ List.take (1 * 2) (List.drop (0 * 2) [AV.str key, AV.str v]) = cellsP (setL L key v) := by
            rw [← hc, Nat.zero_mul, List.drop_zero, List.nil_append, List.take_of_length_le (by rw [hq]; omega)]
            simp [cellsP]
          have hl2 : 0 + (q + 1) + 1 = (setL L key v).length := by omega
          rw [hm]
          refine .mk' [3] rfl rfl rfl ?_ rfl (by rw [hl2]; rfl) ⟨rowP_at _ rfl, rowP_at _ rfl, trivial⟩
          simp [okH_all, okR, bare_ok (cellsP_bare _)]
        · rw [beq_pos hk]
          conv => whnf
          have hm : List.take ((0 + (q + 1)) * 2) (List.drop (0 * 2) (([] : List AV) ++ cellsP (L.take (q + 1)))) ++ List.take (1 * 2) (List.drop (0 * 2) [AV.str key, AV.str v]) = cellsP (L.take (q + 1)) ++ [AV.str key, AV.str v] := by
            rw [Nat.zero_mul, List.drop_zero, List.nil_append, List.take_of_length_le (by rw [hq]; omega)]
            rfl
          rw [hm]
          have hml : (cellsP (L.take (q + 1)) ++ [AV.str key, AV.str v]).length = (q + 2) * 2 := by rw [List.length_append, hq]; simp; omega
          rw [show Nat.ble ((0 + (0 + (q + 1) + 1)) * 2) (cellsP (L.take (q + 1)) ++ [AV.str key, AV.str v]).length = true from Nat.ble_eq_true_of_le (by rw [hml]; omega)]
          conv => whnf
          rw [show Nat.ble ((0 + (0 + (q + 1) + 1) + (L.length - (q + 1))) * 2) (cellsP (L.take (q + 1)) ++ [AV.str key, AV.str v]).length = false from ble_no (by rw [hml]; omega)]
          conv => whnf
          refine ⟨by omega, ?_⟩
          rw [spine_eq]
          conv => whnf
          have hm2 : List.take ((0 + (q + 1) + 1) * 2) (List.drop (0 * 2) (cellsP (L.take (q + 1)) ++ [AV.str key, AV.str v])) ++ cellsP (L.drop (q + 1)) = cellsP (setL L key v) := by
            rw [← hc, Nat.zero_mul, List.drop_zero, List.take_of_length_le (by rw [hml]; omega)]
          have hl2 : 0 + (q + 1) + 1 + (L.length - (q + 1)) = (setL L key v).length := by omega
          rw [hm2]
          refine .mk' [4] rfl rfl rfl ?_ rfl (by rw [hl2]; rfl) ⟨rowP_at _ rfl, rowP_at _ rfl, trivial⟩
          simp [okH_all, okR, bare_ok (cellsP_bare _)]
    | true =>
      conv => whnf
      refine ⟨by simp only [capE]; omega, ?_⟩
      conv => whnf
      have hw : IntKind.i64.wrap ((posL L key : Int) + 1) = ((posL L key + 1 : Nat) : Int) := by rw [wrap_small] <;> (unfold room at hr; omega)
      rw [hw]
      refine ⟨by simp only [capE]; omega, ?_⟩
      conv => whnf
      refine ⟨by simp only [capE]; omega, ?_⟩
      conv => whnf
      simp only [Int.toNat_natCast, Nat.zero_add, Int.toNat_zero, Nat.sub_zero]
      obtain ⟨hc, hlen, hj1, hj2⟩ := set_cells (L := L) (key := key) (v := v) (j := posL L key + 1) (.inr ⟨hh, rfl⟩)
      unfold rowP
      rw [readsA_row (by rw [cellsP_len, Nat.zero_mul, Nat.zero_add]; omega), Nat.zero_mul, List.drop_zero, cellsP_take]
      conv => whnf
      rw [lf]
      conv => whnf
      cases hz : posL L key with
      | zero =>
        rw [hz] at hc hlen hj1
        conv => whnf
        refine ⟨by decide, ?_⟩
        conv => whnf
        dsimp only
        rw [readsA_row (by rw [cellsP_len]; omega), restL (by omega)]
        conv => whnf
        rw [lf]
        conv => whnf
        rcases Nat.eq_zero_or_pos (L.length - 1) with hk | hk
        · have hd : L.drop 1 = [] := List.drop_eq_nil_of_le (by omega)
          rw [hd] at hc
          have hc : [AV.str key, AV.str v] = cellsP (setL L key v) := hc
          rw [hk] at hlen ⊢
          conv => whnf
          rw [← hc, ← hlen]
          refine .mk' [2] rfl rfl rfl ?_ rfl rfl ⟨rowP_at _ rfl, rfl, trivial⟩
          simp [okH_all, okR, bare_ok (cellsP_bare L), okL_cons, okL_nil, okA_str]
        · rw [beq_pos hk]
          conv => whnf
          rw [show Nat.ble ((0 + (0 + 1) + (L.length - 1)) * 2) [AV.str key, AV.str v].length = false from ble_no (by simp only [List.length_cons, List.length_nil]; omega)]
          conv => whnf
          refine ⟨by omega, ?_⟩
          rw [spine_eq]
          conv => whnf
          have hc : [AV.str key, AV.str v] ++ cellsP (L.drop 1) = cellsP (setL L key v) := hc
          rw [← hc, ← hlen]
          refine .mk' [3] rfl rfl rfl ?_ rfl rfl ⟨rowP_at _ rfl, rowC_at (by simp [cellsP_bare, bareA]) _ rfl, trivial⟩
          simp [okH_all, okR, bare_ok (cellsP_bare _), okL_cons, okL_nil, okA_str]
      | succ q =>
        rw [hz] at hc hlen hj1
        conv => whnf
        refine ⟨by omega, ?_⟩
        rw [spine_eq]
        conv => whnf
        have hq : (cellsP (L.take (q + 1))).length = (q + 1) * 2 := by rw [cellsP_len, List.length_take]; omega
        rw [show Nat.ble ((0 + (0 + (q + 1))) * 2) (([] : List AV) ++ cellsP (L.take (q + 1))).length = true from Nat.ble_eq_true_of_le (by rw [List.nil_append, hq]; omega)]
        conv => whnf
        rw [show Nat.ble ((0 + (0 + (q + 1)) + 1) * 2) (([] : List AV) ++ cellsP (L.take (q + 1))).length = false from ble_no (by rw [List.nil_append, hq]; omega)]
        conv => whnf
        refine ⟨by omega, ?_⟩
        rw [spine_eq]
        conv => whnf
        dsimp only
        rw [readsA_row (by rw [cellsP_len]; omega), restL (by omega)]
        conv => whnf
        rw [lf]
        conv => whnf
        rcases Nat.eq_zero_or_pos (L.length - (q + 2)) with hk | hk
        · have hd : L.drop (q + 2) = [] := List.drop_eq_nil_of_le (by omega)
          rw [hd] at hc
          rw [hk] at hlen ⊢
          conv => whnf
          have hm : List.take ((0 + (q + 1)) * 2) (List.drop (0 * 2) (([] : List AV) ++ cellsP (L.take (q + 1)))) ++ List.take (1 * 2) (List.drop (0 * 2) [AV.str key, AV.str v]) = cellsP (setL L key v) := by
            rw [← hc, Nat.zero_mul, List.drop_zero, List.nil_append, List.take_of_length_le (by rw [hq]; omega)]
            simp [cellsP]
          have hl2 : 0 + (q + 1) + 1 = (setL L key v).length := by omega
          rw [hm]
          refine .mk' [3] rfl rfl rfl ?_ rfl (by rw [hl2]; rfl) ⟨rowP_at _ rfl, rowP_at _ rfl, trivial⟩
          simp [okH_all, okR, bare_ok (cellsP_bare _)]
        · rw [beq_pos hk]
          conv => whnf
          have hm : List.take ((0 + (q + 1)) * 2) (List.drop (0 * 2) (([] : List AV) ++ cellsP (L.take (q + 1)))) ++ List.take (1 * 2) (List.drop (0 * 2) [AV.str key, AV.str v]) = cellsP (L.take (q + 1)) ++ [AV.str key, AV.str v] := by
            rw [Nat.zero_mul, List.drop_zero, List.nil_append, List.take_of_length_le (by rw [hq]; omega)]
            rfl
          rw [hm]
          have hml : (cellsP (L.take (q + 1)) ++ [AV.str key, AV.str v]).length = (q + 2) * 2 := by rw [List.length_append, hq]; simp; omega
          rw [show Nat.ble ((0 + (0 + (q + 1) + 1)) * 2) (cellsP (L.take (q + 1)) ++ [AV.str key, AV.str v]).length = true from Nat.ble_eq_true_of_le (by rw [hml]; omega)]
          conv => whnf
          rw [show Nat.ble ((0 + (0 + (q + 1) + 1) + (L.length - (q + 2))) * 2) (cellsP (L.take (q + 1)) ++ [AV.str key, AV.str v]).length = false from ble_no (by rw [hml]; omega)]
          conv => whnf
          refine ⟨by omega, ?_⟩
          rw [spine_eq]
          conv => whnf
          have hm2 : List.take ((0 + (q + 1) + 1) * 2) (List.drop (0 * 2) (cellsP (L.take (q + 1)) ++ [AV.str key, AV.str v])) ++ cellsP (L.drop (q + 2)) = cellsP (setL L key v) := by
            rw [← hc, Nat.zero_mul, List.drop_zero, List.take_of_length_le (by rw [hml]; omega)]
          have hl2 : 0 + (q + 1) + 1 + (L.length - (q + 2)) = (setL L key v).length := by omega
          rw [hm2]
          refine .mk' [4] rfl rfl rfl ?_ rfl (by rw [hl2]; rfl) ⟨rowP_at _ rfl, rowP_at _ rfl, trivial⟩
          simp [okH_all, okR, bare_ok (cellsP_bare _)]
  · have hp : posL L key = L.length := by omega
    have hh := hasL_out (L := L) (key := key) (by omega)
    rw [show decide (((posL L key : Nat) : Int) = ((L.length : Nat) : Int)) = true by simp [hp]]
    conv => whnf
    refine ⟨by simp only [capE]; omega, ?_⟩
    conv => whnf
    refine ⟨by simp only [capE]; omega, ?_⟩
    conv => whnf
    simp only [Int.toNat_natCast, Nat.zero_add, Int.toNat_zero, Nat.sub_zero]
    obtain ⟨hc, hlen, hj1, hj2⟩ := set_cells (L := L) (key := key) (v := v) (j := posL L key) (.inl ⟨hh, rfl⟩)
    unfold rowP
    rw [readsA_row (by rw [cellsP_len, Nat.zero_mul, Nat.zero_add]; omega), Nat.zero_mul, List.drop_zero, cellsP_take]
    conv => whnf
    rw [lf]
    conv => whnf
    rw [hh]
    cases hz : posL L key with
    | zero =>
      rw [hz] at hc hlen hj1
      conv => whnf
      refine ⟨by decide, ?_⟩
      conv => whnf
      dsimp only
      rw [readsA_row (by rw [cellsP_len]; omega), restL (by omega)]
      conv => whnf
      rw [lf]
      conv => whnf
      rcases Nat.eq_zero_or_pos (L.length - 0) with hk | hk
      · have hd : L.drop 0 = [] := List.drop_eq_nil_of_le (by omega)
        rw [hd] at hc
        have hc : [AV.str key, AV.str v] = cellsP (setL L key v) := hc
        rw [hk] at hlen ⊢
        conv => whnf
        rw [← hc, ← hlen]
        refine .mk' [2] rfl rfl rfl ?_ rfl rfl ⟨rowP_at _ rfl, rfl, trivial⟩
        simp [okH_all, okR, bare_ok (cellsP_bare L), okL_cons, okL_nil, okA_str]
      · rw [beq_pos hk]
        conv => whnf
        rw [show Nat.ble ((0 + (0 + 1) + (L.length - 0)) * 2) [AV.str key, AV.str v].length = false from ble_no (by simp only [List.length_cons, List.length_nil]; omega)]
        conv => whnf
        refine ⟨by omega, ?_⟩
        rw [spine_eq]
        conv => whnf
        have hc : [AV.str key, AV.str v] ++ cellsP (L.drop 0) = cellsP (setL L key v) := hc
        rw [← hc, ← hlen]
        refine .mk' [3] rfl rfl rfl ?_ rfl rfl ⟨rowP_at _ rfl, rowC_at (by simp [cellsP_bare, bareA]) _ rfl, trivial⟩
        simp [okH_all, okR, bare_ok (cellsP_bare _), okL_cons, okL_nil, okA_str]
    | succ q =>
      rw [hz] at hc hlen hj1
      conv => whnf
      refine ⟨by omega, ?_⟩
      rw [spine_eq]
      conv => whnf
      have hq : (cellsP (L.take (q + 1))).length = (q + 1) * 2 := by rw [cellsP_len, List.length_take]; omega
      rw [show Nat.ble ((0 + (0 + (q + 1))) * 2) (([] : List AV) ++ cellsP (L.take (q + 1))).length = true from Nat.ble_eq_true_of_le (by rw [List.nil_append, hq]; omega)]
      conv => whnf
      rw [show Nat.ble ((0 + (0 + (q + 1)) + 1) * 2) (([] : List AV) ++ cellsP (L.take (q + 1))).length = false from ble_no (by rw [List.nil_append, hq]; omega)]
      conv => whnf
      refine ⟨by omega, ?_⟩
      rw [spine_eq]
      conv => whnf
      dsimp only
      rw [readsA_row (by rw [cellsP_len]; omega), restL (by omega)]
      conv => whnf
      rw [lf]
      conv => whnf
      rcases Nat.eq_zero_or_pos (L.length - (q + 1)) with hk | hk
      · have hd : L.drop (q + 1) = [] := List.drop_eq_nil_of_le (by omega)
        rw [hd] at hc
        rw [hk] at hlen ⊢
        conv => whnf
        have hm : List.take ((0 + (q + 1)) * 2) (List.drop (0 * 2) (([] : List AV) ++ cellsP (L.take (q + 1)))) ++ List.take (1 * 2) (List.drop (0 * 2) [AV.str key, AV.str v]) = cellsP (setL L key v) := by
          rw [← hc, Nat.zero_mul, List.drop_zero, List.nil_append, List.take_of_length_le (by rw [hq]; omega)]
          simp [cellsP]
        have hl2 : 0 + (q + 1) + 1 = (setL L key v).length := by omega
        rw [hm]
        refine .mk' [3] rfl rfl rfl ?_ rfl (by rw [hl2]; rfl) ⟨rowP_at _ rfl, rowP_at _ rfl, trivial⟩
        simp [okH_all, okR, bare_ok (cellsP_bare _)]
      · rw [beq_pos hk]
        conv => whnf
        have hm : List.take ((0 + (q + 1)) * 2) (List.drop (0 * 2) (([] : List AV) ++ cellsP (L.take (q + 1)))) ++ List.take (1 * 2) (List.drop (0 * 2) [AV.str key, AV.str v]) = cellsP (L.take (q + 1)) ++ [AV.str key, AV.str v] := by
          rw [Nat.zero_mul, List.drop_zero, List.nil_append, List.take_of_length_le (by rw [hq]; omega)]
          rfl
        rw [hm]
        have hml : (cellsP (L.take (q + 1)) ++ [AV.str key, AV.str v]).length = (q + 2) * 2 := by rw [List.length_append, hq]; simp; omega
        rw [show Nat.ble ((0 + (0 + (q + 1) + 1)) * 2) (cellsP (L.take (q + 1)) ++ [AV.str key, AV.str v]).length = true from Nat.ble_eq_true_of_le (by rw [hml]; omega)]
        conv => whnf
        rw [show Nat.ble ((0 + (0 + (q + 1) + 1) + (L.length - (q + 1))) * 2) (cellsP (L.take (q + 1)) ++ [AV.str key, AV.str v]).length = false from ble_no (by rw [hml]; omega)]
        conv => whnf
        refine ⟨by omega, ?_⟩
        rw [spine_eq]
        conv => whnf
        have hm2 : List.take ((0 + (q + 1) + 1) * 2) (List.drop (0 * 2) (cellsP (L.take (q + 1)) ++ [AV.str key, AV.str v])) ++ cellsP (L.drop (q + 1)) = cellsP (setL L key v) := by
          rw [← hc, Nat.zero_mul, List.drop_zero, List.take_of_length_le (by rw [hml]; omega)]
        have hl2 : 0 + (q + 1) + 1 + (L.length - (q + 1)) = (setL L key v).length := by omega
        rw [hm2]
        refine .mk' [4] rfl rfl rfl ?_ rfl (by rw [hl2]; rfl) ⟨rowP_at _ rfl, rowP_at _ rfl, trivial⟩
        simp [okH_all, okR, bare_ok (cellsP_bare _)]
end Go.Proofs.YtkhliljbbjapmaaGreatDoor
