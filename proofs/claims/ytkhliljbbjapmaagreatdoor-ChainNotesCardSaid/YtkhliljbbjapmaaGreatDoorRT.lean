/- The document's store: Same, and what is set into none. -/
import Derived.Test.YtkhliljbbjapmaaGreatDoorRS
namespace Go.Proofs.YtkhliljbbjapmaaGreatDoor
open Go.SX
theorem cellF0 {L : List KV} {i : Nat} (h : i < L.length) : cellF L i 0 = .str L[i].1 := by
  unfold cellF; rw [Nat.add_zero, (cellsP_get h).1]; rfl
theorem cellF1 {L : List KV} {i : Nat} (h : i < L.length) : cellF L i 1 = .str L[i].2 := by
  unfold cellF; rw [(cellsP_get h).2]; rfl
theorem sameR {L M : List KV} (hr : M.length * 2 ≤ room) : Ctr Tryz.prog 23 [.sl 0 L.length, .sv 1 2 0 M.length none] [(0, lstP L)] [(1, rowP M)] 2 2 (.bool (decide (L = M))) [(1, rowP M)] := by
  refine Ctr.introR (T := Tryz.T) Tryz.hT Tryz.hM puC_ok Tryz.func23 rfl (by kernel_rfl) rfl rfl ?_ rfl ?_
  · simp only [okH_all, List.cons_append, List.nil_append, List.all_cons, List.all_nil, rowP_ok]; rfl
  conv => whnf
  refine bcase_intro (fun h => ?_) (fun h => ?_)
  · have h : L.length ≠ M.length := by simp at h; omega
    conv => whnf
    rw [show decide (L = M) = false by simp; intro e; exact h (by rw [e])]
    exact Fin.same (by simp [okH_all, rowP_ok]) rfl (by simp [lookC])
  · have h : L.length = M.length := by simp at h; omega
    conv => whnf
    refine loopR Tryz.hT Tryz.hM puC_ok (α := {i : Nat // i ≤ L.length ∧ L.take i = M.take i})
      (fun i => ([(0, .sl 0 L.length), (1, .sv 1 2 0 M.length none), (5, .int .i64 ((i.1 : Nat) : Int))], [(0, lstP L), (1, rowP M)])) (fun i => L.length - i.1) 2 ⟨0, Nat.zero_le _, rfl⟩ [] ?_ ?_
    · refine ⟨⟨rfl, rfl, rfl, trivial⟩, ⟨rfl, rowP_at _ rfl, trivial⟩, ?_, rfl⟩
      simp only [okH_all, List.all_cons, List.all_nil, rowP_ok]; rfl
    · rintro ⟨i, hi, ht⟩
      dsimp only at hi ht ⊢
      conv => whnf
      refine bcase_intro (fun h2 => ?_) (fun h2 => ?_)
      · have h2 : i < L.length := by simpa using h2
        have h3 : i < M.length := by omega
        conv => whnf
        refine ⟨by omega, ?_⟩
        conv => whnf
        simp only [Int.toNat_natCast, Nat.zero_add]
        refine ⟨h2, ?_⟩
        have e1 : readEl true 2 ((lst none L.length 2 (cellF L)).cell i) 0 = .agg [.str L[i].1, .str L[i].2] := by
          show AV.agg [cellF L i 0, cellF L i 1] = _
          rw [cellF0 h2, cellF1 h2]
        rw [e1]
        conv => whnf
        refine ⟨by omega, ?_⟩
        conv => whnf
        simp only [Int.toNat_natCast, Nat.zero_add]
        have hrd : readA true 2 (cellsP M) (i * 2 + 0) = some (.agg [.str M[i].1, .str M[i].2]) := by have := readP (X := []) h3; rwa [List.append_nil] at this
        rw [hrd]
        conv => whnf
        have heq : eqAs [AV.str L[i].1, AV.str L[i].2] [AV.str M[i].1, AV.str M[i].2] = decide (L[i] = M[i]) := by
          show (eqB L[i].1 M[i].1 && (eqB L[i].2 M[i].2 && true)) = _
          rw [eqB_eq, eqB_eq, Bool.and_true]
          by_cases a : L[i].1 = M[i].1 <;> by_cases b : L[i].2 = M[i].2 <;> simp [a, b, Prod.ext_iff]
        rw [heq]
        by_cases he : L[i] = M[i]
        · rw [show decide (L[i] = M[i]) = true by simp [he]]
          conv => whnf
          have hw : IntKind.i64.wrap ((i : Int) + 1) = ((i + 1 : Nat) : Int) := by rw [wrap_small] <;> (unfold room at hr; omega)
          refine ⟨⟨i + 1, h2, by rw [List.take_add_one, List.take_add_one, ht, List.getElem?_eq_getElem h2, List.getElem?_eq_getElem h3, he]⟩, [], by dsimp only; omega, ⟨⟨rfl, rfl, ?_, trivial⟩, ⟨rfl, rowP_at _ rfl, trivial⟩, ?_, rfl⟩⟩
          · show some (AV.int _ (IntKind.i64.wrap ((i : Int) + 1))) = _
            rw [hw]; rfl
          · simp only [okH_all, List.all_cons, List.all_nil, rowP_ok]; rfl
        · rw [show decide (L[i] = M[i]) = false by simp [he]]
          conv => whnf
          rw [show decide (L = M) = false by
            simp only [decide_eq_false_iff_not]
            rintro rfl
            exact he rfl]
          exact Fin.same (by simp [okH_all, rowP_ok]) rfl (by simp [lookC])
      · conv => whnf
        have h2 : i = L.length := by simp at h2; omega
        have hLM : L = M := by
          rw [List.take_of_length_le (by omega), List.take_of_length_le (by omega)] at ht; exact ht
        rw [show decide (L = M) = true by simp [hLM]]
        exact Fin.same (by simp [okH_all, rowP_ok]) rfl (by simp [lookC])
/-- What is set into no store. -/
theorem atR0 (key : ByteArray) : Ctr Tryz.prog 136 [.nils, .str key] [] [] 0 0 (.int .i64 0) [] := by
  refine Ctr.introR (T := Tryz.T) Tryz.hT Tryz.hM puC_ok Tryz.func136 rfl (by kernel_rfl) rfl rfl rfl rfl ?_
  conv => whnf
  refine unrollR Tryz.hT Tryz.hM puC_ok 1 ?_
  conv => whnf
  exact Fin.same rfl rfl (by simp)
theorem getR0 (key : ByteArray) : Ctr Tryz.prog 130 [.nils, .str key] [] [] 0 0 (.tup [.str ⟨#[]⟩, .bool false]) [] := by
  refine Ctr.introR (T := Tryz.T) Tryz.hT Tryz.hM puC_ok Tryz.func130 rfl (by kernel_rfl) rfl rfl rfl rfl ?_
  conv => whnf
  refine callR [] (atR0 key) rfl rfl rfl rfl trivial trivial ?_
  conv => whnf
  exact Fin.same rfl rfl (by simp)
theorem setR0 (key v : ByteArray) : Ctr Tryz.prog 116 [.nils, .str key, .str v] [] [] 0 1 (.tup [.sv 0 2 0 1 none, .bool true]) [(0, rowP [(key, v)])] := by
  refine Ctr.introR (T := Tryz.T) Tryz.hT Tryz.hM puC_ok Tryz.func116 rfl (by kernel_rfl) rfl rfl rfl rfl ?_
  conv => whnf
  refine callR [] (atR0 key) rfl rfl rfl rfl trivial trivial ?_
  conv => whnf
  refine ⟨by decide, ?_⟩
  conv => whnf
  refine ⟨by decide, ?_⟩
  conv => whnf
  refine ⟨by decide, ?_⟩
  conv => whnf
  exact .mk' [1] rfl rfl rfl rfl rfl rfl ⟨rfl, trivial⟩
theorem putR {L : List KV} (hr : (L.length + 1) * 2 ≤ room) (key v : ByteArray) : Ctr Tryz.prog 85 [.sv 0 2 0 L.length none, .str key, .str v] [] [(0, rowP L)] 1 2 (.sv 1 2 0 (setL L key v).length none) [(0, rowP L), (1, rowP (setL L key v))] := by
  refine Ctr.introR (T := Tryz.T) Tryz.hT Tryz.hM puC_ok Tryz.func85 rfl (by kernel_rfl) rfl rfl ?_ rfl ?_
  · simp [okH_all, rowP_ok]
  conv => whnf
  refine callR [0] (setR hr key v) (post' := [(0, rowP L), (1, rowP (setL L key v))]) (by simp only [renH, rowP_ren]; rfl) rfl rfl rfl trivial ⟨rowP_at _ rfl, trivial⟩ ?_
  conv => whnf
  exact .mk' [1] rfl rfl rfl (by simp [okH_all, rowP_ok]) rfl rfl ⟨rowP_at _ rfl, rowP_at _ rfl, trivial⟩
theorem putR0 (key v : ByteArray) : Ctr Tryz.prog 85 [.nils, .str key, .str v] [] [] 0 1 (.sv 0 2 0 1 none) [(0, rowP [(key, v)])] := by
  refine Ctr.introR (T := Tryz.T) Tryz.hT Tryz.hM puC_ok Tryz.func85 rfl (by kernel_rfl) rfl rfl rfl rfl ?_
  conv => whnf
  refine callR [] (setR0 key v) (post' := [(0, rowP [(key, v)])]) (by simp only [renH, rowP_ren]; rfl) rfl rfl rfl trivial trivial ?_
  conv => whnf
  exact .mk' [0] rfl rfl rfl rfl rfl rfl ⟨rowP_at _ rfl, trivial⟩
end Go.Proofs.YtkhliljbbjapmaaGreatDoor
