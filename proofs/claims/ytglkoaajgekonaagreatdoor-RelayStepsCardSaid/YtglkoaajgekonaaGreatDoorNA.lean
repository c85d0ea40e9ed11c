/- Names of letters: the program's and the document's. -/
import Derived.Test.YtglkoaajgekonaaGreatDoorLT
namespace Go.Proofs.YtglkoaajgekonaaGreatDoor
open Go.SX
/-- Whether all bytes are letters. -/
def lettersL (l : List UInt8) : Bool := l.all fun c => letB c.toNat
def plainB (s : ByteArray) : Bool := (decide (1 ≤ s.size) && decide (s.size ≤ 64)) && lettersL s.data.toList
theorem empty_eq (s : ByteArray) : eqB s ⟨#[]⟩ = decide (s.size = 0) := by
  rw [eqB_eq]
  by_cases h : s.size = 0
  · have : s = ⟨#[]⟩ := ByteArray.ext (Array.ext' (List.length_eq_zero_iff.1 h))
    subst this
    rfl
  · have : s ≠ ⟨#[]⟩ := by rintro rfl; exact h rfl
    simp [h, this]
theorem take_all {l : List UInt8} {i : Nat} {q : UInt8 → Bool} (hi : i < l.length) : (l.take (i + 1)).all q = ((l.take i).all q && q l[i]) := by
  rw [List.take_add_one, List.all_append, List.getElem?_eq_getElem hi]; simp
theorem byteAt_at {s : ByteArray} {i : Nat} (hi : i < s.data.toList.length) : byteAt s (i : Int) = Int.ofNat s.data.toList[i].toNat := by
  have e : s[i]? = some s.data.toList[i] := by
    show s.data[i]? = _
    rw [← Array.getElem?_toList]; exact List.getElem?_eq_getElem hi
  show (((s[(i : Int).toNat]?).getD 0).toNat : Int) = _
  rw [Int.toNat_natCast, e]; rfl
theorem let_pu2 (c : UInt8) : puLt 134 [.int .u8 (Int.ofNat c.toNat)] = some (.bool (letB c.toNat)) := by
  show (match Nat.blt c.toNat 256 with | true => some (AV.bool (letB c.toNat)) | false => none) = _
  rw [show Nat.blt c.toNat 256 = true from Nat.ble_eq_true_of_le c.toNat_lt]
theorem plain1 (s : ByteArray) (hs : s.size ≤ 4611686018427387904) : Ctr Tryz.prog 71 [.str s] [] [] 0 0 (.bool (plainB s)) [] := by
  refine Ctr.introR (T := Tryz.T) Tryz.hT Tryz.hM puLt_ok Tryz.func71 rfl (by kernel_rfl) rfl rfl rfl rfl ?_
  conv => whnf
  rw [empty_eq]
  by_cases h0 : s.size = 0
  · rw [show (!decide (s.size = 0)) = false by simp [h0]]
    conv => whnf
    refine unrollR Tryz.hT Tryz.hM puLt_ok 1 ?_
    conv => whnf
    refine bcase_intro (fun h => ?_) (fun h => ?_)
    · simp at h; omega
    · conv => whnf
      rw [show plainB s = false by simp [plainB, h0]]
      exact Fin.same rfl rfl (by simp)
  · rw [show (!decide (s.size = 0)) = true by simp [h0]]
    conv => whnf
    have hlen : s.data.toList.length = s.size := rfl
    refine loopR Tryz.hT Tryz.hM puLt_ok (α := {i : Nat // i ≤ s.size ∧ lettersL (s.data.toList.take i) = true})
      (fun i => ([(0, .str s), (3, .bool (decide ((s.size : Int) ≤ 64))), (13, .int .i64 ((s.size : Nat) : Int)), (14, .int .i64 ((i.1 : Nat) : Int))], [])) (fun i => s.size - i.1) 0 ⟨0, Nat.zero_le _, rfl⟩ [] ?_ ?_
    · exact ⟨⟨rfl, rfl, rfl, rfl, trivial⟩, trivial, rfl, rfl⟩
    · rintro ⟨i, hi, hl⟩
      dsimp only at hi hl ⊢
      conv => whnf
      refine bcase_intro (fun h => ?_) (fun h => ?_)
      · have h : i < s.size := by simpa using h
        conv => whnf
        refine ⟨by omega, ?_⟩
        have hi' : i < s.data.toList.length := h
        have hb : byteAt s (i : Int) = Int.ofNat s.data.toList[i].toNat := by
          have e : s[i]? = some s.data.toList[i] := by
            show s.data[i]? = _
            rw [← Array.getElem?_toList]; exact List.getElem?_eq_getElem hi'
          show (((s[(i : Int).toNat]?).getD 0).toNat : Int) = _
          rw [Int.toNat_natCast, e]; rfl
        have hc : Nat.blt s.data.toList[i].toNat 256 = true := Nat.ble_eq_true_of_le s.data.toList[i].toNat_lt
        have hta := take_all (q := fun c => letB c.toNat) hi'
        conv => whnf
        rw [hb]
        have hp : puLt 112 [.int .u8 (Int.ofNat s.data.toList[i].toNat)] = some (.bool (letB s.data.toList[i].toNat)) := by
          show (match Nat.blt s.data.toList[i].toNat 256 with | true => some (AV.bool (letB s.data.toList[i].toNat)) | false => none) = _
          rw [hc]
        simp only [hp]
        conv => whnf
        refine bcase_intro (fun h2 => ?_) (fun h2 => ?_)
        · have h2 : letB s.data.toList[i].toNat = false := by simpa using h2
          conv => whnf
          rw [show plainB s = false by
            have : lettersL s.data.toList = false := by
              rw [lettersL, List.all_eq_false]
              exact ⟨_, List.getElem_mem hi', by rw [h2]; decide⟩
            simp [plainB, this]]
          exact Fin.same rfl rfl (by simp)
        · have h2 : letB s.data.toList[i].toNat = true := by simpa using h2
          conv => whnf
          have hw : IntKind.i64.wrap ((i : Int) + 1) = ((i + 1 : Nat) : Int) := by rw [wrap_small] <;> omega
          refine ⟨⟨i + 1, h, by rw [lettersL, hta, h2]; simpa [lettersL] using hl⟩, [], by dsimp only; omega, ⟨⟨rfl, rfl, rfl, ?_, trivial⟩, trivial, rfl, rfl⟩⟩
          show some (AV.int _ (IntKind.i64.wrap ((i : Int) + 1))) = _
          rw [hw]; rfl
      · conv => whnf
        have h : i = s.size := by simp at h; omega
        have hl2 : lettersL s.data.toList = true := by
          rw [List.take_of_length_le (by rw [hlen]; omega)] at hl; exact hl
        rw [show plainB s = decide ((s.size : Int) ≤ 64) by
          have h1 : decide (1 ≤ s.size) = true := decide_eq_true (by omega)
          have h3 : decide ((s.size : Int) ≤ 64) = decide (s.size ≤ 64) := by
            by_cases h64 : s.size ≤ 64
            · simp [h64]; omega
            · simp [h64]; omega
          rw [plainB, hl2, h1, h3]; simp]
        exact Fin.same rfl rfl (by simp)
theorem plain2 (s : ByteArray) (hs : s.size ≤ 4611686018427387904) : Ctr Tryz.prog 107 [.str s] [] [] 0 0 (.bool (plainB s)) [] := by
  refine Ctr.introR (T := Tryz.T) Tryz.hT Tryz.hM puLt_ok Tryz.func107 rfl (by kernel_rfl) rfl rfl rfl rfl ?_
  conv => whnf
  have hlen : s.data.toList.length = s.size := rfl
  refine loopR Tryz.hT Tryz.hM puLt_ok (α := {i : Nat // i ≤ s.size ∧ lettersL (s.data.toList.take i) = true})
    (fun i => ([(0, .str s), (3, .int .i64 ((i.1 : Nat) : Int))], [])) (fun i => s.size - i.1) 0 ⟨0, Nat.zero_le _, rfl⟩ [] ?_ ?_
  · exact ⟨⟨rfl, rfl, trivial⟩, trivial, rfl, rfl⟩
  · rintro ⟨i, hi, hl⟩
    dsimp only at hi hl ⊢
    conv => whnf
    refine bcase_intro (fun h => ?_) (fun h => ?_)
    · have h : i < s.size := by simpa using h
      conv => whnf
      refine ⟨by omega, ?_⟩
      have hi' : i < s.data.toList.length := h
      have hb := byteAt_at hi'
      have hta := take_all (q := fun c => letB c.toNat) hi'
      conv => whnf
      rw [hb]
      have hp := let_pu2 s.data.toList[i]
      simp only [hp]
      conv => whnf
      refine bcase_intro (fun h2 => ?_) (fun h2 => ?_)
      · have h2 : letB s.data.toList[i].toNat = false := by simpa using h2
        conv => whnf
        rw [show plainB s = false by
          have : lettersL s.data.toList = false := by
            rw [lettersL, List.all_eq_false]
            exact ⟨_, List.getElem_mem hi', by rw [h2]; decide⟩
          simp [plainB, this]]
        exact Fin.same rfl rfl (by simp)
      · have h2 : letB s.data.toList[i].toNat = true := by simpa using h2
        conv => whnf
        have hw : IntKind.i64.wrap ((i : Int) + 1) = ((i + 1 : Nat) : Int) := by rw [wrap_small] <;> omega
        refine ⟨⟨i + 1, h, by rw [lettersL, hta, h2]; simpa [lettersL] using hl⟩, [], by dsimp only; omega, ⟨⟨rfl, ?_, trivial⟩, trivial, rfl, rfl⟩⟩
        show some (AV.int _ (IntKind.i64.wrap ((i : Int) + 1))) = _
        rw [hw]; rfl
    · have h : i = s.size := by simp at h; omega
      have hl2 : lettersL s.data.toList = true := by
        rw [List.take_of_length_le (by rw [hlen]; omega)] at hl; exact hl
      conv => whnf
      cases h1 : decide ((1 : Int) ≤ (s.size : Int)) with
      | false =>
        conv => whnf
        have : decide (1 ≤ s.size) = false := decide_eq_false (by have := of_decide_eq_false h1; omega)
        rw [show plainB s = false by rw [plainB, this]; rfl]
        exact Fin.same rfl rfl (by simp)
      | true =>
        conv => whnf
        have h2 : decide (1 ≤ s.size) = true := decide_eq_true (by have := of_decide_eq_true h1; omega)
        have h3 : decide ((s.size : Int) ≤ 64) = decide (s.size ≤ 64) := by
          by_cases h64 : s.size ≤ 64
          · simp [h64]; omega
          · simp [h64]; omega
        rw [show plainB s = decide ((s.size : Int) ≤ 64) by rw [plainB, hl2, h2, h3]; simp]
        exact Fin.same rfl rfl (by simp)
def nameE (s : ByteArray) : Int := if plainB s then 0 else 7
theorem closed1 {f : Nat} {args : List AV} {v : AV} (h : Tryz.ev 80 f args [] [] 0 = .ok (v, [], 0)) : Ctr Tryz.prog f args [] [] 0 0 v [] := Tryz.ev_ok 80 h
theorem head6 : Ctr Tryz.prog 69 [.int .i64 6] [] [] 0 0 (.str ⟨#[]⟩) [] := closed1 (by kernel_rfl)
theorem word6 : Ctr Tryz.prog 105 [.int .i64 6] [] [] 0 0 (.str ⟨#[]⟩) [] := closed1 (by kernel_rfl)
theorem check1 (s : ByteArray) (hs : s.size ≤ 4611686018427387904) : Ctr Tryz.prog 45 [.int .i64 6, .str s] [] [] 0 0 (.int .i64 (nameE s)) [] := by
  refine Ctr.introR (T := Tryz.T) Tryz.hT Tryz.hM Tryz.hE Tryz.func45 rfl (by kernel_rfl) rfl rfl rfl rfl ?_
  conv => whnf
  refine callR [] head6 rfl rfl rfl rfl trivial trivial ?_
  conv => whnf
  refine callR [] (plain1 s hs) rfl rfl rfl rfl trivial trivial ?_
  conv => whnf
  cases h : plainB s with
  | true =>
    conv => whnf
    rw [show nameE s = 0 by simp [nameE, h]]
    exact Fin.same rfl rfl (by simp)
  | false =>
    conv => whnf
    rw [show nameE s = 7 by simp [nameE, h]]
    exact Fin.same rfl rfl (by simp)
theorem check2 (s : ByteArray) (hs : s.size ≤ 4611686018427387904) : Ctr Tryz.prog 63 [.int .i64 6, .str s] [] [] 0 0 (.int .i64 (nameE s)) [] := by
  refine Ctr.introR (T := Tryz.T) Tryz.hT Tryz.hM Tryz.hE Tryz.func63 rfl (by kernel_rfl) rfl rfl rfl rfl ?_
  conv => whnf
  refine callR [] word6 rfl rfl rfl rfl trivial trivial ?_
  conv => whnf
  refine callR [] (plain2 s hs) rfl rfl rfl rfl trivial trivial ?_
  conv => whnf
  cases h : plainB s with
  | true =>
    conv => whnf
    rw [show nameE s = 0 by simp [nameE, h]]
    exact Fin.same rfl rfl (by simp)
  | false =>
    conv => whnf
    rw [show nameE s = 7 by simp [nameE, h]]
    exact Fin.same rfl rfl (by simp)
end Go.Proofs.YtglkoaajgekonaaGreatDoor
