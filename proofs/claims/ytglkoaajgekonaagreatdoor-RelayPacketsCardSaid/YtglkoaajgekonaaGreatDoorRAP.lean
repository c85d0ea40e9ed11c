/- RAP: what relayPackets_law needs of LT, NA, PS, JN, LS, CL, CH, SM, PJ, PM, MK, HD, BL, BG, RU, PF, PB, PP, PQ, PR. -/
import Derived.Test.YtglkoaajgekonaaGreatDoorTab
import Derived.Test.YtglkoaajgekonaaGreatDoorSXZ
import Derived.Test.YtglkoaajgekonaaGreatDoorSXU
import Derived.Test.YtglkoaajgekonaaGreatDoorSXRF
import Derived.Test.YtglkoaajgekonaaGreatDoorIns
import Derived.Test.YtglkoaajgekonaaGreatDoorSXJR
import Derived.Test.YtglkoaajgekonaaGreatDoorSXPL
import Derived.Test.YtglkoaajgekonaaGreatDoorTxt
import Derived.Test.YtglkoaajgekonaaGreatDoorRep
import Derived.Test.YtglkoaajgekonaaGreatDoorSha1
import Derived.Test.YtglkoaajgekonaaGreatDoorNum
import Derived.Test.YtglkoaajgekonaaGreatDoorSXSH
import Derived.Test.YtglkoaajgekonaaGreatDoorOv
import Derived.Test.YtglkoaajgekonaaGreatDoorSXSL
import Derived.Test.YtglkoaajgekonaaGreatDoorPW
namespace Go.Proofs.YtglkoaajgekonaaGreatDoor
open Go.SX
def letB (c : Nat) : Bool := (Nat.ble 97 c && Nat.ble c 122) || (Nat.ble 65 c && Nat.ble c 90) || (Nat.ble 48 c && Nat.ble c 57) || Nat.beq c 46 || Nat.beq c 95 || Nat.beq c 45
noncomputable def letRun (f c : Nat) : Bool := match Tryz.ev 80 f [.int .u8 (c : Int)] [] [] 0 with
 | .ok (.bool b, [], n) => Nat.beq n 0 && (if letB c then b else !b)
 | _ => false
theorem let_all1 : (List.range 256).all (letRun 112) = true := by kernel_rfl
theorem let_all2 : (List.range 256).all (letRun 134) = true := by kernel_rfl
theorem let_of {f : Nat} (h : (List.range 256).all (letRun f) = true) (c : Nat) (hc : c < 256) : Ctr Tryz.prog f [.int .u8 (c : Int)] [] [] 0 0 (.bool (letB c)) [] := by
 have h := List.all_eq_true.1 h c (List.mem_range.2 hc)
 unfold letRun at h
 split at h
 ·rename_i b n hr
  simp only [Bool.and_eq_true] at h
  have hn := Nat.eq_of_beq_eq_true h.1
  subst hn
  have hb : b = letB c := by
   cases hl : letB c <;> rw [hl] at h <;> simpa using h.2
  subst hb
  exact Tryz.ev_ok 80 hr
 ·cases h
noncomputable def puLt : Pure := fun g vs => match Nat.beq g 112 || Nat.beq g 134, vs with
 | true, [.int .u8 (.ofNat c)] => match Nat.blt c 256 with
  | true => some (.bool (letB c))
  | false => none
 | _, _ => none
theorem puLt_ok : PureOK Tryz.prog puLt := by
 intro g vs v h
 unfold puLt at h
 split at h
 ·rename_i c hg
  split at h
  ·rename_i hc
   cases h
   have hc : c < 256 := by simpa using hc
   refine .inl fun n => ?_
   rcases Bool.or_eq_true _ _ |>.mp hg with hg | hg
   ·have hg := Nat.eq_of_beq_eq_true hg
    subst hg
    exact (let_of let_all1 c hc).anyO rfl rfl n
   ·have hg := Nat.eq_of_beq_eq_true hg
    subst hg
    exact (let_of let_all2 c hc).anyO rfl rfl n
  ·cases h
 ·cases h
def lettersL (l : List UInt8) : Bool := l.all fun c => letB c.toNat
def plainB (s : ByteArray) : Bool := (decide (1 ≤ s.size) && decide (s.size ≤ 64)) && lettersL s.data.toList
theorem empty_eq (s : ByteArray) : eqB s ⟨#[]⟩ = decide (s.size = 0) := by
 rw [eqB_eq]
 by_cases h : s.size = 0
 ·have : s = ⟨#[]⟩ := ByteArray.ext (Array.ext' (List.length_eq_zero_iff.1 h))
  subst this
  rfl
 ·have : s ≠ ⟨#[]⟩ := by rintro rfl; exact h rfl
  simp [h, this]
theorem take_all {l : List UInt8} {i : Nat} {q : UInt8 → Bool} (hi : i < l.length) : (l.take (i + 1)).all q = ((l.take i).all q && q l[i]) := by
 rw [List.take_add_one, List.all_append, List.getElem?_eq_getElem hi]; simp
theorem byteAt_at {s : ByteArray} {i : Nat} (hi : i < s.data.toList.length) : byteAt s (i : Int) = Int.ofNat s.data.toList[i].toNat := by
 have e : s[i]? = some s.data.toList[i] := by
  show s.data[i]? = _
  rw [← Array.getElem?_toList]; exact List.getElem?_eq_getElem hi
 show (((s[(i : Int).toNat]?).getD 0).toNat : Int) = _
 rw [Int.toNat_natCast, e]; rfl
theorem let_pu2 (c : UInt8) : puLt 134 [.int .u8 (Int.ofNat c.toNat)] = some (.bool (letB c.toNat)) := by
 show (match Nat.blt c.toNat 256 with | true => some (AV.bool (letB c.toNat)) | false => none) = _
 rw [show Nat.blt c.toNat 256 = true from Nat.ble_eq_true_of_le c.toNat_lt]
theorem plain1 (s : ByteArray) (hs : s.size ≤ 4611686018427387904) : Ctr Tryz.prog 71 [.str s] [] [] 0 0 (.bool (plainB s)) [] := by
 refine Ctr.introR (T := Tryz.T) Tryz.hT Tryz.hM puLt_ok Tryz.func71 rfl (by kernel_rfl) rfl rfl rfl rfl ?_
 conv => whnf
 rw [empty_eq]
 by_cases h0 : s.size = 0
 ·rw [show (!decide (s.size = 0)) = false by simp [h0]]
  conv => whnf
  refine unrollR Tryz.hT Tryz.hM puLt_ok 1 ?_
  conv => whnf
  refine bcase_intro (fun h => ?_) (fun h => ?_)
  ·simp at h; omega
  ·conv => whnf
   rw [show plainB s = false by simp [plainB, h0]]
   exact Fin.same rfl rfl (by simp)
 ·rw [show (!decide (s.size = 0)) = true by simp [h0]]
  conv => whnf
  have hlen : s.data.toList.length = s.size := rfl
  refine loopR Tryz.hT Tryz.hM puLt_ok (α := {i : Nat // i ≤ s.size ∧ lettersL (s.data.toList.take i) = true})
   (fun i => ([(0, .str s), (3, .bool (decide ((s.size : Int) ≤ 64))), (13, .int .i64 ((s.size : Nat) : Int)), (14, .int .i64 ((i.1 : Nat) : Int))], [])) (fun i => s.size - i.1) 0 ⟨0, Nat.zero_le _, rfl⟩ [] ?_ ?_
  ·exact ⟨⟨rfl, rfl, rfl, rfl, trivial⟩, trivial, rfl, rfl⟩
  ·rintro ⟨i, hi, hl⟩
   dsimp only at hi hl ⊢
   conv => whnf
   refine bcase_intro (fun h => ?_) (fun h => ?_)
   ·have h : i < s.size := by simpa using h
    conv => whnf
    refine ⟨by omega, ?_⟩
    have hi' : i < s.data.toList.length := h
    have hb : byteAt s (i : Int) = Int.ofNat s.data.toList[i].toNat := by
     have e : s[i]? = some s.data.toList[i] := by
      show s.data[i]? = _
      rw [← Array.getElem?_toList]; exact List.getElem?_eq_getElem hi'
     show (((s[(i : Int).toNat]?).getD 0).toNat : Int) = _
     rw [Int.toNat_natCast, e]; rfl
    have hc : Nat.blt s.data.toList[i].toNat 256 = true := Nat.ble_eq_true_of_le s.data.toList[i].toNat_lt
    have hta := take_all (q := fun c => letB c.toNat) hi'
    conv => whnf
    rw [hb]
    have hp : puLt 112 [.int .u8 (Int.ofNat s.data.toList[i].toNat)] = some (.bool (letB s.data.toList[i].toNat)) := by
     show (match Nat.blt s.data.toList[i].toNat 256 with | true => some (AV.bool (letB s.data.toList[i].toNat)) | false => none) = _
     rw [hc]
    simp only [hp]
    conv => whnf
    refine bcase_intro (fun h2 => ?_) (fun h2 => ?_)
    ·have h2 : letB s.data.toList[i].toNat = false := by simpa using h2
     conv => whnf
     rw [show plainB s = false by
      have : lettersL s.data.toList = false := by
       rw [lettersL, List.all_eq_false]
       exact ⟨_, List.getElem_mem hi', by rw [h2]; decide⟩
      simp [plainB, this]]
     exact Fin.same rfl rfl (by simp)
    ·have h2 : letB s.data.toList[i].toNat = true := by simpa using h2
     conv => whnf
     have hw : IntKind.i64.wrap ((i : Int) + 1) = ((i + 1 : Nat) : Int) := by rw [wrap_small] <;> omega
     refine ⟨⟨i + 1, h, by rw [lettersL, hta, h2]; simpa [lettersL] using hl⟩, [], by dsimp only; omega, ⟨⟨rfl, rfl, rfl, ?_, trivial⟩, trivial, rfl, rfl⟩⟩
     show some (AV.int _ (IntKind.i64.wrap ((i : Int) + 1))) = _
     rw [hw]; rfl
   ·conv => whnf
    have h : i = s.size := by simp at h; omega
    have hl2 : lettersL s.data.toList = true := by
     rw [List.take_of_length_le (by rw [hlen]; omega)] at hl; exact hl
    rw [show plainB s = decide ((s.size : Int) ≤ 64) by
     have h1 : decide (1 ≤ s.size) = true := decide_eq_true (by omega)
     have h3 : decide ((s.size : Int) ≤ 64) = decide (s.size ≤ 64) := by
      by_cases h64 : s.size ≤ 64
      ·simp [h64]; omega
      ·simp [h64]; omega
     rw [plainB, hl2, h1, h3]; simp]
    exact Fin.same rfl rfl (by simp)
theorem plain2 (s : ByteArray) (hs : s.size ≤ 4611686018427387904) : Ctr Tryz.prog 107 [.str s] [] [] 0 0 (.bool (plainB s)) [] := by
 refine Ctr.introR (T := Tryz.T) Tryz.hT Tryz.hM puLt_ok Tryz.func107 rfl (by kernel_rfl) rfl rfl rfl rfl ?_
 conv => whnf
 have hlen : s.data.toList.length = s.size := rfl
 refine loopR Tryz.hT Tryz.hM puLt_ok (α := {i : Nat // i ≤ s.size ∧ lettersL (s.data.toList.take i) = true})
  (fun i => ([(0, .str s), (3, .int .i64 ((i.1 : Nat) : Int))], [])) (fun i => s.size - i.1) 0 ⟨0, Nat.zero_le _, rfl⟩ [] ?_ ?_
 ·exact ⟨⟨rfl, rfl, trivial⟩, trivial, rfl, rfl⟩
 ·rintro ⟨i, hi, hl⟩
  dsimp only at hi hl ⊢
  conv => whnf
  refine bcase_intro (fun h => ?_) (fun h => ?_)
  ·have h : i < s.size := by simpa using h
   conv => whnf
   refine ⟨by omega, ?_⟩
   have hi' : i < s.data.toList.length := h
   have hb := byteAt_at hi'
   have hta := take_all (q := fun c => letB c.toNat) hi'
   conv => whnf
   rw [hb]
   have hp := let_pu2 s.data.toList[i]
   simp only [hp]
   conv => whnf
   refine bcase_intro (fun h2 => ?_) (fun h2 => ?_)
   ·have h2 : letB s.data.toList[i].toNat = false := by simpa using h2
    conv => whnf
    rw [show plainB s = false by
     have : lettersL s.data.toList = false := by
      rw [lettersL, List.all_eq_false]
      exact ⟨_, List.getElem_mem hi', by rw [h2]; decide⟩
     simp [plainB, this]]
    exact Fin.same rfl rfl (by simp)
   ·have h2 : letB s.data.toList[i].toNat = true := by simpa using h2
    conv => whnf
    have hw : IntKind.i64.wrap ((i : Int) + 1) = ((i + 1 : Nat) : Int) := by rw [wrap_small] <;> omega
    refine ⟨⟨i + 1, h, by rw [lettersL, hta, h2]; simpa [lettersL] using hl⟩, [], by dsimp only; omega, ⟨⟨rfl, ?_, trivial⟩, trivial, rfl, rfl⟩⟩
    show some (AV.int _ (IntKind.i64.wrap ((i : Int) + 1))) = _
    rw [hw]; rfl
  ·have h : i = s.size := by simp at h; omega
   have hl2 : lettersL s.data.toList = true := by
    rw [List.take_of_length_le (by rw [hlen]; omega)] at hl; exact hl
   conv => whnf
   cases h1 : decide ((1 : Int) ≤ (s.size : Int)) with
   | false =>
    conv => whnf
    have : decide (1 ≤ s.size) = false := decide_eq_false (by have := of_decide_eq_false h1; omega)
    rw [show plainB s = false by rw [plainB, this]; rfl]
    exact Fin.same rfl rfl (by simp)
   | true =>
    conv => whnf
    have h2 : decide (1 ≤ s.size) = true := decide_eq_true (by have := of_decide_eq_true h1; omega)
    have h3 : decide ((s.size : Int) ≤ 64) = decide (s.size ≤ 64) := by
     by_cases h64 : s.size ≤ 64
     ·simp [h64]; omega
     ·simp [h64]; omega
    rw [show plainB s = decide ((s.size : Int) ≤ 64) by rw [plainB, hl2, h2, h3]; simp]
    exact Fin.same rfl rfl (by simp)
def nameE (s : ByteArray) : Int := if plainB s then 0 else 7
theorem closed1 {f : Nat} {args : List AV} {v : AV} (h : Tryz.ev 80 f args [] [] 0 = .ok (v, [], 0)) : Ctr Tryz.prog f args [] [] 0 0 v [] := Tryz.ev_ok 80 h
theorem head6 : Ctr Tryz.prog 69 [.int .i64 6] [] [] 0 0 (.str ⟨#[]⟩) [] := closed1 (by kernel_rfl)
theorem check1 (s : ByteArray) (hs : s.size ≤ 4611686018427387904) : Ctr Tryz.prog 45 [.int .i64 6, .str s] [] [] 0 0 (.int .i64 (nameE s)) [] := by
 refine Ctr.introR (T := Tryz.T) Tryz.hT Tryz.hM Tryz.hE Tryz.func45 rfl (by kernel_rfl) rfl rfl rfl rfl ?_
 conv => whnf
 refine callR [] head6 rfl rfl rfl rfl trivial trivial ?_
 conv => whnf
 refine callR [] (plain1 s hs) rfl rfl rfl rfl trivial trivial ?_
 conv => whnf
 cases h : plainB s with
 | true =>
  conv => whnf
  rw [show nameE s = 0 by simp [nameE, h]]
  exact Fin.same rfl rfl (by simp)
 | false =>
  conv => whnf
  rw [show nameE s = 7 by simp [nameE, h]]
  exact Fin.same rfl rfl (by simp)
theorem cmp2 (a b : ByteArray) : Ctr Tryz.prog 130 [.str a, .str b] [] [] 0 0 (.int .i64 (cmpB a b)) [] := by
 refine Ctr.introR (T := Tryz.T) Tryz.hT Tryz.hM Tryz.hE Tryz.func130 rfl (by kernel_rfl) rfl rfl rfl rfl ?_
 conv => whnf
 exact Fin.same rfl rfl (by simp)
noncomputable def puC1_0 : Pure := fun g vs => match Nat.beq g 130, vs with
 | true, [.str a, .str b] => some (.int .i64 (cmpB a b))
 | _, _ => none
theorem puC1_0_ok : PureOK Tryz.prog puC1_0 := by
 intro g vs v h
 unfold puC1_0 at h
 split at h
 ·rename_i a b hg
  cases h
  have hg := Nat.eq_of_beq_eq_true hg
  subst hg
  exact .inl fun n0 => (cmp2 a b).anyO rfl rfl n0
 ·cases h
noncomputable def puC1 : Pure := (orP puC1_0 (extPure Tryz.exts))
theorem puC1_ok : PureOK Tryz.prog puC1 := (orP_ok puC1_0_ok Tryz.hE)
theorem cmp3 (a b : ByteArray) : Ctr Tryz.prog 101 [.str a, .str b] [] [] 0 0 (.int .i64 (cmpB a b)) [] := by
 refine Ctr.introR (T := Tryz.T) Tryz.hT Tryz.hM puC1_ok Tryz.func101 rfl (by kernel_rfl) rfl rfl rfl rfl ?_
 conv => whnf
 exact Fin.same rfl rfl (by simp)
noncomputable def puC2_0 : Pure := fun g vs => match Nat.beq g 101, vs with
 | true, [.str a, .str b] => some (.int .i64 (cmpB a b))
 | _, _ => none
theorem puC2_0_ok : PureOK Tryz.prog puC2_0 := by
 intro g vs v h
 unfold puC2_0 at h
 split at h
 ·rename_i a b hg
  cases h
  have hg := Nat.eq_of_beq_eq_true hg
  subst hg
  exact .inl fun n0 => (cmp3 a b).anyO rfl rfl n0
 ·cases h
noncomputable def puC2 : Pure := (orP puC2_0 puC1)
theorem puC2_ok : PureOK Tryz.prog puC2 := (orP_ok puC2_0_ok puC1_ok)
theorem atf (k v key : ByteArray) : Ctr Tryz.prog 121 [.agg [.str k, .str v], .str key] [] [] 0 0 (.int .i64 (cmpB k key)) [] := by
 refine Ctr.shut (m := 0) (k := 1) ?_ rfl rfl
 refine Ctr.introR (T := Tryz.T) Tryz.hT Tryz.hM puC2_ok Tryz.func121 rfl (by kernel_rfl) rfl rfl rfl rfl ?_
 conv => whnf
 exact .mk' [0] rfl rfl rfl rfl rfl rfl trivial
noncomputable def puC_0 : Pure := fun g vs => match Nat.beq g 121, vs with
 | true, [.agg [.str k, .str _v], .str key] => some (.int .i64 (cmpB k key))
 | _, _ => none
theorem puC_0_ok : PureOK Tryz.prog puC_0 := by
 intro g vs v h
 unfold puC_0 at h
 split at h
 ·rename_i k _v key hg
  cases h
  have hg := Nat.eq_of_beq_eq_true hg
  subst hg
  exact .inl fun n0 => (atf k _v key).anyO rfl rfl n0
 ·cases h
noncomputable def puC : Pure := (orP puC_0 puC2)
theorem puC_ok : PureOK Tryz.prog puC := (orP_ok puC_0_ok puC2_ok)
def cellsP : List KV → List AV
 | [] => []
 | p :: l => .str p.1 :: .str p.2 :: cellsP l
theorem cellsP_bare : ∀ L, (cellsP L).all bareA = true
 | [] => rfl
 | p :: l => by simp [cellsP, bareA, cellsP_bare l]
theorem cellsP_len : ∀ L, (cellsP L).length = L.length * 2
 | [] => rfl
 | p :: l => by simp [cellsP, cellsP_len l]; omega
theorem mid_wrap {i j : Nat} (h : i + j < 4611686018427387904) : IntKind.i64.wrap (shrI IntKind.u64 (IntKind.u64.wrap (IntKind.i64.wrap ((i : Int) + (j : Int)))) 1) = (((i + j) / 2 : Nat) : Int) := by
 have e1 : IntKind.i64.wrap ((i : Int) + (j : Int)) = ((i + j : Nat) : Int) := by rw [wrap_small] <;> omega
 rw [e1]
 have e2 : IntKind.u64.wrap ((i + j : Nat) : Int) = ((i + j : Nat) : Int) := by
  unfold IntKind.wrap
  have : ((i + j : Nat) : Int) % 2 ^ 64 = ((i + j : Nat) : Int) := Int.emod_eq_of_lt (by omega) (by omega)
  simp only [show IntKind.u64.signed = false from rfl, show IntKind.u64.bits = 64 from rfl, this]
  simp
 have e3 : shrI .u64 ((i + j : Nat) : Int) 1 = (((i + j) / 2 : Nat) : Int) := (Int.ofNat_fdiv (i + j) 2).symm
 rw [e2, e3, wrap_small] <;> omega
theorem cellsP_get {L : List KV} {m : Nat} (h : m < L.length) : (cellsP L)[m * 2]? = some (.str L[m].1) ∧ (cellsP L)[m * 2 + 1]? = some (.str L[m].2) := by
 induction L generalizing m with
 | nil => simp at h
 | cons p l ih =>
  cases m with
  | zero => simp [cellsP]
  | succ m =>
   have := ih (m := m) (by simpa using h)
   simp only [cellsP, show (m + 1) * 2 = m * 2 + 1 + 1 by omega, List.getElem?_cons_succ, List.getElem_cons_succ]
   exact this
theorem readP {L : List KV} {X : List AV} {m : Nat} (h : m < L.length) : readA true 2 (cellsP L ++ X) (m * 2 + 0) = some (.agg [.str L[m].1, .str L[m].2]) := by
 obtain ⟨h1, h2⟩ := cellsP_get h
 have hl : (cellsP L).length = L.length * 2 := cellsP_len L
 unfold readA
 have e : Nat.ble (m * 2 + 0 + 2) (lenR (cellsP L ++ X)) = true := Nat.ble_eq_true_of_le (by rw [lenR_eq, List.length_append]; omega)
 simp only [e, takeR_eq, dropR_eq]
 congr 2
 apply List.ext_getElem?
 intro k
 rw [List.getElem?_take]
 match k with
 | 0 => simp only [List.getElem?_drop, Nat.add_zero, Nat.zero_lt_succ, if_true]; rw [List.getElem?_append_left (by omega), h1]; rfl
 | 1 => simp only [List.getElem?_drop, Nat.add_zero, Nat.lt_add_one, if_true]; rw [List.getElem?_append_left (by omega), h2]; rfl
 | k + 2 => rw [if_neg (by omega)]; rfl
theorem readP1 {L : List KV} {X : List AV} {m o : Nat} (h : m < L.length) (ho : o < 2) : readA false 1 (cellsP L ++ X) (m * 2 + o) = some (.str (match o with | 0 => L[m].1 | _ => L[m].2)) := by
 obtain ⟨h1, h2⟩ := cellsP_get h
 have hl : (cellsP L).length = L.length * 2 := cellsP_len L
 unfold readA
 simp only [nth_eq]
 rw [List.getElem?_append_left (by omega)]
 match o, ho with
 | 0, _ => exact h1
 | 1, _ => exact h2
theorem splice_set {L : List KV} {X : List AV} {m : Nat} {k v : ByteArray} (h : m < L.length) : splice (cellsP L ++ X) (m * 2 + 0) [.str k, .str v] = cellsP (L.set m (k, v)) ++ X := by
 rw [splice_def]
 induction L generalizing m with
 | nil => simp at h
 | cons p l ih =>
  cases m with
  | zero => simp [cellsP]
  | succ m =>
   have := ih (m := m) (by simpa using h)
   simp only [Nat.add_zero, List.length_cons, List.length_nil] at this ⊢
   rw [show (m + 1) * 2 = m * 2 + 1 + 1 by omega, show m * 2 + 1 + 1 + (0 + 1 + 1) = m * 2 + (0 + 1 + 1) + 1 + 1 by omega]
   simp only [cellsP, List.cons_append, List.take_succ_cons, List.drop_succ_cons, List.set_cons_succ]
   rw [← this]; simp
theorem cellsP_app (L M : List KV) : cellsP (L ++ M) = cellsP L ++ cellsP M := by
 induction L with
 | nil => rfl
 | cons p l ih => simp [cellsP, ih]
theorem cellsP_take (L : List KV) (m : Nat) : (cellsP L).take (m * 2) = cellsP (L.take m) := by
 induction L generalizing m with
 | nil => simp [cellsP]
 | cons p l ih =>
  cases m with
  | zero => simp [cellsP]
  | succ m => simp [show (m + 1) * 2 = m * 2 + 1 + 1 by omega, cellsP, ih]
theorem cellsP_drop (L : List KV) (m : Nat) : (cellsP L).drop (m * 2) = cellsP (L.drop m) := by
 induction L generalizing m with
 | nil => simp [cellsP]
 | cons p l ih =>
  cases m with
  | zero => simp [cellsP]
  | succ m => simp [show (m + 1) * 2 = m * 2 + 1 + 1 by omega, cellsP, ih]
theorem cellsP_ins {L : List KV} {key v : ByteArray} (h : hasL L key = false) : (cellsP L).take (posL L key * 2) ++ [.str key, .str v] ++ (cellsP L).drop (posL L key * 2) = cellsP (setL L key v) := by
 rw [setL_new h, cellsP_app, cellsP_take, cellsP_drop, cellsP, List.append_assoc]; rfl
theorem bsf {L : List KV} (hs : Srt L) {X : List AV} (hX : X.all bareA = true) (key : ByteArray) (hr : L.length * 2 ≤ room) : Ctr Tryz.prog 99 [.sv 0 2 0 L.length none, .str key, .fn (.func 121) [] []] [] [(0, .row 26 2 (cellsP L ++ X) none)] 1 1
  (.tup [.int .i64 (posL L key), .bool (hasL L key)]) [(0, .row 26 2 (cellsP L ++ X) none)] := by
 refine Ctr.introR (T := Tryz.T) Tryz.hT Tryz.hM puC_ok Tryz.func99 rfl (by kernel_rfl) rfl rfl ?_ rfl ?_
 ·simp [okH_all, okR, bare_ok (bare_app (cellsP_bare L) hX)]
 have hH : okH 1 [(0, Res.row 26 2 (cellsP L ++ X) none)] = true := by simp [okH_all, okR, bare_ok (bare_app (cellsP_bare L) hX)]
 conv => whnf
 refine loopR Tryz.hT Tryz.hM puC_ok (α := {p : Nat × Nat // p.1 ≤ posL L key ∧ posL L key ≤ p.2 ∧ p.2 ≤ L.length})
  (fun p => ([(0, .sv 0 2 0 L.length none), (1, .str key), (2, .fn (.func 121) [] []), (8, .int .i64 ((L.length : Nat) : Int)), (9, .int .i64 ((p.1.1 : Nat) : Int)), (10, .int .i64 ((p.1.2 : Nat) : Int))], [(0, .row 26 2 (cellsP L ++ X) none)]))
  (fun p => p.1.2 - p.1.1) 1 ⟨(0, L.length), Nat.zero_le _, posL_le L key, Nat.le_refl _⟩ [] ?_ ?_
 ·refine ⟨⟨rfl, rfl, rfl, rfl, rfl, rfl, trivial⟩, ⟨?_, trivial⟩, ?_, rfl⟩
  ·simp [renR, bare_ren (bare_app (cellsP_bare L) hX)]; rfl
  ·simp [okFr, okH_all, okR, bare_ok (bare_app (cellsP_bare L) hX), okA_sv, okA_str, okA_fn, okA_int, okL_nil, nodupB]
 ·rintro ⟨⟨i, j⟩, h1, h2, h3⟩
  dsimp only at h1 h2 h3 ⊢
  conv => whnf
  refine bcase_intro (fun h => ?_) (fun h => ?_)
  ·have h : i < j := by simpa using h
   have hm := mid_wrap (i := i) (j := j) (by unfold room at hr; omega)
   conv => whnf
   simp only [hm, Int.toNat_natCast, Nat.zero_add]
   generalize hmm : (i + j) / 2 = m at *
   have hml : m < L.length := by omega
   refine ⟨by omega, ?_⟩
   conv => whnf
   rw [readP hml]
   conv => whnf
   have hk := posL_lt hs (key := key) hml
   refine bcase_intro (fun h4 => ?_) (fun h4 => ?_)
   ·have h4 : m < posL L key := hk.1 (by simpa using h4)
    conv => whnf
    have hw : IntKind.i64.wrap ((m : Int) + 1) = ((m + 1 : Nat) : Int) := by rw [wrap_small] <;> (unfold room at hr; omega)
    simp only [hw]
    refine ⟨⟨(m + 1, j), by omega, h2, h3⟩, [], by dsimp only; omega, ⟨⟨rfl, rfl, rfl, rfl, rfl, rfl, trivial⟩, ⟨?_, trivial⟩, ?_, rfl⟩⟩
    ·simp [renR, bare_ren (bare_app (cellsP_bare L) hX)]; rfl
    ·simp [okFr, okH_all, okR, bare_ok (bare_app (cellsP_bare L) hX), okA_sv, okA_str, okA_fn, okA_int, okL_nil, nodupB]
   ·have h4 : ¬ m < posL L key := fun e => by have := hk.2 e; simp at h4; omega
    conv => whnf
    refine ⟨⟨(i, m), h1, by omega, by omega⟩, [], by dsimp only; omega, ⟨⟨rfl, rfl, rfl, rfl, rfl, rfl, trivial⟩, ⟨?_, trivial⟩, ?_, rfl⟩⟩
    ·simp [renR, bare_ren (bare_app (cellsP_bare L) hX)]; rfl
    ·simp [okFr, okH_all, okR, bare_ok (bare_app (cellsP_bare L) hX), okA_sv, okA_str, okA_fn, okA_int, okL_nil, nodupB]
  ·have h : i = posL L key := by simp at h; omega
   subst h
   conv => whnf
   refine bcase_intro (fun h => ?_) (fun h => ?_)
   ·have h : posL L key < L.length := by simpa using h
    conv => whnf
    simp only [Int.toNat_natCast, Nat.zero_add]
    refine ⟨by omega, ?_⟩
    conv => whnf
    rw [readP h]
    conv => whnf
    rw [hasL_at h]
    exact Fin.same hH rfl (by simp [lookC])
   ·conv => whnf
    have h : ¬ posL L key < L.length := by simpa using h
    rw [hasL_out (by omega)]
    exact Fin.same hH rfl (by simp [lookC])
theorem bsfN (key : ByteArray) : Ctr Tryz.prog 99 [.nils, .str key, .fn (.func 121) [] []] [] [] 0 0 (.tup [.int .i64 0, .bool false]) [] := by
 refine Ctr.introR (T := Tryz.T) Tryz.hT Tryz.hM puC_ok Tryz.func99 rfl (by kernel_rfl) rfl rfl rfl rfl ?_
 conv => whnf
 refine unrollR Tryz.hT Tryz.hM puC_ok 1 ?_
 conv => whnf
 exact Fin.same rfl rfl (by simp)
noncomputable def stH (i : Nat) (L : List KV) (X : List AV) : Heap := [(i, .box 139 [.sv (i + 1) 2 0 L.length none]), (i + 1, .row 26 2 (cellsP L ++ X) none)]
noncomputable def stN (i : Nat) : Heap := [(i, .box 139 [.nils])]
theorem stH_ok {L : List KV} {X : List AV} (hX : X.all bareA = true) (i n : Nat) (h : i + 1 < n) : okH n (stH i L X) = true := by
 have h0 : i < n := by omega
 simp [stH, okH_all, okR, bare_ok (bare_app (cellsP_bare L) hX), okL_cons, okL_nil, okA_sv, h, h0]
theorem cellsX_ren {L : List KV} {X : List AV} (hX : X.all bareA = true) (π : Nat → Nat) : renL π (cellsP L ++ X) = cellsP L ++ X := bare_ren (bare_app (cellsP_bare L) hX)
theorem row_ren {L : List KV} {X : List AV} {t : Nat} {c : Option Nat} (hX : X.all bareA = true) (π : Nat → Nat) : renR π (.row t 2 (cellsP L ++ X) c) = .row t 2 (cellsP L ++ X) c := by simp [renR, cellsX_ren hX]
theorem row_ren' {L : List KV} {X : List AV} {t : Nat} {c : Option Nat} {H : Heap} {k : Nat} (hX : X.all bareA = true) (π : Nat → Nat) (h : SX.look H (π k) = some (.row t 2 (cellsP L ++ X) c)) : SX.look H (π k) = some (renR π (.row t 2 (cellsP L ++ X) c)) := by rw [row_ren hX]; exact h
theorem stH_ren {L : List KV} {X : List AV} {π : Nat → Nat} {i j : Nat} (hX : X.all bareA = true) (h0 : π i = j) (h1 : π (i + 1) = j + 1) : renH π (stH i L X) = stH j L X := by simp [renH, renR, cellsX_ren hX, stH, h0, h1, renL, renA]
theorem atS {L : List KV} (hs : Srt L) {X : List AV} (hX : X.all bareA = true) (key : ByteArray) (hr : L.length * 2 ≤ room) : Ctr Tryz.prog 82 [.ptr 0 0, .str key] [] (stH 0 L X) 2 2
  (.tup [.int .i64 (posL L key), .bool (hasL L key)]) (stH 0 L X) := by
 refine Ctr.introR (T := Tryz.T) Tryz.hT Tryz.hM puC_ok Tryz.func82 rfl (by kernel_rfl) rfl rfl ?_ rfl ?_
 ·rw [List.append_nil]; exact stH_ok hX 0 2 (by omega)
 conv => whnf
 refine callR [1] (bsf hs hX key hr) (post' := [(1, .row 26 2 (cellsP L ++ X) none)]) ?_ rfl rfl rfl trivial ⟨?_, trivial⟩ ?_
 ·simp [renH, renR, cellsX_ren hX]; rfl
 ·simp [renR, cellsX_ren hX]; rfl
 conv => whnf
 exact Fin.same (stH_ok hX 0 2 (by omega)) rfl (by simp [lookC, stH])
theorem atN (key : ByteArray) : Ctr Tryz.prog 82 [.ptr 0 0, .str key] [] (stN 0) 1 1 (.tup [.int .i64 0, .bool false]) (stN 0) := by
 refine Ctr.introR (T := Tryz.T) Tryz.hT Tryz.hM puC_ok Tryz.func82 rfl (by kernel_rfl) rfl rfl rfl rfl ?_
 conv => whnf
 refine callR [] (bsfN key) rfl rfl rfl rfl trivial trivial ?_
 conv => whnf
 exact Fin.same rfl rfl (by simp [lookC, stN, renH])
theorem getS {L : List KV} (hs : Srt L) {X : List AV} (hX : X.all bareA = true) (key : ByteArray) (hr : L.length * 2 ≤ room) : Ctr Tryz.prog 81 [.ptr 0 0, .str key] [] (stH 0 L X) 2 2
  (.tup [.str (getL L key), .bool (hasL L key)]) (stH 0 L X) := by
 refine Ctr.introR (T := Tryz.T) Tryz.hT Tryz.hM puC_ok Tryz.func81 rfl (by kernel_rfl) rfl rfl ?_ rfl ?_
 ·rw [List.append_nil]; exact stH_ok hX 0 2 (by omega)
 conv => whnf
 refine callR [0, 1] (atS hs hX key hr) (post' := stH 0 L X) (stH_ren hX rfl rfl) rfl rfl rfl trivial ⟨rfl, row_ren' hX _ rfl, trivial⟩ ?_
 conv => whnf
 refine bcase_intro (fun h => ?_) (fun h => ?_)
 ·have h : hasL L key = false := by simpa using h
  conv => whnf
  rw [getL_no h, h]
  exact Fin.same (stH_ok hX 0 2 (by omega)) rfl (by simp [lookC, stH])
 ·have h : hasL L key = true := by simpa using h
  obtain ⟨hp, he⟩ := hasL_lt h
  conv => whnf
  simp only [Int.toNat_natCast, Nat.zero_add]
  refine ⟨by omega, ?_⟩
  conv => whnf
  rw [readP1 hp (by decide)]
  conv => whnf
  rw [getL_yes h hp, h]
  exact Fin.same (stH_ok hX 0 2 (by omega)) rfl (by simp [lookC, stH])
theorem getN (key : ByteArray) : Ctr Tryz.prog 81 [.ptr 0 0, .str key] [] (stN 0) 1 1 (.tup [.str ⟨#[]⟩, .bool false]) (stN 0) := by
 refine Ctr.introR (T := Tryz.T) Tryz.hT Tryz.hM puC_ok Tryz.func81 rfl (by kernel_rfl) rfl rfl rfl rfl ?_
 conv => whnf
 refine callR [0] (atN key) rfl rfl rfl rfl trivial ⟨rfl, trivial⟩ ?_
 conv => whnf
 exact Fin.same rfl rfl (by simp [lookC, stN, renH, renR, renL, renA, sg, nth])
theorem setS1 {L : List KV} (hs : Srt L) {X : List AV} (hX : X.all bareA = true) (key v : ByteArray) (hr : L.length * 2 ≤ room) (hh : hasL L key = true) : Ctr Tryz.prog 50 [.ptr 0 0, .str key, .str v] [] (stH 0 L X) 2 2
  (.bool false) (stH 0 (setL L key v) X) := by
 have hlen : (setL L key v).length = L.length := by rw [setL_length, if_pos hh]
 refine Ctr.introR (T := Tryz.T) Tryz.hT Tryz.hM puC_ok Tryz.func50 rfl (by kernel_rfl) rfl rfl ?_ rfl ?_
 ·rw [List.append_nil]; exact stH_ok hX 0 2 (by omega)
 conv => whnf
 refine callR [0, 1] (atS hs hX key hr) (post' := stH 0 L X) (stH_ren hX rfl rfl) rfl rfl rfl trivial ⟨rfl, row_ren' hX _ rfl, trivial⟩ ?_
 conv => whnf
 rw [hh]
 conv => whnf
 obtain ⟨hp, he⟩ := hasL_lt hh
 simp only [Int.toNat_natCast, Nat.zero_add]
 refine ⟨by omega, ?_⟩
 conv => whnf
 have hle : (posL L key * 2 + 0 + 2).ble (cellsP L ++ X).length = true := Nat.ble_eq_true_of_le (by rw [List.length_append, cellsP_len]; omega)
 rw [hle]
 conv => whnf
 rw [spine_rec, show cellsOf (AV.agg [AV.str key, AV.str v]) = [AV.str key, AV.str v] from rfl, splice_set hp, ← setL_has hh]
 conv => whnf
 exact Fin.same (stH_ok hX 0 2 (by omega)) rfl (by simp [lookC, stH, hlen])
theorem setS2 {L : List KV} (hs : Srt L) (key v : ByteArray) (hr : (L.length + 1) * 2 ≤ room) (hh : hasL L key = false) : Ctr Tryz.prog 50 [.ptr 0 0, .str key, .str v] [] (stH 0 L []) 2 3
  (.bool true) [(0, .box 139 [.sv 2 2 0 (L.length + 1) none]), (1, .gone), (2, .row 26 2 (cellsP (setL L key v)) none)] := by
 have hlen : (setL L key v).length = L.length + 1 := by rw [setL_length, hh]; simp
 refine Ctr.introR (T := Tryz.T) Tryz.hT Tryz.hM puC_ok Tryz.func50 rfl (by kernel_rfl) rfl rfl ?_ rfl ?_
 ·rw [List.append_nil]; exact stH_ok rfl 0 2 (by omega)
 conv => whnf
 refine callR [0, 1] (atS hs rfl key (by omega)) (post' := stH 0 L []) (stH_ren rfl rfl rfl) rfl rfl rfl trivial ⟨rfl, row_ren' rfl _ rfl, trivial⟩ ?_
 conv => whnf
 rw [hh]
 conv => whnf
 have hi := posL_le L key
 refine callR [1, 3] (ins (cs := cellsP L) (L := L.length) (i := posL L key) (k := key) (v := v) (e := 26) (cellsP_bare L) (cellsP_len L) hi hr) (post' := [(1, .gone), (4, .row 26 2 (cellsP (setL L key v)) none), (3, .row 26 2 [.str key, .str v] (some 1))]) ?_ rfl rfl rfl trivial ⟨?_, rfl, trivial⟩ ?_
 ·rw [cellsP_ins hh]
  simp only [renH, renR, bare_ren (cellsP_bare _)]; rfl
 ·simp only [renR, bare_ren (cellsP_bare _)]
  show some (Res.row _ _ (cellsP L ++ []) none) = _
  rw [List.append_nil]
 conv => whnf
 generalize hrc : raceB _ _ = rb
 obtain rfl : rb = true := hrc.symm.trans (by kernel_rfl)
 conv => whnf
 refine .mk' [4] rfl rfl rfl ?_ rfl rfl ⟨rfl, rfl, ?_, trivial⟩
 ·simp [okH_all, okR, bare_ok (cellsP_bare _), okL_cons, okL_nil, okA_sv]
 ·simp only [renR, bare_ren (cellsP_bare _)]; rfl
theorem insN (e : Nat) (k v : ByteArray) : Ctr Tryz.prog 83 [.nils, .int .i64 0, .sv 0 2 0 1 (some 1)] [] [(0, .row e 2 [.str k, .str v] (some 1))] 1 2 (.sv 1 2 0 1 none) [(0, .row e 2 [.str k, .str v] (some 1)), (1, .row 26 2 [.str k, .str v] none)] := by
 refine Ctr.introR (T := Tryz.T) Tryz.hT Tryz.hM Tryz.hE Tryz.func83 rfl (by kernel_rfl) rfl rfl rfl rfl ?_
 conv => whnf
 refine ⟨by decide, ?_⟩
 conv => whnf
 refine ⟨by decide, ?_⟩
 conv => whnf
 exact .mk' [1] rfl rfl rfl rfl rfl rfl ⟨rfl, rfl, trivial⟩
theorem setN (key v : ByteArray) : Ctr Tryz.prog 50 [.ptr 0 0, .str key, .str v] [] (stN 0) 1 2
  (.bool true) (stH 0 [(key, v)] []) := by
 refine Ctr.introR (T := Tryz.T) Tryz.hT Tryz.hM puC_ok Tryz.func50 rfl (by kernel_rfl) rfl rfl rfl rfl ?_
 conv => whnf
 refine callR [0] (atN key) rfl rfl rfl rfl trivial ⟨rfl, trivial⟩ ?_
 conv => whnf
 refine callR [2] (insN 26 key v) rfl rfl rfl rfl trivial ⟨rfl, trivial⟩ ?_
 conv => whnf
 generalize hrc : raceB _ _ = rb
 obtain rfl : rb = true := hrc.symm.trans (by kernel_rfl)
 conv => whnf
 exact .mk' [3] rfl rfl rfl rfl rfl rfl ⟨rfl, rfl, trivial⟩
theorem hpf (a b : ByteArray) : Ctr Tryz.prog 153 [.str a, .str b] [] [] 0 0 (.bool (decide (b.size ≤ a.size) && eqB (subB a 0 b.size) b)) [] := by
 refine Ctr.introR (T := Tryz.T) Tryz.hT Tryz.hM puC_ok Tryz.func153 rfl (by kernel_rfl) rfl rfl rfl rfl ?_
 conv => whnf
 refine bcase_intro (fun h => ?_) (fun h => ?_)
 ·have h : b.size ≤ a.size := by simpa using h
  conv => whnf
  simp only [Int.toNat_natCast]
  refine ⟨by omega, ?_⟩
  conv => whnf
  simp only
  rw [show (decide (b.size ≤ a.size) && eqB (subB a 0 b.size) b) = eqB (subB a 0 b.size) b by simp [h]]
  exact Fin.same rfl rfl (by simp)
 ·have h : ¬ b.size ≤ a.size := by simpa using h
  conv => whnf
  rw [show (decide (b.size ≤ a.size) && eqB (subB a 0 b.size) b) = false by simp [h]]
  exact Fin.same rfl rfl (by simp)
noncomputable def jN : Heap := [(0, .box 96 [.ptr 1 0, .nils]), (1, .box 139 [.nils])]
noncomputable def jH (L : List KV) : Heap := [(0, .box 96 [.ptr 1 0, .nils]), (1, .box 139 [.sv 2 2 0 L.length none]), (2, .row 26 2 (cellsP L) none)]
def jP (L : List KV) (H : Heap) : Prop := (L = [] ∧ H = jN) ∨ H = jH L
noncomputable def jour (L : List KV) : Res := .abs (pk (jP L))
theorem jH_ok (L : List KV) : okH 3 (jH L) = true := by simp [jH, okH_all, okR, bare_ok (cellsP_bare L), okL_cons, okL_nil, okA_sv, okA_ptr, okA_nils]
theorem jH_st (L : List KV) : (stH 1 L []) = [(1, .box 139 [.sv 2 2 0 L.length none]), (2, .row 26 2 (cellsP L) none)] := by simp [stH]
theorem jget1 {L : List KV} (hs : Srt L) (key : ByteArray) (hr : L.length * 2 ≤ room) : Ctr Tryz.prog 74 [.ptr 0 0, .str key] [] (jH L) 3 3 (.tup [.str (getL L key), .bool (hasL L key)]) (jH L) := by
 refine Ctr.introR (T := Tryz.T) Tryz.hT Tryz.hM puC_ok Tryz.func74 rfl (by kernel_rfl) rfl rfl ?_ rfl ?_
 ·rw [List.append_nil]; exact jH_ok L
 conv => whnf
 refine callR [1, 2] (getS hs rfl key hr) (post' := stH 1 L []) (stH_ren rfl rfl rfl) rfl rfl rfl trivial ⟨rfl, row_ren' rfl _ (by simp [jH]; rfl), trivial⟩ ?_
 conv => whnf
 exact Fin.same (jH_ok L) rfl (by simp [lookC, jH, jH_st])
theorem jget0 (key : ByteArray) : Ctr Tryz.prog 74 [.ptr 0 0, .str key] [] jN 2 2 (.tup [.str ⟨#[]⟩, .bool false]) jN := by
 refine Ctr.introR (T := Tryz.T) Tryz.hT Tryz.hM puC_ok Tryz.func74 rfl (by kernel_rfl) rfl rfl rfl rfl ?_
 conv => whnf
 refine callR [1] (getN key) rfl rfl rfl rfl trivial ⟨rfl, trivial⟩ ?_
 conv => whnf
 exact .mk' [] rfl rfl rfl rfl rfl rfl ⟨rfl, rfl, trivial⟩
theorem jnote1 (L : List KV) (key : ByteArray) : Ctr Tryz.prog 49 [.ptr 0 0, .str key] [] (jH L) 3 3 (.tup []) (jH L) := by
 refine Ctr.introR (T := Tryz.T) Tryz.hT Tryz.hM puC_ok Tryz.func49 rfl (by kernel_rfl) rfl rfl ?_ rfl ?_
 ·rw [List.append_nil]; exact jH_ok L
 conv => whnf
 exact Fin.same (jH_ok L) rfl (by simp [lookC, jH])
theorem jnote0 (key : ByteArray) : Ctr Tryz.prog 49 [.ptr 0 0, .str key] [] jN 2 2 (.tup []) jN := by
 refine Ctr.introR (T := Tryz.T) Tryz.hT Tryz.hM puC_ok Tryz.func49 rfl (by kernel_rfl) rfl rfl rfl rfl ?_
 conv => whnf
 exact .mk' [] rfl rfl rfl rfl rfl rfl ⟨rfl, rfl, trivial⟩
theorem small_no {s : ByteArray} (h : s.size ≤ 65536) : decide ((65536 : Int) < (s.size : Int)) = false := by simp; omega
theorem jH_ren {L : List KV} {π : Nat → Nat} (h0 : π 0 = 0) (h1 : π 1 = 1) (h2 : π 2 = 2) : renH π (jH L) = jH L := by simp [renH, renR, bare_ren (cellsP_bare L), jH, h0, h1, h2, renL, renA]
theorem rowL_ren' {L : List KV} {t : Nat} {c : Option Nat} {H : Heap} {k : Nat} (π : Nat → Nat) (h : SX.look H (π k) = some (.row t 2 (cellsP L) c)) : SX.look H (π k) = some (renR π (.row t 2 (cellsP L) c)) := by simp only [renR, bare_ren (cellsP_bare L)]; exact h
theorem jset1 {L : List KV} (hs : Srt L) (key v : ByteArray) (hr : (L.length + 1) * 2 ≤ room) (hk : key.size ≤ 65536) (hv : v.size ≤ 65536) (hh : hasL L key = true) :
  Ctr Tryz.prog 27 [.ptr 0 0, .str key, .str v] [] (jH L) 3 3 (.int .i64 0) (jH (setL L key v)) := by
 have hlen : (setL L key v).length = L.length := by rw [setL_length, if_pos hh]
 refine Ctr.introR (T := Tryz.T) Tryz.hT Tryz.hM puC_ok Tryz.func27 rfl (by kernel_rfl) rfl rfl ?_ rfl ?_
 ·rw [List.append_nil]; exact jH_ok L
 conv => whnf
 rw [small_no hk]
 conv => whnf
 rw [small_no hv]
 conv => whnf
 refine callR [0, 1, 2] (jnote1 L key) (post' := jH L) (jH_ren rfl rfl rfl) rfl rfl rfl trivial ⟨rfl, rfl, rowL_ren' _ rfl, trivial⟩ ?_
 conv => whnf
 refine callR [1, 2] (setS1 hs (X := []) rfl key v (by omega) hh) (post' := stH 1 (setL L key v) []) (stH_ren rfl rfl rfl) rfl rfl rfl trivial ⟨rfl, row_ren' rfl _ (by simp only [List.append_nil]; rfl), trivial⟩ ?_
 conv => whnf
 refine .mk' [] rfl rfl rfl (jH_ok _) rfl rfl ⟨rfl, ?_, rowL_ren' _ ?_, trivial⟩
 ·rw [hlen]; simp [stH, hlen]; rfl
 ·simp [stH]; rfl
theorem jset2 {L : List KV} (hs : Srt L) (key v : ByteArray) (hr : (L.length + 1) * 2 ≤ room) (hk : key.size ≤ 65536) (hv : v.size ≤ 65536) (hh : hasL L key = false) :
  Ctr Tryz.prog 27 [.ptr 0 0, .str key, .str v] [] (jH L) 3 4 (.int .i64 0) [(0, .box 96 [.ptr 1 0, .nils]), (1, .box 139 [.sv 3 2 0 (L.length + 1) none]), (2, .gone), (3, .row 26 2 (cellsP (setL L key v)) none)] := by
 refine Ctr.introR (T := Tryz.T) Tryz.hT Tryz.hM puC_ok Tryz.func27 rfl (by kernel_rfl) rfl rfl ?_ rfl ?_
 ·rw [List.append_nil]; exact jH_ok L
 conv => whnf
 rw [small_no hk]
 conv => whnf
 rw [small_no hv]
 conv => whnf
 refine callR [0, 1, 2] (jnote1 L key) (post' := jH L) (jH_ren rfl rfl rfl) rfl rfl rfl trivial ⟨rfl, rfl, rowL_ren' _ rfl, trivial⟩ ?_
 conv => whnf
 refine callR [1, 2] (setS2 hs key v hr hh) (post' := [(1, .box 139 [.sv 3 2 0 (L.length + 1) none]), (2, .gone), (3, .row 26 2 (cellsP (setL L key v)) none)]) ?_ rfl rfl rfl trivial ⟨rfl, row_ren' rfl _ (by simp only [List.append_nil]; rfl), trivial⟩ ?_
 ·simp only [renH, renR, bare_ren (cellsP_bare _)]; rfl
 conv => whnf
 refine .mk' [3] rfl rfl rfl ?_ rfl rfl ⟨rfl, rfl, rfl, rowL_ren' _ rfl, trivial⟩
 simp [okH_all, okR, bare_ok (cellsP_bare _), okL_cons, okL_nil, okA_sv, okA_ptr, okA_nils]
theorem jset0 (key v : ByteArray) (hk : key.size ≤ 65536) (hv : v.size ≤ 65536) :
  Ctr Tryz.prog 27 [.ptr 0 0, .str key, .str v] [] jN 2 3 (.int .i64 0) (jH [(key, v)]) := by
 refine Ctr.introR (T := Tryz.T) Tryz.hT Tryz.hM puC_ok Tryz.func27 rfl (by kernel_rfl) rfl rfl rfl rfl ?_
 conv => whnf
 rw [small_no hk]
 conv => whnf
 rw [small_no hv]
 conv => whnf
 refine callR [0, 1] (jnote0 key) rfl rfl rfl rfl trivial ⟨rfl, rfl, trivial⟩ ?_
 conv => whnf
 refine callR [1] (setN key v) rfl rfl rfl rfl trivial ⟨rfl, trivial⟩ ?_
 conv => whnf
 exact .mk' [2] rfl rfl rfl rfl rfl rfl ⟨rfl, rfl, rfl, trivial⟩
theorem inn1 (H : Heap) (_m : Nat) : renH (inn 1 0) H = H := by
 have e : ∀ k, inn 1 0 k = k := by intro k; cases k <;> simp [inn]; omega
 induction H with
 | nil => rfl
 | cons p l ih => obtain ⟨k, r⟩ := p; simp only [renH, e, renR_id e, ih]
theorem jback0 {L : List KV} {r : AV} (hr : okA 1 r = true) (hi : ∀ π, renA π r = r) : Back (jP L) 1 1 0 r [] r (jH L) :=
 ⟨jH L, id, id, _, .inr rfl, rfl, rfl, rfl, fun _ _ => rfl, rfl, hr, rfl, (hi _).symm, ⟨rfl, rfl, rowL_ren' id rfl, trivial⟩, trivial⟩
theorem jgetP {L : List KV} (hs : Srt L) (key : ByteArray) (hr : L.length * 2 ≤ room) : Ctr Tryz.prog 74 [.ptr 0 0, .str key] [] [(0, jour L)] 1 1 (.tup [.str (getL L key), .bool (hasL L key)]) [(0, jour L)] := by
 refine Ctr.pack (rest := []) (outer := []) (by kernel_rfl) (by decide) (by decide) rfl rfl rfl rfl (fun _ _ h => by simp [lookN] at h) rfl ?_
 rintro H (⟨rfl, rfl⟩ | rfl)
 ·refine ⟨1, _, _, _, rfl, by rw [inn1 _ 0, List.append_nil]; exact jget0 key, ?_⟩
  exact ⟨jN, id, id, _, .inl ⟨rfl, rfl⟩, rfl, rfl, rfl, fun _ _ => rfl, rfl, rfl, rfl, rfl, ⟨rfl, rfl, trivial⟩, trivial⟩
 ·refine ⟨2, _, _, _, jH_ok L, by rw [inn1 _ 0, List.append_nil]; exact jget1 hs key hr, jback0 rfl fun _ => rfl⟩
theorem jsetP {L : List KV} (hs : Srt L) (key v : ByteArray) (hr : (L.length + 1) * 2 ≤ room) (hk : key.size ≤ 65536) (hv : v.size ≤ 65536) :
  Ctr Tryz.prog 27 [.ptr 0 0, .str key, .str v] [] [(0, jour L)] 1 1 (.int .i64 0) [(0, jour (setL L key v))] := by
 refine Ctr.pack (rest := []) (outer := []) (by kernel_rfl) (by decide) (by decide) rfl rfl rfl rfl (fun _ _ h => by simp [lookN] at h) rfl ?_
 rintro H (⟨rfl, rfl⟩ | rfl)
 ·refine ⟨1, _, _, _, rfl, by rw [inn1 _ 0, List.append_nil]; exact jset0 key v hk hv, jback0 rfl fun _ => rfl⟩
 ·cases hh : hasL L key with
  | true => exact ⟨2, _, _, _, jH_ok L, by rw [inn1 _ 0, List.append_nil]; exact jset1 hs key v hr hk hv hh, jback0 rfl fun _ => rfl⟩
  | false =>
   have hlen : (setL L key v).length = L.length + 1 := by rw [setL_length, hh]; simp
   refine ⟨2, _, _, _, jH_ok L, by rw [inn1 _ 0, List.append_nil]; exact jset2 hs key v hr hk hv hh, ?_⟩
   exact ⟨jH (setL L key v), sg [0, 1, 3] 9, id, _, .inr rfl, rfl, rfl, rfl, fun _ _ => rfl, rfl, rfl, rfl, rfl, ⟨rfl, by rw [hlen]; rfl, rowL_ren' _ rfl, trivial⟩, trivial⟩
theorem jsetL {L : List KV} (key v : ByteArray) (hk : 65536 < key.size ∨ 65536 < v.size) :
  Ctr Tryz.prog 27 [.ptr 0 0, .str key, .str v] [] [(0, jour L)] 1 1 (.int .i64 4) [(0, jour L)] := by
 refine Ctr.introR (T := Tryz.T) Tryz.hT Tryz.hM puC_ok Tryz.func27 rfl (by kernel_rfl) rfl rfl rfl rfl ?_
 conv => whnf
 cases h1 : decide ((65536 : Int) < (key.size : Int)) with
 | true =>
  conv => whnf
  exact .mk' [] rfl rfl rfl rfl rfl rfl ⟨rfl, trivial⟩
 | false =>
  have h2 : decide ((65536 : Int) < (v.size : Int)) = true := by simp at h1 ⊢; omega
  conv => whnf
  rw [h2]
  conv => whnf
  exact .mk' [] rfl rfl rfl rfl rfl rfl ⟨rfl, trivial⟩
theorem jnewP : Ctr Tryz.prog 46 [.nilp] [] [] 0 1 (.ptr 0 0) [(0, jour [])] := by
 have h : Ctr Tryz.prog 46 [.nilp] [] [] 0 2 (.ptr 1 0) [(0, .box 139 [.nils]), (1, .box 96 [.ptr 0 0, .nils])] := Tryz.ev_ok 80 (show Tryz.ev 80 46 [.nilp] [] [] 0 = .ok (.ptr 1 0, [(0, .box 139 [.nils]), (1, .box 96 [.ptr 0 0, .nils])], 2) by kernel_rfl)
 refine h.fold (h := 0) (outer := []) (by decide) (by decide) rfl rfl (fun _ _ h => by simp [lookN] at h) ?_ rfl
 exact ⟨jN, sg [1, 0] 9, sg [1] 9, _, .inl ⟨rfl, rfl⟩, rfl, rfl, rfl, fun _ h => absurd h (Nat.not_lt_zero _), rfl, rfl, rfl, rfl, ⟨rfl, rfl, trivial⟩, trivial⟩
noncomputable def puH0_0 : Pure := fun g vs => match Nat.beq g 153, vs with
 | true, [.str a, .str b] => some (.bool (decide (b.size ≤ a.size) && eqB (subB a 0 b.size) b))
 | _, _ => none
theorem puH0_0_ok : PureOK Tryz.prog puH0_0 := by
 intro g vs v h
 unfold puH0_0 at h
 split at h
 ·rename_i a b hg
  cases h
  have hg := Nat.eq_of_beq_eq_true hg
  subst hg
  exact .inl fun n0 => (hpf a b).anyO rfl rfl n0
 ·cases h
noncomputable def puH0 : Pure := (orP puH0_0 puC)
theorem puH0_ok : PureOK Tryz.prog puH0 := (orP_ok puH0_0_ok puC_ok)
theorem hpf2 (a b : ByteArray) : Ctr Tryz.prog 140 [.str a, .str b] [] [] 0 0 (.bool (decide (b.size ≤ a.size) && eqB (subB a 0 b.size) b)) [] := by
 refine Ctr.introR (T := Tryz.T) Tryz.hT Tryz.hM puH0_ok Tryz.func140 rfl (by kernel_rfl) rfl rfl rfl rfl ?_
 conv => whnf
 exact Fin.same rfl rfl (by simp)
noncomputable def puH_0 : Pure := fun g vs => match Nat.beq g 140, vs with
 | true, [.str a, .str b] => some (.bool (decide (b.size ≤ a.size) && eqB (subB a 0 b.size) b))
 | _, _ => none
theorem puH_0_ok : PureOK Tryz.prog puH_0 := by
 intro g vs v h
 unfold puH_0 at h
 split at h
 ·rename_i a b hg
  cases h
  have hg := Nat.eq_of_beq_eq_true hg
  subst hg
  exact .inl fun n0 => (hpf2 a b).anyO rfl rfl n0
 ·cases h
noncomputable def puH : Pure := (orP puH_0 puH0)
theorem puH_ok : PureOK Tryz.prog puH := (orP_ok puH_0_ok puH0_ok)
noncomputable def bgL (h : Nat) : LoopR := recOf Tryz.f124 [(3, .ptr 2 0), (7, .ptr 3 0)] h
theorem subC {H l : Heap} {k : Nat} {r : Res} (h : SX.look H k = some r) (t : SX.Sub l H) : SX.Sub ((k, r) :: l) H := by
 intro j q hl
 rw [look_cons] at hl
 split at hl
 ·rename_i e; subst e; cases hl; exact h
 ·exact t j q hl
theorem posL_empty : ∀ L : List KV, posL L ⟨#[]⟩ = 0
 | [] => rfl
 | p :: l => by
  unfold posL
  rw [if_neg]
  unfold cmpB
  show ¬ cmpA p.1.data.toList [] < 0
  cases p.1.data.toList <;> simp [cmpA]
theorem pfx0 (a : ByteArray) : (decide ((⟨#[]⟩ : ByteArray).size ≤ a.size) && eqB (subB a 0 (⟨#[]⟩ : ByteArray).size) ⟨#[]⟩) = true := by
 have h1 : decide ((⟨#[]⟩ : ByteArray).size ≤ a.size) = true := decide_eq_true (Nat.zero_le _)
 rw [h1]; rfl
theorem bg_round (k v : ByteArray) (i : Nat) (hi : i < 4611686018427387904) : RCtr Tryz.prog 6 [.agg [.str k, .str v]] [] [(6, .loop (bgL 5)), (3, .box 3 [.int .i64 (i : Int)]), (2, .box 9 [.str ⟨#[]⟩])] 8 8 (.bool true)
  [(6, .loop (bgL 5)), (3, .box 3 [.int .i64 ((i + 1 : Nat) : Int)]), (2, .box 9 [.str ⟨#[]⟩])] := by
 refine RCtr.introR (T := Tryz.T) Tryz.hT Tryz.hM puH_ok (L := bgL 5) rfl rfl (by decide) rfl rfl rfl rfl rfl (by decide) rfl ?_
 conv => whnf
 rw [pfx0]
 conv => whnf
 have hw : IntKind.i64.wrap ((i : Int) + 1) = ((i + 1 : Nat) : Int) := by rw [wrap_small] <;> omega
 refine .mk' [] rfl rfl rfl rfl rfl rfl ⟨rfl, ?_, rfl, trivial⟩
 show some (Res.box _ [AV.int _ (IntKind.i64.wrap ((i : Int) + 1))]) = _
 rw [hw]; rfl
theorem values1 (len : Nat) : Ctr Tryz.prog 139 [.sv 0 2 0 len none] [] [] 1 2 (.fn (.func 155) [] [.ptr 1 0]) [(1, .box 27 [.sv 0 2 0 len none])] := by
 refine Ctr.introR (T := Tryz.T) Tryz.hT Tryz.hM puH_ok Tryz.func139 rfl (by kernel_rfl) rfl rfl rfl rfl ?_
 conv => whnf
 exact .mk' [1] rfl rfl rfl rfl rfl rfl ⟨rfl, trivial⟩
noncomputable def bgH (L : List KV) (i : Nat) : Heap := [(6, .loop (bgL 5)), (3, .box 3 [.int .i64 (i : Int)]), (2, .box 9 [.str ⟨#[]⟩]), (4, .box 27 [.sv 1 2 0 L.length none]), (1, .row 26 2 (cellsP L) none)]
theorem bgH_ok (L : List KV) (i n : Nat) (h : 7 ≤ n) : okH n (bgH L i) = true := by
 have e : ∀ k, k < 7 → k < n := fun k hk => by omega
 have e2 : okR n (.loop (bgL 5)) = true := by
  show (okF n [(3, .ptr 2 0), (7, .ptr 3 0)] && Nat.blt 5 n) = true
  simp [okF, okA_ptr, e 2, e 3, e 5]
 have e3 : okR n (.row 26 2 (cellsP L) none) = true := bare_ok (cellsP_bare L)
 rw [okH_all]
 simp only [bgH, List.all_cons, List.all_nil, e2, e3, (show Nat.blt 6 n = true from Nat.ble_eq_true_of_le (e 6 (by omega))), (show Nat.blt 3 n = true from Nat.ble_eq_true_of_le (e 3 (by omega))), (show Nat.blt 2 n = true from Nat.ble_eq_true_of_le (e 2 (by omega))), (show Nat.blt 4 n = true from Nat.ble_eq_true_of_le (e 4 (by omega))), (show Nat.blt 1 n = true from Nat.ble_eq_true_of_le (e 1 (by omega)))]
 simp [okR, okL_cons, okL_nil, okA_sv, okA_int, okA_str, e]
theorem bgH_all {L : List KV} {i : Nat} {H : Heap} {π : Nat → Nat} (h : π 6 = 6 ∧ π 5 = 5 ∧ π 3 = 3 ∧ π 2 = 2 ∧ π 4 = 4 ∧ π 1 = 1) (h6 : SX.look H 6 = some (.loop (bgL 5))) (h3 : SX.look H 3 = some (.box 3 [.int .i64 (i : Int)])) (h2 : SX.look H 2 = some (.box 9 [.str ⟨#[]⟩]))
  (h4 : SX.look H 4 = some (.box 27 [.sv 1 2 0 L.length none])) (h1 : SX.look H 1 = some (.row 26 2 (cellsP L) none)) : HasAll H π (bgH L i) := by
 obtain ⟨e6, e5, e3, e2, e4, e1⟩ := h
 refine ⟨?_, ?_, ?_, ?_, ?_, trivial⟩
 ·rw [e6, h6]
  show _ = some (Res.loop { (bgL 5) with fr := [(3, .ptr (π 2) 0), (7, .ptr (π 3) 0)], dh := π 5 })
  rw [e2, e3, e5]; rfl
 ·rw [e3, h3]; rfl
 ·rw [e2, h2]; rfl
 ·rw [e4, h4]
  show _ = some (Res.box _ [AV.sv (π 1) 2 0 L.length none])
  rw [e1]
 ·rw [e1, h1, renR, bare_ren (cellsP_bare L)]
theorem vals {L : List KV} (hr : L.length * 2 ≤ room) : Ctr Tryz.prog 155 [.yld 6, .ptr 4 0] [] (bgH L 0) 7 7 (.tup []) (bgH L L.length) := by
 refine Ctr.introR (T := Tryz.T) Tryz.hT Tryz.hM puH_ok Tryz.func155 rfl (by kernel_rfl) rfl rfl ?_ rfl ?_
 ·rw [List.append_nil]; exact bgH_ok L 0 7 (by omega)
 conv => whnf
 refine loopR Tryz.hT Tryz.hM puH_ok (α := {i : Nat // i ≤ L.length})
  (fun i => ([(0, .yld 6), (1, .ptr 4 0), (5, .sv 1 2 0 L.length none), (6, .int .i64 ((L.length : Nat) : Int)), (7, .int .i64 ((i.1 : Nat) : Int))], bgH L i.1)) (fun i => L.length - i.1) 7 ⟨0, Nat.zero_le _⟩ [] ?_ ?_
 ·refine ⟨⟨rfl, rfl, rfl, rfl, rfl, trivial⟩, bgH_all ⟨rfl, rfl, rfl, rfl, rfl, rfl⟩ rfl rfl rfl rfl rfl, ?_, rfl⟩
  simp only [bgH_ok L 0 7 (by omega)]; rfl
 ·rintro ⟨i, hi⟩
  dsimp only at hi ⊢
  conv => whnf
  refine bcase_intro (fun h => ?_) (fun h => ?_)
  ·have h : i < L.length := by simpa using h
   conv => whnf
   simp only [Int.toNat_natCast, Nat.zero_add]
   refine ⟨by omega, ?_⟩
   conv => whnf
   have hrd : readA true 2 (cellsP L) (i * 2 + 0) = some (.agg [.str L[i].1, .str L[i].2]) := by have := readP (X := []) h; rwa [List.append_nil] at this
   rw [hrd]
   conv => whnf
   refine yieldR (bg_round L[i].1 L[i].2 i (by unfold room at hr; omega)) sub_nil ?_ ?_
   ·exact subC rfl (subC rfl (subC rfl sub_nil))
   conv => whnf
   have hw : IntKind.i64.wrap ((i : Int) + 1) = ((i + 1 : Nat) : Int) := by rw [wrap_small] <;> (unfold room at hr; omega)
   refine ⟨⟨i + 1, by omega⟩, [], by dsimp only; omega, ⟨⟨rfl, rfl, rfl, rfl, by rw [← hw]; rfl, trivial⟩, bgH_all ⟨rfl, rfl, rfl, rfl, rfl, rfl⟩ rfl rfl rfl rfl rfl, ?_, rfl⟩⟩
   simp only [bgH_ok L (i + 1) 7 (by omega)]; rfl
  ·have h : i = L.length := by simp at h; omega
   subst h
   conv => whnf
   exact Fin.same (bgH_ok L _ 7 (by omega)) rfl (by simp [lookC, bgH])
theorem clone1 {L : List KV} (hr : L.length * 2 ≤ room) (h0 : 0 < L.length) : Ctr Tryz.prog 113 [.sv 0 2 0 L.length none] [] [(0, .row 26 2 (cellsP L) none)] 1 2 (.sv 1 2 0 L.length none) [(0, .row 26 2 (cellsP L) none), (1, .row 26 2 (cellsP L) none)] := by
 refine Ctr.introR (T := Tryz.T) Tryz.hT Tryz.hM puH_ok Tryz.func113 rfl (by kernel_rfl) rfl rfl ?_ rfl ?_
 ·simp [okH_all, okR, bare_ok (cellsP_bare L)]
 conv => whnf
 dsimp only
 rw [readsA_row (by rw [cellsP_len, Nat.zero_mul, Nat.zero_add]; exact Nat.le_refl _)]
 have e1 : (List.take (L.length * 2) (List.drop (0 * 2) (cellsP L))) = cellsP L := by rw [Nat.zero_mul, List.drop_zero, List.take_of_length_le (by rw [cellsP_len]; exact Nat.le_refl _)]
 rw [e1]
 have e2 : (cellsP L).all leafA = true := bare_leaf (cellsP_bare L)
 conv => whnf
 rw [e2]
 conv => whnf
 have e3 : Nat.beq L.length 0 = false := by
  cases h : L.length with
  | zero => omega
  | succ k => rfl
 rw [e3]
 conv => whnf
 have e4 : (0 + L.length).ble 0 = false := by
  rw [Nat.zero_add]
  cases h : L.length with
  | zero => omega
  | succ k => rfl
 rw [e4]
 conv => whnf
 refine ⟨by simpa using hr, ?_⟩
 conv => whnf
 rw [spine_rec, show (List.take (0 * 2) (List.drop (0 * 2) ([] : List AV)) ++ cellsP L) = cellsP L from rfl]
 conv => whnf
 simp only [Nat.zero_add]
 refine .mk' [2] rfl rfl rfl ?_ rfl rfl ⟨rowL_ren' _ rfl, rowL_ren' _ rfl, trivial⟩
 simp [okH_all, okR, bare_ok (cellsP_bare L)]
theorem clone0 : Ctr Tryz.prog 113 [.sv 0 2 0 0 none] [] [(0, .row 26 2 [] none)] 1 2 (.sv 1 2 0 0 (some 0)) [(0, .row 26 2 [] none), (1, .row 26 2 [] (some 0))] := by
 refine Ctr.introR (T := Tryz.T) Tryz.hT Tryz.hM puH_ok Tryz.func113 rfl (by kernel_rfl) rfl rfl rfl rfl ?_
 conv => whnf
 exact .mk' [1] rfl rfl rfl rfl rfl rfl ⟨rfl, rfl, trivial⟩
theorem begins1 {L : List KV} (hs : Srt L) (hr : L.length * 2 ≤ room) (hl : 0 < L.length) : Ctr Tryz.prog 124 [.ptr 0 0, .str ⟨#[]⟩] [] (stH 0 L []) 2 3 (.sv 2 2 0 L.length none) [(0, .box 139 [.sv 1 2 0 L.length none]), (1, .row 26 2 (cellsP L) none), (2, .row 26 2 (cellsP L) none)] := by
 refine Ctr.introM (T := Tryz.T) Tryz.hT Tryz.hM puH_ok Tryz.func124 rfl (by kernel_rfl) rfl rfl ?_ rfl ?_
 ·rw [List.append_nil]; exact stH_ok rfl 0 2 (by omega)
 conv => whnf
 refine scopeR Tryz.hT Tryz.hM puH_ok 0 ?_
 conv => whnf
 refine callR [0, 1] (atS hs rfl ⟨#[]⟩ hr) (post' := stH 0 L []) (stH_ren rfl rfl rfl) rfl rfl rfl trivial ⟨rfl, row_ren' rfl _ rfl, trivial⟩ ?_
 conv => whnf
 rw [posL_empty]
 refine ⟨by simp [capE], ?_⟩
 conv => whnf
 refine callR [1] (values1 L.length) rfl rfl rfl rfl trivial trivial ?_
 conv => whnf
 refine rangeA (fr0 := [(3, .ptr 2 0), (7, .ptr 3 0)]) rfl ?_ (vals hr) sub_nil ?_ ?_
 ·intro t v hl
  rw [look_cons] at hl
  split at hl
  ·rename_i e; subst e; cases hl; rfl
  ·rw [look_cons] at hl
   split at hl
   ·rename_i e; subst e; cases hl; rfl
   ·simp [lookN] at hl
 ·refine subC rfl (subC rfl (subC rfl (subC rfl (subC ?_ sub_nil))))
  simp only [stH, List.append_nil]; rfl
 conv => whnf
 refine ⟨by simp [capE], ?_⟩
 conv => whnf
 refine callR [1] (clone1 hr hl) (post' := [(1, .row 26 2 (cellsP L) none), (7, .row 26 2 (cellsP L) none)]) ?_ rfl rfl rfl trivial ⟨rowL_ren' _ rfl, trivial⟩ ?_
 ·simp only [renH, renR, bare_ren (cellsP_bare _)]; rfl
 conv => whnf
 refine .mk' [7] rfl rfl rfl ?_ rfl rfl ⟨?_, rowL_ren' _ rfl, rowL_ren' _ rfl, trivial⟩
 ·simp [okH_all, okR, bare_ok (cellsP_bare _), okL_cons, okL_nil, okA_sv]
 ·simp only [stH]; rfl
theorem begins0 : Ctr Tryz.prog 124 [.ptr 0 0, .str ⟨#[]⟩] [] (stH 0 [] []) 2 3 (.sv 2 2 0 0 (some 0)) [(0, .box 139 [.sv 1 2 0 0 none]), (1, .row 26 2 ([]) none), (2, .row 26 2 [] (some 0))] := by
 refine Ctr.introM (T := Tryz.T) Tryz.hT Tryz.hM puH_ok Tryz.func124 rfl (by kernel_rfl) rfl rfl ?_ rfl ?_
 ·rw [List.append_nil]; exact stH_ok rfl 0 2 (by omega)
 conv => whnf
 refine scopeR Tryz.hT Tryz.hM puH_ok 0 ?_
 conv => whnf
 refine callR [0, 1] (atS (L := []) srt_nil rfl ⟨#[]⟩ (by decide)) (post' := stH 0 [] []) (stH_ren rfl rfl rfl) rfl rfl rfl trivial ⟨rfl, rfl, trivial⟩ ?_
 conv => whnf
 rw [posL_empty]
 refine ⟨by simp [capE], ?_⟩
 conv => whnf
 refine callR [1] (values1 0) rfl rfl rfl rfl trivial trivial ?_
 conv => whnf
 refine rangeA (fr0 := [(3, .ptr 2 0), (7, .ptr 3 0)]) rfl ?_ (vals (L := []) (by decide)) sub_nil ?_ ?_
 ·intro t v hl
  rw [look_cons] at hl
  split at hl
  ·rename_i e; subst e; cases hl; rfl
  ·rw [look_cons] at hl
   split at hl
   ·rename_i e; subst e; cases hl; rfl
   ·simp [lookN] at hl
 ·refine subC rfl (subC rfl (subC rfl (subC rfl (subC ?_ sub_nil))))
  rfl
 conv => whnf
 refine ⟨by simp [capE], ?_⟩
 conv => whnf
 refine callR [1] clone0 (post' := [(1, .row 26 2 [] none), (7, .row 26 2 [] (some 0))]) ?_ rfl rfl rfl trivial ⟨rfl, trivial⟩ ?_
 ·rfl
 conv => whnf
 refine .mk' [7] rfl rfl rfl ?_ rfl rfl ⟨?_, rfl, rfl, trivial⟩
 ·rfl
 ·rfl
theorem slist1 {L : List KV} (hs : Srt L) (hr : L.length * 2 ≤ room) (hl : 0 < L.length) : Ctr Tryz.prog 84 [.ptr 0 0] [] (stH 0 L []) 2 3 (.sv 2 2 0 L.length none) [(0, .box 139 [.sv 1 2 0 L.length none]), (1, .row 26 2 (cellsP L) none), (2, .row 26 2 (cellsP L) none)] := by
 refine Ctr.introR (T := Tryz.T) Tryz.hT Tryz.hM puH_ok Tryz.func84 rfl (by kernel_rfl) rfl rfl ?_ rfl ?_
 ·rw [List.append_nil]; exact stH_ok rfl 0 2 (by omega)
 conv => whnf
 refine callR [0, 1] (begins1 hs hr hl) (post' := [(0, .box 139 [.sv 1 2 0 L.length none]), (1, .row 26 2 (cellsP L) none), (2, .row 26 2 (cellsP L) none)]) ?_ rfl rfl rfl trivial ⟨rfl, row_ren' rfl _ rfl, trivial⟩ ?_
 ·simp only [renH, renR, bare_ren (cellsP_bare _)]; rfl
 conv => whnf
 refine .mk' [2] rfl rfl rfl ?_ rfl rfl ⟨rfl, rowL_ren' _ rfl, rowL_ren' _ rfl, trivial⟩
 simp [okH_all, okR, bare_ok (cellsP_bare _), okL_cons, okL_nil, okA_sv]
theorem slist0 : Ctr Tryz.prog 84 [.ptr 0 0] [] (stH 0 [] []) 2 3 (.sv 2 2 0 0 (some 0)) [(0, .box 139 [.sv 1 2 0 0 none]), (1, .row 26 2 [] none), (2, .row 26 2 [] (some 0))] := by
 refine Ctr.introR (T := Tryz.T) Tryz.hT Tryz.hM puH_ok Tryz.func84 rfl (by kernel_rfl) rfl rfl rfl rfl ?_
 conv => whnf
 refine callR [0, 1] begins0 rfl rfl rfl rfl trivial ⟨rfl, rfl, trivial⟩ ?_
 conv => whnf
 exact .mk' [2] rfl rfl rfl rfl rfl rfl ⟨rfl, rfl, rfl, trivial⟩
theorem jlist1 {L : List KV} (hs : Srt L) (hr : L.length * 2 ≤ room) (hl : 0 < L.length) : Ctr Tryz.prog 52 [.ptr 0 0] [] (jH L) 3 4 (.sv 3 2 0 L.length none) (jH L ++ [(3, .row 26 2 (cellsP L) none)]) := by
 refine Ctr.introR (T := Tryz.T) Tryz.hT Tryz.hM puH_ok Tryz.func52 rfl (by kernel_rfl) rfl rfl ?_ rfl ?_
 ·rw [List.append_nil]; exact jH_ok L
 conv => whnf
 refine callR [1, 2] (slist1 hs hr hl) (post' := [(1, .box 139 [.sv 2 2 0 L.length none]), (2, .row 26 2 (cellsP L) none), (3, .row 26 2 (cellsP L) none)]) ?_ rfl rfl rfl trivial ⟨rfl, row_ren' rfl _ (by simp only [List.append_nil]; rfl), trivial⟩ ?_
 ·simp only [renH, renR, bare_ren (cellsP_bare _)]; rfl
 conv => whnf
 refine .mk' [3] rfl rfl rfl ?_ rfl rfl ⟨rfl, rfl, rowL_ren' _ rfl, rowL_ren' _ rfl, trivial⟩
 simp [jH, okH_all, okR, bare_ok (cellsP_bare _), okL_cons, okL_nil, okA_sv, okA_ptr, okA_nils]
theorem jlist0 : Ctr Tryz.prog 52 [.ptr 0 0] [] (jH []) 3 4 (.sv 3 2 0 0 (some 0)) (jH [] ++ [(3, .row 26 2 [] (some 0))]) := by
 refine Ctr.introR (T := Tryz.T) Tryz.hT Tryz.hM puH_ok Tryz.func52 rfl (by kernel_rfl) rfl rfl rfl rfl ?_
 conv => whnf
 refine callR [1, 2] slist0 rfl rfl rfl rfl trivial ⟨rfl, rfl, trivial⟩ ?_
 conv => whnf
 exact .mk' [3] rfl rfl rfl rfl rfl rfl ⟨rfl, rfl, rfl, rfl, trivial⟩
def cellF (L : List KV) (i j : Nat) : AV := ((cellsP L)[i * 2 + j]?).getD .nilp
def lstP (L : List KV) : Res := .abs (lst none L.length 2 (cellF L))
theorem one_id {τ : Nat → Nat} (h : τ 0 = 0) : ∀ k, k < 1 → τ k = k := by
 intro k hk
 obtain rfl : k = 0 := by omega
 exact h
theorem jH_keep {L : List KV} {k : Nat} {q0 : Res} {l : Heap} (h : 3 ≤ k) : ∀ j q, SX.look (jH L) j = some q → (q = .gone ∧ ∃ q0, SX.look (jH L ++ l) j = some q0) ∨ (j ≠ k ∧ SX.look (jH L ++ l) j = some q) := by
 have _ := q0
 intro j q hl
 refine .inr ⟨?_, by rw [look_append, hl]; rfl⟩
 have := (okH_look (jH_ok L) hl).1
 omega
theorem jlistP {L : List KV} (hs : Srt L) (hr : L.length * 2 ≤ room) : Ctr Tryz.prog 52 [.ptr 0 0] [] [(0, jour L)] 1 2 (.sl 1 L.length) [(0, jour L), (1, lstP L)] := by
 refine Ctr.pack (rest := []) (outer := [(1, lstP L)]) (by kernel_rfl) (by decide) (by decide) rfl rfl rfl rfl (fun _ _ h => by simp [lookN] at h) rfl ?_
 rintro H (⟨rfl, rfl⟩ | rfl)
 ·have h0 : Ctr Tryz.prog 52 [.ptr 0 0] [] jN 2 7 .nils [(1, .box 139 [.nils]), (0, .box 96 [.ptr 1 0, .nils])] :=
   Tryz.ev_ok 80 (show Tryz.ev 80 52 [.ptr 0 0] [(0, .box 96 [.ptr 1 0, .nils]), (1, .box 139 [.nils])] [] 2 = .ok (.nils, [(1, .box 139 [.nils]), (0, .box 96 [.ptr 1 0, .nils])], 7) by kernel_rfl)
  have c := h0.asLst (post' := [(1, .box 139 [.nils]), (0, .box 96 [.ptr 1 0, .nils])]) (len := 0) (z := 2) (k := 6) (cell := cellF []) (fun env' F' w' x _ hx => by
   simp only [Den] at hx
   exact ⟨fun _ => False, ⟨none, 0, hx, Nat.le_refl _, .inl ⟨rfl, fun _ h => h⟩⟩, fun _ h => h.elim⟩) (fun j q hl => .inr ⟨by
    rw [look_cons] at hl
    split at hl
    ·omega
    ·rw [look_cons] at hl
     split at hl
     ·omega
     ·simp [lookN] at hl, hl⟩) rfl
  exact ⟨1, _, _, _, rfl, by rw [inn1 _ 0, List.append_nil]; exact c, jN, id, sg [0, 7] 9, _, .inl ⟨rfl, rfl⟩, rfl, rfl, rfl, one_id rfl, rfl, rfl, rfl, rfl, ⟨rfl, rfl, trivial⟩, ⟨rfl, trivial⟩⟩
 ·rcases Nat.eq_zero_or_pos L.length with h0 | h0
  ·have : L = [] := List.length_eq_zero_iff.1 h0
   subst this
   have c := jlist0.asLst (post' := jH []) (len := 0) (z := 2) (k := 3) (cell := cellF []) (fun env' F' w' x hs hx => row_reads hs (k := 3) (e := 26) (rc := some 0) (cs := []) rfl hx rfl (Nat.le_refl _) (by decide)) (jH_keep (q0 := .gone) (by decide)) rfl
   exact ⟨2, _, _, _, jH_ok [], by rw [inn1 _ 0, List.append_nil]; exact c, jH [], id, sg [0, 4] 9, _, .inr rfl, rfl, rfl, rfl, one_id rfl, rfl, rfl, rfl, rfl, ⟨rfl, rfl, rfl, trivial⟩, ⟨rfl, trivial⟩⟩
  ·have c := (jlist1 hs hr h0).asLst (post' := jH L) (len := L.length) (z := 2) (k := 3) (cell := cellF L) (fun env' F' w' x hs hx => row_reads hs (k := 3) (e := 26) (rc := none) (by simp [lookC, jH]) hx (cellsP_bare L) (by rw [cellsP_len]; exact Nat.le_refl _) (by decide)) (jH_keep (q0 := .gone) (by decide)) rfl
   exact ⟨2, _, _, _, jH_ok L, by rw [inn1 _ 0, List.append_nil]; exact c, jH L, id, sg [0, 4] 9, _, .inr rfl, rfl, rfl, rfl, one_id rfl, rfl, rfl, rfl, rfl, ⟨rfl, rfl, rowL_ren' id rfl, trivial⟩, ⟨rfl, trivial⟩⟩
theorem cnum (x : Int) : Ctr Tryz.prog 79 [.int .i64 x] [] [] 0 0 (.str (numS x)) [] := by
 refine Ctr.introR (T := Tryz.T) Tryz.hT Tryz.hM puZ_ok Tryz.func79 rfl (by kernel_rfl) rfl rfl rfl rfl ?_
 conv => whnf
 exact Fin.same rfl rfl (by simp)
theorem ctext (s : ByteArray) : Ctr Tryz.prog 120 [.str s] [] [] 0 0 (.str (textS s)) [] := by
 refine Ctr.introR (T := Tryz.T) Tryz.hT Tryz.hM puZ_ok Tryz.func120 rfl (by kernel_rfl) rfl rfl rfl rfl ?_
 conv => whnf
 exact Fin.same rfl rfl (by simp)
noncomputable def puCl_0 : Pure := fun g vs => match Nat.beq g 79, vs with
 | true, [.int .i64 x] => some (.str (numS x))
 | _, _ => none
theorem puCl_0_ok : PureOK Tryz.prog puCl_0 := by
 intro g vs v h
 unfold puCl_0 at h
 split at h
 ·rename_i x hg
  cases h
  have hg := Nat.eq_of_beq_eq_true hg
  subst hg
  exact .inl fun n0 => (cnum x).anyO rfl rfl n0
 ·cases h
noncomputable def puCl_1 : Pure := fun g vs => match Nat.beq g 120, vs with
 | true, [.str s] => some (.str (textS s))
 | _, _ => none
theorem puCl_1_ok : PureOK Tryz.prog puCl_1 := by
 intro g vs v h
 unfold puCl_1 at h
 split at h
 ·rename_i s hg
  cases h
  have hg := Nat.eq_of_beq_eq_true hg
  subst hg
  exact .inl fun n0 => (ctext s).anyO rfl rfl n0
 ·cases h
noncomputable def puCl : Pure := (orP puCl_1 (orP puCl_0 puZ))
theorem puCl_ok : PureOK Tryz.prog puCl := (orP_ok puCl_1_ok (orP_ok puCl_0_ok puZ_ok))
def clientW : ByteArray := ⟨#[99, 108, 105, 101, 110, 116]⟩
def nextW : ByteArray := ⟨#[110, 101, 120, 116]⟩
theorem ckey (id : ByteArray) (h : id.size ≤ 140737488355328) : Ctr Tryz.prog 119 [.str id] [] [] 0 0 (.str (joinB clientW [id])) [] := by
 refine Ctr.shut (m := 0) (k := 1) ?_ rfl rfl
 refine Ctr.introR (T := Tryz.T) Tryz.hT Tryz.hM puCl_ok Tryz.func119 rfl (by kernel_rfl) rfl rfl rfl rfl ?_
 conv => whnf
 refine callR [0] (join1 clientW [id] (by decide) (fun s hs => by simp only [List.mem_cons, List.not_mem_nil, or_false] at hs; subst hs; exact h) (by simp)) rfl rfl rfl rfl trivial ⟨rfl, trivial⟩ ?_
 conv => whnf
 exact Fin.same rfl rfl (by simp)
def clientV (chain key : ByteArray) (h : Int) (frozen : Int) : ByteArray := catB (catB (catB (textS chain) (textS key)) (numS h)) (numS frozen)
theorem cput {L : List KV} (hs : Srt L) (hr : (L.length + 1) * 2 ≤ room) (id chain key : ByteArray) (h : Int) (hid : id.size ≤ 140737488355328) (hk : (joinB clientW [id]).size ≤ 65536) (hv : (clientV chain key h 0).size ≤ 65536) :
  Ctr Tryz.prog 80 [.ptr 0 0, .str id, .agg [.str chain, .str key, .int .i64 h, .bool false]] [] [(0, jour L)] 1 1 (.tup []) [(0, jour (setL L (joinB clientW [id]) (clientV chain key h 0)))] := by
 have h1 := textS_size chain; have h2 := textS_size key; have h3 := numS_size h; have h4 := numS_size 0
 refine Ctr.introR (T := Tryz.T) Tryz.hT Tryz.hM puCl_ok Tryz.func80 rfl (by kernel_rfl) rfl rfl rfl rfl ?_
 conv => whnf
 refine callR [] (ckey id hid) rfl rfl rfl rfl trivial trivial ?_
 conv => whnf
 refine ⟨by unfold big; omega, ?_⟩
 conv => whnf
 refine ⟨by rw [cat_size]; unfold big; omega, ?_⟩
 conv => whnf
 refine ⟨by rw [cat_size, cat_size]; unfold big; omega, ?_⟩
 conv => whnf
 refine callR [0] (jsetP hs (joinB clientW [id]) (clientV chain key h 0) hr hk hv) rfl rfl rfl rfl trivial ⟨rfl, trivial⟩ ?_
 conv => whnf
 exact .mk' [] rfl rfl rfl rfl rfl rfl ⟨rfl, trivial⟩
theorem rdNew : Ctr Tryz.prog 75 [.str ⟨#[]⟩] [] [] 0 1 (.ptr 0 0) [(0, .box 174 [.str ⟨⟨[]⟩⟩, .int .i64 (.ofNat 0)])] :=
 Tryz.ev_ok 80 (show Tryz.ev 80 75 [.str ⟨#[]⟩] [] [] 0 = .ok (.ptr 0 0, [(0, .box 174 [.str ⟨⟨[]⟩⟩, .int .i64 (.ofNat 0)])], 1) by kernel_rfl)
theorem rdNum : Ctr Tryz.prog 76 [.ptr 0 0] [] [(0, .box 174 [.str ⟨⟨[]⟩⟩, .int .i64 (.ofNat 0)])] 1 1 (.int .i64 (.ofNat 0)) [(0, .box 174 [.str ⟨⟨[]⟩⟩, .int .i64 (.ofNat 5)])] :=
 Tryz.ev_ok 80 (show Tryz.ev 80 76 [.ptr 0 0] [(0, .box 174 [.str ⟨⟨[]⟩⟩, .int .i64 (.ofNat 0)])] [] 1 = .ok (.int .i64 (.ofNat 0), [(0, .box 174 [.str ⟨⟨[]⟩⟩, .int .i64 (.ofNat 5)])], 1) by kernel_rfl)
theorem rdDone : Ctr Tryz.prog 77 [.ptr 0 0] [] [(0, .box 174 [.str ⟨⟨[]⟩⟩, .int .i64 (.ofNat 5)])] 1 1 (.int .i64 (.ofNat 5)) [(0, .box 174 [.str ⟨⟨[]⟩⟩, .int .i64 (.ofNat 5)])] :=
 Tryz.ev_ok 80 (show Tryz.ev 80 77 [.ptr 0 0] [(0, .box 174 [.str ⟨⟨[]⟩⟩, .int .i64 (.ofNat 5)])] [] 1 = .ok (.int .i64 (.ofNat 5), [(0, .box 174 [.str ⟨⟨[]⟩⟩, .int .i64 (.ofNat 5)])], 1) by kernel_rfl)
def client0 : ByteArray := ⟨#[99, 108, 105, 101, 110, 116, 45, 48]⟩
theorem mk0 : Ctr Tryz.prog 78 [.int .i64 3, .int .i64 0] [] [] 0 0 (.tup [.str client0, .int .i64 0]) [] := Ctr.shut (m := 0) (k := 1) (Tryz.ev_ok 80 (show Tryz.ev 80 78 [.int .i64 3, .int .i64 0] [] [] 0 = .ok (.tup [.str client0, .int .i64 0], [], 1) by kernel_rfl)) rfl rfl
theorem cnew {chain key : ByteArray} (hc : plainB chain = true) (hk : key.size ≤ 100) (hv : (clientV chain key 0 0).size ≤ 65536) :
  Ctr Tryz.prog 47 [.ptr 0 0, .str chain, .str key] [] [(0, jour [])] 1 1 (.tup [.str client0, .int .i64 0]) [(0, jour (setL (setL [] (joinB nextW [clientW]) (numS 1)) (joinB clientW [client0]) (clientV chain key 0 0)))] := by
 have hsz : chain.size ≤ 64 := by
  unfold plainB at hc
  simp only [Bool.and_eq_true, decide_eq_true_eq] at hc
  exact hc.1.2
 refine Ctr.introR (T := Tryz.T) Tryz.hT Tryz.hM puCl_ok Tryz.func47 rfl (by kernel_rfl) rfl rfl rfl rfl ?_
 conv => whnf
 refine callR [] (check1 chain (by omega)) rfl rfl rfl rfl trivial trivial ?_
 rw [show nameE chain = 0 by simp [nameE, hc]]
 conv => whnf
 rw [show decide ((65536 : Int) < (key.size : Int)) = false by simp; omega]
 conv => whnf
 refine callR [1] (join1 nextW [clientW] (by decide) (fun s hs => by simp only [List.mem_cons, List.not_mem_nil, or_false] at hs; subst hs; decide) (by simp)) rfl rfl rfl rfl trivial ⟨rfl, trivial⟩ ?_
 conv => whnf
 refine callR [0] (jgetP srt_nil (joinB nextW [clientW]) (by decide)) rfl rfl rfl rfl trivial ⟨rfl, trivial⟩ ?_
 rw [show getL [] (joinB nextW [clientW]) = ⟨#[]⟩ from rfl]
 conv => whnf
 refine callR [] rdNew rfl rfl rfl rfl trivial trivial ?_
 conv => whnf
 refine callR [2] rdNum rfl rfl rfl rfl trivial ⟨rfl, trivial⟩ ?_
 conv => whnf
 refine callR [2] rdDone rfl rfl rfl rfl trivial ⟨rfl, trivial⟩ ?_
 conv => whnf
 refine callR [] mk0 rfl rfl rfl rfl trivial trivial ?_
 conv => whnf
 refine callR [0] (jsetP srt_nil (joinB nextW [clientW]) (numS 1) (by decide) (by decide) (by have := numS_size 1; omega)) rfl rfl rfl rfl trivial ⟨rfl, trivial⟩ ?_
 conv => whnf
 refine callR [0] (cput (setL_srt srt_nil _ _) (by decide) client0 chain key 0 (by decide) (by decide) hv) rfl rfl rfl rfl trivial ⟨rfl, trivial⟩ ?_
 conv => whnf
 exact .mk' [] rfl rfl rfl rfl rfl rfl ⟨rfl, trivial⟩
def adminW : ByteArray := ⟨#[97, 100, 109, 105, 110]⟩
theorem plain_sz {s : ByteArray} (hc : plainB s = true) : s.size ≤ 64 := by
 unfold plainB at hc
 simp only [Bool.and_eq_true, decide_eq_true_eq] at hc
 exact hc.1.2
theorem name_ok {s : ByteArray} (hc : plainB s = true) : nameE s = 0 := by simp [nameE, hc]
theorem setadm {L : List KV} (hs : Srt L) (hr : (L.length + 1) * 2 ≤ room) {who : ByteArray} (hw : plainB who = true) : Ctr Tryz.prog 48 [.ptr 0 0, .str who] [] [(0, jour L)] 1 1 (.int .i64 0) [(0, jour (setL L adminW who))] := by
 have hsz := plain_sz hw
 refine Ctr.introR (T := Tryz.T) Tryz.hT Tryz.hM puCl_ok Tryz.func48 rfl (by kernel_rfl) rfl rfl rfl rfl ?_
 conv => whnf
 refine callR [] (check1 who (by omega)) rfl rfl rfl rfl trivial trivial ?_
 rw [name_ok hw]
 conv => whnf
 refine callR [0] (jsetP hs adminW who hr (by decide) (by omega)) rfl rfl rfl rfl trivial ⟨rfl, trivial⟩ ?_
 conv => whnf
 exact .mk' [] rfl rfl rfl rfl rfl rfl ⟨rfl, trivial⟩
def keyofW : ByteArray := ⟨#[107, 101, 121, 32, 111, 102, 32]⟩
def chainL (other admin : ByteArray) : List KV := setL (setL (setL [] (joinB nextW [clientW]) (numS 1)) (joinB clientW [client0]) (clientV other (catB keyofW other) 0 0)) adminW admin
theorem textS_small (s : ByteArray) : (textS s).size ≤ 8 + s.size := by
 unfold textS
 split
 ·show 0 ≤ _; omega
 ·rw [cat_size]; have := numS_size s.size; omega
theorem clientV_small {other : ByteArray} (h : other.size ≤ 64) : (clientV other (catB keyofW other) 0 0).size ≤ 65536 := by
 have a := textS_small other; have b := textS_small (catB keyofW other); have c := numS_size 0
 rw [cat_size] at b
 have d : keyofW.size = 7 := rfl
 unfold clientV; rw [cat_size, cat_size, cat_size]; omega
theorem chn {name other admin : ByteArray} (c1 : plainB name = true) (c2 : plainB other = true) (c3 : plainB admin = true) (h4 : eqB name other = false) : Ctr Tryz.prog 25 [.str name, .str other, .str admin] [] [] 0 2 (.tup [.ptr 0 0, .int .i64 0]) [(0, .box 81 [.str name, .ptr 1 0, .nils, .int .i64 0, .nils, .nils]), (1, jour (chainL other admin))] := by
 have h1 := plain_sz c1; have h2 := plain_sz c2; have h3 := plain_sz c3
 refine Ctr.introR (T := Tryz.T) Tryz.hT Tryz.hM puCl_ok Tryz.func25 rfl (by kernel_rfl) rfl rfl rfl rfl ?_
 conv => whnf
 refine unrollR Tryz.hT Tryz.hM puCl_ok 4 ?_
 conv => whnf
 refine ⟨by decide, ?_⟩
 conv => whnf
 refine callR [] (check1 name (by omega)) rfl rfl rfl rfl trivial trivial ?_
 rw [name_ok c1]
 conv => whnf
 refine ⟨by decide, ?_⟩
 conv => whnf
 refine callR [] (check1 other (by omega)) rfl rfl rfl rfl trivial trivial ?_
 rw [name_ok c2]
 conv => whnf
 refine ⟨by decide, ?_⟩
 conv => whnf
 refine callR [] (check1 admin (by omega)) rfl rfl rfl rfl trivial trivial ?_
 rw [name_ok c3]
 conv => whnf
 rw [h4]
 conv => whnf
 refine callR [] jnewP rfl rfl rfl rfl trivial trivial ?_
 conv => whnf
 refine ⟨by unfold big; have : keyofW.size = 7 := rfl; show 7 + other.size ≤ _; omega, ?_⟩
 conv => whnf
 refine callR [1] (cnew (chain := other) (key := catB keyofW other) c2 (by rw [cat_size]; have : keyofW.size = 7 := rfl; omega) (clientV_small h2)) rfl rfl rfl rfl trivial ⟨rfl, trivial⟩ ?_
 conv => whnf
 refine callR [1] (setadm (setL_srt (setL_srt srt_nil _ _) _ _) (by
  have a := setL_le (setL [] (joinB nextW [clientW]) (numS 1)) (joinB clientW [client0]) (clientV other (catB keyofW other) 0 0)
  have b := setL_le [] (joinB nextW [clientW]) (numS 1)
  simp only [List.length_nil] at b
  unfold room; omega) c3) rfl rfl rfl rfl trivial ⟨rfl, trivial⟩ ?_
 conv => whnf
 exact .mk' [2, 1] rfl rfl rfl rfl rfl rfl ⟨rfl, rfl, trivial⟩
def byA (l : List UInt8) : List AV := l.map fun b => .int .u8 (b.toNat : Int)
theorem byA_bare (l : List UInt8) : (byA l).all bareA = true := by simp [byA, bareA]
theorem byA_len (l : List UInt8) : (byA l).length = l.length := by simp [byA]
theorem subB_to (s : ByteArray) (a : Nat) : subB s a s.size = ⟨⟨s.data.toList.drop a⟩⟩ := by
 have : (s.data.toList.drop a).take (s.size - a) = s.data.toList.drop a := List.take_of_length_le (by rw [List.length_drop]; exact Nat.le_refl _)
 unfold subB; rw [this]
theorem shaRegs : Ctr Tryz.prog 141 [] [] [] 0 0 (.agg (mkW firstR.l)) [] := Ctr.shut (m := 0) (k := 1) (Tryz.ev_ok 80 (show Tryz.ev 80 141 [] [] [] 0 = .ok (.agg (mkW firstR.l), [], 1) by kernel_rfl)) rfl rfl
theorem repA_byte (k : Nat) : repA k 1 [AV.int IntKind.u8 0] = byA (List.replicate k 0) := by
 simp only [repA, byA, List.map_replicate, Nat.mul_one]
 apply List.ext_getElem (by simp)
 intro i h1 h2
 simp only [List.getElem_map, Nat.mod_one, List.getElem_replicate]
 rfl
theorem splice_by {l : List UInt8} {i : Nat} {b : UInt8} (h : i < l.length) : splice (byA l) i [.int .u8 (b.toNat : Int)] = byA (l.set i b) := by
 rw [splice_def]
 apply List.ext_getElem?
 intro j
 have hl : (byA l).length = l.length := byA_len l
 simp only [byA, List.getElem?_map, List.getElem?_set, List.length_cons, List.length_nil]
 rcases Nat.lt_trichotomy j i with h1 | h1 | h1
 ·rw [List.getElem?_append_left (by simp; omega), List.getElem?_take, if_pos h1, List.getElem?_map, if_neg (by omega)]
 ·subst h1
  rw [List.getElem?_append_right (by simp [Nat.min_le_left]), List.getElem?_append_left (by simp; rw [Nat.min_eq_left (Nat.le_of_lt h)]; omega), if_pos rfl, if_pos h]
  have : j - min j l.length = 0 := by rw [Nat.min_eq_left (by omega)]; omega
  simp [this]
 ·rw [List.getElem?_append_right (by simp; omega), List.getElem?_append_right (by simp; omega), List.getElem?_drop, List.getElem?_map, if_neg (by omega)]
  congr 2; simp; omega
def padI (n z i : Nat) : List UInt8 := 128 :: (List.replicate z 0 ++ (List.replicate (8 - i) 0 ++ (lenB n).drop (8 - i)))
theorem lenB_len (n : Nat) : (lenB n).length = 8 := by simp [lenB]
theorem padI_len {n z i : Nat} (h : i ≤ 8) : (padI n z i).length = 1 + z + 8 := by simp [padI, lenB_len]; omega
theorem padI_zero (n z : Nat) : padI n z 0 = 128 :: (List.replicate z 0 ++ List.replicate 8 0) := by
 have : (lenB n).drop 8 = [] := List.drop_of_length_le (by rw [lenB_len]; exact Nat.le_refl _)
 simp [padI, this]
theorem padI_eight (n z : Nat) : padI n z 8 = 128 :: (List.replicate z 0 ++ lenB n) := by simp [padI]
theorem padI_succ {n z i : Nat} (h : i < 8) : (padI n z i).set (1 + z + 7 - i) (UInt8.ofNat (n * 8 / 256 ^ i % 256)) = padI n z (i + 1) := by
 have e1 : 8 - i = (7 - i) + 1 := by omega
 have e2 : (lenB n).drop (7 - i) = UInt8.ofNat (n * 8 / 256 ^ i % 256) :: (lenB n).drop (8 - i) := by
  rw [List.drop_eq_getElem_cons (by rw [lenB_len]; omega), e1]
  congr 1
  simp [lenB, show 7 - (7 - i) = i by omega]
 unfold padI
 rw [show 8 - (i + 1) = 7 - i by omega, e2, show 1 + z + 7 - i = (z + (7 - i)) + 1 by omega, List.set_cons_succ, List.set_append_right _ _ (by simp), e1, List.replicate_succ', List.append_assoc]
 rw [List.length_replicate, show z + (7 - i) - z = 7 - i by omega, List.set_append_right _ _ (by simp)]
 simp
theorem ble_by {l : List UInt8} {i : Nat} (h : i < l.length) : Nat.ble (i + 1) (byA l).length = true := Nat.ble_eq_true_of_le (by rw [byA_len]; omega)
theorem padv {n i : Nat} (hn : n < 1152921504606846976) (hi : i < 8) : IntKind.u8.wrap (shrI .u64 (shlI .u64 (IntKind.u64.wrap (n : Int)) 3) ((8 * i : Nat) : Int)) = ((UInt8.ofNat (n * 8 / 256 ^ i % 256)).toNat : Int) := by
 rw [wrap_nat64 n (by omega)]
 have e1 : shlI .u64 (n : Int) 3 = ((n * 8 : Nat) : Int) := by
  show IntKind.u64.wrap ((n : Int) * 2 ^ 3) = _
  rw [show (n : Int) * 2 ^ 3 = ((n * 8 : Nat) : Int) by omega, wrap_nat64 _ (by omega)]
 rw [e1]
 have e2 : shrI .u64 ((n * 8 : Nat) : Int) ((8 * i : Nat) : Int) = ((n * 8 / 256 ^ i : Nat) : Int) := by
  unfold shrI
  rw [Int.toNat_natCast, show min (8 * i) IntKind.u64.bits = 8 * i from Nat.min_eq_left (by show 8 * i ≤ 64; omega)]
  rw [show (2 : Int) ^ (8 * i) = ((256 ^ i : Nat) : Int) by rw [Int.pow_mul]; norm_cast]
  exact (Int.ofNat_fdiv _ _).symm
 rw [e2, u8_wrap]
theorem intsL_by (l : List UInt8) : intsL (byA l) l.length = some (l.map fun b => (b.toNat : Int)) := intsL_mkB l
theorem padP (n : Nat) (hn : n < 1152921504606846976) : Ctr Tryz.prog 143 [.int .i64 (n : Int)] [] [] 0 0 (.str ⟨⟨padL n⟩⟩) [] := by
 refine Ctr.introR (T := Tryz.T) Tryz.hT Tryz.hM Tryz.hE Tryz.func143 rfl (by kernel_rfl) rfl rfl rfl rfl ?_
 conv => whnf
 rw [show decide ((n : Int) < 0) = false by simp]
 conv => whnf
 have e1 : (n : Int).tmod 64 = ((n % 64 : Nat) : Int) := by rw [Int.tmod_eq_emod_of_nonneg (by omega)]; omega
 have e2 : IntKind.i64.wrap (119 - ((n % 64 : Nat) : Int)) = ((119 - n % 64 : Nat) : Int) := by rw [wrap_small] <;> omega
 have e3 : ((119 - n % 64 : Nat) : Int).tmod 64 = (((119 - n % 64) % 64 : Nat) : Int) := by rw [Int.tmod_eq_emod_of_nonneg (by omega)]; omega
 have e4 : IntKind.i64.wrap (1 + (((119 - n % 64) % 64 : Nat) : Int)) = ((1 + (119 - n % 64) % 64 : Nat) : Int) := by rw [wrap_small] <;> omega
 have e5 : IntKind.i64.wrap (((1 + (119 - n % 64) % 64 : Nat) : Int) + 8) = ((1 + (119 - n % 64) % 64 + 8 : Nat) : Int) := by rw [wrap_small] <;> omega
 simp only [e1, e2, e3, e4, e5, Int.toNat_natCast]
 generalize hz : (119 - n % 64) % 64 = z at *
 have hz64 : z < 64 := by omega
 refine ⟨by omega, ?_⟩
 rw [spine_eq, repA_byte]
 have hZl : (List.replicate (1 + z + 8) (0 : UInt8)).length = 1 + z + 8 := by simp
 generalize hZ : List.replicate (1 + z + 8) (0 : UInt8) = Z at hZl ⊢
 generalize hm : 1 + z + 8 = m at *
 conv => whnf
 refine ⟨by omega, ?_⟩
 conv => whnf
 rw [show Nat.ble ((0 + Int.toNat 0) * 1 + 0 + 1) (byA Z).length = true from ble_by (i := 0) (by omega)]
 conv => whnf
 rw [show splice (byA Z) ((0 + Int.toNat 0) * 1 + 0) (cellsOf (ofV (Value.int IntKind.u8 128))) = byA (Z.set 0 128) from splice_by (i := 0) (b := 128) (by omega)]
 rw [spine_rec]
 conv => whnf
 have hY : Z.set 0 128 = padI n z 0 := by
  rw [← hZ, ← hm, padI_zero]
  rw [show 1 + z + 8 = (z + 8) + 1 by omega, List.replicate_succ, ← List.replicate_append_replicate]; rfl
 refine loopR Tryz.hT Tryz.hM Tryz.hE (α := {i : Nat // i ≤ 8})
  (fun i => ([(0, .int .i64 (n : Int)), (4, .sv 0 1 0 m (some m)), (18, .int .i64 (i.1 : Int))], [(0, .row 5 1 (byA (padI n z i.1)) (some m))]))
  (fun i => 8 - i.1) 1 ⟨0, by omega⟩ [] ?_ ?_
 ·refine Incl.same ?_ ?_ rfl ?_ rfl (Nat.zero_le _) rfl
  ·intro p hp
   simp only [List.mem_cons, List.not_mem_nil, or_false] at hp
   rcases hp with rfl | rfl | rfl <;> rfl
  ·intro p hp
   simp only [List.mem_cons, List.not_mem_nil, or_false, ← hY] at hp
   rcases hp with rfl <;> rfl
  ·simp [okH_all, okR, bare_ok (byA_bare _)]
 rintro ⟨i, hi⟩
 conv => whnf
 refine bcase_intro (fun h => ?_) (fun h => ?_)
 ·have h : i < 8 := by simp at h; omega
  conv => whnf
  have f1 : IntKind.i64.wrap (8 * (i : Int)) = ((8 * i : Nat) : Int) := by rw [wrap_small] <;> omega
  refine ⟨by rw [f1]; omega, ?_⟩
  rw [f1]
  conv => whnf
  have f2 : IntKind.i64.wrap (IntKind.i64.wrap ((m : Int) - 1) - (i : Int)) = ((m - 1 - i : Nat) : Int) := by
   rw [show IntKind.i64.wrap ((m : Int) - 1) = ((m - 1 : Nat) : Int) by rw [wrap_small] <;> omega]
   rw [wrap_small] <;> omega
  dsimp only
  rw [padv hn h, f2, Int.toNat_natCast]
  refine ⟨by omega, ?_⟩
  conv => whnf
  have hpl : (padI n z i).length = m := by rw [padI_len (by omega), hm]
  rw [show Nat.ble ((0 + (m - 1 - i)) * 1 + 0 + 1) (byA (padI n z i)).length = true from by
   have := ble_by (l := padI n z i) (i := m - 1 - i) (by omega)
   simpa using this]
  conv => whnf
  rw [show splice (byA (padI n z i)) ((0 + (m - 1 - i)) * 1 + 0) (cellsOf (AV.int IntKind.u8 ((UInt8.ofNat (n * 8 / 256 ^ i % 256)).toNat : Int))) = byA (padI n z (i + 1)) from by
   have := splice_by (l := padI n z i) (i := m - 1 - i) (b := UInt8.ofNat (n * 8 / 256 ^ i % 256)) (by omega)
   rw [show (0 + (m - 1 - i)) * 1 + 0 = m - 1 - i by omega]
   rw [show cellsOf (AV.int IntKind.u8 ((UInt8.ofNat (n * 8 / 256 ^ i % 256)).toNat : Int)) = [AV.int IntKind.u8 ((UInt8.ofNat (n * 8 / 256 ^ i % 256)).toNat : Int)] from rfl]
   rw [this, show m - 1 - i = 1 + z + 7 - i by omega, padI_succ h]]
  rw [spine_rec]
  conv => whnf
  have f3 : IntKind.i64.wrap ((i : Int) + 1) = ((i + 1 : Nat) : Int) := by rw [wrap_small] <;> omega
  rw [f3]
  refine ⟨⟨i + 1, h⟩, [], by dsimp only; omega, ?_⟩
  refine Incl.same ?_ ?_ rfl ?_ rfl (Nat.zero_le _) rfl
  ·intro p hp
   simp only [List.mem_cons, List.not_mem_nil, or_false] at hp
   rcases hp with rfl | rfl | rfl <;> rfl
  ·intro p hp
   simp only [List.mem_cons, List.not_mem_nil, or_false] at hp
   rcases hp with rfl <;> rfl
  ·simp [okH_all, okR, bare_ok (byA_bare _)]
 ·have h : i = 8 := by simp at h; omega
  subst h
  conv => whnf
  have hpl : (padI n z 8).length = m := by rw [padI_len (by omega), hm]
  dsimp only
  rw [List.drop_zero, show intsL (byA (padI n z 8)) m = some ((padI n z 8).map fun b => (b.toNat : Int)) by rw [← hpl]; exact intsL_by _, show (0 + m).ble (byA (padI n z 8)).length = true from Nat.ble_eq_true_of_le (by rw [byA_len]; omega)]
  conv => whnf
  rw [sn_map, padI_eight, ← hz]
  exact Fin.same (by simp [okH_all, okR]) rfl (by simp)
theorem finS {n n' : Nat} {r : AV} {t : ByteArray} {H : Heap} (h : r = .str t) : Fin n n' (.str t) [] r H := by subst h; exact Fin.same rfl rfl (by simp)
def b4I (x : Nat) : List Int := [IntKind.u8.wrap (shrI IntKind.u32 (x : Int) 24), IntKind.u8.wrap (shrI IntKind.u32 (x : Int) 16), IntKind.u8.wrap (shrI IntKind.u32 (x : Int) 8), IntKind.u8.wrap (x : Int)]
theorem b4I_eq (x : Nat) : b4I x = (b4 x).map fun b => (b.toNat : Int) := by
 have e : ∀ k : Nat, k ≤ 32 → shrI .u32 (x : Int) (k : Int) = ((x / 2 ^ k : Nat) : Int) := fun k hk => by
  unfold shrI
  rw [Int.toNat_natCast, show min k IntKind.u32.bits = k from Nat.min_eq_left hk, show (2 : Int) ^ k = ((2 ^ k : Nat) : Int) by norm_cast]
  exact (Int.ofNat_fdiv _ _).symm
 have e1 := e 24 (by decide); have e2 := e 16 (by decide); have e3 := e 8 (by decide)
 unfold b4I b4
 rw [show (24 : Int) = ((24 : Nat) : Int) from rfl, show (16 : Int) = ((16 : Nat) : Int) from rfl, show (8 : Int) = ((8 : Nat) : Int) from rfl, e1, e2, e3, u8_wrap, u8_wrap, u8_wrap, u8_wrap]
 rfl
theorem outR_ints (q : R8) : (ByteArray.mk ⟨outR q⟩) = strOfNums (b4I q.a ++ b4I q.b ++ b4I q.c ++ b4I q.d ++ b4I q.e ++ b4I q.f ++ b4I q.g ++ b4I q.h) := by
 simp only [b4I_eq, ← List.map_append]
 rw [sn_map]
 rfl
theorem runB_snoc (K : List Nat) (i : Nat) (r : R8) (l : List UInt8) : runB K (i + 1) r l = blkP K (runB K i r l) (l.drop (64 * i)) := by rw [runB_add K i 1]; rfl
theorem subB_drop (s : ByteArray) (a : Nat) : (subB s a s.size).data.toList = s.data.toList.drop a := by rw [subB_to]
theorem sumP (s : ByteArray) (hs : s.size < 1152921504606846976) : Ctr Tryz.prog 125 [.str s] [] [] 0 0 (.str (sumB K64 s)) [] := by
 refine Ctr.introR (T := Tryz.T) Tryz.hT Tryz.hM Tryz.hE Tryz.func125 rfl (by kernel_rfl) rfl rfl rfl rfl ?_
 conv => whnf
 refine callR [] shaRegs rfl rfl rfl rfl trivial trivial ?_
 conv => whnf
 have w1 : IntKind.i64.wrap ((s.size : Int) - ((s.size : Int).tmod 64)) = ((64 * (s.size / 64) : Nat) : Int) := by
  rw [Int.tmod_eq_emod_of_nonneg (by omega), wrap_small] <;> omega
 rw [w1]
 conv => whnf
 refine loopR Tryz.hT Tryz.hM Tryz.hE (α := {i : Nat // i ≤ s.size / 64})
  (fun i => ([(0, .str s), (3, .ptr 0 0), (4, .int .i64 ((64 * (s.size / 64) : Nat) : Int)), (5, .int .i64 ((64 * i.1 : Nat) : Int))], [(0, .box 205 (mkW (runB K64 i.1 firstR s.data.toList).l))]))
  (fun i => s.size / 64 - i.1) 1 ⟨0, Nat.zero_le _⟩ [] ?_ ?_
 ·refine Incl.same ?_ ?_ rfl ?_ rfl (Nat.zero_le _) rfl
  ·intro p hp
   simp only [List.mem_cons, List.not_mem_nil, or_false] at hp
   rcases hp with rfl | rfl | rfl | rfl <;> rfl
  ·intro p hp
   simp only [List.mem_cons, List.not_mem_nil, or_false] at hp
   rcases hp with rfl <;> rfl
  ·simp [okH_all, okR, bare_ok (mkW_bare _)]
 rintro ⟨i, hi⟩
 conv => whnf
 dsimp only
 by_cases h : i < s.size / 64
 ·rw [show decide (((64 * i : Nat) : Int) < ((64 * (s.size / 64) : Nat) : Int)) = true by simp; omega]
  conv => whnf
  simp only [Int.toNat_natCast]
  refine ⟨by omega, ?_⟩
  conv => whnf
  refine callR [] (blk (runB K64 i firstR s.data.toList) (subB s (64 * i) s.size)) rfl rfl rfl rfl trivial trivial ?_
  conv => whnf
  have hw : IntKind.i64.wrap (((64 * i : Nat) : Int) + 64) = ((64 * (i + 1) : Nat) : Int) := by rw [wrap_small] <;> omega
  have hn : runB K64 (i + 1) firstR s.data.toList = blkP K64 (runB K64 i firstR s.data.toList) (subB s (64 * i) s.size).data.toList := by rw [runB_snoc, subB_drop]
  rw [hw]
  refine ⟨⟨i + 1, h⟩, [], by dsimp only; omega, ?_⟩
  dsimp only
  rw [hn]
  generalize blkP K64 (runB K64 i firstR s.data.toList) (subB s (64 * i) s.size).data.toList = q
  refine Incl.same ?_ ?_ rfl ?_ rfl (Nat.zero_le _) rfl
  ·intro p hp
   simp only [List.mem_cons, List.not_mem_nil, or_false] at hp
   rcases hp with rfl | rfl | rfl | rfl <;> rfl
  ·intro p hp
   simp only [List.mem_cons, List.not_mem_nil, or_false] at hp
   rcases hp with rfl <;> rfl
  ·simp [okH_all, okR, bare_ok (mkW_bare _)]
 ·rw [show decide (((64 * i : Nat) : Int) < ((64 * (s.size / 64) : Nat) : Int)) = false by simp; omega]
  have h : i = s.size / 64 := by omega
  have hl : s.data.toList.length = s.size := rfl
  obtain ⟨T, hT⟩ : ∃ T, T = s.data.toList ++ padL s.size := ⟨_, rfl⟩
  have hTl : T.length = s.size + (9 + (119 - s.size % 64) % 64) := by rw [hT, List.length_append, padL_len, hl]
  have hmod := sum_len s.size
  have hq : runB K64 i firstR s.data.toList = runB K64 i firstR T := by rw [hT, runB_app K64 i firstR _ _ (by omega)]
  have hfin : sumB K64 s = ⟨⟨outR (runB K64 (T.length / 64) firstR T)⟩⟩ := by
   unfold sumB sumL
   rw [hl, ← hT, hTl, padL_len]
  rw [hfin]
  generalize hr0 : runB K64 i firstR s.data.toList = r0 at hq
  conv => whnf
  simp only [Int.toNat_natCast]
  refine ⟨by omega, ?_⟩
  conv => whnf
  refine callR [] (padP s.size hs) rfl rfl rfl rfl trivial trivial ?_
  conv => whnf
  have hps : (ByteArray.mk ⟨padL s.size⟩).size = 9 + (119 - s.size % 64) % 64 := padL_len _
  refine ⟨by unfold big; rw [hps]; have : (subB s (64 * (s.size / 64)) s.size).size ≤ s.size := by { rw [subB_to]; show (List.drop _ _).length ≤ _; rw [List.length_drop]; exact Nat.sub_le _ _ }; omega, ?_⟩
  conv => whnf
  have hrest : catB (subB s (64 * (s.size / 64)) s.size) ⟨⟨padL s.size⟩⟩ = ⟨⟨T.drop (64 * i)⟩⟩ := by
   rw [subB_to, hT, List.drop_append_of_le_length (by omega), h]; rfl
  rw [hrest]
  subst hq
  have dsz : ∀ a, (ByteArray.mk ⟨T.drop a⟩).size = T.length - a := fun a => List.length_drop
  have eT : ∀ a, eqB ⟨⟨T.drop a⟩⟩ ⟨#[]⟩ = decide (T.length ≤ a) := fun a => by
   rw [eqB_eq]
   apply decide_eq_decide.2
   constructor
   ·intro e; have := congrArg ByteArray.size e; rw [dsz] at this; have h0 : (ByteArray.mk #[]).size = 0 := rfl; omega
   ·intro e; rw [List.drop_of_length_le e]
  refine loopR Tryz.hT Tryz.hM Tryz.hE (α := {j : Nat // j ≤ T.length / 64 - i})
   (fun j => ([(3, .ptr 0 0), (6, .str ⟨⟨T.drop (64 * (i + j.1))⟩⟩)], [(0, .box 205 (mkW (runB K64 (i + j.1) firstR T).l))]))
   (fun j => T.length / 64 - i - j.1) 1 ⟨0, Nat.zero_le _⟩ [] ?_ ?_
  ·refine Incl.same ?_ ?_ rfl ?_ rfl (Nat.zero_le _) rfl
   ·intro p hp
    simp only [List.mem_cons, List.not_mem_nil, or_false] at hp
    rcases hp with rfl | rfl <;> rfl
   ·intro p hp
    simp only [List.mem_cons, List.not_mem_nil, or_false] at hp
    rcases hp with rfl <;> rfl
   ·simp [okH_all, okR, bare_ok (mkW_bare _)]
  rintro ⟨j, hj⟩
  conv => whnf
  dsimp only
  by_cases hjl : j < T.length / 64 - i
  ·rw [eT, show decide (T.length ≤ 64 * (i + j)) = false by simp; omega]
   conv => whnf
   refine callR [] (blk (runB K64 (i + j) firstR T) ⟨⟨T.drop (64 * (i + j))⟩⟩) rfl rfl rfl rfl trivial trivial ?_
   conv => whnf
   refine ⟨⟨by decide, by rw [dsz]; omega⟩, ?_⟩
   conv => whnf
   have hn : runB K64 (i + (j + 1)) firstR T = blkP K64 (runB K64 (i + j) firstR T) (T.drop (64 * (i + j))) := by rw [show i + (j + 1) = i + j + 1 by omega, runB_snoc]
   have hd : subB ⟨⟨T.drop (64 * (i + j))⟩⟩ 64 (ByteArray.mk ⟨T.drop (64 * (i + j))⟩).size = ⟨⟨T.drop (64 * (i + (j + 1)))⟩⟩ := by
    rw [subB_to]
    show (ByteArray.mk ⟨(T.drop (64 * (i + j))).drop 64⟩) = _
    rw [List.drop_drop]
    congr 3
   refine ⟨⟨j + 1, by omega⟩, [], by dsimp only; omega, ?_⟩
   dsimp only
   rw [hn]
   generalize blkP K64 (runB K64 (i + j) firstR T) (T.drop (64 * (i + j))) = q
   refine Incl.same ?_ ?_ rfl ?_ rfl (Nat.zero_le _) rfl
   ·intro p hp
    simp only [List.mem_cons, List.not_mem_nil, or_false] at hp
    rcases hp with rfl | rfl
    ·rfl
    ·show some (AV.str _) = some (AV.str _)
     exact congrArg (fun x => some (AV.str x)) hd
   ·intro p hp
    simp only [List.mem_cons, List.not_mem_nil, or_false] at hp
    rcases hp with rfl <;> rfl
   ·simp [okH_all, okR, bare_ok (mkW_bare _)]
  ·rw [eT, show decide (T.length ≤ 64 * (i + j)) = true by simp; omega]
   have hjj : i + j = T.length / 64 := by omega
   rw [hjj]
   generalize runB K64 (T.length / 64) firstR T = q
   conv => whnf
   refine ⟨by decide, ?_⟩
   conv => whnf
   refine unrollR Tryz.hT Tryz.hM Tryz.hE 9 ?_
   conv => whnf
   repeat (refine ⟨by decide, ?_⟩; conv => whnf)
   refine finS ?_
   conv => lhs; whnf
   have e := outR_ints q
   rw [e]
   simp only [b4I, List.cons_append, List.nil_append]
def valO : G → Option AV
 | .ok (v, [], _) => some v
 | _ => none
def joinT (n : Int) (l : List ByteArray) : ByteArray := l.foldl (fun o s => catB o (textS s)) (numS n)
def joinS (l : List ByteArray) : ByteArray := joinT (l.length : Int) l
theorem joinT_snoc (n : Int) (l : List ByteArray) (s : ByteArray) : joinT n (l ++ [s]) = catB (joinT n l) (textS s) := by simp [joinT]
theorem joinT_size (n : Int) : ∀ l : List ByteArray, (joinT n l).size ≤ 8 + 65544 * l.length := by
 have : ∀ (l : List ByteArray) (o : ByteArray), (l.foldl (fun o s => catB o (textS s)) o).size ≤ o.size + 65544 * l.length := by
  intro l
  induction l with
  | nil => intro o; simp
  | cons x l ih =>
   intro o
   have h := ih (catB o (textS x))
   rw [cat_size] at h
   have := textS_size x
   simp only [List.foldl_cons, List.length_cons]
   omega
 intro l
 have h := this l (numS n)
 have := numS_size n
 unfold joinT; omega
def shortL (l : List ByteArray) : Prop := ∀ s ∈ l, s.size ≤ 65536
theorem textE_ok {s : ByteArray} (h : s.size ≤ 65536) : textE s = 0 := by
 unfold textE; rw [show decide ((65536 : Int) < (s.size : Int)) = false by simp; omega]; rfl
theorem numE_ok {x : Int} (h0 : 0 ≤ x) (h : x ≤ 9007199254740992) : numE x = 0 := by
 unfold numE; rw [show okN x = true by unfold okN; simp; omega]; rfl
noncomputable def rowS (l : List ByteArray) (d : Option Nat) : Res := .row 9 1 (strsA l) d
theorem rowS_ren (l : List ByteArray) (d : Option Nat) (π : Nat → Nat) : renR π (rowS l d) = rowS l d := by simp only [rowS, renR, bare_ren (strsA_bare l)]
theorem rowS_ok (l : List ByteArray) (d : Option Nat) (n : Nat) : okR n (rowS l d) = true := bare_ok (strsA_bare l)
theorem rowS_at {l : List ByteArray} {d : Option Nat} {H : Heap} {k : Nat} (π : Nat → Nat) (h : SX.look H (π k) = some (rowS l d)) : SX.look H (π k) = some (renR π (rowS l d)) := by rw [rowS_ren]; exact h
theorem join1p (l : List ByteArray) (c d : Option Nat) (hn : l.length ≤ 256) (hl : shortL l) :
  Ctr Tryz.prog 96 [.sv 0 1 0 l.length c] [] [(0, rowS l d)] 1 1 (.tup [.str (joinS l), .int .i64 0]) [(0, rowS l d)] := by
 refine Ctr.introR (T := Tryz.T) Tryz.hT Tryz.hM puZ_ok Tryz.func96 rfl (by kernel_rfl) rfl rfl ?_ rfl ?_
 ·simp [okH_all, rowS_ok]
 conv => whnf
 rw [show decide ((256 : Int) < ((l.length : Nat) : Int)) = false by simp; omega]
 conv => whnf
 have hJ : ∀ i, (joinT (l.length : Int) (l.take i)).size ≤ 16800000 := fun i => by
  have := joinT_size (l.length : Int) (l.take i)
  have h2 : (l.take i).length ≤ 256 := by rw [List.length_take]; omega
  omega
 refine loopR Tryz.hT Tryz.hM puZ_ok (α := {i : Nat // i ≤ l.length})
  (fun i => ([(4, .str (joinT (l.length : Int) (l.take i.1))), (19, .sv 0 1 0 l.length c), (20, .int .i64 (l.length : Int)), (21, .int .i64 (i.1 : Int))], [(0, rowS l d)])) (fun i => l.length - i.1) 1 ⟨0, Nat.zero_le _⟩ [] ?_ ?_
 ·refine ⟨⟨rfl, rfl, rfl, rfl, trivial⟩, ⟨rowS_at _ rfl, trivial⟩, ?_, rfl⟩
  simp [okFr, okH_all, rowS_ok, okA_sv, okA_str, okA_int, nodupB]
 rintro ⟨i, hi⟩
 dsimp only at hi ⊢
 conv => whnf
 by_cases h : i < l.length
 ·rw [show decide (((i : Nat) : Int) < ((l.length : Nat) : Int)) = true by simpa using h]
  conv => whnf
  simp only [Int.toNat_natCast, Nat.zero_add]
  refine ⟨by omega, ?_⟩
  conv => whnf
  have hr : readA false 1 (strsA l) (i * 1 + 0) = some (.str l[i]) := by
   show nth (strsA l) _ = _
   rw [nth_eq, show i * 1 + 0 = i by omega, strsA, List.getElem?_map, List.getElem?_eq_getElem h]; rfl
  rw [hr]
  conv => whnf
  have hs : l[i].size ≤ 65536 := hl _ (List.getElem_mem h)
  have ht := textS_size l[i]
  have hj := hJ i
  rw [textE_ok hs]
  conv => whnf
  refine ⟨by unfold big; omega, ?_⟩
  conv => whnf
  have hw : IntKind.i64.wrap ((i : Int) + 1) = ((i + 1 : Nat) : Int) := by rw [wrap_small] <;> omega
  have hsn : catB (joinT (l.length : Int) (l.take i)) (textS l[i]) = joinT (l.length : Int) (l.take (i + 1)) := by rw [List.take_succ_eq_append_getElem h, joinT_snoc]
  rw [hw, hsn]
  refine ⟨⟨i + 1, h⟩, [], by dsimp only; omega, ⟨⟨rfl, rfl, rfl, rfl, trivial⟩, ⟨rowS_at _ rfl, trivial⟩, ?_, rfl⟩⟩
  simp [okFr, okH_all, rowS_ok, okA_sv, okA_str, okA_int, nodupB]
 ·rw [show decide (((i : Nat) : Int) < ((l.length : Nat) : Int)) = false by simpa using h]
  have h : i = l.length := by omega
  subst h
  conv => whnf
  rw [List.take_length]
  refine Fin.same ?_ rfl ?_
  ·simp [okH_all, rowS_ok]
  ·simp [lookC]
theorem join2p (l : List ByteArray) (c d : Option Nat) (hn : l.length ≤ 256) (hl : shortL l) :
  Ctr Tryz.prog 36 [.sv 0 1 0 l.length c] [] [(0, rowS l d)] 1 1 (.tup [.str (joinS l), .int .i64 0]) [(0, rowS l d)] := by
 refine Ctr.introR (T := Tryz.T) Tryz.hT Tryz.hM puZ_ok Tryz.func36 rfl (by kernel_rfl) rfl rfl ?_ rfl ?_
 ·simp [okH_all, rowS_ok]
 conv => whnf
 rw [show decide ((256 : Int) < ((l.length : Nat) : Int)) = false by simp; omega]
 conv => whnf
 have hJ : ∀ i, (joinT (l.length : Int) (l.take i)).size ≤ 16800000 := fun i => by
  have := joinT_size (l.length : Int) (l.take i)
  have h2 : (l.take i).length ≤ 256 := by rw [List.length_take]; omega
  omega
 refine loopR Tryz.hT Tryz.hM puZ_ok (α := {i : Nat // i ≤ l.length})
  (fun i => ([(0, .sv 0 1 0 l.length c), (4, .str (joinT (l.length : Int) (l.take i.1))), (6, .int .i64 (i.1 : Int))], [(0, rowS l d)])) (fun i => l.length - i.1) 1 ⟨0, Nat.zero_le _⟩ [] ?_ ?_
 ·refine ⟨⟨rfl, rfl, rfl, trivial⟩, ⟨rowS_at _ rfl, trivial⟩, ?_, rfl⟩
  simp [okFr, okH_all, rowS_ok, okA_sv, okA_str, okA_int, nodupB]
 rintro ⟨i, hi⟩
 dsimp only at hi ⊢
 conv => whnf
 by_cases h : i < l.length
 ·rw [show decide (((i : Nat) : Int) < ((l.length : Nat) : Int)) = true by simpa using h]
  conv => whnf
  simp only [Int.toNat_natCast, Nat.zero_add]
  refine ⟨by omega, ?_⟩
  conv => whnf
  have hr : readA false 1 (strsA l) (i * 1 + 0) = some (.str l[i]) := by
   show nth (strsA l) _ = _
   rw [nth_eq, show i * 1 + 0 = i by omega, strsA, List.getElem?_map, List.getElem?_eq_getElem h]; rfl
  rw [hr]
  conv => whnf
  have hs : l[i].size ≤ 65536 := hl _ (List.getElem_mem h)
  have ht := textS_size l[i]
  have hj := hJ i
  rw [textE_ok hs]
  conv => whnf
  refine ⟨by unfold big; omega, ?_⟩
  conv => whnf
  have hw : IntKind.i64.wrap ((i : Int) + 1) = ((i + 1 : Nat) : Int) := by rw [wrap_small] <;> omega
  have hsn : catB (joinT (l.length : Int) (l.take i)) (textS l[i]) = joinT (l.length : Int) (l.take (i + 1)) := by rw [List.take_succ_eq_append_getElem h, joinT_snoc]
  rw [hw, hsn]
  refine ⟨⟨i + 1, h⟩, [], by dsimp only; omega, ⟨⟨rfl, rfl, rfl, trivial⟩, ⟨rowS_at _ rfl, trivial⟩, ?_, rfl⟩⟩
  simp [okFr, okH_all, rowS_ok, okA_sv, okA_str, okA_int, nodupB]
 ·rw [show decide (((i : Nat) : Int) < ((l.length : Nat) : Int)) = false by simpa using h]
  have h : i = l.length := by omega
  subst h
  conv => whnf
  rw [List.take_length]
  refine Fin.same ?_ rfl ?_
  ·simp [okH_all, rowS_ok]
  ·simp [lookC]
theorem clo {f : Nat} {args : List AV} {v : AV} (h : valO (Tryz.evo Tryz.ovA 80 f args [] [] 2) = some v) (ha : okL 0 args = true) (hv : okA 0 v = true) : Ctr Tryz.prog f args [] [] 0 0 v [] := by
 cases hg : Tryz.evo Tryz.ovA 80 f args [] [] 2 with
 | no w => rw [hg] at h; cases h
 | ok x =>
  obtain ⟨u, post, k⟩ := x
  rw [hg] at h
  cases post with
  | cons a l => cases h
  | nil =>
   cases h
   exact Ctr.shut (Tryz.ovA_ok 80 hg) ha hv
def intsA (l : List Int) : List AV := l.map (AV.int .i64)
theorem intsA_bare (l : List Int) : (intsA l).all bareA = true := by simp [intsA, bareA]
noncomputable def rowI (l : List Int) (d : Option Nat) : Res := .row 3 1 (intsA l) d
theorem rowI_ren (l : List Int) (d : Option Nat) (π : Nat → Nat) : renR π (rowI l d) = rowI l d := by simp only [rowI, renR, bare_ren (intsA_bare l)]
theorem rowI_ok (l : List Int) (d : Option Nat) (n : Nat) : okR n (rowI l d) = true := bare_ok (intsA_bare l)
theorem rowI_at {l : List Int} {d : Option Nat} {H : Heap} {k : Nat} (π : Nat → Nat) (h : SX.look H (π k) = some (rowI l d)) : SX.look H (π k) = some (renR π (rowI l d)) := by rw [rowI_ren]; exact h
theorem nil_cat (a : ByteArray) : catB ⟨#[]⟩ a = a := by
 rw [catB_eq]
 apply ByteArray.ext
 rw [ByteArray.data_append]
 simp
theorem nil_size : (ByteArray.mk #[]).size = 0 := rfl
noncomputable def msgA (kind : Int) (f : ByteArray) (a b c : AV) : AV := .agg [.int .i64 kind, .str f, a, b, c]
def relW : ByteArray := ⟨#[114, 101, 108, 97, 121, 101, 114]⟩
theorem nameP : Ctr Tryz.prog 45 [.int .i64 6, .str relW] [] [] 0 0 (.int .i64 0) [] := clo (by kernel_rfl) rfl rfl
theorem nameR : Ctr Tryz.prog 63 [.int .i64 6, .str relW] [] [] 0 0 (.int .i64 0) [] := clo (by kernel_rfl) rfl rfl
theorem join1n : Ctr Tryz.prog 96 [.nils] [] [] 0 0 (.tup [.str (joinS []), .int .i64 0]) [] := clo (by kernel_rfl) rfl rfl
theorem join2n : Ctr Tryz.prog 36 [.nils] [] [] 0 0 (.tup [.str (joinS []), .int .i64 0]) [] := clo (by kernel_rfl) rfl rfl
def numsT (o : ByteArray) (ns : List Int) : ByteArray := ns.foldl (fun o n => catB o (numS n)) o
def msgB (k : Int) (l : List ByteArray) (ns : List Int) : ByteArray := numsT (catB (catB (catB (catB ⟨#[]⟩ (numS k)) (textS relW)) (joinS l)) (joinS [])) ns
def Kind (k : Int) (t n : Nat) : Prop := (∃ b, Ctr Tryz.prog 132 [.int .i64 k] [] [] 0 0 (.tup [.agg [.int .i64 (t : Int), .int .i64 (n : Int), .bool b], .bool true]) []) ∧
 Ctr Tryz.prog 61 [.int .i64 k] [] [] 0 0 (.int .i64 (t : Int)) [] ∧ Ctr Tryz.prog 62 [.int .i64 k] [] [] 0 0 (.int .i64 (n : Int)) []
theorem f0 (m : Nat) : (!decide ((m : Int) = (m : Int))) = false := by simp
theorem num_in {x : Int} (h1 : 0 ≤ x) (h2 : x ≤ 1099511627776) : decide (x < 0) = false ∧ decide (1099511627776 < x) = false := by simp; omega
theorem hj1 (l : List ByteArray) (hn : l.length ≤ 256) : (joinS l).size ≤ 16800000 := by have := joinT_size (l.length : Int) l; unfold joinS; omega
theorem relS : (textS relW).size ≤ 20 := by decide
theorem joinN : (joinS []).size ≤ 20 := by decide
theorem lay1 {o s : ByteArray} (h : o.size + s.size ≤ big) (e : Int) : Ctr Tryz.prog 104 [.str s, .int .i64 e, .ptr 0 0] [] [(0, .box 9 [.str o])] 1 1 (.tup []) [(0, .box 9 [.str (catB o s)])] := by
 refine Ctr.introR (T := Tryz.T) Tryz.hT Tryz.hM puZ_ok Tryz.func104 rfl (by kernel_rfl) rfl rfl rfl rfl ?_
 conv => whnf
 refine ⟨h, ?_⟩
 conv => whnf
 exact .mk' [] rfl rfl rfl rfl rfl rfl ⟨rfl, trivial⟩
theorem checkP1 {k : Int} {l : List ByteArray} {x : Int} (hk : Kind k l.length 1) (d : Option Nat) (hn : l.length ≤ 256) (hl : shortL l) (px : 0 ≤ x) (qx : x ≤ 1099511627776) :
  Ctr Tryz.prog 103 [msgA k relW (.sv 0 1 0 l.length none) .nils (.sv 1 1 0 1 none)] [] [(0, rowS l d), (1, rowI [x] none)] 2 2 (.int .i64 0) [(0, rowS l d), (1, rowI [x] none)] := by
 obtain ⟨⟨b, h1⟩, _, _⟩ := hk
 refine Ctr.introR (T := Tryz.T) Tryz.hT Tryz.hM puZ_ok Tryz.func103 rfl (by kernel_rfl) rfl rfl ?_ rfl ?_
 ·simp [okH_all, rowS_ok, rowI_ok]
 conv => whnf
 refine callR [] h1 rfl rfl rfl rfl trivial trivial ?_
 conv => whnf
 rw [f0]
 conv => whnf
 refine callR [] nameP rfl rfl rfl rfl trivial trivial ?_
 conv => whnf
 refine unrollR Tryz.hT Tryz.hM puZ_ok 2 ?_
 conv => whnf
 refine ⟨by decide, ?_⟩
 conv => whnf
 rw [(num_in px qx).1]
 conv => whnf
 rw [(num_in px qx).2]
 conv => whnf
 refine unrollR Tryz.hT Tryz.hM puZ_ok 3 ?_
 conv => whnf
 refine ⟨by decide, ?_⟩
 conv => whnf
 refine callR [0] (join1p l none d hn hl) (post' := [(0, rowS l d)]) (by simp only [renH, rowS_ren]; rfl) rfl rfl rfl trivial ⟨rowS_at _ rfl, trivial⟩ ?_
 conv => whnf
 refine ⟨by decide, ?_⟩
 conv => whnf
 refine callR [] join1n rfl rfl rfl rfl trivial trivial ?_
 conv => whnf
 refine Fin.same ?_ rfl ?_
 ·simp [okH_all, rowS_ok, rowI_ok]
 ·intro p hp
  simp only [List.mem_cons, List.not_mem_nil, or_false] at hp
  rcases hp with rfl | rfl <;> rfl
theorem checkR1 {k : Int} {l : List ByteArray} {x : Int} (hk : Kind k l.length 1) (d : Option Nat) (hn : l.length ≤ 256) (hl : shortL l) (px : 0 ≤ x) (qx : x ≤ 1099511627776) :
  Ctr Tryz.prog 35 [msgA k relW (.sv 0 1 0 l.length none) .nils (.sv 1 1 0 1 none)] [] [(0, rowS l d), (1, rowI [x] none)] 2 2 (.int .i64 0) [(0, rowS l d), (1, rowI [x] none)] := by
 obtain ⟨_, h1, h2⟩ := hk
 refine Ctr.introR (T := Tryz.T) Tryz.hT Tryz.hM puZ_ok Tryz.func35 rfl (by kernel_rfl) rfl rfl ?_ rfl ?_
 ·simp [okH_all, rowS_ok, rowI_ok]
 conv => whnf
 refine callR [] h1 rfl rfl rfl rfl trivial trivial ?_
 conv => whnf
 rw [show decide (((l.length : Nat) : Int) < 0) = false by simp]
 conv => whnf
 refine callR [] h1 rfl rfl rfl rfl trivial trivial ?_
 conv => whnf
 rw [f0]
 conv => whnf
 refine callR [] h2 rfl rfl rfl rfl trivial trivial ?_
 conv => whnf
 refine callR [] nameR rfl rfl rfl rfl trivial trivial ?_
 conv => whnf
 refine unrollR Tryz.hT Tryz.hM puZ_ok 2 ?_
 conv => whnf
 refine ⟨by decide, ?_⟩
 conv => whnf
 rw [(num_in px qx).1]
 conv => whnf
 refine ⟨by decide, ?_⟩
 conv => whnf
 rw [(num_in px qx).2]
 conv => whnf
 refine callR [0] (join2p l none d hn hl) (post' := [(0, rowS l d)]) (by simp only [renH, rowS_ren]; rfl) rfl rfl rfl trivial ⟨rowS_at _ rfl, trivial⟩ ?_
 conv => whnf
 refine callR [] join2n rfl rfl rfl rfl trivial trivial ?_
 conv => whnf
 refine Fin.same ?_ rfl ?_
 ·simp [okH_all, rowS_ok, rowI_ok]
 ·intro p hp
  simp only [List.mem_cons, List.not_mem_nil, or_false] at hp
  rcases hp with rfl | rfl <;> rfl
theorem putP1 {k : Int} {l : List ByteArray} {x : Int} (hk : Kind k l.length 1) (d : Option Nat) (hn : l.length ≤ 256) (hl : shortL l) (px : 0 ≤ x) (qx : x ≤ 1099511627776) :
  Ctr Tryz.prog 60 [msgA k relW (.sv 0 1 0 l.length none) .nils (.sv 1 1 0 1 none)] [] [(0, rowS l d), (1, rowI [x] none)] 2 2 (.tup [.str (msgB k l [x]), .int .i64 0]) [(0, rowS l d), (1, rowI [x] none)] := by
 refine Ctr.introR (T := Tryz.T) Tryz.hT Tryz.hM puZ_ok Tryz.func60 rfl (by kernel_rfl) rfl rfl ?_ rfl ?_
 ·simp [okH_all, rowS_ok, rowI_ok]
 conv => whnf
 refine callR [0, 1] (checkP1 hk d hn hl px qx) (post' := [(0, rowS l d), (1, rowI [x] none)]) (by simp only [renH, rowS_ren, rowI_ren]; rfl) rfl rfl rfl trivial ⟨rowS_at _ rfl, rowI_at _ rfl, trivial⟩ ?_
 conv => whnf
 have hj := hj1 l hn
 have hk8 := numS_size k
 have hr8 := relS
 have hn8 := joinN
 refine callR [3] (lay1 (by simp only [nil_size]; unfold big; omega) _) rfl rfl rfl rfl trivial ⟨rfl, trivial⟩ ?_
 conv => whnf
 refine callR [3] (lay1 (by simp only [cat_size, nil_size]; unfold big; omega) _) rfl rfl rfl rfl trivial ⟨rfl, trivial⟩ ?_
 conv => whnf
 refine callR [0] (join1p l none d hn hl) (post' := [(0, rowS l d)]) (by simp only [renH, rowS_ren]; rfl) rfl rfl rfl trivial ⟨rowS_at _ rfl, trivial⟩ ?_
 conv => whnf
 refine callR [3] (lay1 (by simp only [cat_size, nil_size]; unfold big; omega) 0) rfl rfl rfl rfl trivial ⟨rfl, trivial⟩ ?_
 conv => whnf
 refine callR [] join1n rfl rfl rfl rfl trivial trivial ?_
 conv => whnf
 refine callR [3] (lay1 (by simp only [cat_size, nil_size]; unfold big; omega) 0) rfl rfl rfl rfl trivial ⟨rfl, trivial⟩ ?_
 conv => whnf
 have n8x := numS_size x
 refine unrollR Tryz.hT Tryz.hM puZ_ok 2 ?_
 conv => whnf
 refine ⟨by decide, ?_⟩
 conv => whnf
 refine callR [3] (lay1 (by simp only [cat_size, nil_size]; unfold big; omega) _) rfl rfl rfl rfl trivial ⟨rfl, trivial⟩ ?_
 conv => whnf
 rw [show msgB k l [x] = catB (catB (catB (catB (catB ⟨#[]⟩ (numS k)) (textS relW)) (joinS l)) (joinS [])) (numS x) from rfl]
 refine Fin.same ?_ rfl ?_
 ·simp [okH_all, rowS_ok, rowI_ok]
 ·intro p hp
  simp only [List.mem_cons, List.not_mem_nil, or_false] at hp
  rcases hp with rfl | rfl <;> rfl
theorem putR1 {k : Int} {l : List ByteArray} {x : Int} (hk : Kind k l.length 1) (d : Option Nat) (hn : l.length ≤ 256) (hl : shortL l) (px : 0 ≤ x) (qx : x ≤ 1099511627776) :
  Ctr Tryz.prog 16 [msgA k relW (.sv 0 1 0 l.length none) .nils (.sv 1 1 0 1 none)] [] [(0, rowS l d), (1, rowI [x] none)] 2 2 (.tup [.str (msgB k l [x]), .int .i64 0]) [(0, rowS l d), (1, rowI [x] none)] := by
 refine Ctr.introR (T := Tryz.T) Tryz.hT Tryz.hM puZ_ok Tryz.func16 rfl (by kernel_rfl) rfl rfl ?_ rfl ?_
 ·simp [okH_all, rowS_ok, rowI_ok]
 conv => whnf
 refine callR [0, 1] (checkR1 hk d hn hl px qx) (post' := [(0, rowS l d), (1, rowI [x] none)]) (by simp only [renH, rowS_ren, rowI_ren]; rfl) rfl rfl rfl trivial ⟨rowS_at _ rfl, rowI_at _ rfl, trivial⟩ ?_
 conv => whnf
 have hj := hj1 l hn
 have hk8 := numS_size k
 have hr8 := relS
 have hn8 := joinN
 have n8x := numS_size x
 refine callR [0] (join2p l none d hn hl) (post' := [(0, rowS l d)]) (by simp only [renH, rowS_ren]; rfl) rfl rfl rfl trivial ⟨rowS_at _ rfl, trivial⟩ ?_
 conv => whnf
 refine callR [] join2n rfl rfl rfl rfl trivial trivial ?_
 conv => whnf
 refine ⟨by (try simp only [cat_size]); unfold big; omega, ?_⟩
 conv => whnf
 refine ⟨by (try simp only [cat_size]); unfold big; omega, ?_⟩
 conv => whnf
 refine ⟨by (try simp only [cat_size]); unfold big; omega, ?_⟩
 conv => whnf
 refine unrollR Tryz.hT Tryz.hM puZ_ok 2 ?_
 conv => whnf
 refine ⟨by decide, ?_⟩
 conv => whnf
 refine ⟨by (try simp only [cat_size]); unfold big; omega, ?_⟩
 conv => whnf
 rw [show msgB k l [x] = catB (catB (catB (catB (catB ⟨#[]⟩ (numS k)) (textS relW)) (joinS l)) (joinS [])) (numS x) from rfl, nil_cat]
 refine Fin.same ?_ rfl ?_
 ·simp [okH_all, rowS_ok, rowI_ok]
 ·intro p hp
  simp only [List.mem_cons, List.not_mem_nil, or_false] at hp
  rcases hp with rfl | rfl <;> rfl
def leafB (p : KV) : ByteArray := sumB K64 (catB (catB ⟨#[0]⟩ (textS p.1)) (textS p.2))
def nodeB (a b : ByteArray) : ByteArray := sumB K64 (catB (catB ⟨#[1]⟩ a) b)
def topB (n : Nat) (t : ByteArray) : ByteArray := sumB K64 (catB (catB ⟨#[2]⟩ (numS (n : Int))) t)
theorem leafP (k v : ByteArray) : Ctr Tryz.prog 89 [.agg [.str k, .str v]] [] [] 0 0 (.str (leafB (k, v))) [] := by
 have hk := textS_size k
 have hv := textS_size v
 have h1 : (ByteArray.mk #[0]).size = 1 := rfl
 refine Ctr.shut (m := 0) (k := 1) ?_ rfl rfl
 refine Ctr.introR (T := Tryz.T) Tryz.hT Tryz.hM puZ_ok Tryz.func89 rfl (by kernel_rfl) rfl rfl rfl rfl ?_
 conv => whnf
 refine ⟨by unfold big; omega, ?_⟩
 conv => whnf
 refine ⟨by rw [cat_size]; unfold big; omega, ?_⟩
 conv => whnf
 refine callR [] (sumP (catB (catB ⟨#[0]⟩ (textS k)) (textS v)) (by rw [cat_size, cat_size]; omega)) rfl rfl rfl rfl trivial trivial ?_
 conv => whnf
 exact .mk' [0] rfl rfl rfl rfl rfl rfl trivial
theorem nodeP {a b : ByteArray} (ha : a.size ≤ 16800000) (hb : b.size ≤ 16800000) : Ctr Tryz.prog 90 [.str a, .str b] [] [] 0 0 (.str (nodeB a b)) [] := by
 have h1 : (ByteArray.mk #[1]).size = 1 := rfl
 refine Ctr.introR (T := Tryz.T) Tryz.hT Tryz.hM puZ_ok Tryz.func90 rfl (by kernel_rfl) rfl rfl rfl rfl ?_
 conv => whnf
 refine ⟨by unfold big; omega, ?_⟩
 conv => whnf
 refine ⟨by rw [cat_size]; unfold big; omega, ?_⟩
 conv => whnf
 refine callR [] (sumP (catB (catB ⟨#[1]⟩ a) b) (by rw [cat_size, cat_size]; omega)) rfl rfl rfl rfl trivial trivial ?_
 conv => whnf
 exact Fin.same rfl rfl (by simp)
theorem topP (n : Nat) {t : ByteArray} (ht : t.size ≤ 16800000) : Ctr Tryz.prog 87 [.int .i64 (n : Int), .str t] [] [] 0 0 (.str (topB n t)) [] := by
 have h1 : (ByteArray.mk #[2]).size = 1 := rfl
 have hn := numS_size (n : Int)
 refine Ctr.introR (T := Tryz.T) Tryz.hT Tryz.hM puZ_ok Tryz.func87 rfl (by kernel_rfl) rfl rfl rfl rfl ?_
 conv => whnf
 refine ⟨by unfold big; omega, ?_⟩
 conv => whnf
 refine ⟨by rw [cat_size]; unfold big; omega, ?_⟩
 conv => whnf
 refine callR [] (sumP (catB (catB ⟨#[2]⟩ (numS (n : Int))) t) (by rw [cat_size, cat_size]; omega)) rfl rfl rfl rfl trivial trivial ?_
 conv => whnf
 exact Fin.same rfl rfl (by simp)
def splitN (n : Nat) : Nat := if n < 2 then 0 else 2 ^ Nat.log2 (n - 1)
def valI : G → Option Int
 | .ok (.int .i64 m, [], _) => some m
 | _ => none
noncomputable def goodS (n : Nat) : Bool := match valI (Tryz.evo Tryz.ovA 80 127 [.int .i64 (n : Int)] [] [] 2) with
 | some m => decide (m = (splitN n : Int))
 | none => false
theorem goodS_all : (List.range 41).all goodS = true := by kernel_rfl
theorem splitP {n : Nat} (h : n ≤ 40) : Ctr Tryz.prog 127 [.int .i64 (n : Int)] [] [] 0 0 (.int .i64 (splitN n : Int)) [] := by
 have h1 : goodS n = true := List.all_eq_true.1 goodS_all n (List.mem_range.2 (by omega))
 refine clo ?_ rfl rfl
 unfold goodS at h1
 split at h1
 ·rename_i m hm
  have hm2 : m = (splitN n : Int) := of_decide_eq_true h1
  subst hm2
  unfold valI at hm
  split at hm
  ·rename_i m2 k hg
   cases hm
   rw [hg]; rfl
  ·cases hm
 ·cases h1
theorem split_lt {n : Nat} (h : n ≤ 40) (h2 : 2 ≤ n) : 1 ≤ splitN n ∧ splitN n < n := by
 have : ∀ n, n < 41 → 2 ≤ n → 1 ≤ splitN n ∧ splitN n < n := by decide
 exact this n (by omega) h2
def treeF : Nat → List ByteArray → ByteArray
 | 0, _ => ⟨#[]⟩
 | f + 1, l => if l.length < 2 then l.headD ⟨#[]⟩ else nodeB (treeF f (l.take (splitN l.length))) (treeF f (l.drop (splitN l.length)))
def treeB (l : List ByteArray) : ByteArray := treeF l.length l
theorem treeF_eq : ∀ (f : Nat) (l : List ByteArray), l.length ≤ f → l.length ≤ 40 → 1 ≤ l.length → treeF f l = treeB l
 | 0, l, h, _, h1 => absurd h1 (by omega)
 | f + 1, l, h, h40, h1 => by
  unfold treeB
  obtain ⟨g, hg⟩ : ∃ g, l.length = g + 1 := ⟨l.length - 1, by omega⟩
  rw [hg]
  simp only [treeF]
  by_cases h2 : l.length < 2
  ·rw [if_pos h2, if_pos h2]
  ·rw [if_neg h2, if_neg h2]
   obtain ⟨s1, s2⟩ := split_lt h40 (by omega)
   have a1 : (l.take (splitN l.length)).length = splitN l.length := by rw [List.length_take]; omega
   have a2 : (l.drop (splitN l.length)).length = l.length - splitN l.length := List.length_drop
   rw [treeF_eq f (l.take (splitN l.length)) (by omega) (by omega) (by omega), treeF_eq f (l.drop (splitN l.length)) (by omega) (by omega) (by omega)]
   have hgf : g ≤ f := by omega
   rcases Nat.lt_or_ge g f with hlt | hge
   ·rw [treeF_eq g (l.take (splitN l.length)) (by omega) (by omega) (by omega), treeF_eq g (l.drop (splitN l.length)) (by omega) (by omega) (by omega)]
   ·obtain rfl : g = f := by omega
    rw [treeF_eq g (l.take (splitN l.length)) (by omega) (by omega) (by omega), treeF_eq g (l.drop (splitN l.length)) (by omega) (by omega) (by omega)]
theorem treeB_one (x : ByteArray) : treeB [x] = x := rfl
theorem treeB_step {l : List ByteArray} (h2 : 2 ≤ l.length) (h40 : l.length ≤ 40) : treeB l = nodeB (treeB (l.take (splitN l.length))) (treeB (l.drop (splitN l.length))) := by
 obtain ⟨s1, s2⟩ := split_lt h40 h2
 have a1 : (l.take (splitN l.length)).length = splitN l.length := by rw [List.length_take]; omega
 have a2 : (l.drop (splitN l.length)).length = l.length - splitN l.length := List.length_drop
 obtain ⟨g, hg⟩ : ∃ g, l.length = g + 1 := ⟨l.length - 1, by omega⟩
 have e : treeB l = treeF (g + 1) l := by unfold treeB; rw [hg]
 rw [e]
 simp only [treeF]
 rw [if_neg (by omega), treeF_eq g _ (by omega) (by omega) (by omega), treeF_eq g _ (by omega) (by omega) (by omega)]
theorem leafB_size (p : KV) : (leafB p).size = 32 := sumB_size _ _
theorem nodeB_size (a b : ByteArray) : (nodeB a b).size = 32 := sumB_size _ _
theorem topB_size (n : Nat) (t : ByteArray) : (topB n t).size = 32 := sumB_size _ _
theorem treeB_size {l : List ByteArray} (h1 : 1 ≤ l.length) (h40 : l.length ≤ 40) (hl : ∀ s ∈ l, s.size = 32) : (treeB l).size = 32 := by
 match l, h1 with
 | [x], _ => exact hl x (by simp)
 | x :: y :: l, _ => rw [treeB_step (by simp) h40]; exact nodeB_size _ _
noncomputable def rowD (L : List KV) (d : Option Nat) : Res := .row 26 2 (cellsP L) d
theorem rowD_ren (L : List KV) (d : Option Nat) (π : Nat → Nat) : renR π (rowD L d) = rowD L d := by simp only [rowD, renR, bare_ren (cellsP_bare L)]
theorem rowD_ok (L : List KV) (d : Option Nat) (n : Nat) : okR n (rowD L d) = true := bare_ok (cellsP_bare L)
theorem rowD_at {L : List KV} {d : Option Nat} {H : Heap} {k : Nat} (π : Nat → Nat) (h : SX.look H (π k) = some (rowD L d)) : SX.look H (π k) = some (renR π (rowD L d)) := by rw [rowD_ren]; exact h
theorem readA2 {L : List KV} {m : Nat} (h : m < L.length) : readA true 2 (cellsP L) (m * 2 + 0) = some (.agg [.str L[m].1, .str L[m].2]) := by
 have := readP (X := []) h; rwa [List.append_nil] at this
def leavesB (L : List KV) : List ByteArray := L.map leafB
theorem foldP {L : List KV} {d : Option Nat} : ∀ (m i n k : Nat), n ≤ m → 1 ≤ n → n ≤ 40 → i + n ≤ L.length → n ≤ k →
  Ctr Tryz.prog 88 [.sv 0 2 i n (some k), .fn (.func 89) [] [], .fn (.func 90) [] []] [] [(0, rowD L d)] 1 1 (.str (treeB (((leavesB L).drop i).take n))) [(0, rowD L d)]
 | 0, i, n, k, hm, h1, _, _, _ => absurd h1 (by omega)
 | m + 1, i, n, k, hm, h1, h40, hL, hk => by
  have hlen : (((leavesB L).drop i).take n).length = n := by simp [leavesB]; omega
  refine Ctr.introR (T := Tryz.T) Tryz.hT Tryz.hM Tryz.hE Tryz.func88 rfl (by kernel_rfl) rfl rfl ?_ rfl ?_
  ·simp [okH_all, rowD_ok]
  conv => whnf
  by_cases hn1 : n = 1
  ·subst hn1
   conv => whnf
   refine ⟨by decide, ?_⟩
   conv => whnf
   rw [show readA true 2 (cellsP L) ((i + Int.toNat 0) * 2 + 0) = some (.agg [.str L[i].1, .str L[i].2]) from readA2 (by omega)]
   conv => whnf
   refine callR [] (leafP L[i].1 L[i].2) rfl rfl rfl rfl trivial trivial ?_
   conv => whnf
   have e : ((leavesB L).drop i).take 1 = [leafB L[i]] := by
    rw [List.drop_eq_getElem_cons (by simp [leavesB]; omega)]
    simp [leavesB]
   rw [e, treeB_one]
   refine Fin.same ?_ rfl ?_
   ·simp [okH_all, rowD_ok]
   ·intro p hp
    simp only [List.mem_cons, List.not_mem_nil, or_false] at hp
    rcases hp with rfl <;> rfl
  ·rw [show decide (((n : Nat) : Int) = 1) = false by simp; omega]
   obtain ⟨s1, s2⟩ := split_lt h40 (by omega)
   conv => whnf
   refine callR [] (splitP h40) rfl rfl rfl rfl trivial trivial ?_
   conv => whnf
   generalize hs : splitN n = s at s1 s2
   simp only [Int.toNat_natCast]
   refine ⟨by simp only [capE]; omega, ?_⟩
   conv => whnf
   refine callR [0] (foldP m i s k (by omega) s1 (by omega) (by omega) (by omega)) (post' := [(0, rowD L d)]) (by simp only [renH, rowD_ren]; rfl) rfl rfl rfl trivial ⟨rowD_at _ rfl, trivial⟩ ?_
   conv => whnf
   simp only [Int.toNat_natCast]
   refine ⟨by simp only [capE]; omega, ?_⟩
   conv => whnf
   refine callR [0] (foldP m (i + s) (n - s) (k - s) (by omega) (by omega) (by omega) (by omega) (by omega)) (post' := [(0, rowD L d)]) (by simp only [renH, rowD_ren]; rfl) rfl rfl rfl trivial ⟨rowD_at _ rfl, trivial⟩ ?_
   conv => whnf
   have hl1 : ∀ x ∈ leavesB L, x.size = 32 := fun x hx => by
    obtain ⟨p, _, rfl⟩ := List.mem_map.1 hx
    exact leafB_size p
   have z1 : (treeB (((leavesB L).drop i).take s)).size = 32 := treeB_size (by simp [leavesB]; omega) (by simp [leavesB]; omega) fun x hx => hl1 x (List.mem_of_mem_drop (List.mem_of_mem_take hx))
   have z2 : (treeB (((leavesB L).drop (i + s)).take (n - s))).size = 32 := treeB_size (by simp [leavesB]; omega) (by simp [leavesB]; omega) fun x hx => hl1 x (List.mem_of_mem_drop (List.mem_of_mem_take hx))
   refine callR [] (nodeP (a := treeB (((leavesB L).drop i).take s)) (b := treeB (((leavesB L).drop (i + s)).take (n - s))) (by omega) (by omega)) rfl rfl rfl rfl trivial trivial ?_
   conv => whnf
   have e : treeB (((leavesB L).drop i).take n) = nodeB (treeB (((leavesB L).drop i).take s)) (treeB (((leavesB L).drop (i + s)).take (n - s))) := by
    rw [treeB_step (by omega) (by omega), hlen, hs, List.take_take, List.drop_take, List.drop_drop, Nat.min_eq_left (by omega)]
   rw [e]
   generalize hrc : raceB _ _ = rb
   obtain rfl : rb = true := hrc.symm.trans (by kernel_rfl)
   conv => whnf
   refine Fin.same ?_ rfl ?_
   ·simp [okH_all, rowD_ok]
   ·intro p hp
    simp only [List.mem_cons, List.not_mem_nil, or_false] at hp
    rcases hp with rfl <;> rfl
def rootB (L : List KV) : ByteArray := topB L.length (match L with
 | [] => ⟨#[]⟩
 | _ => treeB (leavesB L))
theorem rootB_size (L : List KV) : (rootB L).size = 32 := topB_size _ _
theorem rootP {L : List KV} {d : Option Nat} {k : Nat} (h1 : 1 ≤ L.length) (h40 : L.length ≤ 40) (hk : L.length ≤ k) :
  Ctr Tryz.prog 55 [.sv 0 2 0 L.length (some k)] [] [(0, rowD L d)] 1 1 (.str (rootB L)) [(0, rowD L d)] := by
 have hl1 : ∀ x ∈ leavesB L, x.size = 32 := fun x hx => by
  obtain ⟨p, _, rfl⟩ := List.mem_map.1 hx
  exact leafB_size p
 have z1 : (treeB (leavesB L)).size = 32 := treeB_size (by simp [leavesB]; omega) (by simp [leavesB]; omega) hl1
 refine Ctr.introR (T := Tryz.T) Tryz.hT Tryz.hM Tryz.hE Tryz.func55 rfl (by kernel_rfl) rfl rfl ?_ rfl ?_
 ·simp [okH_all, rowD_ok]
 conv => whnf
 rw [show decide (((L.length : Nat) : Int) = 0) = false from decide_eq_false (by omega)]
 conv => whnf
 have c := foldP (L := L) (d := d) L.length 0 L.length k (Nat.le_refl _) h1 h40 (by omega) hk
 rw [List.drop_zero, List.take_of_length_le (by simp [leavesB])] at c
 refine callR [0] c (post' := [(0, rowD L d)]) (by simp only [renH, rowD_ren]; rfl) rfl rfl rfl trivial ⟨rowD_at _ rfl, trivial⟩ ?_
 conv => whnf
 refine callR [] (topP L.length (t := treeB (leavesB L)) (by omega)) rfl rfl rfl rfl trivial trivial ?_
 conv => whnf
 have e : rootB L = topB L.length (treeB (leavesB L)) := by
  cases L with
  | nil => simp at h1
  | cons p l => rfl
 rw [e]
 refine Fin.same ?_ rfl ?_
 ·simp [okH_all, rowD_ok]
 ·intro p hp
  simp only [List.mem_cons, List.not_mem_nil, or_false] at hp
  rcases hp with rfl <;> rfl
def alW : ByteArray := ⟨⟨[97, 108, 112, 104, 97]⟩⟩
def kalW : ByteArray := ⟨⟨[107, 101, 121, 32, 111, 102, 32, 97, 108, 112, 104, 97]⟩⟩
def outW : ByteArray := ⟨⟨[55, 57, 37, 124, 51, 58, 124, 61, 48, 44, 52, 61, 92, 92, 92, 92, 92, 92, 92, 92, 92, 92, 92, 92, 92, 92, 92, 92, 92, 92, 92, 92, 92, 92, 92, 92, 92, 92, 92, 92, 92, 92, 92, 92, 92, 92, 92, 92, 92, 92, 92, 92, 92, 92, 92, 92, 92, 92, 92, 92, 92, 92, 92, 92]⟩⟩
def innW : ByteArray := ⟨⟨[93, 83, 79, 22, 89, 80, 22, 87, 90, 70, 94, 87, 54, 54, 54, 54, 54, 54, 54, 54, 54, 54, 54, 54, 54, 54, 54, 54, 54, 54, 54, 54, 54, 54, 54, 54, 54, 54, 54, 54, 54, 54, 54, 54, 54, 54, 54, 54, 54, 54, 54, 54, 54, 54, 54, 54, 54, 54, 54, 54, 54, 54, 54, 54]⟩⟩
theorem turnA : Ctr Tryz.prog 126 [.int .u8 92, .ptr 1 0] [] [(1, .box 9 [.str kalW])] 2 3 (.str outW) [(1, .box 9 [.str kalW])] :=
 Tryz.ovA_ok 80 (show Tryz.evo Tryz.ovA 80 126 [.int .u8 92, .ptr 1 0] [(1, .box 9 [.str kalW])] [] 2 = .ok (.str outW, [(1, .box 9 [.str kalW])], 3) by kernel_rfl)
theorem turnB : Ctr Tryz.prog 126 [.int .u8 54, .ptr 1 0] [] [(1, .box 9 [.str kalW])] 2 3 (.str innW) [(1, .box 9 [.str kalW])] :=
 Tryz.ovA_ok 80 (show Tryz.evo Tryz.ovA 80 126 [.int .u8 54, .ptr 1 0] [(1, .box 9 [.str kalW])] [] 2 = .ok (.str innW, [(1, .box 9 [.str kalW])], 3) by kernel_rfl)
def macA (s : ByteArray) : ByteArray := sumB K64 (catB outW (sumB K64 (catB innW s)))
theorem macA_size (s : ByteArray) : (macA s).size = 32 := sumB_size _ _
theorem macP {s : ByteArray} (hs : s.size ≤ 16800000) : Ctr Tryz.prog 86 [.str kalW, .str s] [] [] 0 0 (.str (macA s)) [] := by
 have h1 : innW.size = 64 := rfl
 have h2 : outW.size = 64 := rfl
 have h3 := sumB_size K64 (catB innW s)
 refine Ctr.shut (m := 2) (k := 2) ?_ rfl rfl
 refine Ctr.introR (T := Tryz.T) Tryz.hT Tryz.hM Tryz.hE Tryz.func86 rfl (by kernel_rfl) rfl rfl rfl rfl ?_
 conv => whnf
 refine callR [0, 2] turnA rfl rfl rfl rfl trivial ⟨rfl, trivial⟩ ?_
 conv => whnf
 refine callR [0, 2] turnB rfl rfl rfl rfl trivial ⟨rfl, trivial⟩ ?_
 conv => whnf
 refine ⟨by unfold big; omega, ?_⟩
 conv => whnf
 refine callR [] (sumP (catB innW s) (by rw [cat_size]; omega)) rfl rfl rfl rfl trivial trivial ?_
 conv => whnf
 refine ⟨by unfold big; omega, ?_⟩
 conv => whnf
 refine callR [] (sumP (catB outW (sumB K64 (catB innW s))) (by rw [cat_size]; omega)) rfl rfl rfl rfl trivial trivial ?_
 generalize hv : sumB K64 (catB outW (sumB K64 (catB innW s))) = v
 have hv2 : macA s = v := hv
 rw [hv2]
 conv => whnf
 refine .mk' [] rfl rfl rfl rfl rfl rfl trivial
theorem addP {w s : ByteArray} {e : Int} (h : w.size + s.size ≤ big) : Ctr Tryz.prog 91 [.ptr 0 0, .str s, .int .i64 e] [] [(0, .box 144 [.str w, .int .i64 0])] 1 1 (.tup []) [(0, .box 144 [.str (catB w s), .int .i64 e])] := by
 refine Ctr.introR (T := Tryz.T) Tryz.hT Tryz.hM Tryz.hE Tryz.func91 rfl (by kernel_rfl) rfl rfl rfl rfl ?_
 conv => whnf
 refine ⟨h, ?_⟩
 conv => whnf
 exact .mk' [] rfl rfl rfl rfl rfl rfl ⟨rfl, trivial⟩
def headB (c : ByteArray) (h t : Int) (r : ByteArray) : ByteArray := catB (catB (catB (catB ⟨#[]⟩ (textS c)) (numS h)) (numS t)) (textS r)
noncomputable def hdA (c : ByteArray) (h t : Int) (r m : ByteArray) : AV := .agg [.str c, .int .i64 h, .int .i64 t, .str r, .str m]
def okH3 (c : ByteArray) (h t : Int) (r : ByteArray) : Prop := c.size ≤ 65536 ∧ (0 ≤ h ∧ h ≤ 9007199254740992) ∧ (0 ≤ t ∧ t ≤ 9007199254740992) ∧ r.size ≤ 65536
theorem headB_size (c : ByteArray) (h t : Int) (r : ByteArray) : (headB c h t r).size ≤ 131104 := by
 have := textS_size c; have := textS_size r; have := numS_size h; have := numS_size t
 unfold headB
 simp only [cat_size, nil_size]; omega
theorem bodyP {c r m : ByteArray} {h t : Int} (ok : okH3 c h t r) : Ctr Tryz.prog 85 [hdA c h t r m] [] [] 0 1 (.ptr 0 0) [(0, .box 144 [.str (headB c h t r), .int .i64 0])] := by
 obtain ⟨o1, o2, o3, o4⟩ := ok
 have := textS_size c; have := textS_size r; have := numS_size h; have := numS_size t
 refine Ctr.introR (T := Tryz.T) Tryz.hT Tryz.hM puZ_ok Tryz.func85 rfl (by kernel_rfl) rfl rfl rfl rfl ?_
 conv => whnf
 rw [textE_ok o1]
 refine callR [1] (addP (by rw [nil_size]; unfold big; omega)) rfl rfl rfl rfl trivial ⟨rfl, trivial⟩ ?_
 conv => whnf
 rw [numE_ok o2.1 o2.2]
 refine callR [1] (addP (by simp only [cat_size, nil_size]; unfold big; omega)) rfl rfl rfl rfl trivial ⟨rfl, trivial⟩ ?_
 conv => whnf
 rw [numE_ok o3.1 o3.2]
 refine callR [1] (addP (by simp only [cat_size, nil_size]; unfold big; omega)) rfl rfl rfl rfl trivial ⟨rfl, trivial⟩ ?_
 conv => whnf
 rw [textE_ok o4]
 refine callR [1] (addP (by simp only [cat_size, nil_size]; unfold big; omega)) rfl rfl rfl rfl trivial ⟨rfl, trivial⟩ ?_
 conv => whnf
 exact .mk' [1] rfl rfl rfl rfl rfl rfl ⟨rfl, trivial⟩
theorem signP {r m : ByteArray} {c : ByteArray} {h t : Int} (ok : okH3 c h t r) : Ctr Tryz.prog 54 [.str kalW, hdA c h t r m] [] [] 0 0 (.tup [hdA c h t r (macA (headB c h t r)), .int .i64 0]) [] := by
 have hs := headB_size c h t r
 refine Ctr.shut (m := 0) (k := 0) ?_ rfl rfl
 refine Ctr.introR (T := Tryz.T) Tryz.hT Tryz.hM puZ_ok Tryz.func54 rfl (by kernel_rfl) rfl rfl rfl rfl ?_
 conv => whnf
 refine callR [] (bodyP ok) rfl rfl rfl rfl trivial trivial ?_
 conv => whnf
 refine callR [] (macP (s := headB c h t r) (by omega)) rfl rfl rfl rfl trivial trivial ?_
 generalize macA (headB c h t r) = v
 conv => whnf
 exact .mk' [] rfl rfl rfl rfl rfl rfl trivial
theorem hputP {r m : ByteArray} {c : ByteArray} {h t : Int} (ok : okH3 c h t r) (hm : m.size ≤ 65536) : Ctr Tryz.prog 56 [hdA c h t r m] [] [] 0 0 (.tup [.str (catB (headB c h t r) (textS m)), .int .i64 0]) [] := by
 have hs := headB_size c h t r
 have hz := textS_size m
 refine Ctr.shut (m := 0) (k := 0) ?_ rfl rfl
 refine Ctr.introR (T := Tryz.T) Tryz.hT Tryz.hM puZ_ok Tryz.func56 rfl (by kernel_rfl) rfl rfl rfl rfl ?_
 conv => whnf
 refine callR [] (bodyP ok) rfl rfl rfl rfl trivial trivial ?_
 conv => whnf
 rw [textE_ok hm]
 refine callR [1] (addP (w := headB c h t r) (s := textS m) (by unfold big; omega)) rfl rfl rfl rfl trivial ⟨rfl, trivial⟩ ?_
 conv => whnf
 exact .mk' [] rfl rfl rfl rfl rfl rfl trivial
noncomputable def cbox (B : AV) : Res := .box 81 [.str alW, .ptr 1 0, B, .int .i64 0, .nils, .nils]
def rawB (L : List KV) (h : Nat) : ByteArray := catB (headB alW (h : Int) 0 (rootB L)) (textS (macA (headB alW (h : Int) 0 (rootB L))))
theorem jdepthQ (L : List KV) : Ctr Tryz.prog 51 [.ptr 0 0] [] [(0, jour L)] 1 1 (.int .i64 0) [(0, jour L)] := by
 refine Ctr.pack (rest := []) (outer := []) (by kernel_rfl) (by decide) (by decide) rfl rfl rfl rfl (fun _ _ h => by simp [lookN] at h) rfl ?_
 rintro H (⟨rfl, rfl⟩ | rfl)
 ·refine ⟨1, 2, .int .i64 0, jN, rfl, ?_, ?_⟩
  ·rw [inn1 _ 0, List.append_nil]
   refine Ctr.introR (T := Tryz.T) Tryz.hT Tryz.hM puH_ok Tryz.func51 rfl (by kernel_rfl) rfl rfl rfl rfl ?_
   conv => whnf
   exact .mk' [] rfl rfl rfl rfl rfl rfl ⟨rfl, rfl, trivial⟩
  ·exact ⟨jN, id, id, _, .inl ⟨rfl, rfl⟩, rfl, rfl, rfl, fun _ _ => rfl, rfl, rfl, rfl, rfl, ⟨rfl, rfl, trivial⟩, trivial⟩
 ·refine ⟨2, 3, .int .i64 0, jH L, jH_ok L, ?_, jback0 rfl fun _ => rfl⟩
  rw [inn1 _ 0, List.append_nil]
  refine Ctr.introR (T := Tryz.T) Tryz.hT Tryz.hM puH_ok Tryz.func51 rfl (by kernel_rfl) rfl rfl ?_ rfl ?_
  ·rw [List.append_nil]; exact jH_ok L
  conv => whnf
  exact Fin.same (jH_ok L) rfl (by simp [lookC, jH])
theorem beqn {n : Nat} (h : 0 < n) : Nat.beq n 0 = false := by
 cases n with
 | zero => omega
 | succ k => rfl
theorem bltn {n : Nat} (h : 0 < n) : Nat.blt 0 n = true := Nat.ble_eq_true_of_le h
theorem flat_cells {L : List KV} : ∀ (n i : Nat), i + n = L.length → Go.SX.flatC 2 (cellF L) i n = cellsP (L.drop i)
 | 0, i, h => by rw [List.drop_of_length_le (by omega)]; rfl
 | n + 1, i, h => by
  have hi : i < L.length := by omega
  have hc := cellsP_get hi
  have e0 : cellF L i 0 = .str L[i].1 := by unfold cellF; rw [Nat.add_zero, hc.1]; rfl
  have e1 : cellF L i 1 = .str L[i].2 := by unfold cellF; rw [hc.2]; rfl
  rw [List.drop_eq_getElem_cons hi, cellsP, ← flat_cells n (i + 1) (by omega), ← e0, ← e1]
  rfl
theorem now0 (L : List KV) : Ctr Tryz.prog 53 [.ptr 0 0] [] [(0, cbox (.nils))] 3 3 (.agg [.int .i64 1, .int .i64 0]) [(0, cbox (.nils))] := by
 refine Ctr.introR (T := Tryz.T) Tryz.hT Tryz.hM Tryz.hE Tryz.func53 rfl (by kernel_rfl) rfl rfl rfl rfl ?_
 conv => whnf
 exact .mk' [] rfl rfl rfl rfl rfl rfl ⟨rfl, trivial⟩
theorem block0 {L : List KV} (hs : Srt L) (h1 : 1 ≤ L.length) (h40 : L.length ≤ 40) (hle : L.length * 2 ≤ room) : Ctr Tryz.prog 28 [.ptr 0 0] [] [(0, cbox (.nils)), (1, jour L)] 2 4 (.int .i64 0) [(0, cbox (.sv 3 2 0 1 none)), (1, jour L), (2, rowD L (some L.length)), (3, .row 74 2 [.str (rawB L 1), .sv 2 2 0 L.length (some L.length)] none)] := by
 have ok3 : okH3 alW 1 0 (rootB L) := ⟨by decide, by decide, by decide, by rw [rootB_size]; omega⟩
 refine Ctr.introR (T := Tryz.T) Tryz.hT Tryz.hM Tryz.hE Tryz.func28 rfl (by kernel_rfl) rfl rfl rfl rfl ?_
 conv => whnf
 refine callR [1] (jdepthQ L) rfl rfl rfl rfl trivial ⟨rfl, trivial⟩ ?_
 conv => whnf
 refine callR [1] (jlistP hs hle) rfl rfl rfl rfl trivial ⟨rfl, trivial⟩ ?_
 conv => whnf
 refine ⟨⟨by omega, by omega, by unfold room at hle; omega, by rw [Int.toNat_natCast]; exact hle⟩, ?_⟩
 rw [spine_eq, Int.toNat_natCast]
 generalize hZ : repA L.length 2 [AV.str ⟨#[]⟩, AV.str ⟨#[]⟩] = Z
 conv => whnf
 have hflat : Go.SX.flatC 2 (lst none L.length 2 (cellF L)).cell 0 (min (lst none L.length 2 (cellF L)).len L.length) = cellsP L := by
  rw [show min (lst none L.length 2 (cellF L)).len L.length = L.length from Nat.min_self _]
  exact flat_cells L.length 0 (Nat.zero_add _)
 rw [hflat, show (cellsP L).all leafA = true from bare_leaf (cellsP_bare L), show Nat.beq (min (lst none L.length 2 (cellF L)).len L.length) 0 = false by
  rw [show min (lst none L.length 2 (cellF L)).len L.length = L.length from Nat.min_self _]; exact beqn h1]
 conv => whnf
 have hZl : Z.length = L.length * 2 := by rw [← hZ]; simp [repA]
 rw [show min (lst none L.length 2 (cellF L)).len L.length = L.length from Nat.min_self _, show Nat.blt 0 L.length = true from bltn h1, show Nat.ble (0 * 2) Z.length = true from Nat.ble_eq_true_of_le (by omega)]
 conv => whnf
 rw [spine_rec, show splice Z (0 * 2) (cellsP L) = cellsP L by
  rw [splice_def, Nat.zero_mul, List.take_zero, List.nil_append, List.drop_of_length_le (by rw [cellsP_len]; omega), List.append_nil]]
 conv => whnf
 refine callR [0, 1, 2] (now0 L) rfl rfl rfl rfl trivial ⟨rfl, trivial⟩ ?_
 conv => whnf
 refine ⟨by decide, ?_⟩
 conv => whnf
 refine callR [3] (rootP (L := L) (d := some L.length) h1 h40 (Nat.le_refl _)) (post' := [(3, rowD L (some L.length))]) (by simp only [renH, rowD_ren]; rfl) rfl rfl rfl trivial ⟨rowD_at _ rfl, trivial⟩ ?_
 conv => whnf
 rw [show catB ⟨#[107, 101, 121, 32, 111, 102, 32]⟩ alW = kalW from rfl]
 refine callR [] (signP (m := ⟨#[]⟩) ok3) rfl rfl rfl rfl trivial trivial ?_
 conv => whnf
 refine callR [] (hputP (m := macA (headB alW 1 0 (rootB L))) ok3 (by rw [macA_size]; omega)) rfl rfl rfl rfl trivial trivial ?_
 rw [show catB (headB alW 1 0 (rootB L)) (textS (macA (headB alW 1 0 (rootB L)))) = rawB L 1 from rfl]
 generalize rawB L 1 = rw_
 conv => whnf
 refine ⟨by decide, ?_⟩
 conv => whnf
 refine .mk' [3, 7] rfl rfl rfl ?_ rfl rfl ⟨rfl, rfl, rowD_at _ rfl, rfl, trivial⟩
 simp [okH_all, okR, cbox, rowD, bare_ok (cellsP_bare L), okL_cons, okL_nil, okA_str, okA_ptr, okA_int, okA_nils, okA_sv, jour]
theorem now1 (L : List KV) : Ctr Tryz.prog 53 [.ptr 0 0] [] [(0, cbox (.sv 2 2 0 1 none))] 3 3 (.agg [.int .i64 2, .int .i64 0]) [(0, cbox (.sv 2 2 0 1 none))] := by
 refine Ctr.introR (T := Tryz.T) Tryz.hT Tryz.hM Tryz.hE Tryz.func53 rfl (by kernel_rfl) rfl rfl rfl rfl ?_
 conv => whnf
 exact .mk' [] rfl rfl rfl rfl rfl rfl ⟨rfl, trivial⟩
theorem block1 {L : List KV} (hs : Srt L) (h1 : 1 ≤ L.length) (h40 : L.length ≤ 40) (hle : L.length * 2 ≤ room) : Ctr Tryz.prog 28 [.ptr 0 0] [] [(0, cbox (.sv 2 2 0 1 none)), (1, jour L), (2, .row 74 2 [.str (rawB L 1), .sv 3 2 0 L.length (some L.length)] none)] 4 6 (.int .i64 0) [(0, cbox (.sv 5 2 0 2 none)), (1, jour L), (2, .gone), (4, rowD L (some L.length)), (5, .row 74 2 [.str (rawB L 1), .sv 3 2 0 L.length (some L.length), .str (rawB L 2), .sv 4 2 0 L.length (some L.length)] none)] := by
 have ok3 : okH3 alW 2 0 (rootB L) := ⟨by decide, by decide, by decide, by rw [rootB_size]; omega⟩
 refine Ctr.introR (T := Tryz.T) Tryz.hT Tryz.hM Tryz.hE Tryz.func28 rfl (by kernel_rfl) rfl rfl rfl rfl ?_
 conv => whnf
 refine callR [1] (jdepthQ L) rfl rfl rfl rfl trivial ⟨rfl, trivial⟩ ?_
 conv => whnf
 refine callR [1] (jlistP hs hle) rfl rfl rfl rfl trivial ⟨rfl, trivial⟩ ?_
 conv => whnf
 refine ⟨⟨by omega, by omega, by unfold room at hle; omega, by rw [Int.toNat_natCast]; exact hle⟩, ?_⟩
 rw [spine_eq, Int.toNat_natCast]
 generalize hZ : repA L.length 2 [AV.str ⟨#[]⟩, AV.str ⟨#[]⟩] = Z
 conv => whnf
 have hflat : Go.SX.flatC 2 (lst none L.length 2 (cellF L)).cell 0 (min (lst none L.length 2 (cellF L)).len L.length) = cellsP L := by
  rw [show min (lst none L.length 2 (cellF L)).len L.length = L.length from Nat.min_self _]
  exact flat_cells L.length 0 (Nat.zero_add _)
 rw [hflat, show (cellsP L).all leafA = true from bare_leaf (cellsP_bare L), show Nat.beq (min (lst none L.length 2 (cellF L)).len L.length) 0 = false by
  rw [show min (lst none L.length 2 (cellF L)).len L.length = L.length from Nat.min_self _]; exact beqn h1]
 conv => whnf
 have hZl : Z.length = L.length * 2 := by rw [← hZ]; simp [repA]
 rw [show min (lst none L.length 2 (cellF L)).len L.length = L.length from Nat.min_self _, show Nat.blt 0 L.length = true from bltn h1, show Nat.ble (0 * 2) Z.length = true from Nat.ble_eq_true_of_le (by omega)]
 conv => whnf
 rw [spine_rec, show splice Z (0 * 2) (cellsP L) = cellsP L by
  rw [splice_def, Nat.zero_mul, List.take_zero, List.nil_append, List.drop_of_length_le (by rw [cellsP_len]; omega), List.append_nil]]
 conv => whnf
 refine callR [0, 1, 2] (now1 L) rfl rfl rfl rfl trivial ⟨rfl, trivial⟩ ?_
 conv => whnf
 refine ⟨by decide, ?_⟩
 conv => whnf
 refine callR [5] (rootP (L := L) (d := some L.length) h1 h40 (Nat.le_refl _)) (post' := [(5, rowD L (some L.length))]) (by simp only [renH, rowD_ren]; rfl) rfl rfl rfl trivial ⟨rowD_at _ rfl, trivial⟩ ?_
 conv => whnf
 rw [show catB ⟨#[107, 101, 121, 32, 111, 102, 32]⟩ alW = kalW from rfl]
 refine callR [] (signP (m := ⟨#[]⟩) ok3) rfl rfl rfl rfl trivial trivial ?_
 conv => whnf
 refine callR [] (hputP (m := macA (headB alW 2 0 (rootB L))) ok3 (by rw [macA_size]; omega)) rfl rfl rfl rfl trivial trivial ?_
 rw [show catB (headB alW 2 0 (rootB L)) (textS (macA (headB alW 2 0 (rootB L)))) = rawB L 2 from rfl]
 generalize rawB L 2 = rw_
 conv => whnf
 refine ⟨by decide, ?_⟩
 conv => whnf
 refine .mk' [5, 9] rfl rfl rfl ?_ rfl rfl ⟨rfl, rfl, rfl, rowD_at _ rfl, rfl, trivial⟩
 simp [okH_all, okR, cbox, rowD, bare_ok (cellsP_bare L), okL_cons, okL_nil, okA_str, okA_ptr, okA_int, okA_nils, okA_sv, jour]
def betW : ByteArray := ⟨⟨[98, 101, 116, 97]⟩⟩
def rooW : ByteArray := ⟨⟨[114, 111, 111, 116]⟩⟩
def strV : AV → ByteArray
 | .str s => s
 | _ => ⟨#[]⟩
def isKV (cl : Nat → Nat → AV) (n : Nat) : Prop := ∀ i, i < n → ∃ k v, cl i 0 = .str k ∧ cl i 1 = .str v
def addL (L : List KV) (k v : ByteArray) : List KV := if k.size ≤ 65536 ∧ v.size ≤ 65536 then setL L k v else L
def LL (cl : Nat → Nat → AV) : Nat → List KV
 | 0 => chainL betW rooW
 | i + 1 => addL (LL cl i) (strV (cl i 0)) (strV (cl i 1))
theorem addL_srt {L : List KV} (h : Srt L) (k v : ByteArray) : Srt (addL L k v) := by
 unfold addL; split
 ·exact setL_srt h k v
 ·exact h
theorem setL_ge (L : List KV) (k v : ByteArray) : L.length ≤ (setL L k v).length ∧ 1 ≤ (setL L k v).length := by
 rw [setL_length]
 split
 ·rename_i h
  have := hasL_lt h
  obtain ⟨hp, _⟩ := this
  omega
 ·omega
theorem addL_le (L : List KV) (k v : ByteArray) : (addL L k v).length ≤ L.length + 1 ∧ L.length ≤ (addL L k v).length := by
 unfold addL; split
 ·exact ⟨setL_le L k v, (setL_ge L k v).1⟩
 ·omega
theorem LL_srt (cl : Nat → Nat → AV) : ∀ i, Srt (LL cl i)
 | 0 => by unfold LL chainL; exact setL_srt (setL_srt (setL_srt srt_nil _ _) _ _) _ _
 | i + 1 => addL_srt (LL_srt cl i) _ _
theorem LL_le (cl : Nat → Nat → AV) : ∀ i, (LL cl i).length ≤ 3 + i ∧ 1 ≤ (LL cl i).length
 | 0 => by
  have a := setL_le (setL (setL [] (joinB nextW [clientW]) (numS 1)) (joinB clientW [client0]) (clientV betW (catB keyofW betW) 0 0)) adminW rooW
  have b := setL_le (setL [] (joinB nextW [clientW]) (numS 1)) (joinB clientW [client0]) (clientV betW (catB keyofW betW) 0 0)
  have c := setL_le [] (joinB nextW [clientW]) (numS 1)
  simp only [List.length_nil] at c
  exact ⟨by unfold LL chainL; omega, by unfold LL chainL; exact (setL_ge _ _ _).2⟩
 | i + 1 => by
  have := addL_le (LL cl i) (strV (cl i 0)) (strV (cl i 1))
  have := LL_le cl i
  unfold LL; omega
theorem setAny {L : List KV} (hs : Srt L) (k v : ByteArray) (hr : (L.length + 1) * 2 ≤ room) : ∃ e : Int, Ctr Tryz.prog 27 [.ptr 0 0, .str k, .str v] [] [(0, jour L)] 1 1 (.int .i64 e) [(0, jour (addL L k v))] := by
 by_cases h : k.size ≤ 65536 ∧ v.size ≤ 65536
 ·refine ⟨0, ?_⟩
  rw [show addL L k v = setL L k v from if_pos h]
  exact jsetP hs k v hr h.1 h.2
 ·refine ⟨4, ?_⟩
  rw [show addL L k v = L from if_neg h]
  exact jsetL k v (by omega)
theorem jOf : Ctr Tryz.prog 26 [.ptr 0 0] [] [(0, cbox .nils)] 2 2 (.ptr 1 0) [(0, cbox .nils)] := by
 refine Ctr.introR (T := Tryz.T) Tryz.hT Tryz.hM Tryz.hE Tryz.func26 rfl (by kernel_rfl) rfl rfl rfl rfl ?_
 conv => whnf
 exact .mk' [] rfl rfl rfl rfl rfl rfl ⟨rfl, trivial⟩
def lstC (cl : Nat → Nat → AV) (len : Nat) : Res := .abs (lst none len 2 cl)
theorem LL_add (cl : Nat → Nat → AV) {i : Nat} {k v : ByteArray} (h0 : cl i 0 = .str k) (h1 : cl i 1 = .str v) : addL (LL cl i) k v = LL cl (i + 1) := by
 show _ = addL (LL cl i) (strV (cl i 0)) (strV (cl i 1))
 rw [h0, h1]; rfl
theorem begin2 {cl : Nat → Nat → AV} {len : Nat} (hl : isKV cl len) (h8 : len ≤ 8) : Ctr Tryz.prog 7 [.sl 0 len, .int .i64 2] [(0, lstC cl len)] [] 1 6 (.ptr 1 0) [(1, .box 81 [.str alW, .ptr 2 0, .sv 3 2 0 2 none, .int .i64 0, .nils, .nils]), (2, jour (LL cl len)), (3, .row 74 2 [.str (rawB (LL cl len) 1), .sv 4 2 0 (LL cl len).length (some (LL cl len).length), .str (rawB (LL cl len) 2), .sv 5 2 0 (LL cl len).length (some (LL cl len).length)] none), (4, rowD (LL cl len) (some (LL cl len).length)), (5, rowD (LL cl len) (some (LL cl len).length))] := by
 have hrm : room = 4398046511104 := rfl
 refine Ctr.introR (T := Tryz.T) Tryz.hT Tryz.hM Tryz.hE Tryz.func7 rfl (by kernel_rfl) rfl rfl rfl rfl ?_
 conv => whnf
 refine callR [] (chn (name := alW) (other := betW) (admin := rooW) (by decide) (by decide) (by decide) (by decide)) rfl rfl rfl rfl trivial trivial ?_
 conv => whnf
 refine loopR Tryz.hT Tryz.hM Tryz.hE (α := {i : Nat // i ≤ len})
  (fun i => ([(0, .sl 0 len), (1, .int .i64 2), (5, .ptr 1 0), (7, .int .i64 (i.1 : Int))], [(0, lstC cl len), (1, .box 81 [.str alW, .ptr 2 0, .nils, .int .i64 0, .nils, .nils]), (2, jour (LL cl i.1))]))
  (fun i => len - i.1) 3 ⟨0, Nat.zero_le _⟩ [] ?_ ?_
 ·exact ⟨⟨rfl, rfl, rfl, rfl, trivial⟩, ⟨rfl, rfl, rfl, trivial⟩, rfl, rfl⟩
 rintro ⟨i, hi⟩
 conv => whnf
 dsimp only
 by_cases h : i < len
 ·rw [show decide (((i : Nat) : Int) < ((len : Nat) : Int)) = true by simpa using h]
  obtain ⟨ky, v, h0, h1⟩ := hl i h
  have hle := LL_le cl i
  obtain ⟨e, hset⟩ := setAny (LL_srt cl i) ky v (by omega)
  rw [LL_add cl h0 h1] at hset
  conv => whnf
  refine callR [1, 2] jOf rfl rfl rfl rfl trivial ⟨rfl, trivial⟩ ?_
  conv => whnf
  simp only [Int.toNat_natCast]
  refine ⟨by omega, ?_⟩
  conv => whnf
  refine ⟨h, ?_⟩
  rw [show readEl false 1 ((lst none len 2 cl).cell i) (0 + 0) = .str ky from h0]
  conv => whnf
  simp only [Int.toNat_natCast]
  refine ⟨by omega, ?_⟩
  conv => whnf
  refine ⟨h, ?_⟩
  rw [show readEl false 1 ((lst none len 2 cl).cell i) (0 + 1) = .str v from h1]
  conv => whnf
  refine callR [2] hset rfl rfl rfl rfl trivial ⟨rfl, trivial⟩ ?_
  conv => whnf
  have hw : IntKind.i64.wrap ((i : Int) + 1) = ((i + 1 : Nat) : Int) := by rw [wrap_small] <;> omega
  rw [hw]
  exact ⟨⟨i + 1, h⟩, [], by dsimp only; omega, ⟨⟨rfl, rfl, rfl, rfl, trivial⟩, ⟨rfl, rfl, rfl, trivial⟩, rfl, rfl⟩⟩
 ·rw [show decide (((i : Nat) : Int) < ((len : Nat) : Int)) = false by simpa using h]
  have h : i = len := by omega
  subst h
  conv => whnf
  refine unrollR Tryz.hT Tryz.hM Tryz.hE 3 ?_
  conv => whnf
  refine callR [1, 2] (block0 (LL_srt cl i) (LL_le cl i).2 (by have := (LL_le cl i).1; omega) (by have := (LL_le cl i).1; omega)) (post' := [(1, .box 81 [.str alW, .ptr 2 0, .sv 4 2 0 1 none, .int .i64 0, .nils, .nils]), (2, jour (LL cl i)), (3, rowD (LL cl i) (some (LL cl i).length)), (4, .row 74 2 [.str (rawB (LL cl i) 1), .sv 3 2 0 (LL cl i).length (some (LL cl i).length)] none)]) (by simp only [renH, rowD_ren]; rfl) rfl rfl rfl trivial ⟨rfl, rfl, trivial⟩ ?_
  conv => whnf
  refine callR [1, 2, 4, 3] (block1 (LL_srt cl i) (LL_le cl i).2 (by have := (LL_le cl i).1; omega) (by have := (LL_le cl i).1; omega)) (post' := [(1, .box 81 [.str alW, .ptr 2 0, .sv 6 2 0 2 none, .int .i64 0, .nils, .nils]), (2, jour (LL cl i)), (4, .gone), (5, rowD (LL cl i) (some (LL cl i).length)), (6, .row 74 2 [.str (rawB (LL cl i) 1), .sv 3 2 0 (LL cl i).length (some (LL cl i).length), .str (rawB (LL cl i) 2), .sv 5 2 0 (LL cl i).length (some (LL cl i).length)] none)]) (by simp only [renH, rowD_ren]; rfl) rfl rfl rfl trivial ⟨rfl, rfl, rfl, trivial⟩ ?_
  conv => whnf
  refine .mk' [1, 2, 6, 3, 5] rfl rfl rfl ?_ rfl rfl ⟨rfl, rfl, rfl, rowD_at _ rfl, rowD_at _ rfl, trivial⟩
  simp [okH_all, okR, rowD, bare_ok (cellsP_bare _), okL_cons, okL_nil, okA_str, okA_ptr, okA_int, okA_nils, okA_sv, jour]
theorem height2 (L : List KV) : Ctr Tryz.prog 15 [.ptr 0 0] [] [(0, cbox (.sv 2 2 0 2 none)), (2, .row 74 2 [.str (rawB L 1), .sv 3 2 0 L.length (some L.length), .str (rawB L 2), .sv 4 2 0 L.length (some L.length)] none)] 5 5 (.int .i64 2) [(0, cbox (.sv 2 2 0 2 none)), (2, .row 74 2 [.str (rawB L 1), .sv 3 2 0 L.length (some L.length), .str (rawB L 2), .sv 4 2 0 L.length (some L.length)] none)] := by
 refine Ctr.introR (T := Tryz.T) Tryz.hT Tryz.hM puZ_ok Tryz.func15 rfl (by kernel_rfl) rfl rfl rfl rfl ?_
 conv => whnf
 exact .mk' [] rfl rfl rfl rfl rfl rfl ⟨rfl, rfl, trivial⟩
theorem at2 (L : List KV) : Ctr Tryz.prog 34 [.ptr 0 0, .int .i64 2] [] [(0, cbox (.sv 2 2 0 2 none)), (2, .row 74 2 [.str (rawB L 1), .sv 3 2 0 L.length (some L.length), .str (rawB L 2), .sv 4 2 0 L.length (some L.length)] none)] 5 5 (.tup [.agg [.str (rawB L 2), .sv 4 2 0 L.length (some L.length)], .int .i64 0]) [(0, cbox (.sv 2 2 0 2 none)), (2, .row 74 2 [.str (rawB L 1), .sv 3 2 0 L.length (some L.length), .str (rawB L 2), .sv 4 2 0 L.length (some L.length)] none)] := by
 refine Ctr.introR (T := Tryz.T) Tryz.hT Tryz.hM puZ_ok Tryz.func34 rfl (by kernel_rfl) rfl rfl rfl rfl ?_
 conv => whnf
 refine ⟨by decide, ?_⟩
 conv => whnf
 exact .mk' [] rfl rfl rfl rfl rfl rfl ⟨rfl, rfl, trivial⟩
theorem kv_of {nl : Nat} {cl : Nat → Nat → AV} (h : ∀ (a j : Nat) (k : LK), a < nl → ([.str, .str] : List LK)[j]? = some k → k.okA (cl a j)) : isKV cl nl := by
 intro i hi
 obtain ⟨s, e, _⟩ := h i 0 .str hi rfl
 obtain ⟨s2, e2, _⟩ := h i 1 .str hi rfl
 exact ⟨s, s2, e, e2⟩
def pathF : Nat → List ByteArray → Nat → List ByteArray
 | 0, _, _ => []
 | f + 1, l, i => if l.length < 2 then [] else if i < splitN l.length then pathF f (l.take (splitN l.length)) i ++ [treeB (l.drop (splitN l.length))] else pathF f (l.drop (splitN l.length)) (i - splitN l.length) ++ [treeB (l.take (splitN l.length))]
def pathB (l : List ByteArray) (i : Nat) : List ByteArray := pathF l.length l i
theorem pathF_eq : ∀ (f : Nat) (l : List ByteArray) (i : Nat), l.length ≤ f → l.length ≤ 40 → 1 ≤ l.length → pathF f l i = pathB l i
 | 0, l, i, h, _, h1 => absurd h1 (by omega)
 | f + 1, l, i, h, h40, h1 => by
  unfold pathB
  obtain ⟨g, hg⟩ : ∃ g, l.length = g + 1 := ⟨l.length - 1, by omega⟩
  rw [hg]
  simp only [pathF]
  by_cases h2 : l.length < 2
  ·rw [if_pos h2, if_pos h2]
  ·rw [if_neg h2, if_neg h2]
   obtain ⟨s1, s2⟩ := split_lt h40 (by omega)
   have a1 : (l.take (splitN l.length)).length = splitN l.length := by rw [List.length_take]; omega
   have a2 : (l.drop (splitN l.length)).length = l.length - splitN l.length := List.length_drop
   rw [pathF_eq f (l.take (splitN l.length)) i (by omega) (by omega) (by omega), pathF_eq f (l.drop (splitN l.length)) _ (by omega) (by omega) (by omega)]
   have hgf : g ≤ f := by omega
   rcases Nat.lt_or_ge g f with hlt | hge
   ·rw [pathF_eq g (l.take (splitN l.length)) i (by omega) (by omega) (by omega), pathF_eq g (l.drop (splitN l.length)) _ (by omega) (by omega) (by omega)]
   ·obtain rfl : g = f := by omega
    rw [pathF_eq g (l.take (splitN l.length)) i (by omega) (by omega) (by omega), pathF_eq g (l.drop (splitN l.length)) _ (by omega) (by omega) (by omega)]
theorem pathB_step {l : List ByteArray} (i : Nat) (h2 : 2 ≤ l.length) (h40 : l.length ≤ 40) : pathB l i = if i < splitN l.length then pathB (l.take (splitN l.length)) i ++ [treeB (l.drop (splitN l.length))] else pathB (l.drop (splitN l.length)) (i - splitN l.length) ++ [treeB (l.take (splitN l.length))] := by
 obtain ⟨s1, s2⟩ := split_lt h40 h2
 have a1 : (l.take (splitN l.length)).length = splitN l.length := by rw [List.length_take]; omega
 have a2 : (l.drop (splitN l.length)).length = l.length - splitN l.length := List.length_drop
 obtain ⟨g, hg⟩ : ∃ g, l.length = g + 1 := ⟨l.length - 1, by omega⟩
 have e : pathB l i = pathF (g + 1) l i := by unfold pathB; rw [hg]
 rw [e]
 simp only [pathF]
 rw [if_neg (by omega), pathF_eq g _ i (by omega) (by omega) (by omega), pathF_eq g _ _ (by omega) (by omega) (by omega)]
theorem pathB_one {l : List ByteArray} (i : Nat) (h : l.length < 2) : pathB l i = [] := by
 unfold pathB
 match l, h with
 | [], _ => rfl
 | [x], _ => rfl
theorem pathB_len : ∀ (m : Nat) (l : List ByteArray) (i : Nat), l.length ≤ m → l.length ≤ 40 → (pathB l i).length ≤ l.length
 | 0, l, i, h, _ => by rw [pathB_one i (by omega)]; exact Nat.zero_le _
 | m + 1, l, i, h, h40 => by
  by_cases h2 : l.length < 2
  ·rw [pathB_one i h2]; exact Nat.zero_le _
  ·obtain ⟨s1, s2⟩ := split_lt h40 (by omega)
   have a1 : (l.take (splitN l.length)).length = splitN l.length := by rw [List.length_take]; omega
   have a2 : (l.drop (splitN l.length)).length = l.length - splitN l.length := List.length_drop
   rw [pathB_step i (by omega) h40]
   split
   ·have := pathB_len m (l.take (splitN l.length)) i (by omega) (by omega)
    rw [List.length_append]; simp only [List.length_cons, List.length_nil]; omega
   ·have := pathB_len m (l.drop (splitN l.length)) (i - splitN l.length) (by omega) (by omega)
    rw [List.length_append]; simp only [List.length_cons, List.length_nil]; omega
theorem pathB_all : ∀ (m : Nat) (l : List ByteArray) (i : Nat), l.length ≤ m → l.length ≤ 40 → (∀ s ∈ l, s.size = 32) → ∀ s ∈ pathB l i, s.size = 32
 | 0, l, i, h, _, _ => by rw [pathB_one i (by omega)]; intro s hs; cases hs
 | m + 1, l, i, h, h40, hl => by
  by_cases h2 : l.length < 2
  ·rw [pathB_one i h2]; intro s hs; cases hs
  ·obtain ⟨s1, s2⟩ := split_lt h40 (by omega)
   have a1 : (l.take (splitN l.length)).length = splitN l.length := by rw [List.length_take]; omega
   have a2 : (l.drop (splitN l.length)).length = l.length - splitN l.length := List.length_drop
   have hA : ∀ s ∈ l.take (splitN l.length), s.size = 32 := fun s hs => hl s (List.mem_of_mem_take hs)
   have hB : ∀ s ∈ l.drop (splitN l.length), s.size = 32 := fun s hs => hl s (List.mem_of_mem_drop hs)
   rw [pathB_step i (by omega) h40]
   intro s hs
   split at hs
   ·rcases List.mem_append.1 hs with h3 | h3
    ·exact pathB_all m _ i (by omega) (by omega) hA s h3
    ·rw [List.mem_singleton.1 h3]; exact treeB_size (by omega) (by omega) hB
   ·rcases List.mem_append.1 hs with h3 | h3
    ·exact pathB_all m _ _ (by omega) (by omega) hB s h3
    ·rw [List.mem_singleton.1 h3]; exact treeB_size (by omega) (by omega) hA
theorem bfq (k v key : ByteArray) : Ctr Tryz.prog 100 [.agg [.str k, .str v], .str key] [] [] 0 0 (.int .i64 (cmpB k key)) [] := by
 refine Ctr.shut (m := 0) (k := 1) ?_ rfl rfl
 refine Ctr.introR (T := Tryz.T) Tryz.hT Tryz.hM puC2_ok Tryz.func100 rfl (by kernel_rfl) rfl rfl rfl rfl ?_
 conv => whnf
 exact .mk' [0] rfl rfl rfl rfl rfl rfl trivial
noncomputable def puQ_0 : Pure := fun g vs => match Nat.beq g 100, vs with
 | true, [.agg [.str k, .str _v], .str key] => some (.int .i64 (cmpB k key))
 | _, _ => none
theorem puQ_0_ok : PureOK Tryz.prog puQ_0 := by
 intro g vs v h
 unfold puQ_0 at h
 split at h
 ·rename_i k _v key hg
  cases h
  have hg := Nat.eq_of_beq_eq_true hg
  subst hg
  exact .inl fun n0 => (bfq k _v key).anyO rfl rfl n0
 ·cases h
noncomputable def puQ : Pure := (orP puQ_0 puC2)
theorem puQ_ok : PureOK Tryz.prog puQ := (orP_ok puQ_0_ok puC2_ok)
theorem bsq {L : List KV} (hs : Srt L) {c d : Option Nat} (key : ByteArray) (hr : L.length * 2 ≤ room) : Ctr Tryz.prog 99 [.sv 0 2 0 L.length c, .str key, .fn (.func 100) [] []] [] [(0, .row 26 2 (cellsP L) d)] 1 1
  (.tup [.int .i64 (posL L key), .bool (hasL L key)]) [(0, .row 26 2 (cellsP L) d)] := by
 refine Ctr.introR (T := Tryz.T) Tryz.hT Tryz.hM puQ_ok Tryz.func99 rfl (by kernel_rfl) rfl rfl ?_ rfl ?_
 ·simp [okH_all, okR, bare_ok (cellsP_bare L)]
 have hH : okH 1 [(0, Res.row 26 2 (cellsP L) d)] = true := by simp [okH_all, okR, bare_ok (cellsP_bare L)]
 conv => whnf
 refine loopR Tryz.hT Tryz.hM puQ_ok (α := {p : Nat × Nat // p.1 ≤ posL L key ∧ posL L key ≤ p.2 ∧ p.2 ≤ L.length})
  (fun p => ([(0, .sv 0 2 0 L.length c), (1, .str key), (2, .fn (.func 100) [] []), (8, .int .i64 ((L.length : Nat) : Int)), (9, .int .i64 ((p.1.1 : Nat) : Int)), (10, .int .i64 ((p.1.2 : Nat) : Int))], [(0, .row 26 2 (cellsP L) d)]))
  (fun p => p.1.2 - p.1.1) 1 ⟨(0, L.length), Nat.zero_le _, posL_le L key, Nat.le_refl _⟩ [] ?_ ?_
 ·refine ⟨⟨rfl, rfl, rfl, rfl, rfl, rfl, trivial⟩, ⟨?_, trivial⟩, ?_, rfl⟩
  ·simp [renR, bare_ren (cellsP_bare L)]; rfl
  ·simp [okFr, okH_all, okR, bare_ok (cellsP_bare L), okA_sv, okA_str, okA_fn, okA_int, okL_nil, nodupB]
 ·rintro ⟨⟨i, j⟩, h1, h2, h3⟩
  dsimp only at h1 h2 h3 ⊢
  conv => whnf
  refine bcase_intro (fun h => ?_) (fun h => ?_)
  ·have h : i < j := by simpa using h
   have hm := mid_wrap (i := i) (j := j) (by unfold room at hr; omega)
   conv => whnf
   simp only [hm, Int.toNat_natCast, Nat.zero_add]
   generalize hmm : (i + j) / 2 = m at *
   have hml : m < L.length := by omega
   refine ⟨by omega, ?_⟩
   conv => whnf
   rw [readA2 hml]
   conv => whnf
   have hk := posL_lt hs (key := key) hml
   refine bcase_intro (fun h4 => ?_) (fun h4 => ?_)
   ·have h4 : m < posL L key := hk.1 (by simpa using h4)
    conv => whnf
    have hw : IntKind.i64.wrap ((m : Int) + 1) = ((m + 1 : Nat) : Int) := by rw [wrap_small] <;> (unfold room at hr; omega)
    simp only [hw]
    refine ⟨⟨(m + 1, j), by omega, h2, h3⟩, [], by dsimp only; omega, ⟨⟨rfl, rfl, rfl, rfl, rfl, rfl, trivial⟩, ⟨?_, trivial⟩, ?_, rfl⟩⟩
    ·simp [renR, bare_ren (cellsP_bare L)]; rfl
    ·simp [okFr, okH_all, okR, bare_ok (cellsP_bare L), okA_sv, okA_str, okA_fn, okA_int, okL_nil, nodupB]
   ·have h4 : ¬ m < posL L key := fun e => by have := hk.2 e; simp at h4; omega
    conv => whnf
    refine ⟨⟨(i, m), h1, by omega, by omega⟩, [], by dsimp only; omega, ⟨⟨rfl, rfl, rfl, rfl, rfl, rfl, trivial⟩, ⟨?_, trivial⟩, ?_, rfl⟩⟩
    ·simp [renR, bare_ren (cellsP_bare L)]; rfl
    ·simp [okFr, okH_all, okR, bare_ok (cellsP_bare L), okA_sv, okA_str, okA_fn, okA_int, okL_nil, nodupB]
  ·have h : i = posL L key := by simp at h; omega
   subst h
   conv => whnf
   refine bcase_intro (fun h => ?_) (fun h => ?_)
   ·have h : posL L key < L.length := by simpa using h
    conv => whnf
    simp only [Int.toNat_natCast, Nat.zero_add]
    refine ⟨by omega, ?_⟩
    conv => whnf
    rw [readA2 h]
    conv => whnf
    rw [hasL_at h]
    exact Fin.same hH rfl (by simp [lookC])
   ·conv => whnf
    have h : ¬ posL L key < L.length := by simpa using h
    rw [hasL_out (by omega)]
    exact Fin.same hH rfl (by simp [lookC])
theorem readK2 {L : List KV} {m : Nat} (h : m < L.length) : readA false 1 (cellsP L) (m * 2 + 0) = some (.str L[m].1) := by have := readP1 (X := []) h (o := 0) (by decide); rwa [List.append_nil] at this
theorem srt_adj {L : List KV} (hs : Srt L) {i : Nat} (h : i + 1 < L.length) : cmpB L[i].1 L[i + 1].1 < 0 := List.pairwise_iff_getElem.1 hs i (i + 1) (by omega) h (by omega)
theorem risesP {L : List KV} (hs : Srt L) (h1 : 1 ≤ L.length) (h40 : L.length ≤ 40) (c d : Option Nat) : Ctr Tryz.prog 98 [.sv 0 2 0 L.length c] [] [(0, rowD L d)] 1 1 (.bool true) [(0, rowD L d)] := by
 refine Ctr.introR (T := Tryz.T) Tryz.hT Tryz.hM puQ_ok Tryz.func98 rfl (by kernel_rfl) rfl rfl ?_ rfl ?_
 ·simp [okH_all, rowD_ok]
 conv => whnf
 have e1 : IntKind.i64.wrap ((L.length : Int) - 1) = ((L.length - 1 : Nat) : Int) := by rw [wrap_small] <;> omega
 simp only [e1]
 refine loopR Tryz.hT Tryz.hM puQ_ok (α := {i : Nat // i ≤ L.length - 1})
  (fun i => ([(0, .sv 0 2 0 L.length c), (6, .int .i64 ((L.length - 1 : Nat) : Int)), (7, .int .i64 (i.1 : Int))], [(0, rowD L d)])) (fun i => L.length - 1 - i.1) 1 ⟨0, Nat.zero_le _⟩ [] ?_ ?_
 ·refine ⟨⟨rfl, rfl, rfl, trivial⟩, ⟨rowD_at _ rfl, trivial⟩, ?_, rfl⟩
  simp [okFr, okH_all, rowD_ok, okA_sv, okA_int, nodupB]
 rintro ⟨i, hi⟩
 dsimp only at hi ⊢
 conv => whnf
 by_cases h : i < L.length - 1
 ·rw [show decide (((i : Nat) : Int) < ((L.length - 1 : Nat) : Int)) = true by simp; omega]
  conv => whnf
  simp only [Int.toNat_natCast, Nat.zero_add]
  refine ⟨by omega, ?_⟩
  conv => whnf
  rw [show readA false 1 (cellsP L) (i * 2 + 0) = some (.str L[i].1) from readK2 (by omega)]
  conv => whnf
  have hw : IntKind.i64.wrap ((i : Int) + 1) = ((i + 1 : Nat) : Int) := by rw [wrap_small] <;> omega
  rw [hw]
  simp only [Int.toNat_natCast, Nat.zero_add]
  refine ⟨by omega, ?_⟩
  conv => whnf
  rw [show readA false 1 (cellsP L) ((i + 1) * 2 + 0) = some (.str L[i + 1].1) from readK2 (by omega)]
  conv => whnf
  rw [show slt L[i].1 L[i + 1].1 = true from by rw [slt_cmp]; exact decide_eq_true (srt_adj hs (by omega))]
  conv => whnf
  have hw2 : IntKind.i64.wrap ((i : Int) + 1) = ((i + 1 : Nat) : Int) := hw
  rw [hw2]
  refine ⟨⟨i + 1, by omega⟩, [], by dsimp only; omega, ⟨⟨rfl, rfl, rfl, trivial⟩, ⟨rowD_at _ rfl, trivial⟩, ?_, rfl⟩⟩
  simp [okFr, okH_all, rowD_ok, okA_sv, okA_int, nodupB]
 ·rw [show decide (((i : Nat) : Int) < ((L.length - 1 : Nat) : Int)) = false by simp; omega]
  conv => whnf
  refine Fin.same ?_ rfl ?_
  ·simp [okH_all, rowD_ok]
  ·simp [lookC]
theorem treeP {M : List ByteArray} {d : Option Nat} (hM : ∀ s ∈ M, s.size = 32) : ∀ (m i n : Nat), n ≤ m → 1 ≤ n → n ≤ 40 → i + n ≤ M.length →
  Ctr Tryz.prog 131 [.sv 0 1 i n none] [] [(0, rowS M d)] 1 1 (.str (treeB ((M.drop i).take n))) [(0, rowS M d)]
 | 0, i, n, hm, h1, _, _ => absurd h1 (by omega)
 | m + 1, i, n, hm, h1, h40, hL => by
  have hlen : ((M.drop i).take n).length = n := by simp; omega
  refine Ctr.introR (T := Tryz.T) Tryz.hT Tryz.hM Tryz.hE Tryz.func131 rfl (by kernel_rfl) rfl rfl ?_ rfl ?_
  ·simp [okH_all, rowS_ok]
  conv => whnf
  by_cases hn1 : n = 1
  ·subst hn1
   conv => whnf
   refine ⟨by decide, ?_⟩
   conv => whnf
   have hr : readA false 1 (strsA M) ((i + Int.toNat 0) * 1 + 0) = some (.str M[i]) := by
    show nth (strsA M) _ = _
    rw [nth_eq, show (i + Int.toNat 0) * 1 + 0 = i by simp, strsA, List.getElem?_map, List.getElem?_eq_getElem (by omega)]; rfl
   rw [hr]
   conv => whnf
   have e : (M.drop i).take 1 = [M[i]] := by
    rw [List.drop_eq_getElem_cons (by omega)]; rfl
   rw [e, treeB_one]
   refine Fin.same ?_ rfl ?_
   ·simp [okH_all, rowS_ok]
   ·intro p hp
    simp only [List.mem_cons, List.not_mem_nil, or_false] at hp
    rcases hp with rfl <;> rfl
  ·rw [show decide (((n : Nat) : Int) = 1) = false by simp; omega]
   obtain ⟨s1, s2⟩ := split_lt h40 (by omega)
   conv => whnf
   refine callR [] (splitP h40) rfl rfl rfl rfl trivial trivial ?_
   conv => whnf
   generalize hs : splitN n = s at s1 s2
   simp only [Int.toNat_natCast]
   refine ⟨by simp only [capE]; omega, ?_⟩
   conv => whnf
   refine callR [0] (treeP hM m i s (by omega) s1 (by omega) (by omega)) (post' := [(0, rowS M d)]) (by simp only [renH, rowS_ren]; rfl) rfl rfl rfl trivial ⟨rowS_at _ rfl, trivial⟩ ?_
   conv => whnf
   simp only [Int.toNat_natCast]
   refine ⟨by simp only [capE]; omega, ?_⟩
   conv => whnf
   refine callR [0] (treeP hM m (i + s) (n - s) (by omega) (by omega) (by omega) (by omega)) (post' := [(0, rowS M d)]) (by simp only [renH, rowS_ren]; rfl) rfl rfl rfl trivial ⟨rowS_at _ rfl, trivial⟩ ?_
   conv => whnf
   have z1 : (treeB ((M.drop i).take s)).size = 32 := treeB_size (by simp; omega) (by simp; omega) fun x hx => hM x (List.mem_of_mem_drop (List.mem_of_mem_take hx))
   have z2 : (treeB ((M.drop (i + s)).take (n - s))).size = 32 := treeB_size (by simp; omega) (by simp; omega) fun x hx => hM x (List.mem_of_mem_drop (List.mem_of_mem_take hx))
   refine callR [] (nodeP (a := treeB ((M.drop i).take s)) (b := treeB ((M.drop (i + s)).take (n - s))) (by omega) (by omega)) rfl rfl rfl rfl trivial trivial ?_
   conv => whnf
   have e : treeB ((M.drop i).take n) = nodeB (treeB ((M.drop i).take s)) (treeB ((M.drop (i + s)).take (n - s))) := by
    rw [treeB_step (by omega) (by omega), hlen, hs, List.take_take, List.drop_take, List.drop_drop, Nat.min_eq_left (by omega)]
   rw [e]
   generalize hrc : raceB _ _ = rb
   obtain rfl : rb = true := hrc.symm.trans (by kernel_rfl)
   conv => whnf
   refine Fin.same ?_ rfl ?_
   ·simp [okH_all, rowS_ok]
   ·intro p hp
    simp only [List.mem_cons, List.not_mem_nil, or_false] at hp
    rcases hp with rfl <;> rfl
theorem pathP0 {M : List ByteArray} {d : Option Nat} (a i : Nat) : ∀ n, n < 2 → Ctr Tryz.prog 102 [.sv 0 1 a n none, .int .i64 (i : Int)] [] [(0, rowS M d)] 1 1 .nils [(0, rowS M d)] := by
 intro n hn
 refine Ctr.introR (T := Tryz.T) Tryz.hT Tryz.hM Tryz.hE Tryz.func102 rfl (by kernel_rfl) rfl rfl ?_ rfl ?_
 ·simp [okH_all, rowS_ok]
 conv => whnf
 rw [show decide (((n : Nat) : Int) < 2) = true by simp; omega]
 conv => whnf
 refine Fin.same ?_ rfl ?_
 ·simp [okH_all, rowS_ok]
 ·intro p hp
  simp only [List.mem_cons, List.not_mem_nil, or_false] at hp
  rcases hp with rfl <;> rfl
theorem pathP {M : List ByteArray} {d : Option Nat} (hM : ∀ s ∈ M, s.size = 32) : ∀ (m a n i : Nat), n ≤ m → 2 ≤ n → n ≤ 40 → a + n ≤ M.length → i < 100 →
  Ctr Tryz.prog 102 [.sv 0 1 a n none, .int .i64 (i : Int)] [] [(0, rowS M d)] 1 2 (.sv 1 1 0 (pathB ((M.drop a).take n) i).length none) [(0, rowS M d), (1, rowS (pathB ((M.drop a).take n) i) none)]
 | 0, a, n, i, hm, h1, _, _, _ => absurd h1 (by omega)
 | m + 1, a, n, i, hm, h1, h40, hL, hi => by
  have hlen : ((M.drop a).take n).length = n := by simp; omega
  refine Ctr.introR (T := Tryz.T) Tryz.hT Tryz.hM Tryz.hE Tryz.func102 rfl (by kernel_rfl) rfl rfl ?_ rfl ?_
  ·simp [okH_all, rowS_ok]
  conv => whnf
  rw [show decide (((n : Nat) : Int) < 2) = false by simp; omega]
  obtain ⟨s1, s2⟩ := split_lt h40 (by omega)
  conv => whnf
  refine callR [] (splitP h40) rfl rfl rfl rfl trivial trivial ?_
  have hst := pathB_step (l := (M.drop a).take n) i (by omega) (by omega)
  rw [hlen] at hst
  generalize hs : splitN n = s at s1 s2 hst
  rw [List.take_take, List.drop_take, List.drop_drop, Nat.min_eq_left (by omega)] at hst
  conv => whnf
  by_cases hin : i < s
  ·rw [show decide (((i : Nat) : Int) < ((s : Nat) : Int)) = true by simpa using hin]
   rw [if_pos hin] at hst
   conv => whnf
   simp only [Int.toNat_natCast]
   refine ⟨by simp only [capE]; omega, ?_⟩
   conv => whnf
   by_cases hs2 : s < 2
   ·refine callR [0] (pathP0 (M := M) (d := d) a i s hs2) (post' := [(0, rowS M d)]) (by simp only [renH, rowS_ren]; rfl) rfl rfl rfl trivial ⟨rowS_at _ rfl, trivial⟩ ?_
    conv => whnf
    simp only [Int.toNat_natCast]
    refine ⟨by simp only [capE]; omega, ?_⟩
    conv => whnf
    refine callR [0] (treeP hM (n - s) (a + s) (n - s) (Nat.le_refl _) (by omega) (by omega) (by omega)) (post' := [(0, rowS M d)]) (by simp only [renH, rowS_ren]; rfl) rfl rfl rfl trivial ⟨rowS_at _ rfl, trivial⟩ ?_
    conv => whnf
    refine ⟨by decide, ?_⟩
    rw [hst, pathB_one i (by rw [List.length_take, List.length_drop]; omega), List.nil_append]
    generalize treeB ((M.drop (a + s)).take (n - s)) = tr
    conv => whnf
    generalize hrc : raceB _ _ = rb
    obtain rfl : rb = true := hrc.symm.trans (by kernel_rfl)
    conv => whnf
    refine .mk' [2] rfl rfl rfl ?_ rfl rfl ⟨rowS_at _ rfl, rowS_at _ rfl, trivial⟩
    simp [okH_all, okR, rowS, bare_ok (strsA_bare _)]
   ·refine callR [0] (pathP hM m a s i (by omega) (by omega) (by omega) (by omega) (by omega)) (post' := [(0, rowS M d), (1, rowS (pathB ((M.drop a).take s) i) none)]) (by simp only [renH, rowS_ren]; rfl) rfl rfl rfl trivial ⟨rowS_at _ rfl, trivial⟩ ?_
    conv => whnf
    simp only [Int.toNat_natCast]
    refine ⟨by simp only [capE]; omega, ?_⟩
    conv => whnf
    refine callR [0] (treeP hM (n - s) (a + s) (n - s) (Nat.le_refl _) (by omega) (by omega) (by omega)) (post' := [(0, rowS M d)]) (by simp only [renH, rowS_ren]; rfl) rfl rfl rfl trivial ⟨rowS_at _ rfl, trivial⟩ ?_
    rw [hst]
    have hpl := pathB_len 40 ((M.drop a).take s) i (by rw [List.length_take]; omega) (by rw [List.length_take]; omega)
    have hpl2 : ((M.drop a).take s).length ≤ 40 := by rw [List.length_take]; omega
    generalize pathB ((M.drop a).take s) i = P at hpl ⊢
    generalize treeB ((M.drop (a + s)).take (n - s)) = tr
    conv => whnf
    have hPl : (strsA P).length = P.length := by simp [strsA]
    rw [show Nat.ble ((0 + P.length) * 1) (strsA P).length = true from Nat.ble_eq_true_of_le (by rw [hPl]; omega)]
    conv => whnf
    refine bcase_intro (fun h => ?_) (fun _ => ?_)
    ·exact absurd (Nat.le_of_ble_eq_true h) (by omega)
    conv => whnf
    refine ⟨by unfold room; omega, ?_⟩
    rw [spine_eq, show List.take (P.length * 1) (List.drop (0 * 1) (strsA P)) = strsA P by rw [Nat.zero_mul, List.drop_zero, List.take_of_length_le (by omega)]]
    have e2 : (P ++ [tr]).length = P.length + 1 := by simp
    have e3 : rowS (P ++ [tr]) none = .row 9 1 (strsA P ++ [.str tr]) none := by simp [rowS, strsA]
    have hb3 : (strsA P ++ [AV.str tr]).all bareA = true := by rw [List.all_append, strsA_bare]; rfl
    rw [e2, e3]
    conv => whnf
    generalize hrc : raceB _ _ = rb
    obtain rfl : rb = true := hrc.symm.trans (by kernel_rfl)
    conv => whnf
    refine .mk' [3] rfl rfl rfl ?_ rfl rfl ⟨rowS_at _ rfl, by simp only [renR, bare_ren hb3]; rfl, trivial⟩
    simp [okH_all, okR, rowS, bare_ok (strsA_bare _), bare_ok hb3]
  ·rw [show decide (((i : Nat) : Int) < ((s : Nat) : Int)) = false by simpa using hin]
   rw [if_neg hin] at hst
   conv => whnf
   simp only [Int.toNat_natCast]
   refine ⟨by simp only [capE]; omega, ?_⟩
   conv => whnf
   have hwi : IntKind.i64.wrap ((i : Int) - (s : Int)) = ((i - s : Nat) : Int) := by rw [wrap_small] <;> omega
   rw [hwi]
   by_cases hs2 : n - s < 2
   ·refine callR [0] (pathP0 (M := M) (d := d) (a + s) (i - s) (n - s) hs2) (post' := [(0, rowS M d)]) (by simp only [renH, rowS_ren]; rfl) rfl rfl rfl trivial ⟨rowS_at _ rfl, trivial⟩ ?_
    conv => whnf
    simp only [Int.toNat_natCast]
    refine ⟨by simp only [capE]; omega, ?_⟩
    conv => whnf
    refine callR [0] (treeP hM s a s (Nat.le_refl _) (by omega) (by omega) (by omega)) (post' := [(0, rowS M d)]) (by simp only [renH, rowS_ren]; rfl) rfl rfl rfl trivial ⟨rowS_at _ rfl, trivial⟩ ?_
    conv => whnf
    refine ⟨by decide, ?_⟩
    rw [hst, pathB_one (i - s) (by rw [List.length_take, List.length_drop]; omega), List.nil_append]
    generalize treeB ((M.drop a).take s) = tr
    conv => whnf
    generalize hrc : raceB _ _ = rb
    obtain rfl : rb = true := hrc.symm.trans (by kernel_rfl)
    conv => whnf
    refine .mk' [2] rfl rfl rfl ?_ rfl rfl ⟨rowS_at _ rfl, rowS_at _ rfl, trivial⟩
    simp [okH_all, okR, rowS, bare_ok (strsA_bare _)]
   ·refine callR [0] (pathP hM m (a + s) (n - s) (i - s) (by omega) (by omega) (by omega) (by omega) (by omega)) (post' := [(0, rowS M d), (1, rowS (pathB ((M.drop (a + s)).take (n - s)) (i - s)) none)]) (by simp only [renH, rowS_ren]; rfl) rfl rfl rfl trivial ⟨rowS_at _ rfl, trivial⟩ ?_
    conv => whnf
    simp only [Int.toNat_natCast]
    refine ⟨by simp only [capE]; omega, ?_⟩
    conv => whnf
    refine callR [0] (treeP hM s a s (Nat.le_refl _) (by omega) (by omega) (by omega)) (post' := [(0, rowS M d)]) (by simp only [renH, rowS_ren]; rfl) rfl rfl rfl trivial ⟨rowS_at _ rfl, trivial⟩ ?_
    rw [hst]
    have hpl := pathB_len 40 ((M.drop (a + s)).take (n - s)) (i - s) (by rw [List.length_take]; omega) (by rw [List.length_take]; omega)
    have hpl2 : ((M.drop (a + s)).take (n - s)).length ≤ 40 := by rw [List.length_take]; omega
    generalize pathB ((M.drop (a + s)).take (n - s)) (i - s) = P at hpl ⊢
    generalize treeB ((M.drop a).take s) = tr
    conv => whnf
    have hPl : (strsA P).length = P.length := by simp [strsA]
    rw [show Nat.ble ((0 + P.length) * 1) (strsA P).length = true from Nat.ble_eq_true_of_le (by rw [hPl]; omega)]
    conv => whnf
    refine bcase_intro (fun h => ?_) (fun _ => ?_)
    ·exact absurd (Nat.le_of_ble_eq_true h) (by omega)
    conv => whnf
    refine ⟨by unfold room; omega, ?_⟩
    rw [spine_eq, show List.take (P.length * 1) (List.drop (0 * 1) (strsA P)) = strsA P by rw [Nat.zero_mul, List.drop_zero, List.take_of_length_le (by omega)]]
    have e2 : (P ++ [tr]).length = P.length + 1 := by simp
    have e3 : rowS (P ++ [tr]) none = .row 9 1 (strsA P ++ [.str tr]) none := by simp [rowS, strsA]
    have hb3 : (strsA P ++ [AV.str tr]).all bareA = true := by rw [List.all_append, strsA_bare]; rfl
    rw [e2, e3]
    conv => whnf
    generalize hrc : raceB _ _ = rb
    obtain rfl : rb = true := hrc.symm.trans (by kernel_rfl)
    conv => whnf
    refine .mk' [3] rfl rfl rfl ?_ rfl rfl ⟨rowS_at _ rfl, by simp only [renR, bare_ren hb3]; rfl, trivial⟩
    simp [okH_all, okR, rowS, bare_ok (strsA_bare _), bare_ok hb3]
noncomputable def lvs : Nat → AV
 | 0 => .nils
 | i + 1 => .sv 2 1 0 (i + 1) none
noncomputable def pbx : Res := .box 111 [.int .i64 0, .int .i64 0, .bool false, .nils, .nils]
noncomputable def lvH (L : List KV) (d : Option Nat) : Nat → Heap
 | 0 => [(0, rowD L d), (1, pbx)]
 | i + 1 => [(0, rowD L d), (1, pbx), (2, rowS ((leavesB L).take (i + 1)) none)]
theorem pbx_ok (n : Nat) : okR n pbx = true := rfl
theorem lvH_ok (L : List KV) (d : Option Nat) (i : Nat) : okH 3 (lvH L d i) = true := by
 cases i <;> simp [lvH, okH_all, rowD_ok, rowS_ok, pbx_ok]
theorem lv_size {L : List KV} : ∀ s ∈ leavesB L, s.size = 32 := fun s hs => by
 obtain ⟨p, _, rfl⟩ := List.mem_map.1 hs
 exact leafB_size p
theorem pathL {L : List KV} {k q : Nat} (h3 : 3 ≤ L.length) (h40 : L.length ≤ 40) (hk : k = L.length) (hq : q < 100) : Ctr Tryz.prog 102 [.sv 0 1 0 k none, .int .i64 (q : Int)] [] [(0, rowS (leavesB L) none)] 1 2 (.sv 1 1 0 (pathB (leavesB L) q).length none) [(0, rowS (leavesB L) none), (1, rowS (pathB (leavesB L) q) none)] := by
 have hl : (leavesB L).length = L.length := by simp [leavesB]
 have c := pathP (M := leavesB L) (d := none) lv_size 40 0 k q (by omega) (by omega) (by omega) (by omega) hq
 have e4 : ((leavesB L).drop 0).take k = leavesB L := by rw [List.drop_zero]; exact List.take_of_length_le (by omega)
 rw [e4] at c
 exact c
theorem buildA {L : List KV} (hs : Srt L) (h3 : 3 ≤ L.length) (h40 : L.length ≤ 40) {key : ByteArray} (hb : hasL L key = true) :
  Ctr Tryz.prog 59 [.sv 0 2 0 L.length (some L.length), .str key] [] [(0, rowD L (some L.length))] 1 3 (.agg [.int .i64 (L.length : Int), .int .i64 (posL L key : Int), .bool true, .nils, .sv 2 1 0 1 (some 1)]) [(0, rowD L (some L.length)), (1, rowS (pathB (leavesB L) (posL L key)) none), (2, .row 31 1 [.sv 1 1 0 (pathB (leavesB L) (posL L key)).length none] (some 1))] := by
 refine Ctr.introR (T := Tryz.T) Tryz.hT Tryz.hM puQ_ok Tryz.func59 rfl (by kernel_rfl) rfl rfl ?_ rfl ?_
 ·simp [okH_all, rowD_ok]
 conv => whnf
 refine callR [0] (risesP hs (by omega) h40 (some L.length) (some L.length)) (post' := [(0, rowD L (some L.length))]) (by simp only [renH, rowD_ren]; rfl) rfl rfl rfl trivial ⟨rowD_at _ rfl, trivial⟩ ?_
 conv => whnf
 refine loopR Tryz.hT Tryz.hM puQ_ok (α := {i : Nat // i ≤ L.length})
  (fun i => ([(0, .sv 0 2 0 L.length (some L.length)), (1, .str key), (4, .ptr 1 0), (5, lvs i.1), (18, .sv 0 2 0 L.length (some L.length)), (19, .int .i64 (L.length : Int)), (20, .int .i64 (i.1 : Int))], lvH L (some L.length) i.1)) (fun i => L.length - i.1) 3 ⟨0, Nat.zero_le _⟩ [] ?_ ?_
 ·refine ⟨⟨rfl, rfl, rfl, rfl, rfl, rfl, rfl, trivial⟩, ⟨rowD_at _ rfl, rfl, trivial⟩, ?_, rfl⟩
  simp only [lvH_ok]; rfl
 rintro ⟨i, hi⟩
 cases i with
 | zero =>
  conv => whnf
  rw [show decide (((0 : Nat) : Int) < ((L.length : Nat) : Int)) = true by simp; omega]
  conv => whnf
  simp only [Int.toNat_natCast]
  refine ⟨by omega, ?_⟩
  conv => whnf
  rw [show readA true 2 (cellsP L) ((0 + 0) * 2 + 0) = some (.agg [.str L[0].1, .str L[0].2]) from readA2 (by omega)]
  conv => whnf
  refine callR [] (leafP L[0].1 L[0].2) rfl rfl rfl rfl trivial trivial ?_
  conv => whnf
  refine ⟨by decide, ?_⟩
  conv => whnf
  have e0 : rowS ((leavesB L).take (0 + 1)) none = .row 9 1 [.str (leafB (L[0].1, L[0].2))] none := by
   have : (leavesB L).take 1 = [leafB L[0]] := by
    unfold leavesB
    rw [← List.map_take]
    match L, h3 with
    | p :: l, _ => rfl
   rw [show 0 + 1 = 1 from rfl, this]; rfl
  refine ⟨⟨1, by omega⟩, [(2, 5)], by dsimp only; omega, ⟨⟨rfl, rfl, rfl, rfl, rfl, rfl, rfl, trivial⟩, ⟨rowD_at _ rfl, rfl, ?_, trivial⟩, ?_, rfl⟩⟩
  ·refine rowS_at _ ?_
   show SX.look _ _ = some (rowS ((leavesB L).take (0 + 1)) none)
   rw [e0]; rfl
  ·simp only [lvH_ok]; rfl
 | succ i =>
  conv => whnf
  by_cases h : i + 1 < L.length
  ·rw [show decide (((i + 1 : Nat) : Int) < ((L.length : Nat) : Int)) = true by simp; omega]
   conv => whnf
   simp only [Int.toNat_natCast]
   refine ⟨by omega, ?_⟩
   conv => whnf
   rw [show readA true 2 (cellsP L) ((0 + (i + 1)) * 2 + 0) = some (.agg [.str L[i + 1].1, .str L[i + 1].2]) from by rw [Nat.zero_add]; exact readA2 h]
   conv => whnf
   refine callR [] (leafP L[i + 1].1 L[i + 1].2) rfl rfl rfl rfl trivial trivial ?_
   have hll : (leavesB L).length = L.length := by simp [leavesB]
   have hPl : (strsA ((leavesB L).take (i + 1))).length = i + 1 := by simp [strsA]; omega
   have e3 : rowS ((leavesB L).take (i + 1 + 1)) none = .row 9 1 (strsA ((leavesB L).take (i + 1)) ++ [.str (leafB (L[i + 1].1, L[i + 1].2))]) none := by
    have : (leavesB L).take (i + 1 + 1) = (leavesB L).take (i + 1) ++ [leafB L[i + 1]] := by
     rw [List.take_succ_eq_append_getElem (by omega)]; simp [leavesB]
    rw [this]; simp [rowS, strsA]
   conv => whnf
   rw [show Nat.ble ((0 + (i + 1)) * 1) (strsA ((leavesB L).take (i + 1))).length = true from Nat.ble_eq_true_of_le (by rw [hPl]; omega)]
   conv => whnf
   refine bcase_intro (fun h => ?_) (fun _ => ?_)
   ·exact absurd (Nat.le_of_ble_eq_true h) (by omega)
   conv => whnf
   refine ⟨by unfold room; omega, ?_⟩
   rw [spine_eq, show List.take ((i + 1) * 1) (List.drop (0 * 1) (strsA ((leavesB L).take (i + 1)))) = strsA ((leavesB L).take (i + 1)) by rw [Nat.zero_mul, List.drop_zero, List.take_of_length_le (by omega)]]
   have hb3 : (strsA ((leavesB L).take (i + 1)) ++ [AV.str (leafB (L[i + 1].1, L[i + 1].2))]).all bareA = true := by rw [List.all_append, strsA_bare]; rfl
   conv => whnf
   have hw : IntKind.i64.wrap (((i + 1 : Nat) : Int) + 1) = ((i + 1 + 1 : Nat) : Int) := by rw [wrap_small] <;> omega
   rw [hw]
   refine ⟨⟨i + 1 + 1, h⟩, [(2, 5)], by dsimp only; omega, ⟨⟨rfl, rfl, rfl, rfl, rfl, rfl, rfl, trivial⟩, ⟨rowD_at _ rfl, rfl, ?_, trivial⟩, ?_, rfl⟩⟩
   ·refine rowS_at _ ?_
    show SX.look _ _ = some (rowS ((leavesB L).take (i + 1 + 1)) none)
    rw [e3]; rfl
   ·simp only [lvH_ok]; rfl
  ·rw [show decide (((i + 1 : Nat) : Int) < ((L.length : Nat) : Int)) = false by simp; omega]
   have hi2 : i + 1 = L.length := by omega
   conv => whnf
   refine callR [0] (bsq (c := some L.length) (d := some L.length) hs key (by unfold room; omega)) (post' := [(0, rowD L (some L.length))]) (by simp only [renH]; exact congrArg (fun x => [(0, x)]) (rowD_ren L _ _)) rfl rfl rfl trivial ⟨rowD_at _ rfl, trivial⟩ ?_
   have hpl := posL_le L key
   have hhas := hasL_lt (L := L) (key := key)
   generalize posL L key = p at hpl hhas ⊢
   have hMe : (leavesB L).take (i + 1) = leavesB L := List.take_of_length_le (by simp [leavesB]; omega)
   obtain ⟨hp, _⟩ := hhas hb
   rw [hb]
   conv => whnf
   refine callR [2] (pathL (k := i + 1) (q := p) h3 h40 hi2 (by omega)) (post' := [(2, rowS (leavesB L) none), (4, rowS (pathB (leavesB L) p) none)]) (by simp only [renH, rowS_ren]; rfl) rfl rfl rfl trivial ⟨rowS_at _ (show SX.look _ _ = some (rowS (leavesB L) none) by rw [← hMe]; rfl), trivial⟩ ?_
   generalize pathB (leavesB L) p = P
   conv => whnf
   refine .mk' [4, 5] rfl rfl rfl ?_ rfl rfl ⟨rowD_at _ (show SX.look _ _ = some (rowD L (some L.length)) from rfl), rowS_at _ rfl, rfl, trivial⟩
   simp [okH_all, okR, rowD, rowS, bare_ok (cellsP_bare _), bare_ok (strsA_bare _), okL_cons, okL_nil, okA_sv]
theorem buildB {L : List KV} (hs : Srt L) (h3 : 3 ≤ L.length) (h40 : L.length ≤ 40) {key : ByteArray} (hb : hasL L key = false) {q : Nat} (hq : posL L key = 0 ∧ q = 0 ∨ posL L key = L.length ∧ q = L.length - 1) :
  Ctr Tryz.prog 59 [.sv 0 2 0 L.length (some L.length), .str key] [] [(0, rowD L (some L.length))] 1 3 (.agg [.int .i64 (L.length : Int), .int .i64 (posL L key : Int), .bool false, .sv 0 2 q 1 (some 1), .sv 2 1 0 1 none]) [(0, rowD L (some L.length)), (1, rowS (pathB (leavesB L) q) none), (2, .row 31 1 [.sv 1 1 0 (pathB (leavesB L) q).length none] none)] := by
 refine Ctr.introR (T := Tryz.T) Tryz.hT Tryz.hM puQ_ok Tryz.func59 rfl (by kernel_rfl) rfl rfl ?_ rfl ?_
 ·simp [okH_all, rowD_ok]
 conv => whnf
 refine callR [0] (risesP hs (by omega) h40 (some L.length) (some L.length)) (post' := [(0, rowD L (some L.length))]) (by simp only [renH, rowD_ren]; rfl) rfl rfl rfl trivial ⟨rowD_at _ rfl, trivial⟩ ?_
 conv => whnf
 refine loopR Tryz.hT Tryz.hM puQ_ok (α := {i : Nat // i ≤ L.length})
  (fun i => ([(0, .sv 0 2 0 L.length (some L.length)), (1, .str key), (4, .ptr 1 0), (5, lvs i.1), (18, .sv 0 2 0 L.length (some L.length)), (19, .int .i64 (L.length : Int)), (20, .int .i64 (i.1 : Int))], lvH L (some L.length) i.1)) (fun i => L.length - i.1) 3 ⟨0, Nat.zero_le _⟩ [] ?_ ?_
 ·refine ⟨⟨rfl, rfl, rfl, rfl, rfl, rfl, rfl, trivial⟩, ⟨rowD_at _ rfl, rfl, trivial⟩, ?_, rfl⟩
  simp only [lvH_ok]; rfl
 rintro ⟨i, hi⟩
 cases i with
 | zero =>
  conv => whnf
  rw [show decide (((0 : Nat) : Int) < ((L.length : Nat) : Int)) = true by simp; omega]
  conv => whnf
  simp only [Int.toNat_natCast]
  refine ⟨by omega, ?_⟩
  conv => whnf
  rw [show readA true 2 (cellsP L) ((0 + 0) * 2 + 0) = some (.agg [.str L[0].1, .str L[0].2]) from readA2 (by omega)]
  conv => whnf
  refine callR [] (leafP L[0].1 L[0].2) rfl rfl rfl rfl trivial trivial ?_
  conv => whnf
  refine ⟨by decide, ?_⟩
  conv => whnf
  have e0 : rowS ((leavesB L).take (0 + 1)) none = .row 9 1 [.str (leafB (L[0].1, L[0].2))] none := by
   have : (leavesB L).take 1 = [leafB L[0]] := by
    unfold leavesB
    rw [← List.map_take]
    match L, h3 with
    | p :: l, _ => rfl
   rw [show 0 + 1 = 1 from rfl, this]; rfl
  refine ⟨⟨1, by omega⟩, [(2, 5)], by dsimp only; omega, ⟨⟨rfl, rfl, rfl, rfl, rfl, rfl, rfl, trivial⟩, ⟨rowD_at _ rfl, rfl, ?_, trivial⟩, ?_, rfl⟩⟩
  ·refine rowS_at _ ?_
   show SX.look _ _ = some (rowS ((leavesB L).take (0 + 1)) none)
   rw [e0]; rfl
  ·simp only [lvH_ok]; rfl
 | succ i =>
  conv => whnf
  by_cases h : i + 1 < L.length
  ·rw [show decide (((i + 1 : Nat) : Int) < ((L.length : Nat) : Int)) = true by simp; omega]
   conv => whnf
   simp only [Int.toNat_natCast]
   refine ⟨by omega, ?_⟩
   conv => whnf
   rw [show readA true 2 (cellsP L) ((0 + (i + 1)) * 2 + 0) = some (.agg [.str L[i + 1].1, .str L[i + 1].2]) from by rw [Nat.zero_add]; exact readA2 h]
   conv => whnf
   refine callR [] (leafP L[i + 1].1 L[i + 1].2) rfl rfl rfl rfl trivial trivial ?_
   have hll : (leavesB L).length = L.length := by simp [leavesB]
   have hPl : (strsA ((leavesB L).take (i + 1))).length = i + 1 := by simp [strsA]; omega
   have e3 : rowS ((leavesB L).take (i + 1 + 1)) none = .row 9 1 (strsA ((leavesB L).take (i + 1)) ++ [.str (leafB (L[i + 1].1, L[i + 1].2))]) none := by
    have : (leavesB L).take (i + 1 + 1) = (leavesB L).take (i + 1) ++ [leafB L[i + 1]] := by
     rw [List.take_succ_eq_append_getElem (by omega)]; simp [leavesB]
    rw [this]; simp [rowS, strsA]
   conv => whnf
   rw [show Nat.ble ((0 + (i + 1)) * 1) (strsA ((leavesB L).take (i + 1))).length = true from Nat.ble_eq_true_of_le (by rw [hPl]; omega)]
   conv => whnf
   refine bcase_intro (fun h => ?_) (fun _ => ?_)
   ·exact absurd (Nat.le_of_ble_eq_true h) (by omega)
   conv => whnf
   refine ⟨by unfold room; omega, ?_⟩
   rw [spine_eq, show List.take ((i + 1) * 1) (List.drop (0 * 1) (strsA ((leavesB L).take (i + 1)))) = strsA ((leavesB L).take (i + 1)) by rw [Nat.zero_mul, List.drop_zero, List.take_of_length_le (by omega)]]
   have hb3 : (strsA ((leavesB L).take (i + 1)) ++ [AV.str (leafB (L[i + 1].1, L[i + 1].2))]).all bareA = true := by rw [List.all_append, strsA_bare]; rfl
   conv => whnf
   have hw : IntKind.i64.wrap (((i + 1 : Nat) : Int) + 1) = ((i + 1 + 1 : Nat) : Int) := by rw [wrap_small] <;> omega
   rw [hw]
   refine ⟨⟨i + 1 + 1, h⟩, [(2, 5)], by dsimp only; omega, ⟨⟨rfl, rfl, rfl, rfl, rfl, rfl, rfl, trivial⟩, ⟨rowD_at _ rfl, rfl, ?_, trivial⟩, ?_, rfl⟩⟩
   ·refine rowS_at _ ?_
    show SX.look _ _ = some (rowS ((leavesB L).take (i + 1 + 1)) none)
    rw [e3]; rfl
   ·simp only [lvH_ok]; rfl
  ·rw [show decide (((i + 1 : Nat) : Int) < ((L.length : Nat) : Int)) = false by simp; omega]
   have hi2 : i + 1 = L.length := by omega
   conv => whnf
   refine callR [0] (bsq (c := some L.length) (d := some L.length) hs key (by unfold room; omega)) (post' := [(0, rowD L (some L.length))]) (by simp only [renH]; exact congrArg (fun x => [(0, x)]) (rowD_ren L _ _)) rfl rfl rfl trivial ⟨rowD_at _ rfl, trivial⟩ ?_
   have hpl := posL_le L key
   have hhas := hasL_lt (L := L) (key := key)
   generalize posL L key = p at hpl hhas hq ⊢
   have hMe : (leavesB L).take (i + 1) = leavesB L := List.take_of_length_le (by simp [leavesB]; omega)
   rw [hb]
   have hx : max 0 (IntKind.i64.wrap ((p : Int) - 1)) = ((q : Nat) : Int) := by rw [wrap_small] <;> omega
   have hy : min (IntKind.i64.wrap ((p : Int) + 1)) ((L.length : Nat) : Int) = ((q + 1 : Nat) : Int) := by rw [wrap_small] <;> omega
   conv => whnf
   simp only [hx, hy, Int.toNat_natCast]
   refine ⟨by simp only [capE]; omega, ?_⟩
   rw [show capM (some (59, (12, (55, AV.int IntKind.i64 ((q + 1 : Nat) : Int)).snd).snd).snd) (some L.length) ((q : Nat) : Int) ((q + 1 : Nat) : Int) = some 1 by simp [capM], show q + 1 - q = 1 by omega, Nat.zero_add]
   conv => whnf
   refine unrollR Tryz.hT Tryz.hM puQ_ok 2 ?_
   conv => whnf
   rw [show decide (((q : Nat) : Int) < ((q + 1 : Nat) : Int)) = true by simp; omega]
   conv => whnf
   refine callR [2] (pathL (k := i + 1) (q := q) h3 h40 hi2 (by omega)) (post' := [(2, rowS (leavesB L) none), (4, rowS (pathB (leavesB L) q) none)]) (by simp only [renH, rowS_ren]; rfl) rfl rfl rfl trivial ⟨rowS_at _ (show SX.look _ _ = some (rowS (leavesB L) none) by rw [← hMe]; rfl), trivial⟩ ?_
   generalize pathB (leavesB L) q = P
   conv => whnf
   refine ⟨by decide, ?_⟩
   conv => whnf
   generalize hrc : raceB _ _ = rb
   obtain rfl : rb = true := hrc.symm.trans (by kernel_rfl)
   conv => whnf
   have hw : IntKind.i64.wrap (((q : Nat) : Int) + 1) = ((q + 1 : Nat) : Int) := by rw [wrap_small] <;> omega
   rw [hw, show decide (((q + 1 : Nat) : Int) < ((q + 1 : Nat) : Int)) = false by simp]
   conv => whnf
   refine .mk' [4, 6] rfl rfl rfl ?_ rfl rfl ⟨rowD_at _ (show SX.look _ _ = some (rowD L (some L.length)) from rfl), rowS_at _ rfl, rfl, trivial⟩
   simp [okH_all, okR, rowD, rowS, bare_ok (cellsP_bare _), bare_ok (strsA_bare _), okL_cons, okL_nil, okA_sv]
theorem buildC {L : List KV} (hs : Srt L) (h3 : 3 ≤ L.length) (h40 : L.length ≤ 40) {key : ByteArray} (hb : hasL L key = false) {q : Nat} (hq : posL L key = q + 1 ∧ q + 1 < L.length) :
  Ctr Tryz.prog 59 [.sv 0 2 0 L.length (some L.length), .str key] [] [(0, rowD L (some L.length))] 1 4 (.agg [.int .i64 (L.length : Int), .int .i64 (posL L key : Int), .bool false, .sv 0 2 q 2 (some 2), .sv 3 1 0 2 none]) [(0, rowD L (some L.length)), (1, rowS (pathB (leavesB L) q) none), (2, rowS (pathB (leavesB L) (q + 1)) none), (3, .row 31 1 [.sv 1 1 0 (pathB (leavesB L) q).length none, .sv 2 1 0 (pathB (leavesB L) (q + 1)).length none] none)] := by
 refine Ctr.introR (T := Tryz.T) Tryz.hT Tryz.hM puQ_ok Tryz.func59 rfl (by kernel_rfl) rfl rfl ?_ rfl ?_
 ·simp [okH_all, rowD_ok]
 conv => whnf
 refine callR [0] (risesP hs (by omega) h40 (some L.length) (some L.length)) (post' := [(0, rowD L (some L.length))]) (by simp only [renH, rowD_ren]; rfl) rfl rfl rfl trivial ⟨rowD_at _ rfl, trivial⟩ ?_
 conv => whnf
 refine loopR Tryz.hT Tryz.hM puQ_ok (α := {i : Nat // i ≤ L.length})
  (fun i => ([(0, .sv 0 2 0 L.length (some L.length)), (1, .str key), (4, .ptr 1 0), (5, lvs i.1), (18, .sv 0 2 0 L.length (some L.length)), (19, .int .i64 (L.length : Int)), (20, .int .i64 (i.1 : Int))], lvH L (some L.length) i.1)) (fun i => L.length - i.1) 3 ⟨0, Nat.zero_le _⟩ [] ?_ ?_
 ·refine ⟨⟨rfl, rfl, rfl, rfl, rfl, rfl, rfl, trivial⟩, ⟨rowD_at _ rfl, rfl, trivial⟩, ?_, rfl⟩
  simp only [lvH_ok]; rfl
 rintro ⟨i, hi⟩
 cases i with
 | zero =>
  conv => whnf
  rw [show decide (((0 : Nat) : Int) < ((L.length : Nat) : Int)) = true by simp; omega]
  conv => whnf
  simp only [Int.toNat_natCast]
  refine ⟨by omega, ?_⟩
  conv => whnf
  rw [show readA true 2 (cellsP L) ((0 + 0) * 2 + 0) = some (.agg [.str L[0].1, .str L[0].2]) from readA2 (by omega)]
  conv => whnf
  refine callR [] (leafP L[0].1 L[0].2) rfl rfl rfl rfl trivial trivial ?_
  conv => whnf
  refine ⟨by decide, ?_⟩
  conv => whnf
  have e0 : rowS ((leavesB L).take (0 + 1)) none = .row 9 1 [.str (leafB (L[0].1, L[0].2))] none := by
   have : (leavesB L).take 1 = [leafB L[0]] := by
    unfold leavesB
    rw [← List.map_take]
    match L, h3 with
    | p :: l, _ => rfl
   rw [show 0 + 1 = 1 from rfl, this]; rfl
  refine ⟨⟨1, by omega⟩, [(2, 5)], by dsimp only; omega, ⟨⟨rfl, rfl, rfl, rfl, rfl, rfl, rfl, trivial⟩, ⟨rowD_at _ rfl, rfl, ?_, trivial⟩, ?_, rfl⟩⟩
  ·refine rowS_at _ ?_
   show SX.look _ _ = some (rowS ((leavesB L).take (0 + 1)) none)
   rw [e0]; rfl
  ·simp only [lvH_ok]; rfl
 | succ i =>
  conv => whnf
  by_cases h : i + 1 < L.length
  ·rw [show decide (((i + 1 : Nat) : Int) < ((L.length : Nat) : Int)) = true by simp; omega]
   conv => whnf
   simp only [Int.toNat_natCast]
   refine ⟨by omega, ?_⟩
   conv => whnf
   rw [show readA true 2 (cellsP L) ((0 + (i + 1)) * 2 + 0) = some (.agg [.str L[i + 1].1, .str L[i + 1].2]) from by rw [Nat.zero_add]; exact readA2 h]
   conv => whnf
   refine callR [] (leafP L[i + 1].1 L[i + 1].2) rfl rfl rfl rfl trivial trivial ?_
   have hll : (leavesB L).length = L.length := by simp [leavesB]
   have hPl : (strsA ((leavesB L).take (i + 1))).length = i + 1 := by simp [strsA]; omega
   have e3 : rowS ((leavesB L).take (i + 1 + 1)) none = .row 9 1 (strsA ((leavesB L).take (i + 1)) ++ [.str (leafB (L[i + 1].1, L[i + 1].2))]) none := by
    have : (leavesB L).take (i + 1 + 1) = (leavesB L).take (i + 1) ++ [leafB L[i + 1]] := by
     rw [List.take_succ_eq_append_getElem (by omega)]; simp [leavesB]
    rw [this]; simp [rowS, strsA]
   conv => whnf
   rw [show Nat.ble ((0 + (i + 1)) * 1) (strsA ((leavesB L).take (i + 1))).length = true from Nat.ble_eq_true_of_le (by rw [hPl]; omega)]
   conv => whnf
   refine bcase_intro (fun h => ?_) (fun _ => ?_)
   ·exact absurd (Nat.le_of_ble_eq_true h) (by omega)
   conv => whnf
   refine ⟨by unfold room; omega, ?_⟩
   rw [spine_eq, show List.take ((i + 1) * 1) (List.drop (0 * 1) (strsA ((leavesB L).take (i + 1)))) = strsA ((leavesB L).take (i + 1)) by rw [Nat.zero_mul, List.drop_zero, List.take_of_length_le (by omega)]]
   have hb3 : (strsA ((leavesB L).take (i + 1)) ++ [AV.str (leafB (L[i + 1].1, L[i + 1].2))]).all bareA = true := by rw [List.all_append, strsA_bare]; rfl
   conv => whnf
   have hw : IntKind.i64.wrap (((i + 1 : Nat) : Int) + 1) = ((i + 1 + 1 : Nat) : Int) := by rw [wrap_small] <;> omega
   rw [hw]
   refine ⟨⟨i + 1 + 1, h⟩, [(2, 5)], by dsimp only; omega, ⟨⟨rfl, rfl, rfl, rfl, rfl, rfl, rfl, trivial⟩, ⟨rowD_at _ rfl, rfl, ?_, trivial⟩, ?_, rfl⟩⟩
   ·refine rowS_at _ ?_
    show SX.look _ _ = some (rowS ((leavesB L).take (i + 1 + 1)) none)
    rw [e3]; rfl
   ·simp only [lvH_ok]; rfl
  ·rw [show decide (((i + 1 : Nat) : Int) < ((L.length : Nat) : Int)) = false by simp; omega]
   have hi2 : i + 1 = L.length := by omega
   conv => whnf
   refine callR [0] (bsq (c := some L.length) (d := some L.length) hs key (by unfold room; omega)) (post' := [(0, rowD L (some L.length))]) (by simp only [renH]; exact congrArg (fun x => [(0, x)]) (rowD_ren L _ _)) rfl rfl rfl trivial ⟨rowD_at _ rfl, trivial⟩ ?_
   have hpl := posL_le L key
   have hhas := hasL_lt (L := L) (key := key)
   generalize posL L key = p at hpl hhas hq ⊢
   have hMe : (leavesB L).take (i + 1) = leavesB L := List.take_of_length_le (by simp [leavesB]; omega)
   rw [hb]
   have hx : max 0 (IntKind.i64.wrap ((p : Int) - 1)) = ((q : Nat) : Int) := by rw [wrap_small] <;> omega
   have hy : min (IntKind.i64.wrap ((p : Int) + 1)) ((L.length : Nat) : Int) = ((q + 2 : Nat) : Int) := by rw [wrap_small] <;> omega
   conv => whnf
   simp only [hx, hy, Int.toNat_natCast]
   refine ⟨by simp only [capE]; omega, ?_⟩
   rw [show capM (some (59, (12, (55, AV.int IntKind.i64 ((q + 2 : Nat) : Int)).snd).snd).snd) (some L.length) ((q : Nat) : Int) ((q + 2 : Nat) : Int) = some 2 by simp [capM]; omega, show q + 2 - q = 2 by omega, Nat.zero_add]
   conv => whnf
   refine unrollR Tryz.hT Tryz.hM puQ_ok 3 ?_
   conv => whnf
   rw [show decide (((q : Nat) : Int) < ((q + 2 : Nat) : Int)) = true by simp; omega]
   conv => whnf
   refine callR [2] (pathL (k := i + 1) (q := q) h3 h40 hi2 (by omega)) (post' := [(2, rowS (leavesB L) none), (4, rowS (pathB (leavesB L) q) none)]) (by simp only [renH, rowS_ren]; rfl) rfl rfl rfl trivial ⟨rowS_at _ (show SX.look _ _ = some (rowS (leavesB L) none) by rw [← hMe]; rfl), trivial⟩ ?_
   generalize pathB (leavesB L) q = P
   conv => whnf
   refine ⟨by decide, ?_⟩
   conv => whnf
   generalize hrc : raceB _ _ = rb
   obtain rfl : rb = true := hrc.symm.trans (by kernel_rfl)
   conv => whnf
   have hw : IntKind.i64.wrap (((q : Nat) : Int) + 1) = ((q + 1 : Nat) : Int) := by rw [wrap_small] <;> omega
   rw [hw, show decide (((q + 1 : Nat) : Int) < ((q + 2 : Nat) : Int)) = true from decide_eq_true (by omega)]
   conv => whnf
   refine callR [2] (pathL (k := i + 1) (q := (q + 1)) h3 h40 hi2 (by omega)) (post' := [(2, rowS (leavesB L) none), (7, rowS (pathB (leavesB L) (q + 1)) none)]) (by simp only [renH, rowS_ren]; rfl) rfl rfl rfl trivial ⟨rowS_at _ (show SX.look _ _ = some (rowS (leavesB L) none) by rw [← hMe]; rfl), trivial⟩ ?_
   generalize pathB (leavesB L) (q + 1) = Q
   conv => whnf
   refine ⟨by decide, ?_⟩
   conv => whnf
   generalize hrc2 : raceB _ _ = rb2
   obtain rfl : rb2 = true := hrc2.symm.trans (by kernel_rfl)
   conv => whnf
   have hw2 : IntKind.i64.wrap (((q + 1 : Nat) : Int) + 1) = ((q + 2 : Nat) : Int) := by rw [wrap_small] <;> omega
   rw [hw2, show decide (((q + 2 : Nat) : Int) < ((q + 2 : Nat) : Int)) = false by simp]
   conv => whnf
   refine .mk' [4, 7, 9] rfl rfl rfl ?_ rfl rfl ⟨rowD_at _ (show SX.look _ _ = some (rowD L (some L.length)) from rfl), rowS_at _ rfl, rowS_at _ rfl, rfl, trivial⟩
   simp [okH_all, okR, rowD, rowS, bare_ok (cellsP_bare _), bare_ok (strsA_bare _), okL_cons, okL_nil, okA_sv]
noncomputable def wB (a b : AV) : Res := .box 156 [a, b, .int .i64 0]
noncomputable def rowB (s : ByteArray) : Res := .row 5 1 (u8A s.data.toList) none
theorem rowB_ren (s : ByteArray) (π : Nat → Nat) : renR π (rowB s) = rowB s := by simp only [rowB, renR, bare_ren (u8A_bare _)]
theorem rowB_at {s : ByteArray} {H : Heap} {k : Nat} (π : Nat → Nat) (h : SX.look H (π k) = some (rowB s)) : SX.look H (π k) = some (renR π (rowB s)) := by rw [rowB_ren]; exact h
theorem beq0 {t : ByteArray} (h : 0 < t.size) : Nat.beq t.size 0 = false := by
 cases e : Nat.beq t.size 0 with
 | false => rfl
 | true => have := Nat.eq_of_beq_eq_true e; omega
theorem wsN {t : ByteArray} (h0 : 0 < t.size) (hb : t.size ≤ 16800000) : Ctr Tryz.prog 129 [.ptr 0 0, .str t] [] [(0, wB .nilp .nils)] 1 2 (.tup [.int .i64 t.size, .nili]) [(0, wB (.ptr 0 0) (.sv 1 1 0 t.size none)), (1, rowB t)] := by
 refine Ctr.introR (T := Tryz.T) Tryz.hT Tryz.hM Tryz.hE Tryz.func129 rfl (by kernel_rfl) rfl rfl rfl rfl ?_
 conv => whnf
 refine callR [0] (bldW.fresh (e := 156) (rest := [.int .i64 0]) rfl (by simp)) rfl rfl rfl rfl trivial ⟨rfl, trivial⟩ ?_
 conv => whnf
 have e1 : List.take t.size (bytesA t) = u8A t.data.toList := by rw [bytesA_u8]; exact List.take_of_length_le (by rw [u8A_len]; exact Nat.le_refl _)
 have e2 : (u8A t.data.toList).all leafA = true := bare_leaf (u8A_bare _)
 rw [e1, e2]
 conv => whnf
 rw [beq0 h0]
 conv => whnf
 refine ⟨by unfold room; omega, ?_⟩
 rw [spine_eq, List.nil_append]
 simp only [Nat.zero_add]
 conv => whnf
 refine .mk' [1] rfl rfl rfl ?_ rfl rfl ⟨rfl, rowB_at _ rfl, trivial⟩
 simp [okH_all, okR, wB, rowB, bare_ok (u8A_bare _), okL_cons, okL_nil, okA_ptr, okA_sv, okA_int]
theorem wsG {a t : ByteArray} (h0 : 0 < t.size) (hb : a.size + t.size ≤ 33600000) : Ctr Tryz.prog 129 [.ptr 0 0, .str t] [] [(0, wB (.ptr 0 0) (.sv 1 1 0 a.size none)), (1, rowB a)] 2 3 (.tup [.int .i64 t.size, .nili]) [(0, wB (.ptr 0 0) (.sv 2 1 0 (a.size + t.size) none)), (1, .gone), (2, rowB (catB a t))] := by
 refine Ctr.introR (T := Tryz.T) Tryz.hT Tryz.hM Tryz.hE Tryz.func129 rfl (by kernel_rfl) rfl rfl ?_ rfl ?_
 ·simp [okH_all, okR, wB, rowB, bare_ok (u8A_bare _), okL_cons, okL_nil, okA_ptr, okA_sv, okA_int]
 conv => whnf
 refine callR [0, 1] (cc_used' (h := 0) (n := 2) (e := 156) (buf := .sv 1 1 0 a.size none) (rest := [.int .i64 0]) rfl (by simp [okL_cons, okL_nil, okA_sv, okA_int])) rfl rfl rfl rfl trivial ⟨rfl, trivial⟩ ?_
 conv => whnf
 have e1 : List.take t.size (bytesA t) = u8A t.data.toList := by rw [bytesA_u8]; exact List.take_of_length_le (by rw [u8A_len]; exact Nat.le_refl _)
 have e2 : (u8A t.data.toList).all leafA = true := bare_leaf (u8A_bare _)
 rw [e1, e2]
 conv => whnf
 rw [beq0 h0]
 conv => whnf
 have hPl : (u8A a.data.toList).length = a.size := by rw [u8A_len, size_data]
 rw [show Nat.ble ((0 + a.size) * 1) (u8A a.data.toList).length = true from Nat.ble_eq_true_of_le (by rw [hPl]; omega)]
 conv => whnf
 refine bcase_intro (fun h => ?_) (fun _ => ?_)
 ·exact absurd (Nat.le_of_ble_eq_true h) (by omega)
 conv => whnf
 refine ⟨by unfold room; omega, ?_⟩
 rw [spine_eq, show List.take (a.size * 1) (List.drop (0 * 1) (u8A a.data.toList)) = u8A a.data.toList by rw [Nat.zero_mul, List.drop_zero, List.take_of_length_le (by omega)]]
 have e3 : rowB (catB a t) = .row 5 1 (u8A a.data.toList ++ u8A t.data.toList) none := by
  unfold rowB
  rw [catB_eq, ByteArray.data_append, Array.toList_append, u8A_app]
 have hb3 : (u8A a.data.toList ++ u8A t.data.toList).all bareA = true := by rw [List.all_append, u8A_bare, u8A_bare]; rfl
 rw [e3]
 conv => whnf
 refine .mk' [2] rfl rfl rfl ?_ rfl rfl ⟨rfl, rfl, by simp only [renR, bare_ren hb3]; rfl, trivial⟩
 simp [okH_all, okR, wB, bare_ok hb3, okL_cons, okL_nil, okA_ptr, okA_sv, okA_int]
theorem add0 {t : ByteArray} (h0 : 0 < t.size) (hb : t.size ≤ 16800000) : Ctr Tryz.prog 94 [.ptr 0 0, .str t, .int .i64 0] [] [(0, wB .nilp .nils)] 1 2 (.tup []) [(0, wB (.ptr 0 0) (.sv 1 1 0 t.size none)), (1, rowB t)] := by
 refine Ctr.introR (T := Tryz.T) Tryz.hT Tryz.hM Tryz.hE Tryz.func94 rfl (by kernel_rfl) rfl rfl rfl rfl ?_
 conv => whnf
 refine callR [0] (wsN h0 hb) (post' := [(0, wB (.ptr 0 0) (.sv 1 1 0 t.size none)), (1, rowB t)]) (by simp only [renH, rowB_ren]; rfl) rfl rfl rfl trivial ⟨rfl, trivial⟩ ?_
 conv => whnf
 refine .mk' [1] rfl rfl rfl ?_ rfl rfl ⟨rfl, rowB_at _ rfl, trivial⟩
 simp [okH_all, okR, wB, rowB, bare_ok (u8A_bare _), okL_cons, okL_nil, okA_ptr, okA_sv, okA_int]
theorem addG {a t b : ByteArray} (hab : catB a t = b) (h0 : 0 < t.size) (hb : a.size + t.size ≤ 33600000) : Ctr Tryz.prog 94 [.ptr 0 0, .str t, .int .i64 0] [] [(0, wB (.ptr 0 0) (.sv 1 1 0 a.size none)), (1, rowB a)] 2 3 (.tup []) [(0, wB (.ptr 0 0) (.sv 2 1 0 b.size none)), (1, .gone), (2, rowB b)] := by
 have hbs : b.size = a.size + t.size := by rw [← hab, cat_size]
 refine Ctr.introR (T := Tryz.T) Tryz.hT Tryz.hM Tryz.hE Tryz.func94 rfl (by kernel_rfl) rfl rfl ?_ rfl ?_
 ·simp [okH_all, okR, wB, rowB, bare_ok (u8A_bare _), okL_cons, okL_nil, okA_ptr, okA_sv, okA_int]
 conv => whnf
 have c := wsG (a := a) (t := t) h0 hb
 rw [hab, ← hbs] at c
 refine callR [0, 1] c (post' := [(0, wB (.ptr 0 0) (.sv 2 1 0 b.size none)), (1, .gone), (2, rowB b)]) (by simp only [renH, rowB_ren]; rfl) rfl rfl rfl trivial ⟨rfl, rowB_at _ rfl, trivial⟩ ?_
 conv => whnf
 refine .mk' [2] rfl rfl rfl ?_ rfl rfl ⟨rfl, rfl, rowB_at _ rfl, trivial⟩
 simp [okH_all, okR, wB, rowB, bare_ok (u8A_bare _), okL_cons, okL_nil, okA_ptr, okA_sv, okA_int]
theorem strP {a : ByteArray} (h0 : 0 < a.size) (hb : a.size ≤ 33600000) : Ctr Tryz.prog 97 [.ptr 0 0] [] [(0, wB (.ptr 0 0) (.sv 1 1 0 a.size none)), (1, rowB a)] 2 2 (.str a) [(0, wB (.ptr 0 0) (.sv 1 1 0 a.size none)), (1, .gone)] :=
 st_row (e := 156) (i := 0) (k := a.size) (rc := none) (rest := [.int .i64 0]) (cs := u8A a.data.toList) (s := a) rfl (u8A_bare _) rfl h0 (by omega) (by rw [List.drop_zero, bytesA_u8, List.take_of_length_le (by rw [u8A_len]; exact Nat.le_refl _)])
theorem numS_pos {x : Int} (h0 : 0 ≤ x) (h : x ≤ 9007199254740992) : 0 < (numS x).size := by
 unfold numS
 rw [show okN x = true by unfold okN; simp; omega]
 show 0 < (numB x).size
 exact Nat.succ_pos _
theorem textS_pos {s : ByteArray} (h : s.size ≤ 65536) : 0 < (textS s).size := by
 unfold textS
 rw [show decide ((65536 : Int) < (s.size : Int)) = false by simp; omega]
 show 0 < (catB (numS s.size) s).size
 rw [cat_size]
 have := numS_pos (x := (s.size : Int)) (by omega) (by omega)
 omega
theorem joinT_pos (n : Int) (h : 0 < (numS n).size) : ∀ l : List ByteArray, 0 < (joinT n l).size := by
 have : ∀ (l : List ByteArray) (o : ByteArray), 0 < o.size → 0 < (l.foldl (fun o s => catB o (textS s)) o).size := by
  intro l
  induction l with
  | nil => intro o h; exact h
  | cons x l ih => intro o h; exact ih _ (by rw [cat_size]; omega)
 intro l
 exact this l _ h
theorem joinS_pos {l : List ByteArray} (hn : l.length ≤ 256) : 0 < (joinS l).size := joinT_pos _ (numS_pos (by omega) (by omega)) l
def catL : List ByteArray → ByteArray
 | [] => ⟨#[]⟩
 | x :: l => l.foldl catB x
set_option maxHeartbeats 4000000 in
theorem putQA {n p : Nat} (hn : n ≤ 40) (hp : p ≤ 40) {P : List ByteArray} (hP : shortL P) (hPl : P.length ≤ 40) :
  Ctr Tryz.prog 58 [.agg [.int .i64 (n : Int), .int .i64 (p : Int), .bool true, .nils, .sv 1 1 0 1 (some 1)]] [] [(0, rowS P none), (1, .row 31 1 [.sv 0 1 0 P.length none] (some 1))] 2 2 (.tup [.str (catL [numS (n : Int), numS (p : Int), numS 1, numS 0, numS ((1 : Nat) : Int), joinS P]), .int .i64 0]) [(0, rowS P none), (1, .row 31 1 [.sv 0 1 0 P.length none] (some 1))] := by
 have pos0 := numS_pos (x := (n : Int)) (by omega) (by omega)
 have pos1 := numS_pos (x := (p : Int)) (by omega) (by omega)
 have pos2 := numS_pos (x := 1) (by decide) (by decide)
 have pos3 := numS_pos (x := 0) (by decide) (by decide)
 have pos4 := numS_pos (x := ((1 : Nat) : Int)) (by decide) (by decide)
 have pos5 := joinS_pos (l := P) (by omega)
 have ljP := joinT_size (P.length : Int) P
 have leP : (joinS P).size ≤ 8 + 65544 * P.length := ljP
 have := numS_size (n : Int)
 have := numS_size (p : Int)
 have := numS_size 0
 have := numS_size 1
 have := numS_size ((1 : Nat) : Int)
 have := numS_size ((2 : Nat) : Int)
 refine Ctr.introR (T := Tryz.T) Tryz.hT Tryz.hM puZ_ok Tryz.func58 rfl (by kernel_rfl) rfl rfl ?_ rfl ?_
 ·simp [okH_all, okR, rowS, bare_ok (strsA_bare _), okL_cons, okL_nil, okA_sv]
 conv => whnf
 refine unrollR Tryz.hT Tryz.hM puZ_ok 5 ?_
 conv => whnf
 refine ⟨by decide, ?_⟩
 conv => whnf
 rw [numE_ok (x := (n : Int)) (by omega) (by omega)]
 refine callR [3] (add0 (t := numS (n : Int)) pos0 (by omega)) (post' := [(3, .box 156 [.ptr 3 0, .sv 4 1 0 (catL [numS (n : Int)]).size none, .int .i64 0]), (4, rowB (catL [numS (n : Int)]))]) (by simp only [renH, rowB_ren]; rfl) rfl rfl rfl trivial ⟨rfl, trivial⟩ ?_
 conv => whnf
 refine ⟨by decide, ?_⟩
 conv => whnf
 rw [numE_ok (x := (p : Int)) (by omega) (by omega)]
 refine callR [3, 4] (addG (a := catL [numS (n : Int)]) (t := numS (p : Int)) (b := catL [numS (n : Int), numS (p : Int)]) rfl pos1 (by simp only [catL, List.foldl]; omega)) (post' := [(3, .box 156 [.ptr 3 0, .sv 5 1 0 (catL [numS (n : Int), numS (p : Int)]).size none, .int .i64 0]), (4, .gone), (5, rowB (catL [numS (n : Int), numS (p : Int)]))]) (by simp only [renH, rowB_ren]; rfl) rfl rfl rfl trivial ⟨rfl, rowB_at _ rfl, trivial⟩ ?_
 conv => whnf
 refine ⟨by decide, ?_⟩
 conv => whnf
 rw [show numE 1 = 0 from rfl]
 refine callR [3, 5] (addG (a := catL [numS (n : Int), numS (p : Int)]) (t := numS 1) (b := catL [numS (n : Int), numS (p : Int), numS 1]) rfl pos2 (by simp only [catL, List.foldl, cat_size]; omega)) (post' := [(3, .box 156 [.ptr 3 0, .sv 6 1 0 (catL [numS (n : Int), numS (p : Int), numS 1]).size none, .int .i64 0]), (5, .gone), (6, rowB (catL [numS (n : Int), numS (p : Int), numS 1]))]) (by simp only [renH, rowB_ren]; rfl) rfl rfl rfl trivial ⟨rfl, rowB_at _ rfl, trivial⟩ ?_
 conv => whnf
 refine ⟨by decide, ?_⟩
 conv => whnf
 rw [show numE 0 = 0 from rfl]
 refine callR [3, 6] (addG (a := catL [numS (n : Int), numS (p : Int), numS 1]) (t := numS 0) (b := catL [numS (n : Int), numS (p : Int), numS 1, numS 0]) rfl pos3 (by simp only [catL, List.foldl, cat_size]; omega)) (post' := [(3, .box 156 [.ptr 3 0, .sv 7 1 0 (catL [numS (n : Int), numS (p : Int), numS 1, numS 0]).size none, .int .i64 0]), (6, .gone), (7, rowB (catL [numS (n : Int), numS (p : Int), numS 1, numS 0]))]) (by simp only [renH, rowB_ren]; rfl) rfl rfl rfl trivial ⟨rfl, rowB_at _ rfl, trivial⟩ ?_
 conv => whnf
 refine unrollR Tryz.hT Tryz.hM puZ_ok 1 ?_
 conv => whnf
 rw [show numE ((1 : Nat) : Int) = 0 from rfl]
 refine callR [3, 7] (addG (a := catL [numS (n : Int), numS (p : Int), numS 1, numS 0]) (t := numS ((1 : Nat) : Int)) (b := catL [numS (n : Int), numS (p : Int), numS 1, numS 0, numS ((1 : Nat) : Int)]) rfl pos4 (by simp only [catL, List.foldl, cat_size]; omega)) (post' := [(3, .box 156 [.ptr 3 0, .sv 8 1 0 (catL [numS (n : Int), numS (p : Int), numS 1, numS 0, numS ((1 : Nat) : Int)]).size none, .int .i64 0]), (7, .gone), (8, rowB (catL [numS (n : Int), numS (p : Int), numS 1, numS 0, numS ((1 : Nat) : Int)]))]) (by simp only [renH, rowB_ren]; rfl) rfl rfl rfl trivial ⟨rfl, rowB_at _ rfl, trivial⟩ ?_
 conv => whnf
 refine unrollR Tryz.hT Tryz.hM puZ_ok 2 ?_
 conv => whnf
 refine ⟨by decide, ?_⟩
 conv => whnf
 refine callR [0] (join1p P none none (by omega) hP) (post' := [(0, rowS P none)]) (by simp only [renH, rowS_ren]; rfl) rfl rfl rfl trivial ⟨rowS_at _ rfl, trivial⟩ ?_
 conv => whnf
 refine callR [3, 8] (addG (a := catL [numS (n : Int), numS (p : Int), numS 1, numS 0, numS ((1 : Nat) : Int)]) (t := joinS P) (b := catL [numS (n : Int), numS (p : Int), numS 1, numS 0, numS ((1 : Nat) : Int), joinS P]) rfl pos5 (by simp only [catL, List.foldl, cat_size]; omega)) (post' := [(3, .box 156 [.ptr 3 0, .sv 9 1 0 (catL [numS (n : Int), numS (p : Int), numS 1, numS 0, numS ((1 : Nat) : Int), joinS P]).size none, .int .i64 0]), (8, .gone), (9, rowB (catL [numS (n : Int), numS (p : Int), numS 1, numS 0, numS ((1 : Nat) : Int), joinS P]))]) (by simp only [renH, rowB_ren]; rfl) rfl rfl rfl trivial ⟨rfl, rowB_at _ rfl, trivial⟩ ?_
 conv => whnf
 refine callR [3, 9] (strP (a := catL [numS (n : Int), numS (p : Int), numS 1, numS 0, numS ((1 : Nat) : Int), joinS P]) (by simp only [catL, List.foldl, cat_size]; omega) (by simp only [catL, List.foldl, cat_size]; omega)) (post' := [(3, .box 156 [.ptr 3 0, .sv 9 1 0 (catL [numS (n : Int), numS (p : Int), numS 1, numS 0, numS ((1 : Nat) : Int), joinS P]).size none, .int .i64 0]), (9, .gone)]) rfl rfl rfl rfl trivial ⟨rfl, rowB_at _ rfl, trivial⟩ ?_
 conv => whnf
 refine Fin.same ?_ rfl ?_
 ·simp [okH_all, okR, rowS, bare_ok (strsA_bare _), okL_cons, okL_nil, okA_sv]
 ·intro p hp
  simp only [List.mem_cons, List.not_mem_nil, or_false] at hp
  rcases hp with rfl | rfl <;> rfl
set_option maxHeartbeats 4000000 in
theorem putQB {n p : Nat} (hn : n ≤ 40) (hp : p ≤ 40) {P : List ByteArray} (hP : shortL P) (hPl : P.length ≤ 40){L : List KV} {d : Option Nat} {q : Nat} (hq : q + 1 ≤ L.length) (hs : ∀ (i : Nat) (h : i < L.length), L[i].1.size ≤ 65536 ∧ L[i].2.size ≤ 65536)  :
  Ctr Tryz.prog 58 [.agg [.int .i64 (n : Int), .int .i64 (p : Int), .bool false, .sv 2 2 q 1 (some 1), .sv 1 1 0 1 none]] [] [(0, rowS P none), (1, .row 31 1 [.sv 0 1 0 P.length none] none), (2, rowD L d)] 3 3 (.tup [.str (catL [numS (n : Int), numS (p : Int), numS 0, numS ((1 : Nat) : Int), textS L[q + 0].1, textS L[q + 0].2, numS ((1 : Nat) : Int), joinS P]), .int .i64 0]) [(0, rowS P none), (1, .row 31 1 [.sv 0 1 0 P.length none] none), (2, rowD L d)] := by
 have sk0 : L[q + 0].1.size ≤ 65536 := (hs (q + 0) (by omega)).1
 have sv0 : L[q + 0].2.size ≤ 65536 := (hs (q + 0) (by omega)).2
 have pos0 := numS_pos (x := (n : Int)) (by omega) (by omega)
 have pos1 := numS_pos (x := (p : Int)) (by omega) (by omega)
 have pos2 := numS_pos (x := 0) (by decide) (by decide)
 have pos3 := numS_pos (x := ((1 : Nat) : Int)) (by decide) (by decide)
 have pos4 := textS_pos sk0
 have pos5 := textS_pos sv0
 have pos6 := numS_pos (x := ((1 : Nat) : Int)) (by decide) (by decide)
 have pos7 := joinS_pos (l := P) (by omega)
 have ljP := joinT_size (P.length : Int) P
 have leP : (joinS P).size ≤ 8 + 65544 * P.length := ljP
 have := numS_size (n : Int)
 have := numS_size (p : Int)
 have := numS_size 0
 have := numS_size 1
 have := numS_size ((1 : Nat) : Int)
 have := numS_size ((2 : Nat) : Int)
 have := textS_size L[q + 0].1
 have := textS_size L[q + 0].2
 refine Ctr.introR (T := Tryz.T) Tryz.hT Tryz.hM puZ_ok Tryz.func58 rfl (by kernel_rfl) rfl rfl ?_ rfl ?_
 ·simp [okH_all, okR, rowS, rowD, bare_ok (cellsP_bare _), bare_ok (strsA_bare _), okL_cons, okL_nil, okA_sv]
 conv => whnf
 refine unrollR Tryz.hT Tryz.hM puZ_ok 5 ?_
 conv => whnf
 refine ⟨by decide, ?_⟩
 conv => whnf
 rw [numE_ok (x := (n : Int)) (by omega) (by omega)]
 refine callR [4] (add0 (t := numS (n : Int)) pos0 (by omega)) (post' := [(4, .box 156 [.ptr 4 0, .sv 5 1 0 (catL [numS (n : Int)]).size none, .int .i64 0]), (5, rowB (catL [numS (n : Int)]))]) (by simp only [renH, rowB_ren]; rfl) rfl rfl rfl trivial ⟨rfl, trivial⟩ ?_
 conv => whnf
 refine ⟨by decide, ?_⟩
 conv => whnf
 rw [numE_ok (x := (p : Int)) (by omega) (by omega)]
 refine callR [4, 5] (addG (a := catL [numS (n : Int)]) (t := numS (p : Int)) (b := catL [numS (n : Int), numS (p : Int)]) rfl pos1 (by simp only [catL, List.foldl]; omega)) (post' := [(4, .box 156 [.ptr 4 0, .sv 6 1 0 (catL [numS (n : Int), numS (p : Int)]).size none, .int .i64 0]), (5, .gone), (6, rowB (catL [numS (n : Int), numS (p : Int)]))]) (by simp only [renH, rowB_ren]; rfl) rfl rfl rfl trivial ⟨rfl, rowB_at _ rfl, trivial⟩ ?_
 conv => whnf
 refine ⟨by decide, ?_⟩
 conv => whnf
 rw [show numE 0 = 0 from rfl]
 refine callR [4, 6] (addG (a := catL [numS (n : Int), numS (p : Int)]) (t := numS 0) (b := catL [numS (n : Int), numS (p : Int), numS 0]) rfl pos2 (by simp only [catL, List.foldl, cat_size]; omega)) (post' := [(4, .box 156 [.ptr 4 0, .sv 7 1 0 (catL [numS (n : Int), numS (p : Int), numS 0]).size none, .int .i64 0]), (6, .gone), (7, rowB (catL [numS (n : Int), numS (p : Int), numS 0]))]) (by simp only [renH, rowB_ren]; rfl) rfl rfl rfl trivial ⟨rfl, rowB_at _ rfl, trivial⟩ ?_
 conv => whnf
 refine ⟨by decide, ?_⟩
 conv => whnf
 rw [show numE ((1 : Nat) : Int) = 0 from rfl]
 refine callR [4, 7] (addG (a := catL [numS (n : Int), numS (p : Int), numS 0]) (t := numS ((1 : Nat) : Int)) (b := catL [numS (n : Int), numS (p : Int), numS 0, numS ((1 : Nat) : Int)]) rfl pos3 (by simp only [catL, List.foldl, cat_size]; omega)) (post' := [(4, .box 156 [.ptr 4 0, .sv 8 1 0 (catL [numS (n : Int), numS (p : Int), numS 0, numS ((1 : Nat) : Int)]).size none, .int .i64 0]), (7, .gone), (8, rowB (catL [numS (n : Int), numS (p : Int), numS 0, numS ((1 : Nat) : Int)]))]) (by simp only [renH, rowB_ren]; rfl) rfl rfl rfl trivial ⟨rfl, rowB_at _ rfl, trivial⟩ ?_
 conv => whnf
 refine unrollR Tryz.hT Tryz.hM puZ_ok 2 ?_
 conv => whnf
 refine ⟨by decide, ?_⟩
 conv => whnf
 rw [show readA true 2 (cellsP L) ((q + Int.toNat 0) * 2 + 0) = some (.agg [.str L[q + 0].1, .str L[q + 0].2]) from readA2 (m := q + 0) (by omega)]
 conv => whnf
 rw [textE_ok sk0]
 refine callR [4, 8] (addG (a := catL [numS (n : Int), numS (p : Int), numS 0, numS ((1 : Nat) : Int)]) (t := textS L[q + 0].1) (b := catL [numS (n : Int), numS (p : Int), numS 0, numS ((1 : Nat) : Int), textS L[q + 0].1]) rfl pos4 (by simp only [catL, List.foldl, cat_size]; omega)) (post' := [(4, .box 156 [.ptr 4 0, .sv 10 1 0 (catL [numS (n : Int), numS (p : Int), numS 0, numS ((1 : Nat) : Int), textS L[q + 0].1]).size none, .int .i64 0]), (8, .gone), (10, rowB (catL [numS (n : Int), numS (p : Int), numS 0, numS ((1 : Nat) : Int), textS L[q + 0].1]))]) (by simp only [renH, rowB_ren]; rfl) rfl rfl rfl trivial ⟨rfl, rowB_at _ rfl, trivial⟩ ?_
 conv => whnf
 rw [textE_ok sv0]
 refine callR [4, 10] (addG (a := catL [numS (n : Int), numS (p : Int), numS 0, numS ((1 : Nat) : Int), textS L[q + 0].1]) (t := textS L[q + 0].2) (b := catL [numS (n : Int), numS (p : Int), numS 0, numS ((1 : Nat) : Int), textS L[q + 0].1, textS L[q + 0].2]) rfl pos5 (by simp only [catL, List.foldl, cat_size]; omega)) (post' := [(4, .box 156 [.ptr 4 0, .sv 11 1 0 (catL [numS (n : Int), numS (p : Int), numS 0, numS ((1 : Nat) : Int), textS L[q + 0].1, textS L[q + 0].2]).size none, .int .i64 0]), (10, .gone), (11, rowB (catL [numS (n : Int), numS (p : Int), numS 0, numS ((1 : Nat) : Int), textS L[q + 0].1, textS L[q + 0].2]))]) (by simp only [renH, rowB_ren]; rfl) rfl rfl rfl trivial ⟨rfl, rowB_at _ rfl, trivial⟩ ?_
 conv => whnf
 rw [show numE ((1 : Nat) : Int) = 0 from rfl]
 refine callR [4, 11] (addG (a := catL [numS (n : Int), numS (p : Int), numS 0, numS ((1 : Nat) : Int), textS L[q + 0].1, textS L[q + 0].2]) (t := numS ((1 : Nat) : Int)) (b := catL [numS (n : Int), numS (p : Int), numS 0, numS ((1 : Nat) : Int), textS L[q + 0].1, textS L[q + 0].2, numS ((1 : Nat) : Int)]) rfl pos6 (by simp only [catL, List.foldl, cat_size]; omega)) (post' := [(4, .box 156 [.ptr 4 0, .sv 12 1 0 (catL [numS (n : Int), numS (p : Int), numS 0, numS ((1 : Nat) : Int), textS L[q + 0].1, textS L[q + 0].2, numS ((1 : Nat) : Int)]).size none, .int .i64 0]), (11, .gone), (12, rowB (catL [numS (n : Int), numS (p : Int), numS 0, numS ((1 : Nat) : Int), textS L[q + 0].1, textS L[q + 0].2, numS ((1 : Nat) : Int)]))]) (by simp only [renH, rowB_ren]; rfl) rfl rfl rfl trivial ⟨rfl, rowB_at _ rfl, trivial⟩ ?_
 conv => whnf
 refine unrollR Tryz.hT Tryz.hM puZ_ok 2 ?_
 conv => whnf
 refine ⟨by decide, ?_⟩
 conv => whnf
 refine callR [0] (join1p P none none (by omega) hP) (post' := [(0, rowS P none)]) (by simp only [renH, rowS_ren]; rfl) rfl rfl rfl trivial ⟨rowS_at _ rfl, trivial⟩ ?_
 conv => whnf
 refine callR [4, 12] (addG (a := catL [numS (n : Int), numS (p : Int), numS 0, numS ((1 : Nat) : Int), textS L[q + 0].1, textS L[q + 0].2, numS ((1 : Nat) : Int)]) (t := joinS P) (b := catL [numS (n : Int), numS (p : Int), numS 0, numS ((1 : Nat) : Int), textS L[q + 0].1, textS L[q + 0].2, numS ((1 : Nat) : Int), joinS P]) rfl pos7 (by simp only [catL, List.foldl, cat_size]; omega)) (post' := [(4, .box 156 [.ptr 4 0, .sv 13 1 0 (catL [numS (n : Int), numS (p : Int), numS 0, numS ((1 : Nat) : Int), textS L[q + 0].1, textS L[q + 0].2, numS ((1 : Nat) : Int), joinS P]).size none, .int .i64 0]), (12, .gone), (13, rowB (catL [numS (n : Int), numS (p : Int), numS 0, numS ((1 : Nat) : Int), textS L[q + 0].1, textS L[q + 0].2, numS ((1 : Nat) : Int), joinS P]))]) (by simp only [renH, rowB_ren]; rfl) rfl rfl rfl trivial ⟨rfl, rowB_at _ rfl, trivial⟩ ?_
 conv => whnf
 refine callR [4, 13] (strP (a := catL [numS (n : Int), numS (p : Int), numS 0, numS ((1 : Nat) : Int), textS L[q + 0].1, textS L[q + 0].2, numS ((1 : Nat) : Int), joinS P]) (by simp only [catL, List.foldl, cat_size]; omega) (by simp only [catL, List.foldl, cat_size]; omega)) (post' := [(4, .box 156 [.ptr 4 0, .sv 13 1 0 (catL [numS (n : Int), numS (p : Int), numS 0, numS ((1 : Nat) : Int), textS L[q + 0].1, textS L[q + 0].2, numS ((1 : Nat) : Int), joinS P]).size none, .int .i64 0]), (13, .gone)]) rfl rfl rfl rfl trivial ⟨rfl, rowB_at _ rfl, trivial⟩ ?_
 conv => whnf
 refine Fin.same ?_ rfl ?_
 ·simp [okH_all, okR, rowS, rowD, bare_ok (cellsP_bare _), bare_ok (strsA_bare _), okL_cons, okL_nil, okA_sv]
 ·intro p hp
  simp only [List.mem_cons, List.not_mem_nil, or_false] at hp
  rcases hp with rfl | rfl | rfl <;> rfl
set_option maxHeartbeats 4000000 in
theorem putQC {n p : Nat} (hn : n ≤ 40) (hp : p ≤ 40) {P : List ByteArray} (hP : shortL P) (hPl : P.length ≤ 40) {Q : List ByteArray} (hQ : shortL Q) (hQl : Q.length ≤ 40) {L : List KV} {d : Option Nat} {q : Nat} (hq : q + 2 ≤ L.length) (hs : ∀ (i : Nat) (h : i < L.length), L[i].1.size ≤ 65536 ∧ L[i].2.size ≤ 65536)  :
  Ctr Tryz.prog 58 [.agg [.int .i64 (n : Int), .int .i64 (p : Int), .bool false, .sv 3 2 q 2 (some 2), .sv 2 1 0 2 none]] [] [(0, rowS P none), (1, rowS Q none), (2, .row 31 1 [.sv 0 1 0 P.length none, .sv 1 1 0 Q.length none] none), (3, rowD L d)] 4 4 (.tup [.str (catL [numS (n : Int), numS (p : Int), numS 0, numS ((2 : Nat) : Int), textS L[q + 0].1, textS L[q + 0].2, textS L[q + 1].1, textS L[q + 1].2, numS ((2 : Nat) : Int), joinS P, joinS Q]), .int .i64 0]) [(0, rowS P none), (1, rowS Q none), (2, .row 31 1 [.sv 0 1 0 P.length none, .sv 1 1 0 Q.length none] none), (3, rowD L d)] := by
 have sk0 : L[q + 0].1.size ≤ 65536 := (hs (q + 0) (by omega)).1
 have sv0 : L[q + 0].2.size ≤ 65536 := (hs (q + 0) (by omega)).2
 have sk1 : L[q + 1].1.size ≤ 65536 := (hs (q + 1) (by omega)).1
 have sv1 : L[q + 1].2.size ≤ 65536 := (hs (q + 1) (by omega)).2
 have pos0 := numS_pos (x := (n : Int)) (by omega) (by omega)
 have pos1 := numS_pos (x := (p : Int)) (by omega) (by omega)
 have pos2 := numS_pos (x := 0) (by decide) (by decide)
 have pos3 := numS_pos (x := ((2 : Nat) : Int)) (by decide) (by decide)
 have pos4 := textS_pos sk0
 have pos5 := textS_pos sv0
 have pos6 := textS_pos sk1
 have pos7 := textS_pos sv1
 have pos8 := numS_pos (x := ((2 : Nat) : Int)) (by decide) (by decide)
 have pos9 := joinS_pos (l := P) (by omega)
 have ljP := joinT_size (P.length : Int) P
 have leP : (joinS P).size ≤ 8 + 65544 * P.length := ljP
 have pos10 := joinS_pos (l := Q) (by omega)
 have ljQ := joinT_size (Q.length : Int) Q
 have leQ : (joinS Q).size ≤ 8 + 65544 * Q.length := ljQ
 have := numS_size (n : Int)
 have := numS_size (p : Int)
 have := numS_size 0
 have := numS_size 1
 have := numS_size ((1 : Nat) : Int)
 have := numS_size ((2 : Nat) : Int)
 have := textS_size L[q + 0].1
 have := textS_size L[q + 0].2
 have := textS_size L[q + 1].1
 have := textS_size L[q + 1].2
 refine Ctr.introR (T := Tryz.T) Tryz.hT Tryz.hM puZ_ok Tryz.func58 rfl (by kernel_rfl) rfl rfl ?_ rfl ?_
 ·simp [okH_all, okR, rowS, rowD, bare_ok (cellsP_bare _), bare_ok (strsA_bare _), okL_cons, okL_nil, okA_sv]
 conv => whnf
 refine unrollR Tryz.hT Tryz.hM puZ_ok 5 ?_
 conv => whnf
 refine ⟨by decide, ?_⟩
 conv => whnf
 rw [numE_ok (x := (n : Int)) (by omega) (by omega)]
 refine callR [5] (add0 (t := numS (n : Int)) pos0 (by omega)) (post' := [(5, .box 156 [.ptr 5 0, .sv 6 1 0 (catL [numS (n : Int)]).size none, .int .i64 0]), (6, rowB (catL [numS (n : Int)]))]) (by simp only [renH, rowB_ren]; rfl) rfl rfl rfl trivial ⟨rfl, trivial⟩ ?_
 conv => whnf
 refine ⟨by decide, ?_⟩
 conv => whnf
 rw [numE_ok (x := (p : Int)) (by omega) (by omega)]
 refine callR [5, 6] (addG (a := catL [numS (n : Int)]) (t := numS (p : Int)) (b := catL [numS (n : Int), numS (p : Int)]) rfl pos1 (by simp only [catL, List.foldl]; omega)) (post' := [(5, .box 156 [.ptr 5 0, .sv 7 1 0 (catL [numS (n : Int), numS (p : Int)]).size none, .int .i64 0]), (6, .gone), (7, rowB (catL [numS (n : Int), numS (p : Int)]))]) (by simp only [renH, rowB_ren]; rfl) rfl rfl rfl trivial ⟨rfl, rowB_at _ rfl, trivial⟩ ?_
 conv => whnf
 refine ⟨by decide, ?_⟩
 conv => whnf
 rw [show numE 0 = 0 from rfl]
 refine callR [5, 7] (addG (a := catL [numS (n : Int), numS (p : Int)]) (t := numS 0) (b := catL [numS (n : Int), numS (p : Int), numS 0]) rfl pos2 (by simp only [catL, List.foldl, cat_size]; omega)) (post' := [(5, .box 156 [.ptr 5 0, .sv 8 1 0 (catL [numS (n : Int), numS (p : Int), numS 0]).size none, .int .i64 0]), (7, .gone), (8, rowB (catL [numS (n : Int), numS (p : Int), numS 0]))]) (by simp only [renH, rowB_ren]; rfl) rfl rfl rfl trivial ⟨rfl, rowB_at _ rfl, trivial⟩ ?_
 conv => whnf
 refine ⟨by decide, ?_⟩
 conv => whnf
 rw [show numE ((2 : Nat) : Int) = 0 from rfl]
 refine callR [5, 8] (addG (a := catL [numS (n : Int), numS (p : Int), numS 0]) (t := numS ((2 : Nat) : Int)) (b := catL [numS (n : Int), numS (p : Int), numS 0, numS ((2 : Nat) : Int)]) rfl pos3 (by simp only [catL, List.foldl, cat_size]; omega)) (post' := [(5, .box 156 [.ptr 5 0, .sv 9 1 0 (catL [numS (n : Int), numS (p : Int), numS 0, numS ((2 : Nat) : Int)]).size none, .int .i64 0]), (8, .gone), (9, rowB (catL [numS (n : Int), numS (p : Int), numS 0, numS ((2 : Nat) : Int)]))]) (by simp only [renH, rowB_ren]; rfl) rfl rfl rfl trivial ⟨rfl, rowB_at _ rfl, trivial⟩ ?_
 conv => whnf
 refine unrollR Tryz.hT Tryz.hM puZ_ok 3 ?_
 conv => whnf
 refine ⟨by decide, ?_⟩
 conv => whnf
 rw [show readA true 2 (cellsP L) ((q + Int.toNat 0) * 2 + 0) = some (.agg [.str L[q + 0].1, .str L[q + 0].2]) from readA2 (m := q + 0) (by omega)]
 conv => whnf
 rw [textE_ok sk0]
 refine callR [5, 9] (addG (a := catL [numS (n : Int), numS (p : Int), numS 0, numS ((2 : Nat) : Int)]) (t := textS L[q + 0].1) (b := catL [numS (n : Int), numS (p : Int), numS 0, numS ((2 : Nat) : Int), textS L[q + 0].1]) rfl pos4 (by simp only [catL, List.foldl, cat_size]; omega)) (post' := [(5, .box 156 [.ptr 5 0, .sv 11 1 0 (catL [numS (n : Int), numS (p : Int), numS 0, numS ((2 : Nat) : Int), textS L[q + 0].1]).size none, .int .i64 0]), (9, .gone), (11, rowB (catL [numS (n : Int), numS (p : Int), numS 0, numS ((2 : Nat) : Int), textS L[q + 0].1]))]) (by simp only [renH, rowB_ren]; rfl) rfl rfl rfl trivial ⟨rfl, rowB_at _ rfl, trivial⟩ ?_
 conv => whnf
 rw [textE_ok sv0]
 refine callR [5, 11] (addG (a := catL [numS (n : Int), numS (p : Int), numS 0, numS ((2 : Nat) : Int), textS L[q + 0].1]) (t := textS L[q + 0].2) (b := catL [numS (n : Int), numS (p : Int), numS 0, numS ((2 : Nat) : Int), textS L[q + 0].1, textS L[q + 0].2]) rfl pos5 (by simp only [catL, List.foldl, cat_size]; omega)) (post' := [(5, .box 156 [.ptr 5 0, .sv 12 1 0 (catL [numS (n : Int), numS (p : Int), numS 0, numS ((2 : Nat) : Int), textS L[q + 0].1, textS L[q + 0].2]).size none, .int .i64 0]), (11, .gone), (12, rowB (catL [numS (n : Int), numS (p : Int), numS 0, numS ((2 : Nat) : Int), textS L[q + 0].1, textS L[q + 0].2]))]) (by simp only [renH, rowB_ren]; rfl) rfl rfl rfl trivial ⟨rfl, rowB_at _ rfl, trivial⟩ ?_
 conv => whnf
 refine ⟨by decide, ?_⟩
 conv => whnf
 rw [show readA true 2 (cellsP L) ((q + Int.toNat (IntKind.i64.wrap (0 + 1))) * 2 + 0) = some (.agg [.str L[q + 1].1, .str L[q + 1].2]) from readA2 (m := q + 1) (by omega)]
 conv => whnf
 rw [textE_ok sk1]
 refine callR [5, 12] (addG (a := catL [numS (n : Int), numS (p : Int), numS 0, numS ((2 : Nat) : Int), textS L[q + 0].1, textS L[q + 0].2]) (t := textS L[q + 1].1) (b := catL [numS (n : Int), numS (p : Int), numS 0, numS ((2 : Nat) : Int), textS L[q + 0].1, textS L[q + 0].2, textS L[q + 1].1]) rfl pos6 (by simp only [catL, List.foldl, cat_size]; omega)) (post' := [(5, .box 156 [.ptr 5 0, .sv 14 1 0 (catL [numS (n : Int), numS (p : Int), numS 0, numS ((2 : Nat) : Int), textS L[q + 0].1, textS L[q + 0].2, textS L[q + 1].1]).size none, .int .i64 0]), (12, .gone), (14, rowB (catL [numS (n : Int), numS (p : Int), numS 0, numS ((2 : Nat) : Int), textS L[q + 0].1, textS L[q + 0].2, textS L[q + 1].1]))]) (by simp only [renH, rowB_ren]; rfl) rfl rfl rfl trivial ⟨rfl, rowB_at _ rfl, trivial⟩ ?_
 conv => whnf
 rw [textE_ok sv1]
 refine callR [5, 14] (addG (a := catL [numS (n : Int), numS (p : Int), numS 0, numS ((2 : Nat) : Int), textS L[q + 0].1, textS L[q + 0].2, textS L[q + 1].1]) (t := textS L[q + 1].2) (b := catL [numS (n : Int), numS (p : Int), numS 0, numS ((2 : Nat) : Int), textS L[q + 0].1, textS L[q + 0].2, textS L[q + 1].1, textS L[q + 1].2]) rfl pos7 (by simp only [catL, List.foldl, cat_size]; omega)) (post' := [(5, .box 156 [.ptr 5 0, .sv 15 1 0 (catL [numS (n : Int), numS (p : Int), numS 0, numS ((2 : Nat) : Int), textS L[q + 0].1, textS L[q + 0].2, textS L[q + 1].1, textS L[q + 1].2]).size none, .int .i64 0]), (14, .gone), (15, rowB (catL [numS (n : Int), numS (p : Int), numS 0, numS ((2 : Nat) : Int), textS L[q + 0].1, textS L[q + 0].2, textS L[q + 1].1, textS L[q + 1].2]))]) (by simp only [renH, rowB_ren]; rfl) rfl rfl rfl trivial ⟨rfl, rowB_at _ rfl, trivial⟩ ?_
 conv => whnf
 rw [show numE ((2 : Nat) : Int) = 0 from rfl]
 refine callR [5, 15] (addG (a := catL [numS (n : Int), numS (p : Int), numS 0, numS ((2 : Nat) : Int), textS L[q + 0].1, textS L[q + 0].2, textS L[q + 1].1, textS L[q + 1].2]) (t := numS ((2 : Nat) : Int)) (b := catL [numS (n : Int), numS (p : Int), numS 0, numS ((2 : Nat) : Int), textS L[q + 0].1, textS L[q + 0].2, textS L[q + 1].1, textS L[q + 1].2, numS ((2 : Nat) : Int)]) rfl pos8 (by simp only [catL, List.foldl, cat_size]; omega)) (post' := [(5, .box 156 [.ptr 5 0, .sv 16 1 0 (catL [numS (n : Int), numS (p : Int), numS 0, numS ((2 : Nat) : Int), textS L[q + 0].1, textS L[q + 0].2, textS L[q + 1].1, textS L[q + 1].2, numS ((2 : Nat) : Int)]).size none, .int .i64 0]), (15, .gone), (16, rowB (catL [numS (n : Int), numS (p : Int), numS 0, numS ((2 : Nat) : Int), textS L[q + 0].1, textS L[q + 0].2, textS L[q + 1].1, textS L[q + 1].2, numS ((2 : Nat) : Int)]))]) (by simp only [renH, rowB_ren]; rfl) rfl rfl rfl trivial ⟨rfl, rowB_at _ rfl, trivial⟩ ?_
 conv => whnf
 refine unrollR Tryz.hT Tryz.hM puZ_ok 3 ?_
 conv => whnf
 refine ⟨by decide, ?_⟩
 conv => whnf
 refine callR [0] (join1p P none none (by omega) hP) (post' := [(0, rowS P none)]) (by simp only [renH, rowS_ren]; rfl) rfl rfl rfl trivial ⟨rowS_at _ rfl, trivial⟩ ?_
 conv => whnf
 refine callR [5, 16] (addG (a := catL [numS (n : Int), numS (p : Int), numS 0, numS ((2 : Nat) : Int), textS L[q + 0].1, textS L[q + 0].2, textS L[q + 1].1, textS L[q + 1].2, numS ((2 : Nat) : Int)]) (t := joinS P) (b := catL [numS (n : Int), numS (p : Int), numS 0, numS ((2 : Nat) : Int), textS L[q + 0].1, textS L[q + 0].2, textS L[q + 1].1, textS L[q + 1].2, numS ((2 : Nat) : Int), joinS P]) rfl pos9 (by simp only [catL, List.foldl, cat_size]; omega)) (post' := [(5, .box 156 [.ptr 5 0, .sv 17 1 0 (catL [numS (n : Int), numS (p : Int), numS 0, numS ((2 : Nat) : Int), textS L[q + 0].1, textS L[q + 0].2, textS L[q + 1].1, textS L[q + 1].2, numS ((2 : Nat) : Int), joinS P]).size none, .int .i64 0]), (16, .gone), (17, rowB (catL [numS (n : Int), numS (p : Int), numS 0, numS ((2 : Nat) : Int), textS L[q + 0].1, textS L[q + 0].2, textS L[q + 1].1, textS L[q + 1].2, numS ((2 : Nat) : Int), joinS P]))]) (by simp only [renH, rowB_ren]; rfl) rfl rfl rfl trivial ⟨rfl, rowB_at _ rfl, trivial⟩ ?_
 conv => whnf
 refine ⟨by decide, ?_⟩
 conv => whnf
 refine callR [1] (join1p Q none none (by omega) hQ) (post' := [(1, rowS Q none)]) (by simp only [renH, rowS_ren]; rfl) rfl rfl rfl trivial ⟨rowS_at _ rfl, trivial⟩ ?_
 conv => whnf
 refine callR [5, 17] (addG (a := catL [numS (n : Int), numS (p : Int), numS 0, numS ((2 : Nat) : Int), textS L[q + 0].1, textS L[q + 0].2, textS L[q + 1].1, textS L[q + 1].2, numS ((2 : Nat) : Int), joinS P]) (t := joinS Q) (b := catL [numS (n : Int), numS (p : Int), numS 0, numS ((2 : Nat) : Int), textS L[q + 0].1, textS L[q + 0].2, textS L[q + 1].1, textS L[q + 1].2, numS ((2 : Nat) : Int), joinS P, joinS Q]) rfl pos10 (by simp only [catL, List.foldl, cat_size]; omega)) (post' := [(5, .box 156 [.ptr 5 0, .sv 18 1 0 (catL [numS (n : Int), numS (p : Int), numS 0, numS ((2 : Nat) : Int), textS L[q + 0].1, textS L[q + 0].2, textS L[q + 1].1, textS L[q + 1].2, numS ((2 : Nat) : Int), joinS P, joinS Q]).size none, .int .i64 0]), (17, .gone), (18, rowB (catL [numS (n : Int), numS (p : Int), numS 0, numS ((2 : Nat) : Int), textS L[q + 0].1, textS L[q + 0].2, textS L[q + 1].1, textS L[q + 1].2, numS ((2 : Nat) : Int), joinS P, joinS Q]))]) (by simp only [renH, rowB_ren]; rfl) rfl rfl rfl trivial ⟨rfl, rowB_at _ rfl, trivial⟩ ?_
 conv => whnf
 refine callR [5, 18] (strP (a := catL [numS (n : Int), numS (p : Int), numS 0, numS ((2 : Nat) : Int), textS L[q + 0].1, textS L[q + 0].2, textS L[q + 1].1, textS L[q + 1].2, numS ((2 : Nat) : Int), joinS P, joinS Q]) (by simp only [catL, List.foldl, cat_size]; omega) (by simp only [catL, List.foldl, cat_size]; omega)) (post' := [(5, .box 156 [.ptr 5 0, .sv 18 1 0 (catL [numS (n : Int), numS (p : Int), numS 0, numS ((2 : Nat) : Int), textS L[q + 0].1, textS L[q + 0].2, textS L[q + 1].1, textS L[q + 1].2, numS ((2 : Nat) : Int), joinS P, joinS Q]).size none, .int .i64 0]), (18, .gone)]) rfl rfl rfl rfl trivial ⟨rfl, rowB_at _ rfl, trivial⟩ ?_
 conv => whnf
 refine Fin.same ?_ rfl ?_
 ·simp [okH_all, okR, rowS, rowD, bare_ok (cellsP_bare _), bare_ok (strsA_bare _), okL_cons, okL_nil, okA_sv]
 ·intro p hp
  simp only [List.mem_cons, List.not_mem_nil, or_false] at hp
  rcases hp with rfl | rfl | rfl | rfl <;> rfl
def smallK (L : List KV) : Prop := ∀ (i : Nat) (h : i < L.length), L[i].1.size ≤ 1000 ∧ L[i].2.size ≤ 1000
theorem joinS_small {l : List ByteArray} (h : ∀ s ∈ l, s.size = 32) : (joinS l).size ≤ 8 + 40 * l.length := by
 have key : ∀ (l : List ByteArray) (o : ByteArray), (∀ s ∈ l, s.size = 32) → (l.foldl (fun o s => catB o (textS s)) o).size ≤ o.size + 40 * l.length := by
  intro l
  induction l with
  | nil => intro o _; simp
  | cons x l ih =>
   intro o hx
   have h1 := ih (catB o (textS x)) (fun s hs => hx s (List.mem_cons_of_mem _ hs))
   have h2 := textS_small x
   rw [hx x List.mem_cons_self] at h2
   rw [cat_size] at h1
   simp only [List.foldl_cons, List.length_cons]
   omega
 have h1 := key l (numS (l.length : Int)) h
 have h2 := numS_size (l.length : Int)
 unfold joinS joinT; omega
theorem path_facts {L : List KV} (h40 : L.length ≤ 40) (q : Nat) : shortL (pathB (leavesB L) q) ∧ (pathB (leavesB L) q).length ≤ 40 ∧ (joinS (pathB (leavesB L) q)).size ≤ 1608 := by
 have hl : (leavesB L).length = L.length := by simp [leavesB]
 have h1 := pathB_all 40 (leavesB L) q (by omega) (by omega) lv_size
 have h2 := pathB_len 40 (leavesB L) q (by omega) (by omega)
 have h3 := joinS_small h1
 exact ⟨fun s hs => by rw [h1 s hs]; omega, by omega, by omega⟩
theorem prove2A {L : List KV} (hs : Srt L) (h3 : 3 ≤ L.length) (h40 : L.length ≤ 40) (hsm : smallK L) {key : ByteArray} (hb : hasL L key = true) :
  Ctr Tryz.prog 32 [.ptr 0 0, .int .i64 2, .str key] [] [(0, cbox (.sv 2 2 0 2 none)), (2, .row 74 2 [.str (rawB L 1), .sv 3 2 0 L.length (some L.length), .str (rawB L 2), .sv 4 2 0 L.length (some L.length)] none), (4, rowD L (some L.length))] 5 5 (.tup [.agg [.int .i64 2, .str (catL [numS (L.length : Int), numS (posL L key : Int), numS 1, numS 0, numS ((1 : Nat) : Int), joinS (pathB (leavesB L) (posL L key))])], .int .i64 0]) [(0, cbox (.sv 2 2 0 2 none)), (2, .row 74 2 [.str (rawB L 1), .sv 3 2 0 L.length (some L.length), .str (rawB L 2), .sv 4 2 0 L.length (some L.length)] none), (4, rowD L (some L.length))] := by
 have hle := posL_le L key
 obtain ⟨f1, f2, f3⟩ := path_facts (L := L) h40 (posL L key)
 refine Ctr.introR (T := Tryz.T) Tryz.hT Tryz.hM Tryz.hE Tryz.func32 rfl (by kernel_rfl) rfl rfl ?_ rfl ?_
 ·simp [okH_all, okR, cbox, rowD, bare_ok (cellsP_bare _), okL_cons, okL_nil, okA_str, okA_ptr, okA_int, okA_nils, okA_sv]
 conv => whnf
 refine callR [0, 1, 2, 3, 4] (at2 L) rfl rfl rfl rfl trivial ⟨rfl, rfl, trivial⟩ ?_
 conv => whnf
 refine callR [4] (buildA hs h3 h40 hb) (post' := [(4, rowD L (some L.length)), (7, rowS (pathB (leavesB L) (posL L key)) none), (8, .row 31 1 [.sv 7 1 0 (pathB (leavesB L) (posL L key)).length none] (some 1))]) (by simp only [renH, rowD_ren, rowS_ren]; rfl) rfl rfl rfl trivial ⟨rowD_at _ rfl, trivial⟩ ?_
 conv => whnf
 refine callR [7, 8] (putQA (n := L.length) (p := posL L key) (P := pathB (leavesB L) (posL L key)) h40 (by omega) f1 f2) (post' := [(7, rowS (pathB (leavesB L) (posL L key)) none), (8, .row 31 1 [.sv 7 1 0 (pathB (leavesB L) (posL L key)).length none] (some 1))]) (by simp only [renH, rowS_ren]; rfl) rfl rfl rfl trivial ⟨rowS_at _ rfl, rfl, trivial⟩ ?_
 conv => whnf
 refine Fin.same ?_ rfl ?_
 ·simp [okH_all, okR, cbox, rowD, bare_ok (cellsP_bare _), okL_cons, okL_nil, okA_str, okA_ptr, okA_int, okA_nils, okA_sv]
 ·intro p hp
  simp only [List.mem_cons, List.not_mem_nil, or_false] at hp
  rcases hp with rfl | rfl | rfl <;> rfl
theorem prove2B {L : List KV} (hs : Srt L) (h3 : 3 ≤ L.length) (h40 : L.length ≤ 40) (hsm : smallK L) {key : ByteArray} {q : Nat} (hq1 : q + 1 ≤ L.length) (hb : hasL L key = false) (hq : posL L key = 0 ∧ q = 0 ∨ posL L key = L.length ∧ q = L.length - 1) :
  Ctr Tryz.prog 32 [.ptr 0 0, .int .i64 2, .str key] [] [(0, cbox (.sv 2 2 0 2 none)), (2, .row 74 2 [.str (rawB L 1), .sv 3 2 0 L.length (some L.length), .str (rawB L 2), .sv 4 2 0 L.length (some L.length)] none), (4, rowD L (some L.length))] 5 5 (.tup [.agg [.int .i64 2, .str (catL [numS (L.length : Int), numS (posL L key : Int), numS 0, numS ((1 : Nat) : Int), textS L[q + 0].1, textS L[q + 0].2, numS ((1 : Nat) : Int), joinS (pathB (leavesB L) q)])], .int .i64 0]) [(0, cbox (.sv 2 2 0 2 none)), (2, .row 74 2 [.str (rawB L 1), .sv 3 2 0 L.length (some L.length), .str (rawB L 2), .sv 4 2 0 L.length (some L.length)] none), (4, rowD L (some L.length))] := by
 have hle := posL_le L key
 obtain ⟨f1, f2, f3⟩ := path_facts (L := L) h40 q
 have hs2 : ∀ (i : Nat) (h : i < L.length), L[i].1.size ≤ 65536 ∧ L[i].2.size ≤ 65536 := fun i h => by have := hsm i h; omega
 refine Ctr.introR (T := Tryz.T) Tryz.hT Tryz.hM Tryz.hE Tryz.func32 rfl (by kernel_rfl) rfl rfl ?_ rfl ?_
 ·simp [okH_all, okR, cbox, rowD, bare_ok (cellsP_bare _), okL_cons, okL_nil, okA_str, okA_ptr, okA_int, okA_nils, okA_sv]
 conv => whnf
 refine callR [0, 1, 2, 3, 4] (at2 L) rfl rfl rfl rfl trivial ⟨rfl, rfl, trivial⟩ ?_
 conv => whnf
 refine callR [4] (buildB hs h3 h40 hb hq) (post' := [(4, rowD L (some L.length)), (7, rowS (pathB (leavesB L) q) none), (8, .row 31 1 [.sv 7 1 0 (pathB (leavesB L) q).length none] none)]) (by simp only [renH, rowD_ren, rowS_ren]; rfl) rfl rfl rfl trivial ⟨rowD_at _ rfl, trivial⟩ ?_
 conv => whnf
 refine callR [7, 8, 4] (putQB (n := L.length) (p := posL L key) (P := pathB (leavesB L) q) h40 (by omega) f1 f2 hq1 hs2) (post' := [(7, rowS (pathB (leavesB L) q) none), (8, .row 31 1 [.sv 7 1 0 (pathB (leavesB L) q).length none] none), (4, rowD L (some L.length))]) (by simp only [renH, rowS_ren, rowD_ren]; rfl) rfl rfl rfl trivial ⟨rowS_at _ rfl, rfl, rowD_at _ rfl, trivial⟩ ?_
 conv => whnf
 refine Fin.same ?_ rfl ?_
 ·simp [okH_all, okR, cbox, rowD, bare_ok (cellsP_bare _), okL_cons, okL_nil, okA_str, okA_ptr, okA_int, okA_nils, okA_sv]
 ·intro p hp
  simp only [List.mem_cons, List.not_mem_nil, or_false] at hp
  rcases hp with rfl | rfl | rfl <;> rfl
theorem prove2C {L : List KV} (hs : Srt L) (h3 : 3 ≤ L.length) (h40 : L.length ≤ 40) (hsm : smallK L) {key : ByteArray} {q : Nat} (hq2 : q + 1 < L.length) (hb : hasL L key = false) (hq : posL L key = q + 1 ∧ q + 1 < L.length) :
  Ctr Tryz.prog 32 [.ptr 0 0, .int .i64 2, .str key] [] [(0, cbox (.sv 2 2 0 2 none)), (2, .row 74 2 [.str (rawB L 1), .sv 3 2 0 L.length (some L.length), .str (rawB L 2), .sv 4 2 0 L.length (some L.length)] none), (4, rowD L (some L.length))] 5 5 (.tup [.agg [.int .i64 2, .str (catL [numS (L.length : Int), numS (posL L key : Int), numS 0, numS ((2 : Nat) : Int), textS L[q + 0].1, textS L[q + 0].2, textS L[q + 1].1, textS L[q + 1].2, numS ((2 : Nat) : Int), joinS (pathB (leavesB L) q), joinS (pathB (leavesB L) (q + 1))])], .int .i64 0]) [(0, cbox (.sv 2 2 0 2 none)), (2, .row 74 2 [.str (rawB L 1), .sv 3 2 0 L.length (some L.length), .str (rawB L 2), .sv 4 2 0 L.length (some L.length)] none), (4, rowD L (some L.length))] := by
 have hle := posL_le L key
 obtain ⟨f1, f2, f3⟩ := path_facts (L := L) h40 q
 obtain ⟨g1, g2, g3⟩ := path_facts (L := L) h40 (q + 1)
 have hs2 : ∀ (i : Nat) (h : i < L.length), L[i].1.size ≤ 65536 ∧ L[i].2.size ≤ 65536 := fun i h => by have := hsm i h; omega
 refine Ctr.introR (T := Tryz.T) Tryz.hT Tryz.hM Tryz.hE Tryz.func32 rfl (by kernel_rfl) rfl rfl ?_ rfl ?_
 ·simp [okH_all, okR, cbox, rowD, bare_ok (cellsP_bare _), okL_cons, okL_nil, okA_str, okA_ptr, okA_int, okA_nils, okA_sv]
 conv => whnf
 refine callR [0, 1, 2, 3, 4] (at2 L) rfl rfl rfl rfl trivial ⟨rfl, rfl, trivial⟩ ?_
 conv => whnf
 refine callR [4] (buildC hs h3 h40 hb hq) (post' := [(4, rowD L (some L.length)), (7, rowS (pathB (leavesB L) q) none), (8, rowS (pathB (leavesB L) (q + 1)) none), (9, .row 31 1 [.sv 7 1 0 (pathB (leavesB L) q).length none, .sv 8 1 0 (pathB (leavesB L) (q + 1)).length none] none)]) (by simp only [renH, rowD_ren, rowS_ren]; rfl) rfl rfl rfl trivial ⟨rowD_at _ rfl, trivial⟩ ?_
 conv => whnf
 refine callR [7, 8, 9, 4] (putQC (n := L.length) (p := posL L key) (P := pathB (leavesB L) q) (Q := pathB (leavesB L) (q + 1)) h40 (by omega) f1 f2 g1 g2 (by omega) hs2) (post' := [(7, rowS (pathB (leavesB L) q) none), (8, rowS (pathB (leavesB L) (q + 1)) none), (9, .row 31 1 [.sv 7 1 0 (pathB (leavesB L) q).length none, .sv 8 1 0 (pathB (leavesB L) (q + 1)).length none] none), (4, rowD L (some L.length))]) (by simp only [renH, rowS_ren, rowD_ren]; rfl) rfl rfl rfl trivial ⟨rowS_at _ rfl, rowS_at _ rfl, rfl, rowD_at _ rfl, trivial⟩ ?_
 conv => whnf
 refine Fin.same ?_ rfl ?_
 ·simp [okH_all, okR, cbox, rowD, bare_ok (cellsP_bare _), okL_cons, okL_nil, okA_str, okA_ptr, okA_int, okA_nils, okA_sv]
 ·intro p hp
  simp only [List.mem_cons, List.not_mem_nil, or_false] at hp
  rcases hp with rfl | rfl | rfl <;> rfl
theorem prove2 {L : List KV} (hs : Srt L) (h3 : 3 ≤ L.length) (h40 : L.length ≤ 40) (hsm : smallK L) (key : ByteArray) : ∃ s : ByteArray, s.size ≤ 30000 ∧
  Ctr Tryz.prog 32 [.ptr 0 0, .int .i64 2, .str key] [] [(0, cbox (.sv 2 2 0 2 none)), (2, .row 74 2 [.str (rawB L 1), .sv 3 2 0 L.length (some L.length), .str (rawB L 2), .sv 4 2 0 L.length (some L.length)] none), (4, rowD L (some L.length))] 5 5 (.tup [.agg [.int .i64 2, .str s], .int .i64 0]) [(0, cbox (.sv 2 2 0 2 none)), (2, .row 74 2 [.str (rawB L 1), .sv 3 2 0 L.length (some L.length), .str (rawB L 2), .sv 4 2 0 L.length (some L.length)] none), (4, rowD L (some L.length))] := by
 have hle := posL_le L key
 have e0 := numS_size (L.length : Int); have e1 := numS_size (posL L key : Int); have e2 := numS_size 0; have e3 := numS_size 1; have e4 := numS_size ((1 : Nat) : Int); have e5 := numS_size ((2 : Nat) : Int)
 cases hb : hasL L key with
 | true =>
  obtain ⟨f1, f2, f3⟩ := path_facts (L := L) h40 (posL L key)
  exact ⟨_, by simp only [catL, List.foldl, cat_size]; omega, prove2A hs h3 h40 hsm hb⟩
 | false =>
  have case : posL L key = 0 ∨ posL L key = L.length ∨ ∃ q, posL L key = q + 1 ∧ q + 1 < L.length := by
   rcases Nat.eq_zero_or_pos (posL L key) with h | h
   ·exact .inl h
   ·rcases Nat.lt_or_ge (posL L key) L.length with h2 | h2
    ·exact .inr (.inr ⟨posL L key - 1, by omega, by omega⟩)
    ·exact .inr (.inl (by omega))
  rcases case with h | h | ⟨q, h1, h2⟩
  ·obtain ⟨f1, f2, f3⟩ := path_facts (L := L) h40 0
   have t1 := textS_small L[0 + 0].1; have t2 := textS_small L[0 + 0].2; have t3 := hsm (0 + 0) (by omega)
   exact ⟨_, by simp only [catL, List.foldl, cat_size]; omega, prove2B hs h3 h40 hsm (q := 0) (by omega) hb (.inl ⟨h, rfl⟩)⟩
  ·obtain ⟨f1, f2, f3⟩ := path_facts (L := L) h40 (L.length - 1)
   have t1 := textS_small L[L.length - 1 + 0].1; have t2 := textS_small L[L.length - 1 + 0].2; have t3 := hsm (L.length - 1 + 0) (by omega)
   exact ⟨_, by simp only [catL, List.foldl, cat_size]; omega, prove2B hs h3 h40 hsm (q := L.length - 1) (by omega) hb (.inr ⟨h, rfl⟩)⟩
  ·obtain ⟨f1, f2, f3⟩ := path_facts (L := L) h40 q
   obtain ⟨g1, g2, g3⟩ := path_facts (L := L) h40 (q + 1)
   have t1 := textS_small L[q + 0].1; have t2 := textS_small L[q + 0].2; have t3 := hsm (q + 0) (by omega)
   have u1 := textS_small L[q + 1].1; have u2 := textS_small L[q + 1].2; have u3 := hsm (q + 1) (by omega)
   exact ⟨_, by simp only [catL, List.foldl, cat_size]; omega, prove2C hs h3 h40 hsm h2 hb ⟨h1, h2⟩⟩
end Go.Proofs.YtglkoaajgekonaaGreatDoor
-- SQUEEZED
