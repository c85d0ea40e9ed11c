/- ChainNotes: the law. -/
import Derived.Test.YtkhliljbbjapmaaGreatDoorCP
import Derived.Test.YtkhliljbbjapmaaGreatDoorBK
namespace Go.Proofs.YtkhliljbbjapmaaGreatDoor
open Go.SX
def flatC (cl : Nat → Nat → AV) (z : Nat) : Nat → List AV
  | 0 => []
  | i + 1 => flatC cl z i ++ (List.range z).map (cl i)
theorem flatC_len (cl : Nat → Nat → AV) (z : Nat) : ∀ i, (flatC cl z i).length = i * z
  | 0 => by simp [flatC]
  | i + 1 => by rw [flatC, List.length_append, flatC_len cl z i, List.length_map, List.length_range, Nat.add_mul, Nat.one_mul]
/-- Elements that are packets; answers. -/
def isPk (cl : Nat → Nat → AV) (n : Nat) : Prop := ∀ i, i < n → ∃ a b c d e f g h, (List.range 8).map (cl i) = pkA a b c d e f g h
def isWr (cl : Nat → Nat → AV) (n : Nat) : Prop := ∀ i, i < n → ∃ a b c d e f g h j, (List.range 9).map (cl i) = wrA a b c d e f g h j
theorem flatP {cl : Nat → Nat → AV} {n : Nat} (h : isPk cl n) : ∀ i, i ≤ n → (flatC cl 8 i).all bareA = true
  | 0, _ => rfl
  | i + 1, hi => by
    obtain ⟨a, b, c, d, e, f, g, k, hk⟩ := h i (by omega)
    rw [flatC, List.all_append, flatP h i (by omega), hk]; rfl
theorem flatW {cl : Nat → Nat → AV} {n : Nat} (h : isWr cl n) : ∀ i, i ≤ n → (flatC cl 9 i).all bareA = true
  | 0, _ => rfl
  | i + 1, hi => by
    obtain ⟨a, b, c, d, e, f, g, k, j, hk⟩ := h i (by omega)
    rw [flatC, List.all_append, flatW h i (by omega), hk]; rfl
noncomputable def chL (X Y : AV) : Res := .box 69 [.str alphaW, .ptr 3 0, .nils, .int .i64 0, X, Y]
def oN : Nat → Option Nat
  | 0 => none
  | i + 1 => some (i + 1)
def rowN (h z t : Nat) (cl : Nat → Nat → AV) : Nat → Heap
  | 0 => []
  | i + 1 => [(h, .row t z (flatC cl z (i + 1)) none)]
theorem pk_at {cl : Nat → Nat → AV} {n : Nat} (h : isPk cl n) {i : Nat} (hi : i < n) : ∃ a b c d e f g k, (List.range 8).map (cl i) = pkA a b c d e f g k ∧ cl i 0 = .int .i64 a ∧ cl i 1 = .str b ∧ cl i 2 = .str c ∧ cl i 3 = .str d ∧ cl i 4 = .str e ∧ cl i 5 = .str f ∧ cl i 6 = .int .i64 g ∧ cl i 7 = .int .i64 k := by
  obtain ⟨a, b, c, d, e, f, g, k, hk⟩ := h i hi
  refine ⟨a, b, c, d, e, f, g, k, hk, ?_⟩
  have hk : [cl i 0, cl i 1, cl i 2, cl i 3, cl i 4, cl i 5, cl i 6, cl i 7] = pkA a b c d e f g k := hk
  simp only [pkA, List.cons.injEq, and_true] at hk
  exact hk
theorem wr_at {cl : Nat → Nat → AV} {n : Nat} (h : isWr cl n) {i : Nat} (hi : i < n) : ∃ a b c d e f g k j, (List.range 9).map (cl i) = wrA a b c d e f g k j ∧ cl i 0 = .int .i64 a ∧ cl i 1 = .str b ∧ cl i 2 = .str c ∧ cl i 3 = .str d ∧ cl i 4 = .str e ∧ cl i 5 = .str f ∧ cl i 6 = .int .i64 g ∧ cl i 7 = .int .i64 k ∧ cl i 8 = .str j := by
  obtain ⟨a, b, c, d, e, f, g, k, j, hk⟩ := h i hi
  refine ⟨a, b, c, d, e, f, g, k, j, hk, ?_⟩
  have hk : [cl i 0, cl i 1, cl i 2, cl i 3, cl i 4, cl i 5, cl i 6, cl i 7, cl i 8] = wrA a b c d e f g k j := hk
  simp only [wrA, List.cons.injEq, and_true] at hk
  exact hk
theorem rdP {cl : Nat → Nat → AV} {i : Nat} {l : List AV} (h : (List.range 8).map (cl i) = l) : readEl true 8 (cl i) 0 = .agg l := by rw [← h]; rfl
theorem rdW {cl : Nat → Nat → AV} {i : Nat} {l : List AV} (h : (List.range 9).map (cl i) = l) : readEl true 9 (cl i) 0 = .agg l := by rw [← h]; rfl
/-- What stands behind the i-th round of the first loop; of the second. -/
noncomputable def I1 (nl nm : Nat) (cl cm : Nat → Nat → AV) (i : Nat) : Heap := [(0, .abs (lst none nl 8 cl)), (1, .abs (lst none nm 9 cm)), (2, chL (xv 4 8 (oN i)) .nils), (3, jour L0)] ++ rowN 4 8 31 cl i
noncomputable def I2 (nl nm : Nat) (cl cm : Nat → Nat → AV) (i : Nat) : Heap := [(0, .abs (lst none nl 8 cl)), (1, .abs (lst none nm 9 cm)), (2, chL (xv 4 8 (oN nl)) (xv 5 9 (oN i))), (3, jour L0)] ++ rowN 4 8 31 cl nl ++ rowN 5 9 34 cm i
theorem I1_ok {nl nm : Nat} {cl cm : Nat → Nat → AV} {i : Nat} (hb : (flatC cl 8 i).all bareA = true) : okH 5 (I1 nl nm cl cm i) = true := by
  cases i <;> simp [I1, okH_all, okR, chL, xv, oN, rowN, jour, lst, okL_cons, okL_nil, okA_str, okA_ptr, okA_int, okA_nils, okA_sv, bare_ok hb]
theorem I2_ok {nl nm : Nat} {cl cm : Nat → Nat → AV} {i : Nat} (hb : (flatC cl 8 nl).all bareA = true) (hc : (flatC cm 9 i).all bareA = true) : okH 6 (I2 nl nm cl cm i) = true := by
  cases i <;> cases nl <;> simp [I2, okH_all, okR, chL, xv, oN, rowN, jour, lst, okL_cons, okL_nil, okA_str, okA_ptr, okA_int, okA_nils, okA_sv, bare_ok hb, bare_ok hc]
/-- The chain behind its block; the copy. -/
noncomputable def chDL (X Y : AV) : Res := .box 69 [.str alphaW, .ptr 7 0, .nils, .int .i64 0, X, Y]
noncomputable def chK (B X Y : AV) : Res := .box 69 [.str alphaW, .ptr 3 0, B, .int .i64 0, X, Y]
def zP : List AV := pkA 0 ⟨#[]⟩ ⟨#[]⟩ ⟨#[]⟩ ⟨#[]⟩ ⟨#[]⟩ 0 0
def zW : List AV := wrA 0 ⟨#[]⟩ ⟨#[]⟩ ⟨#[]⟩ ⟨#[]⟩ ⟨#[]⟩ 0 0 ⟨#[]⟩
theorem cJX (b x y : Option Nat) : Ctr Tryz.prog 11 [.ptr 0 0] [] [(0, chX (xv 4 2 b) (xv 2 8 x) (xv 3 9 y))] 5 5 (.ptr 1 0) [(0, chX (xv 4 2 b) (xv 2 8 x) (xv 3 9 y))] := by
  cases b <;> cases x <;> cases y <;>
  · refine Ctr.introR (T := Tryz.T) Tryz.hT Tryz.hM Tryz.hE Tryz.func11 rfl (by kernel_rfl) rfl rfl rfl rfl ?_
    conv => whnf
    exact .mk' [] rfl rfl rfl rfl rfl rfl ⟨rfl, trivial⟩
theorem cHX (x y : Option Nat) : Ctr Tryz.prog 15 [.ptr 0 0] [] [(0, chX .nils (xv 2 8 x) (xv 3 9 y))] 5 5 (.int .i64 0) [(0, chX .nils (xv 2 8 x) (xv 3 9 y))] := by
  cases x <;> cases y <;>
  · refine Ctr.introR (T := Tryz.T) Tryz.hT Tryz.hM Tryz.hE Tryz.func15 rfl (by kernel_rfl) rfl rfl rfl rfl ?_
    conv => whnf
    exact .mk' [] rfl rfl rfl rfl rfl rfl ⟨rfl, trivial⟩
theorem L0_pos : 0 < L0.length := by rw [L0_len]; decide
def xW : ByteArray := ⟨#[120]⟩
def yW : ByteArray := ⟨#[121]⟩
noncomputable def I3 (nl nm : Nat) (cl cm : Nat → Nat → AV) : Heap := [(0, .abs (lst none nl 8 cl)), (1, .abs (lst none nm 9 cm)), (6, chDL (xv 8 8 (oN nl)) (xv 9 9 (oN nm))), (7, jour L0)] ++ rowN 8 8 31 cl nl ++ rowN 9 9 34 cm nm
theorem I3_ok {nl nm : Nat} {cl cm : Nat → Nat → AV} (hb : (flatC cl 8 nl).all bareA = true) (hc : (flatC cm 9 nm).all bareA = true) : okH 10 (I3 nl nm cl cm) = true := by
  cases nm <;> cases nl <;> simp [I3, okH_all, okR, chDL, xv, oN, rowN, jour, lst, okL_cons, okL_nil, okA_str, okA_ptr, okA_int, okA_nils, okA_sv, bare_ok hb, bare_ok hc]
theorem flat_cut (cl : Nat → Nat → AV) (z : Nat) : ∀ {n q : Nat}, q < n → ((flatC cl z n).drop (q * z)).take z = (List.range z).map (cl q)
  | n + 1, q, h => by
    have hle : q * z ≤ (flatC cl z n).length := by rw [flatC_len]; exact Nat.mul_le_mul_right _ (by omega)
    rw [flatC, List.drop_append_of_le_length hle]
    rcases Nat.lt_or_ge q n with h1 | h1
    · have : (q + 1) * z ≤ n * z := Nat.mul_le_mul_right _ h1
      rw [Nat.add_mul, Nat.one_mul] at this
      rw [List.take_append_of_le_length (by rw [List.length_drop, flatC_len]; omega), flat_cut cl z h1]
    · obtain rfl : q = n := by omega
      rw [List.drop_of_length_le (by rw [flatC_len]; exact Nat.le_refl _), List.nil_append, List.take_of_length_le (by simp)]
theorem flat_rd (cl : Nat → Nat → AV) (z : Nat) {n q : Nat} (h : q < n) : readA true z (flatC cl z n) (q * z + 0) = some (.agg ((List.range z).map (cl q))) := by
  have h2 : (q + 1) * z ≤ n * z := Nat.mul_le_mul_right _ h
  rw [Nat.add_mul, Nat.one_mul] at h2
  unfold readA
  rw [Nat.add_zero, show Nat.ble (q * z + z) (lenR (flatC cl z n)) = true from Nat.ble_eq_true_of_le (by rw [lenR_eq, flatC_len]; exact h2)]
  simp only [takeR_eq, dropR_eq, flat_cut cl z h]
theorem eqs_pk (a : Int) (b c d e f : ByteArray) (g k : Int) : eqAs [.int .i64 a, .str b, .str c, .str d, .str e, .str f, .int .i64 g, .int .i64 k] [.int .i64 a, .str b, .str c, .str d, .str e, .str f, .int .i64 g, .int .i64 k] = true := by simp [eqAs, eqA1, eqB_eq]
theorem eqs_wr (a : Int) (b c d e f : ByteArray) (g k : Int) (l : ByteArray) : eqAs [.int .i64 a, .str b, .str c, .str d, .str e, .str f, .int .i64 g, .int .i64 k, .str l] [.int .i64 a, .str b, .str c, .str d, .str e, .str f, .int .i64 g, .int .i64 k, .str l] = true := by simp [eqAs, eqA1, eqB_eq]
theorem cNew : Ctr Tryz.prog 6 [.str alphaW, .str betaW, .str rootW] [] [] 0 2 (.tup [.ptr 0 0, .int .i64 0]) [(0, chX .nils .nils .nils), (1, jour L0)] := chn (by kernel_rfl) (by kernel_rfl) (by kernel_rfl) (by kernel_rfl)
set_option maxRecDepth 20000 in
theorem notes1 (aw : Ctr Tryz.prog 5 [] [] [] 0 0 (.bool true) []) {nl nm : Nat} {cl cm : Nat → Nat → AV} (hl : isPk cl nl) (hm : isWr cm nm) :
    Ctr Tryz.prog 3 [.sl 0 nl, .sl 1 nm] [(0, .abs (lst none nl 8 cl)), (1, .abs (lst none nm 9 cm))] [] 2 2 (.bool true) [] := by
  refine Ctr.introR (T := Tryz.T) Tryz.hT Tryz.hM (puM_ok aw) Tryz.func3 rfl (by kernel_rfl) rfl rfl rfl rfl ?_
  conv => whnf
  by_cases h1 : nl ≤ 20
  · rw [show decide ((20 : Int) < (nl : Int)) = false by simp; omega]
    conv => whnf
    by_cases h2 : nm ≤ 20
    · rw [show decide ((20 : Int) < (nm : Int)) = false by simp; omega]
      conv => whnf
      refine callR [] cNew rfl rfl rfl rfl trivial trivial ?_
      conv => whnf
      refine loopR Tryz.hT Tryz.hM (puM_ok aw) (α := {i : Nat // i ≤ nl})
        (fun i => ([(0, .sl 0 nl), (1, .sl 1 nm), (5, .ptr 2 0), (7, .int .i64 (i.1 : Int))], I1 nl nm cl cm i.1))
        (fun i => nl - i.1) 5 ⟨0, Nat.zero_le _⟩ [] ?_ ?_
      · exact ⟨⟨rfl, rfl, rfl, rfl, trivial⟩, ⟨rfl, rfl, rfl, rfl, trivial⟩, rfl, rfl⟩
      rintro ⟨i, hi⟩
      cases i with
      | zero =>
        conv => whnf
        refine bcase_intro (fun h => ?_) (fun h => ?_)
        · have h : 0 < nl := by simpa using h
          obtain ⟨a, b, c, d, e, f, g, k, hk, e0, e1, e2, e3, e4, e5, e6, e7⟩ := pk_at hl h
          conv => whnf
          simp only [Int.toNat_natCast, Nat.zero_add]
          refine ⟨by simp; omega, ?_⟩
          conv => whnf
          refine ⟨h, ?_⟩
          rw [show readEl true 8 ((lst none nl 8 cl).cell 0) 0 = .agg (pkA a b c d e f g k) from rdP hk]
          conv => whnf
          refine callR [2, 3, 4, 1] (note0 none a b c d e f g k) rfl rfl rfl rfl trivial ⟨rfl, trivial⟩ ?_
          conv => whnf
          have hf : flatC cl 8 1 = pkA a b c d e f g k := by rw [← hk]; rfl
          refine ⟨⟨1, h⟩, [(4, 5)], by dsimp only; omega, ⟨⟨rfl, rfl, rfl, rfl, trivial⟩, ⟨rfl, rfl, rfl, rfl, row_lk (flatP hl 1 h) (by rw [hf]; rfl), trivial⟩, ?_, rfl⟩⟩
          simp only [I1_ok (nl := nl) (nm := nm) (cm := cm) (flatP hl 1 h)]; rfl
        · have h : nl = 0 := by simpa using h
          subst h
          conv => whnf
          refine loopR Tryz.hT Tryz.hM (puM_ok aw) (α := {i : Nat // i ≤ nm})
            (fun j => ([(0, .sl 0 0), (1, .sl 1 nm), (5, .ptr 2 0), (8, .int .i64 (j.1 : Int))], I2 0 nm cl cm j.1))
            (fun j => nm - j.1) 6 ⟨0, Nat.zero_le _⟩ [] ?_ ?_
          · refine ⟨⟨rfl, rfl, rfl, rfl, trivial⟩, ⟨rfl, rfl, rfl, rfl, trivial⟩, ?_, rfl⟩
            simp only [I2_ok (nm := nm) (cm := cm) (i := 0) (rfl : (flatC cl 8 0).all bareA = true) rfl]; rfl
          rintro ⟨j, hj⟩
          cases j with
          | zero =>
            conv => whnf
            refine bcase_intro (fun h => ?_) (fun h => ?_)
            · have h : 0 < nm := by simpa using h
              obtain ⟨a, b, c, d, e, f, g, k, l, hk, e0, e1, e2, e3, e4, e5, e6, e7, e8⟩ := wr_at hm h
              conv => whnf
              simp only [Int.toNat_natCast, Nat.zero_add]
              refine ⟨by simp; omega, ?_⟩
              conv => whnf
              refine ⟨h, ?_⟩
              rw [show readEl true 9 ((lst none nm 9 cm).cell 0) 0 = .agg (wrA a b c d e f g k l) from rdW hk]
              conv => whnf
              refine callR [2, 3, 4, 1] (answered0 none a b c d e f g k l) rfl rfl rfl rfl trivial ⟨rfl, trivial⟩ ?_
              conv => whnf
              have hf : flatC cm 9 1 = wrA a b c d e f g k l := by rw [← hk]; rfl
              refine ⟨⟨1, h⟩, [(5, 6)], by dsimp only; omega, ⟨⟨rfl, rfl, rfl, rfl, trivial⟩, ⟨rfl, rfl, rfl, rfl, row_lk (flatW hm 1 h) (by rw [hf]; rfl), trivial⟩, ?_, rfl⟩⟩
              simp only [I2_ok (nm := nm) (cm := cm) (i := 1) (rfl : (flatC cl 8 0).all bareA = true) (flatW hm 1 h)]; rfl
            · have h : nm = 0 := by simpa using h
              subst h
              conv => whnf
              refine callR [2, 3, 4, 5, 1] (copy00 L0_le L0_pos) (post' := [(2, chL .nils .nils), (3, jour L0), (6, chDL .nils .nils), (7, jour L0)]) (by simp only [renH, renR]; rfl) rfl rfl rfl trivial ⟨rfl, rfl, trivial⟩ ?_
              conv => whnf
              have hS3 : zP.all bareA = true := rfl
              refine callR [2, 3, 4, 5] (note0 none 0 ⟨#[]⟩ ⟨#[]⟩ ⟨#[]⟩ ⟨#[]⟩ ⟨#[]⟩ 0 0) (post' := [(2, chL (.sv 10 8 0 1 none) .nils), (10, .row 31 8 zP none)]) rfl rfl rfl rfl trivial ⟨rfl, trivial⟩ ?_
              conv => whnf
              have hW3 : zW.all bareA = true := rfl
              refine callR [2, 3, 10, 5] (answered0 (some 1) 0 ⟨#[]⟩ ⟨#[]⟩ ⟨#[]⟩ ⟨#[]⟩ ⟨#[]⟩ 0 0 ⟨#[]⟩) (post' := [(2, chL (.sv 10 8 0 1 none) (.sv 11 9 0 1 none)), (11, .row 34 9 zW none)]) rfl rfl rfl rfl trivial ⟨rfl, trivial⟩ ?_
              conv => whnf
              refine callR [2, 3, 10, 11] (block0 1 1) (post' := [(2, chK (.sv 12 2 0 1 none) (.sv 10 8 0 1 none) (.sv 11 9 0 1 none)), (3, jour L0)]) rfl rfl rfl rfl trivial ⟨rfl, rfl, trivial⟩ ?_
              conv => whnf
              refine callR [2, 3, 10, 11, 12] (cJX (some 1) (some 1) (some 1)) rfl rfl rfl rfl trivial ⟨rfl, trivial⟩ ?_
              conv => whnf
              refine callR [3] (jsetP L0_srt xW yW (by rw [L0_len]; decide) (by decide) (by decide)) rfl rfl rfl rfl trivial ⟨rfl, trivial⟩ ?_
              conv => whnf
              refine callR [6, 7, 8, 9, 1] (sent0 none none trivial trivial) rfl rfl rfl rfl ⟨rfl, trivial⟩ trivial ?_
              conv => whnf
              refine callR [6, 7, 8, 9, 1] (written0 none none trivial trivial) rfl rfl rfl rfl ⟨rfl, trivial⟩ trivial ?_
              conv => whnf
              refine callR [6, 7, 8, 9, 1] (cHX none none) rfl rfl rfl rfl trivial ⟨rfl, trivial⟩ ?_
              conv => whnf
              have hS4 : zP.length = 1 * 8 := by rfl
              refine callR [2, 3, 10, 11, 12] (sent1 (some 1) (some 1) hS3 hS4 (by unfold room; omega) (by omega) Nat.one_pos (Nat.succ_pos _)) (post' := [(10, .row 31 8 zP none), (13, .row 31 8 zP none)]) (by simp only [renH, renR, bare_ren hS3]; rfl) rfl rfl rfl ⟨rfl, trivial⟩ ⟨row_lk hS3 rfl, trivial⟩ ?_
              conv => whnf
              refine loopR Tryz.hT Tryz.hM (puM_ok aw) (α := {q : Nat // q ≤ 0})
                (fun q => ([(0, .sl 0 0), (1, .sl 1 0), (9, .ptr 6 0), (10, .int .i64 (q.1 : Int))], I3 0 0 cl cm))
                (fun q => 0 - q.1) 10 ⟨0, Nat.zero_le _⟩ [] ?_ ?_
              · refine ⟨⟨rfl, rfl, rfl, rfl, trivial⟩, ⟨rfl, rfl, rfl, rfl, trivial⟩, ?_, rfl⟩
                simp only [I3_ok (rfl : (flatC cl 8 0).all bareA = true) (rfl : (flatC cm 9 0).all bareA = true)]; rfl
              rintro ⟨q, hq⟩
              conv => whnf
              obtain rfl : q = 0 := Nat.le_zero.1 hq
              conv => whnf
              refine loopR Tryz.hT Tryz.hM (puM_ok aw) (α := {q : Nat // q ≤ 0})
                (fun q => ([(0, .sl 0 0), (1, .sl 1 0), (9, .ptr 6 0), (11, .int .i64 (q.1 : Int))], I3 0 0 cl cm))
                (fun q => 0 - q.1) 10 ⟨0, Nat.zero_le _⟩ [] ?_ ?_
              · refine ⟨⟨rfl, rfl, rfl, rfl, trivial⟩, ⟨rfl, rfl, rfl, rfl, trivial⟩, ?_, rfl⟩
                simp only [I3_ok (rfl : (flatC cl 8 0).all bareA = true) (rfl : (flatC cm 9 0).all bareA = true)]; rfl
              rintro ⟨q, hq⟩
              conv => whnf
              obtain rfl : q = 0 := Nat.le_zero.1 hq
              conv => whnf
              refine callR [6, 7, 8, 9, 1] (cJX none none none) rfl rfl rfl rfl trivial ⟨rfl, trivial⟩ ?_
              conv => whnf
              refine callR [7] (jgetP L0_srt xW L0_le) rfl rfl rfl rfl trivial ⟨rfl, trivial⟩ ?_
              conv => whnf
              exact .mk' [] rfl rfl rfl rfl rfl rfl trivial
          | succ j =>
            have hc := flatW hm (j + 1) hj
            conv => whnf
            refine bcase_intro (fun h => ?_) (fun h => ?_)
            · have h : j + 1 < nm := by simp at h; omega
              obtain ⟨a, b, c, d, e, f, g, k, l, hk, e0, e1, e2, e3, e4, e5, e6, e7, e8⟩ := wr_at hm h
              conv => whnf
              simp only [Int.toNat_natCast, Nat.zero_add]
              refine ⟨by simp; omega, ?_⟩
              conv => whnf
              refine ⟨h, ?_⟩
              rw [show readEl true 9 ((lst none nm 9 cm).cell (j + 1)) 0 = .agg (wrA a b c d e f g k l) from rdW hk]
              conv => whnf
              refine callR [2, 3, 4, 5] (answered1 none hc (flatC_len cm 9 (j + 1)) (by unfold room; omega) a b c d e f g k l) (post' := [(2, chL .nils (.sv 6 9 0 (j + 1 + 1) none)), (5, .gone), (6, .row 34 9 (flatC cm 9 (j + 1) ++ wrA a b c d e f g k l) none)]) ?_ rfl rfl rfl trivial ⟨rfl, row_lk hc rfl, trivial⟩ ?_
              · have hb2 : (flatC cm 9 (j + 1) ++ wrA a b c d e f g k l).all bareA = true := by rw [← hk]; exact flatW hm (j + 1 + 1) h
                simp only [renH, renR, bare_ren hb2]; rfl
              conv => whnf
              have hw : IntKind.i64.wrap (((j + 1 : Nat) : Int) + 1) = ((j + 1 + 1 : Nat) : Int) := by rw [wrap_small] <;> omega
              have hf : flatC cm 9 (j + 1 + 1) = flatC cm 9 (j + 1) ++ wrA a b c d e f g k l := by
                show flatC cm 9 (j + 1) ++ (List.range 9).map (cm (j + 1)) = _
                rw [hk]
              refine ⟨⟨j + 1 + 1, h⟩, [(5, 6)], by dsimp only; omega, ⟨⟨rfl, rfl, rfl, by rw [← hw]; rfl, trivial⟩, ⟨rfl, rfl, rfl, rfl, row_lk (flatW hm (j + 1 + 1) h) (by rw [hf]; rfl), trivial⟩, ?_, rfl⟩⟩
              simp only [I2_ok (nm := nm) (cm := cm) (i := j + 1 + 1) (rfl : (flatC cl 8 0).all bareA = true) (flatW hm (j + 1 + 1) h)]; rfl
            · have h : nm = j + 1 := by simp at h; omega
              subst h
              conv => whnf
              refine callR [2, 3, 4, 5, 1] (copy01 L0_le L0_pos hc (flatC_len cm 9 (j + 1)) (by unfold room; omega) (Nat.succ_pos j)) (post' := [(2, chL .nils (.sv 5 9 0 (j + 1) none)), (3, jour L0), (5, .row 34 9 (flatC cm 9 (j + 1)) none), (6, chDL .nils (.sv 9 9 0 (j + 1) none)), (7, jour L0), (9, .row 34 9 (flatC cm 9 (j + 1)) none)]) (by simp only [renH, renR, bare_ren hc]; rfl) rfl rfl rfl trivial ⟨rfl, rfl, row_lk hc rfl, trivial⟩ ?_
              conv => whnf
              have hS3 : zP.all bareA = true := rfl
              refine callR [2, 3, 4, 5] (note0 (some (j + 1)) 0 ⟨#[]⟩ ⟨#[]⟩ ⟨#[]⟩ ⟨#[]⟩ ⟨#[]⟩ 0 0) (post' := [(2, chL (.sv 10 8 0 1 none) (.sv 5 9 0 (j + 1) none)), (10, .row 31 8 zP none)]) rfl rfl rfl rfl trivial ⟨rfl, trivial⟩ ?_
              conv => whnf
              have hW3 : (flatC cm 9 (j + 1) ++ zW).all bareA = true := by rw [List.all_append, hc]; rfl
              refine callR [2, 3, 10, 5] (answered1 (some 1) hc (flatC_len cm 9 (j + 1)) (by unfold room; omega) 0 ⟨#[]⟩ ⟨#[]⟩ ⟨#[]⟩ ⟨#[]⟩ ⟨#[]⟩ 0 0 ⟨#[]⟩) (post' := [(2, chL (.sv 10 8 0 1 none) (.sv 11 9 0 (j + 1 + 1) none)), (5, .gone), (11, .row 34 9 (flatC cm 9 (j + 1) ++ zW) none)]) (by simp only [renH, renR, bare_ren (l := flatC cm 9 (j + 1) ++ wrA 0 ⟨#[]⟩ ⟨#[]⟩ ⟨#[]⟩ ⟨#[]⟩ ⟨#[]⟩ 0 0 ⟨#[]⟩) hW3]; rfl) rfl rfl rfl trivial ⟨rfl, row_lk hc rfl, trivial⟩ ?_
              conv => whnf
              refine callR [2, 3, 10, 11] (block0 1 (j + 1 + 1)) (post' := [(2, chK (.sv 12 2 0 1 none) (.sv 10 8 0 1 none) (.sv 11 9 0 (j + 1 + 1) none)), (3, jour L0)]) rfl rfl rfl rfl trivial ⟨rfl, rfl, trivial⟩ ?_
              conv => whnf
              refine callR [2, 3, 10, 11, 12] (cJX (some 1) (some 1) (some (j + 1 + 1))) rfl rfl rfl rfl trivial ⟨rfl, trivial⟩ ?_
              conv => whnf
              refine callR [3] (jsetP L0_srt xW yW (by rw [L0_len]; decide) (by decide) (by decide)) rfl rfl rfl rfl trivial ⟨rfl, trivial⟩ ?_
              conv => whnf
              refine callR [6, 7, 8, 9, 1] (sent0 none (some (j + 1)) trivial (Nat.succ_pos j)) rfl rfl rfl rfl ⟨rfl, trivial⟩ trivial ?_
              conv => whnf
              refine callR [6, 7, 8, 9, 1] (written1 none none hc (flatC_len cm 9 (j + 1)) (by unfold room; omega) (Nat.succ_pos j) trivial trivial) (post' := [(9, .row 34 9 (flatC cm 9 (j + 1)) none), (13, .row 34 9 (flatC cm 9 (j + 1)) none)]) (by simp only [renH, renR, bare_ren hc]; rfl) rfl rfl rfl ⟨rfl, trivial⟩ ⟨row_lk hc rfl, trivial⟩ ?_
              conv => whnf
              rw [show (!decide (((j + 1 : Nat) : Int) = ((j + 1 : Nat) : Int))) = false by simp]
              conv => whnf
              refine callR [6, 7, 8, 9, 1] (cHX none (some (j + 1))) rfl rfl rfl rfl trivial ⟨rfl, trivial⟩ ?_
              conv => whnf
              have hS4 : zP.length = 1 * 8 := by rfl
              refine callR [2, 3, 10, 11, 12] (sent1 (some 1) (some (j + 1 + 1)) hS3 hS4 (by unfold room; omega) (by omega) Nat.one_pos (Nat.succ_pos _)) (post' := [(10, .row 31 8 zP none), (14, .row 31 8 zP none)]) (by simp only [renH, renR, bare_ren hS3]; rfl) rfl rfl rfl ⟨rfl, trivial⟩ ⟨row_lk hS3 rfl, trivial⟩ ?_
              conv => whnf
              refine loopR Tryz.hT Tryz.hM (puM_ok aw) (α := {q : Nat // q ≤ 0})
                (fun q => ([(0, .sl 0 0), (1, .sl 1 (j + 1)), (9, .ptr 6 0), (10, .int .i64 (q.1 : Int))], I3 0 (j + 1) cl cm))
                (fun q => 0 - q.1) 10 ⟨0, Nat.zero_le _⟩ [] ?_ ?_
              · refine ⟨⟨rfl, rfl, rfl, rfl, trivial⟩, ⟨rfl, rfl, rfl, rfl, row_lk hc rfl, trivial⟩, ?_, rfl⟩
                simp only [I3_ok (rfl : (flatC cl 8 0).all bareA = true) hc]; rfl
              rintro ⟨q, hq⟩
              conv => whnf
              obtain rfl : q = 0 := Nat.le_zero.1 hq
              conv => whnf
              refine loopR Tryz.hT Tryz.hM (puM_ok aw) (α := {q : Nat // q ≤ (j + 1)})
                (fun q => ([(0, .sl 0 0), (1, .sl 1 (j + 1)), (9, .ptr 6 0), (11, .int .i64 (q.1 : Int))], I3 0 (j + 1) cl cm))
                (fun q => (j + 1) - q.1) 10 ⟨0, Nat.zero_le _⟩ [] ?_ ?_
              · refine ⟨⟨rfl, rfl, rfl, rfl, trivial⟩, ⟨rfl, rfl, rfl, rfl, row_lk hc rfl, trivial⟩, ?_, rfl⟩
                simp only [I3_ok (rfl : (flatC cl 8 0).all bareA = true) hc]; rfl
              rintro ⟨q, hq⟩
              conv => whnf
              refine bcase_intro (fun h => ?_) (fun h => ?_)
              · have h : q < j + 1 := by simp at h; omega
                conv => whnf
                refine callR [6, 7, 8, 9, 1] (written1 none none hc (flatC_len cm 9 (j + 1)) (by unfold room; omega) (Nat.succ_pos j) trivial trivial) (post' := [(9, .row 34 9 (flatC cm 9 (j + 1)) none), (10, .row 34 9 (flatC cm 9 (j + 1)) none)]) (by simp only [renH, renR, bare_ren hc]; rfl) rfl rfl rfl ⟨rfl, trivial⟩ ⟨row_lk hc rfl, trivial⟩ ?_
                conv => whnf
                simp only [Int.toNat_natCast, Nat.zero_add]
                refine ⟨by simp; omega, ?_⟩
                obtain ⟨a, b, c, d, e, f, g, k, l, hk, e0, e1, e2, e3, e4, e5, e6, e7, e8⟩ := wr_at hm h
                have hr := flat_rd cm 9 h
                rw [hk] at hr
                conv => whnf
                rw [hr]
                conv => whnf
                refine ⟨by simp; omega, ?_⟩
                conv => whnf
                simp only [Int.toNat_natCast]
                refine ⟨h, ?_⟩
                rw [show readEl true 9 ((lst none (j + 1) 9 cm).cell q) 0 = .agg (wrA a b c d e f g k l) from rdW hk]
                conv => whnf
                rw [eqs_wr]
                conv => whnf
                have hw : IntKind.i64.wrap (((q : Nat) : Int) + 1) = ((q + 1 : Nat) : Int) := by rw [wrap_small] <;> omega
                refine ⟨⟨q + 1, h⟩, [], by dsimp only; omega, ⟨⟨rfl, rfl, rfl, by rw [← hw]; rfl, trivial⟩, ⟨rfl, rfl, rfl, rfl, row_lk hc rfl, trivial⟩, ?_, rfl⟩⟩
                simp only [I3_ok (rfl : (flatC cl 8 0).all bareA = true) hc]; rfl
              · have h : q = j + 1 := by simp at h; omega
                subst h
                conv => whnf
                refine callR [6, 7, 8, 9, 1] (cJX none none (some (j + 1))) rfl rfl rfl rfl trivial ⟨rfl, trivial⟩ ?_
                conv => whnf
                refine callR [7] (jgetP L0_srt xW L0_le) rfl rfl rfl rfl trivial ⟨rfl, trivial⟩ ?_
                conv => whnf
                exact .mk' [] rfl rfl rfl rfl rfl rfl trivial
      | succ i =>
        conv => whnf
        refine bcase_intro (fun h => ?_) (fun h => ?_)
        · have h : i + 1 < nl := by simp at h; omega
          obtain ⟨a, b, c, d, e, f, g, k, hk, e0, e1, e2, e3, e4, e5, e6, e7⟩ := pk_at hl h
          conv => whnf
          simp only [Int.toNat_natCast, Nat.zero_add]
          refine ⟨by simp; omega, ?_⟩
          conv => whnf
          refine ⟨h, ?_⟩
          rw [show readEl true 8 ((lst none nl 8 cl).cell (i + 1)) 0 = .agg (pkA a b c d e f g k) from rdP hk]
          conv => whnf
          have hb := flatP hl (i + 1) (by omega)
          refine callR [2, 3, 4, 1] (note1 none hb (flatC_len cl 8 (i + 1)) (by unfold room; omega) a b c d e f g k) (post' := [(2, chL (.sv 5 8 0 (i + 1 + 1) none) .nils), (4, .gone), (5, .row 31 8 (flatC cl 8 (i + 1) ++ pkA a b c d e f g k) none)]) ?_ rfl rfl rfl trivial ⟨rfl, row_lk hb rfl, trivial⟩ ?_
          · have hb2 : (flatC cl 8 (i + 1) ++ pkA a b c d e f g k).all bareA = true := by rw [← hk]; exact flatP hl (i + 1 + 1) h
            simp only [renH, renR, bare_ren hb2]; rfl
          conv => whnf
          have hw : IntKind.i64.wrap (((i + 1 : Nat) : Int) + 1) = ((i + 1 + 1 : Nat) : Int) := by rw [wrap_small] <;> omega
          have hf : flatC cl 8 (i + 1 + 1) = flatC cl 8 (i + 1) ++ pkA a b c d e f g k := by
            show flatC cl 8 (i + 1) ++ (List.range 8).map (cl (i + 1)) = _
            rw [hk]
          refine ⟨⟨i + 1 + 1, h⟩, [(4, 5)], by dsimp only; omega, ⟨⟨rfl, rfl, rfl, by rw [← hw]; rfl, trivial⟩, ⟨rfl, rfl, rfl, rfl, row_lk (flatP hl (i + 1 + 1) h) (by rw [hf]; rfl), trivial⟩, ?_, rfl⟩⟩
          simp only [I1_ok (nl := nl) (nm := nm) (cm := cm) (flatP hl (i + 1 + 1) h)]; rfl
        · have h : nl = i + 1 := by simp at h; omega
          subst h
          have hb := flatP hl (i + 1) (Nat.le_refl _)
          conv => whnf
          refine loopR Tryz.hT Tryz.hM (puM_ok aw) (α := {i : Nat // i ≤ nm})
            (fun j => ([(0, .sl 0 (i + 1)), (1, .sl 1 nm), (5, .ptr 2 0), (8, .int .i64 (j.1 : Int))], I2 (i + 1) nm cl cm j.1))
            (fun j => nm - j.1) 6 ⟨0, Nat.zero_le _⟩ [] ?_ ?_
          · refine ⟨⟨rfl, rfl, rfl, rfl, trivial⟩, ⟨rfl, rfl, rfl, rfl, row_lk hb rfl, trivial⟩, ?_, rfl⟩
            simp only [I2_ok (nm := nm) (cm := cm) (i := 0) hb rfl]; rfl
          rintro ⟨j, hj⟩
          cases j with
          | zero =>
            conv => whnf
            refine bcase_intro (fun h => ?_) (fun h => ?_)
            · have h : 0 < nm := by simpa using h
              obtain ⟨a, b, c, d, e, f, g, k, l, hk, e0, e1, e2, e3, e4, e5, e6, e7, e8⟩ := wr_at hm h
              conv => whnf
              simp only [Int.toNat_natCast, Nat.zero_add]
              refine ⟨by simp; omega, ?_⟩
              conv => whnf
              refine ⟨h, ?_⟩
              rw [show readEl true 9 ((lst none nm 9 cm).cell 0) 0 = .agg (wrA a b c d e f g k l) from rdW hk]
              conv => whnf
              refine callR [2, 3, 4, 1] (answered0 (some (i + 1)) a b c d e f g k l) rfl rfl rfl rfl trivial ⟨rfl, trivial⟩ ?_
              conv => whnf
              have hf : flatC cm 9 1 = wrA a b c d e f g k l := by rw [← hk]; rfl
              refine ⟨⟨1, h⟩, [(5, 6)], by dsimp only; omega, ⟨⟨rfl, rfl, rfl, rfl, trivial⟩, ⟨rfl, rfl, rfl, rfl, row_lk hb rfl, row_lk (flatW hm 1 h) (by rw [hf]; rfl), trivial⟩, ?_, rfl⟩⟩
              simp only [I2_ok (nm := nm) (cm := cm) (i := 1) hb (flatW hm 1 h)]; rfl
            · have h : nm = 0 := by simpa using h
              subst h
              conv => whnf
              refine callR [2, 3, 4, 5, 1] (copy10 L0_le L0_pos hb (flatC_len cl 8 (i + 1)) (by unfold room; omega) (Nat.succ_pos i)) (post' := [(2, chL (.sv 4 8 0 (i + 1) none) .nils), (3, jour L0), (4, .row 31 8 (flatC cl 8 (i + 1)) none), (6, chDL (.sv 8 8 0 (i + 1) none) .nils), (7, jour L0), (8, .row 31 8 (flatC cl 8 (i + 1)) none)]) (by simp only [renH, renR, bare_ren hb]; rfl) rfl rfl rfl trivial ⟨rfl, rfl, row_lk hb rfl, trivial⟩ ?_
              conv => whnf
              have hS3 : (flatC cl 8 (i + 1) ++ zP).all bareA = true := by rw [List.all_append, hb]; rfl
              refine callR [2, 3, 4, 5] (note1 none hb (flatC_len cl 8 (i + 1)) (by unfold room; omega) 0 ⟨#[]⟩ ⟨#[]⟩ ⟨#[]⟩ ⟨#[]⟩ ⟨#[]⟩ 0 0) (post' := [(2, chL (.sv 10 8 0 (i + 1 + 1) none) .nils), (4, .gone), (10, .row 31 8 (flatC cl 8 (i + 1) ++ zP) none)]) (by simp only [renH, renR, bare_ren (l := flatC cl 8 (i + 1) ++ pkA 0 ⟨#[]⟩ ⟨#[]⟩ ⟨#[]⟩ ⟨#[]⟩ ⟨#[]⟩ 0 0) hS3]; rfl) rfl rfl rfl trivial ⟨rfl, row_lk hb rfl, trivial⟩ ?_
              conv => whnf
              have hW3 : zW.all bareA = true := rfl
              refine callR [2, 3, 10, 5] (answered0 (some (i + 1 + 1)) 0 ⟨#[]⟩ ⟨#[]⟩ ⟨#[]⟩ ⟨#[]⟩ ⟨#[]⟩ 0 0 ⟨#[]⟩) (post' := [(2, chL (.sv 10 8 0 (i + 1 + 1) none) (.sv 11 9 0 1 none)), (11, .row 34 9 zW none)]) rfl rfl rfl rfl trivial ⟨rfl, trivial⟩ ?_
              conv => whnf
              refine callR [2, 3, 10, 11] (block0 (i + 1 + 1) 1) (post' := [(2, chK (.sv 12 2 0 1 none) (.sv 10 8 0 (i + 1 + 1) none) (.sv 11 9 0 1 none)), (3, jour L0)]) rfl rfl rfl rfl trivial ⟨rfl, rfl, trivial⟩ ?_
              conv => whnf
              refine callR [2, 3, 10, 11, 12] (cJX (some 1) (some (i + 1 + 1)) (some 1)) rfl rfl rfl rfl trivial ⟨rfl, trivial⟩ ?_
              conv => whnf
              refine callR [3] (jsetP L0_srt xW yW (by rw [L0_len]; decide) (by decide) (by decide)) rfl rfl rfl rfl trivial ⟨rfl, trivial⟩ ?_
              conv => whnf
              refine callR [6, 7, 8, 9, 1] (sent1 none none hb (flatC_len cl 8 (i + 1)) (by unfold room; omega) (Nat.succ_pos i) trivial trivial) (post' := [(8, .row 31 8 (flatC cl 8 (i + 1)) none), (13, .row 31 8 (flatC cl 8 (i + 1)) none)]) (by simp only [renH, renR, bare_ren hb]; rfl) rfl rfl rfl ⟨rfl, trivial⟩ ⟨row_lk hb rfl, trivial⟩ ?_
              conv => whnf
              rw [show (!decide (((i + 1 : Nat) : Int) = ((i + 1 : Nat) : Int))) = false by simp]
              conv => whnf
              refine callR [6, 7, 8, 9, 1] (written0 none (some (i + 1)) trivial (Nat.succ_pos i)) rfl rfl rfl rfl ⟨rfl, trivial⟩ trivial ?_
              conv => whnf
              refine callR [6, 7, 8, 9, 1] (cHX (some (i + 1)) none) rfl rfl rfl rfl trivial ⟨rfl, trivial⟩ ?_
              conv => whnf
              have hS4 : (flatC cl 8 (i + 1) ++ zP).length = (i + 1 + 1) * 8 := by rw [List.length_append, flatC_len]; show (i + 1) * 8 + 8 = _; omega
              refine callR [2, 3, 10, 11, 12] (sent1 (some 1) (some 1) hS3 hS4 (by unfold room; omega) (by omega) Nat.one_pos (Nat.succ_pos _)) (post' := [(10, .row 31 8 (flatC cl 8 (i + 1) ++ zP) none), (14, .row 31 8 (flatC cl 8 (i + 1) ++ zP) none)]) (by simp only [renH, renR, bare_ren hS3]; rfl) rfl rfl rfl ⟨rfl, trivial⟩ ⟨row_lk hS3 rfl, trivial⟩ ?_
              conv => whnf
              rw [show (!decide (((i + 1 + 1 : Nat) : Int) = IntKind.i64.wrap (((i + 1 : Nat) : Int) + 1))) = false by rw [wrap_small (by omega) (by omega)]; simp]
              conv => whnf
              refine loopR Tryz.hT Tryz.hM (puM_ok aw) (α := {q : Nat // q ≤ (i + 1)})
                (fun q => ([(0, .sl 0 (i + 1)), (1, .sl 1 0), (9, .ptr 6 0), (10, .int .i64 (q.1 : Int))], I3 (i + 1) 0 cl cm))
                (fun q => (i + 1) - q.1) 10 ⟨0, Nat.zero_le _⟩ [] ?_ ?_
              · refine ⟨⟨rfl, rfl, rfl, rfl, trivial⟩, ⟨rfl, rfl, rfl, rfl, row_lk hb rfl, trivial⟩, ?_, rfl⟩
                simp only [I3_ok hb (rfl : (flatC cm 9 0).all bareA = true)]; rfl
              rintro ⟨q, hq⟩
              conv => whnf
              refine bcase_intro (fun h => ?_) (fun h => ?_)
              · have h : q < i + 1 := by simp at h; omega
                conv => whnf
                refine callR [6, 7, 8, 9, 1] (sent1 none none hb (flatC_len cl 8 (i + 1)) (by unfold room; omega) (Nat.succ_pos i) trivial trivial) (post' := [(8, .row 31 8 (flatC cl 8 (i + 1)) none), (10, .row 31 8 (flatC cl 8 (i + 1)) none)]) (by simp only [renH, renR, bare_ren hb]; rfl) rfl rfl rfl ⟨rfl, trivial⟩ ⟨row_lk hb rfl, trivial⟩ ?_
                conv => whnf
                simp only [Int.toNat_natCast, Nat.zero_add]
                refine ⟨by simp; omega, ?_⟩
                obtain ⟨a, b, c, d, e, f, g, k, hk, e0, e1, e2, e3, e4, e5, e6, e7⟩ := pk_at hl h
                have hr := flat_rd cl 8 h
                rw [hk] at hr
                conv => whnf
                rw [hr]
                conv => whnf
                refine ⟨by simp; omega, ?_⟩
                conv => whnf
                simp only [Int.toNat_natCast]
                refine ⟨h, ?_⟩
                rw [show readEl true 8 ((lst none (i + 1) 8 cl).cell q) 0 = .agg (pkA a b c d e f g k) from rdP hk]
                conv => whnf
                rw [eqs_pk]
                conv => whnf
                have hw : IntKind.i64.wrap (((q : Nat) : Int) + 1) = ((q + 1 : Nat) : Int) := by rw [wrap_small] <;> omega
                refine ⟨⟨q + 1, h⟩, [], by dsimp only; omega, ⟨⟨rfl, rfl, rfl, by rw [← hw]; rfl, trivial⟩, ⟨rfl, rfl, rfl, rfl, row_lk hb rfl, trivial⟩, ?_, rfl⟩⟩
                simp only [I3_ok hb (rfl : (flatC cm 9 0).all bareA = true)]; rfl
              · have h : q = i + 1 := by simp at h; omega
                subst h
                conv => whnf
                refine loopR Tryz.hT Tryz.hM (puM_ok aw) (α := {q : Nat // q ≤ 0})
                  (fun q => ([(0, .sl 0 (i + 1)), (1, .sl 1 0), (9, .ptr 6 0), (11, .int .i64 (q.1 : Int))], I3 (i + 1) 0 cl cm))
                  (fun q => 0 - q.1) 10 ⟨0, Nat.zero_le _⟩ [] ?_ ?_
                · refine ⟨⟨rfl, rfl, rfl, rfl, trivial⟩, ⟨rfl, rfl, rfl, rfl, row_lk hb rfl, trivial⟩, ?_, rfl⟩
                  simp only [I3_ok hb (rfl : (flatC cm 9 0).all bareA = true)]; rfl
                rintro ⟨q, hq⟩
                conv => whnf
                obtain rfl : q = 0 := Nat.le_zero.1 hq
                conv => whnf
                refine callR [6, 7, 8, 9, 1] (cJX none (some (i + 1)) none) rfl rfl rfl rfl trivial ⟨rfl, trivial⟩ ?_
                conv => whnf
                refine callR [7] (jgetP L0_srt xW L0_le) rfl rfl rfl rfl trivial ⟨rfl, trivial⟩ ?_
                conv => whnf
                exact .mk' [] rfl rfl rfl rfl rfl rfl trivial
          | succ j =>
            have hc := flatW hm (j + 1) hj
            conv => whnf
            refine bcase_intro (fun h => ?_) (fun h => ?_)
            · have h : j + 1 < nm := by simp at h; omega
              obtain ⟨a, b, c, d, e, f, g, k, l, hk, e0, e1, e2, e3, e4, e5, e6, e7, e8⟩ := wr_at hm h
              conv => whnf
              simp only [Int.toNat_natCast, Nat.zero_add]
              refine ⟨by simp; omega, ?_⟩
              conv => whnf
              refine ⟨h, ?_⟩
              rw [show readEl true 9 ((lst none nm 9 cm).cell (j + 1)) 0 = .agg (wrA a b c d e f g k l) from rdW hk]
              conv => whnf
              refine callR [2, 3, 4, 5] (answered1 (some (i + 1)) hc (flatC_len cm 9 (j + 1)) (by unfold room; omega) a b c d e f g k l) (post' := [(2, chL (.sv 4 8 0 (i + 1) none) (.sv 6 9 0 (j + 1 + 1) none)), (5, .gone), (6, .row 34 9 (flatC cm 9 (j + 1) ++ wrA a b c d e f g k l) none)]) ?_ rfl rfl rfl trivial ⟨rfl, row_lk hc rfl, trivial⟩ ?_
              · have hb2 : (flatC cm 9 (j + 1) ++ wrA a b c d e f g k l).all bareA = true := by rw [← hk]; exact flatW hm (j + 1 + 1) h
                simp only [renH, renR, bare_ren hb2]; rfl
              conv => whnf
              have hw : IntKind.i64.wrap (((j + 1 : Nat) : Int) + 1) = ((j + 1 + 1 : Nat) : Int) := by rw [wrap_small] <;> omega
              have hf : flatC cm 9 (j + 1 + 1) = flatC cm 9 (j + 1) ++ wrA a b c d e f g k l := by
                show flatC cm 9 (j + 1) ++ (List.range 9).map (cm (j + 1)) = _
                rw [hk]
              refine ⟨⟨j + 1 + 1, h⟩, [(5, 6)], by dsimp only; omega, ⟨⟨rfl, rfl, rfl, by rw [← hw]; rfl, trivial⟩, ⟨rfl, rfl, rfl, rfl, row_lk hb rfl, row_lk (flatW hm (j + 1 + 1) h) (by rw [hf]; rfl), trivial⟩, ?_, rfl⟩⟩
              simp only [I2_ok (nm := nm) (cm := cm) (i := j + 1 + 1) hb (flatW hm (j + 1 + 1) h)]; rfl
            · have h : nm = j + 1 := by simp at h; omega
              subst h
              conv => whnf
              refine callR [2, 3, 4, 5, 1] (copy11 L0_le L0_pos hb (flatC_len cl 8 (i + 1)) (by unfold room; omega) (Nat.succ_pos i) hc (flatC_len cm 9 (j + 1)) (by unfold room; omega) (Nat.succ_pos j)) (post' := [(2, chL (.sv 4 8 0 (i + 1) none) (.sv 5 9 0 (j + 1) none)), (3, jour L0), (4, .row 31 8 (flatC cl 8 (i + 1)) none), (5, .row 34 9 (flatC cm 9 (j + 1)) none), (6, chDL (.sv 8 8 0 (i + 1) none) (.sv 9 9 0 (j + 1) none)), (7, jour L0), (8, .row 31 8 (flatC cl 8 (i + 1)) none), (9, .row 34 9 (flatC cm 9 (j + 1)) none)]) (by simp only [renH, renR, bare_ren hb, bare_ren hc]; rfl) rfl rfl rfl trivial ⟨rfl, rfl, row_lk hb rfl, row_lk hc rfl, trivial⟩ ?_
              conv => whnf
              have hS3 : (flatC cl 8 (i + 1) ++ zP).all bareA = true := by rw [List.all_append, hb]; rfl
              refine callR [2, 3, 4, 5] (note1 (some (j + 1)) hb (flatC_len cl 8 (i + 1)) (by unfold room; omega) 0 ⟨#[]⟩ ⟨#[]⟩ ⟨#[]⟩ ⟨#[]⟩ ⟨#[]⟩ 0 0) (post' := [(2, chL (.sv 10 8 0 (i + 1 + 1) none) (.sv 5 9 0 (j + 1) none)), (4, .gone), (10, .row 31 8 (flatC cl 8 (i + 1) ++ zP) none)]) (by simp only [renH, renR, bare_ren (l := flatC cl 8 (i + 1) ++ pkA 0 ⟨#[]⟩ ⟨#[]⟩ ⟨#[]⟩ ⟨#[]⟩ ⟨#[]⟩ 0 0) hS3]; rfl) rfl rfl rfl trivial ⟨rfl, row_lk hb rfl, trivial⟩ ?_
              conv => whnf
              have hW3 : (flatC cm 9 (j + 1) ++ zW).all bareA = true := by rw [List.all_append, hc]; rfl
              refine callR [2, 3, 10, 5] (answered1 (some (i + 1 + 1)) hc (flatC_len cm 9 (j + 1)) (by unfold room; omega) 0 ⟨#[]⟩ ⟨#[]⟩ ⟨#[]⟩ ⟨#[]⟩ ⟨#[]⟩ 0 0 ⟨#[]⟩) (post' := [(2, chL (.sv 10 8 0 (i + 1 + 1) none) (.sv 11 9 0 (j + 1 + 1) none)), (5, .gone), (11, .row 34 9 (flatC cm 9 (j + 1) ++ zW) none)]) (by simp only [renH, renR, bare_ren (l := flatC cm 9 (j + 1) ++ wrA 0 ⟨#[]⟩ ⟨#[]⟩ ⟨#[]⟩ ⟨#[]⟩ ⟨#[]⟩ 0 0 ⟨#[]⟩) hW3]; rfl) rfl rfl rfl trivial ⟨rfl, row_lk hc rfl, trivial⟩ ?_
              conv => whnf
              refine callR [2, 3, 10, 11] (block0 (i + 1 + 1) (j + 1 + 1)) (post' := [(2, chK (.sv 12 2 0 1 none) (.sv 10 8 0 (i + 1 + 1) none) (.sv 11 9 0 (j + 1 + 1) none)), (3, jour L0)]) rfl rfl rfl rfl trivial ⟨rfl, rfl, trivial⟩ ?_
              conv => whnf
              refine callR [2, 3, 10, 11, 12] (cJX (some 1) (some (i + 1 + 1)) (some (j + 1 + 1))) rfl rfl rfl rfl trivial ⟨rfl, trivial⟩ ?_
              conv => whnf
              refine callR [3] (jsetP L0_srt xW yW (by rw [L0_len]; decide) (by decide) (by decide)) rfl rfl rfl rfl trivial ⟨rfl, trivial⟩ ?_
              conv => whnf
              refine callR [6, 7, 8, 9, 1] (sent1 none (some (j + 1)) hb (flatC_len cl 8 (i + 1)) (by unfold room; omega) (Nat.succ_pos i) trivial (Nat.succ_pos j)) (post' := [(8, .row 31 8 (flatC cl 8 (i + 1)) none), (13, .row 31 8 (flatC cl 8 (i + 1)) none)]) (by simp only [renH, renR, bare_ren hb]; rfl) rfl rfl rfl ⟨rfl, trivial⟩ ⟨row_lk hb rfl, trivial⟩ ?_
              conv => whnf
              rw [show (!decide (((i + 1 : Nat) : Int) = ((i + 1 : Nat) : Int))) = false by simp]
              conv => whnf
              refine callR [6, 7, 8, 9, 1] (written1 none (some (i + 1)) hc (flatC_len cm 9 (j + 1)) (by unfold room; omega) (Nat.succ_pos j) trivial (Nat.succ_pos i)) (post' := [(9, .row 34 9 (flatC cm 9 (j + 1)) none), (14, .row 34 9 (flatC cm 9 (j + 1)) none)]) (by simp only [renH, renR, bare_ren hc]; rfl) rfl rfl rfl ⟨rfl, trivial⟩ ⟨row_lk hc rfl, trivial⟩ ?_
              conv => whnf
              rw [show (!decide (((j + 1 : Nat) : Int) = ((j + 1 : Nat) : Int))) = false by simp]
              conv => whnf
              refine callR [6, 7, 8, 9, 1] (cHX (some (i + 1)) (some (j + 1))) rfl rfl rfl rfl trivial ⟨rfl, trivial⟩ ?_
              conv => whnf
              have hS4 : (flatC cl 8 (i + 1) ++ zP).length = (i + 1 + 1) * 8 := by rw [List.length_append, flatC_len]; show (i + 1) * 8 + 8 = _; omega
              refine callR [2, 3, 10, 11, 12] (sent1 (some 1) (some (j + 1 + 1)) hS3 hS4 (by unfold room; omega) (by omega) Nat.one_pos (Nat.succ_pos _)) (post' := [(10, .row 31 8 (flatC cl 8 (i + 1) ++ zP) none), (15, .row 31 8 (flatC cl 8 (i + 1) ++ zP) none)]) (by simp only [renH, renR, bare_ren hS3]; rfl) rfl rfl rfl ⟨rfl, trivial⟩ ⟨row_lk hS3 rfl, trivial⟩ ?_
              conv => whnf
              rw [show (!decide (((i + 1 + 1 : Nat) : Int) = IntKind.i64.wrap (((i + 1 : Nat) : Int) + 1))) = false by rw [wrap_small (by omega) (by omega)]; simp]
              conv => whnf
              refine loopR Tryz.hT Tryz.hM (puM_ok aw) (α := {q : Nat // q ≤ (i + 1)})
                (fun q => ([(0, .sl 0 (i + 1)), (1, .sl 1 (j + 1)), (9, .ptr 6 0), (10, .int .i64 (q.1 : Int))], I3 (i + 1) (j + 1) cl cm))
                (fun q => (i + 1) - q.1) 10 ⟨0, Nat.zero_le _⟩ [] ?_ ?_
              · refine ⟨⟨rfl, rfl, rfl, rfl, trivial⟩, ⟨rfl, rfl, rfl, rfl, row_lk hb rfl, row_lk hc rfl, trivial⟩, ?_, rfl⟩
                simp only [I3_ok hb hc]; rfl
              rintro ⟨q, hq⟩
              conv => whnf
              refine bcase_intro (fun h => ?_) (fun h => ?_)
              · have h : q < i + 1 := by simp at h; omega
                conv => whnf
                refine callR [6, 7, 8, 9, 1] (sent1 none (some (j + 1)) hb (flatC_len cl 8 (i + 1)) (by unfold room; omega) (Nat.succ_pos i) trivial (Nat.succ_pos j)) (post' := [(8, .row 31 8 (flatC cl 8 (i + 1)) none), (10, .row 31 8 (flatC cl 8 (i + 1)) none)]) (by simp only [renH, renR, bare_ren hb]; rfl) rfl rfl rfl ⟨rfl, trivial⟩ ⟨row_lk hb rfl, trivial⟩ ?_
                conv => whnf
                simp only [Int.toNat_natCast, Nat.zero_add]
                refine ⟨by simp; omega, ?_⟩
                obtain ⟨a, b, c, d, e, f, g, k, hk, e0, e1, e2, e3, e4, e5, e6, e7⟩ := pk_at hl h
                have hr := flat_rd cl 8 h
                rw [hk] at hr
                conv => whnf
                rw [hr]
                conv => whnf
                refine ⟨by simp; omega, ?_⟩
                conv => whnf
                simp only [Int.toNat_natCast]
                refine ⟨h, ?_⟩
                rw [show readEl true 8 ((lst none (i + 1) 8 cl).cell q) 0 = .agg (pkA a b c d e f g k) from rdP hk]
                conv => whnf
                rw [eqs_pk]
                conv => whnf
                have hw : IntKind.i64.wrap (((q : Nat) : Int) + 1) = ((q + 1 : Nat) : Int) := by rw [wrap_small] <;> omega
                refine ⟨⟨q + 1, h⟩, [], by dsimp only; omega, ⟨⟨rfl, rfl, rfl, by rw [← hw]; rfl, trivial⟩, ⟨rfl, rfl, rfl, rfl, row_lk hb rfl, row_lk hc rfl, trivial⟩, ?_, rfl⟩⟩
                simp only [I3_ok hb hc]; rfl
              · have h : q = i + 1 := by simp at h; omega
                subst h
                conv => whnf
                refine loopR Tryz.hT Tryz.hM (puM_ok aw) (α := {q : Nat // q ≤ (j + 1)})
                  (fun q => ([(0, .sl 0 (i + 1)), (1, .sl 1 (j + 1)), (9, .ptr 6 0), (11, .int .i64 (q.1 : Int))], I3 (i + 1) (j + 1) cl cm))
                  (fun q => (j + 1) - q.1) 10 ⟨0, Nat.zero_le _⟩ [] ?_ ?_
                · refine ⟨⟨rfl, rfl, rfl, rfl, trivial⟩, ⟨rfl, rfl, rfl, rfl, row_lk hb rfl, row_lk hc rfl, trivial⟩, ?_, rfl⟩
                  simp only [I3_ok hb hc]; rfl
                rintro ⟨q, hq⟩
                conv => whnf
                refine bcase_intro (fun h => ?_) (fun h => ?_)
                · have h : q < j + 1 := by simp at h; omega
                  conv => whnf
                  refine callR [6, 7, 8, 9, 1] (written1 none (some (i + 1)) hc (flatC_len cm 9 (j + 1)) (by unfold room; omega) (Nat.succ_pos j) trivial (Nat.succ_pos i)) (post' := [(9, .row 34 9 (flatC cm 9 (j + 1)) none), (10, .row 34 9 (flatC cm 9 (j + 1)) none)]) (by simp only [renH, renR, bare_ren hc]; rfl) rfl rfl rfl ⟨rfl, trivial⟩ ⟨row_lk hc rfl, trivial⟩ ?_
                  conv => whnf
                  simp only [Int.toNat_natCast, Nat.zero_add]
                  refine ⟨by simp; omega, ?_⟩
                  obtain ⟨a, b, c, d, e, f, g, k, l, hk, e0, e1, e2, e3, e4, e5, e6, e7, e8⟩ := wr_at hm h
                  have hr := flat_rd cm 9 h
                  rw [hk] at hr
                  conv => whnf
                  rw [hr]
                  conv => whnf
                  refine ⟨by simp; omega, ?_⟩
                  conv => whnf
                  simp only [Int.toNat_natCast]
                  refine ⟨h, ?_⟩
                  rw [show readEl true 9 ((lst none (j + 1) 9 cm).cell q) 0 = .agg (wrA a b c d e f g k l) from rdW hk]
                  conv => whnf
                  rw [eqs_wr]
                  conv => whnf
                  have hw : IntKind.i64.wrap (((q : Nat) : Int) + 1) = ((q + 1 : Nat) : Int) := by rw [wrap_small] <;> omega
                  refine ⟨⟨q + 1, h⟩, [], by dsimp only; omega, ⟨⟨rfl, rfl, rfl, by rw [← hw]; rfl, trivial⟩, ⟨rfl, rfl, rfl, rfl, row_lk hb rfl, row_lk hc rfl, trivial⟩, ?_, rfl⟩⟩
                  simp only [I3_ok hb hc]; rfl
                · have h : q = j + 1 := by simp at h; omega
                  subst h
                  conv => whnf
                  refine callR [6, 7, 8, 9, 1] (cJX none (some (i + 1)) (some (j + 1))) rfl rfl rfl rfl trivial ⟨rfl, trivial⟩ ?_
                  conv => whnf
                  refine callR [7] (jgetP L0_srt xW L0_le) rfl rfl rfl rfl trivial ⟨rfl, trivial⟩ ?_
                  conv => whnf
                  exact .mk' [] rfl rfl rfl rfl rfl rfl trivial
    · rw [show decide ((20 : Int) < (nm : Int)) = true by simp; omega]
      conv => whnf
      exact .mk' [] rfl rfl rfl rfl rfl rfl trivial
  · rw [show decide ((20 : Int) < (nl : Int)) = true by simp; omega]
    conv => whnf
    exact .mk' [] rfl rfl rfl rfl rfl rfl trivial
theorem pk_of {nl : Nat} {cl : Nat → Nat → AV} (h : ∀ (a j : Nat) (k : LK), a < nl → ([.int .i64, .str, .str, .str, .str, .str, .int .i64, .int .i64] : List LK)[j]? = some k → k.okA (cl a j)) : isPk cl nl := by
  intro i hi
  obtain ⟨a, h0, _⟩ := h i 0 _ hi rfl
  obtain ⟨b, h1, _⟩ := h i 1 _ hi rfl
  obtain ⟨c, h2, _⟩ := h i 2 _ hi rfl
  obtain ⟨d, h3, _⟩ := h i 3 _ hi rfl
  obtain ⟨e, h4, _⟩ := h i 4 _ hi rfl
  obtain ⟨f, h5, _⟩ := h i 5 _ hi rfl
  obtain ⟨g, h6, _⟩ := h i 6 _ hi rfl
  obtain ⟨k, h7, _⟩ := h i 7 _ hi rfl
  refine ⟨a, b, c, d, e, f, g, k, ?_⟩
  show [cl i 0, cl i 1, cl i 2, cl i 3, cl i 4, cl i 5, cl i 6, cl i 7] = _
  rw [h0, h1, h2, h3, h4, h5, h6, h7]; rfl
theorem wr_of {nl : Nat} {cl : Nat → Nat → AV} (h : ∀ (a j : Nat) (k : LK), a < nl → ([.int .i64, .str, .str, .str, .str, .str, .int .i64, .int .i64, .str] : List LK)[j]? = some k → k.okA (cl a j)) : isWr cl nl := by
  intro i hi
  obtain ⟨a, h0, _⟩ := h i 0 _ hi rfl
  obtain ⟨b, h1, _⟩ := h i 1 _ hi rfl
  obtain ⟨c, h2, _⟩ := h i 2 _ hi rfl
  obtain ⟨d, h3, _⟩ := h i 3 _ hi rfl
  obtain ⟨e, h4, _⟩ := h i 4 _ hi rfl
  obtain ⟨f, h5, _⟩ := h i 5 _ hi rfl
  obtain ⟨g, h6, _⟩ := h i 6 _ hi rfl
  obtain ⟨k, h7, _⟩ := h i 7 _ hi rfl
  obtain ⟨l, h8, _⟩ := h i 8 _ hi rfl
  refine ⟨a, b, c, d, e, f, g, k, l, ?_⟩
  show [cl i 0, cl i 1, cl i 2, cl i 3, cl i 4, cl i 5, cl i 6, cl i 7, cl i 8] = _
  rw [h0, h1, h2, h3, h4, h5, h6, h7, h8]; rfl
theorem chainNotes_law (aw : Ctr Tryz.prog 5 [] [] [] 0 0 (.bool true) []) : ∀ vs R n, ArgsL [.s [.int .i64, .str, .str, .str, .str, .str, .int .i64, .int .i64], .s [.int .i64, .str, .str, .str, .str, .str, .int .i64, .int .i64, .str]] 0 vs R n → ∃ n', Ctr Tryz.prog 3 vs R [] n n' (.bool true) [] := by
  rintro vs R n ⟨nl, cl, vs1, R1, rfl, rfl, _, h1, nm, cm, vs2, R2, rfl, rfl, _, h2, rfl, rfl, rfl⟩
  exact ⟨2, notes1 aw (pk_of h1) (wr_of h2)⟩
end Go.Proofs.YtkhliljbbjapmaaGreatDoor
