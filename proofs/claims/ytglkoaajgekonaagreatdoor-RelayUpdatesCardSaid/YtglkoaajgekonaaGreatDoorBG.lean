/- A chain that has whatever pairs, and blocks. -/
import Derived.Test.YtglkoaajgekonaaGreatDoorBL
namespace Go.Proofs.YtglkoaajgekonaaGreatDoor
open Go.SX
def betW : ByteArray := ⟨⟨[98, 101, 116, 97]⟩⟩
def rooW : ByteArray := ⟨⟨[114, 111, 111, 116]⟩⟩
def strV : AV → ByteArray
  | .str s => s
  | _ => ⟨#[]⟩
def isKV (cl : Nat → Nat → AV) (n : Nat) : Prop := ∀ i, i < n → ∃ k v, cl i 0 = .str k ∧ cl i 1 = .str v
def addL (L : List KV) (k v : ByteArray) : List KV := if k.size ≤ 65536 ∧ v.size ≤ 65536 then setL L k v else L
def LL (cl : Nat → Nat → AV) : Nat → List KV
  | 0 => chainL betW rooW
  | i + 1 => addL (LL cl i) (strV (cl i 0)) (strV (cl i 1))
theorem addL_srt {L : List KV} (h : Srt L) (k v : ByteArray) : Srt (addL L k v) := by
  unfold addL; split
  · exact setL_srt h k v
  · exact h
theorem setL_ge (L : List KV) (k v : ByteArray) : L.length ≤ (setL L k v).length ∧ 1 ≤ (setL L k v).length := by
  rw [setL_length]
  split
  · rename_i h
    have := hasL_lt h
    obtain ⟨hp, _⟩ := this
    omega
  · omega
theorem addL_le (L : List KV) (k v : ByteArray) : (addL L k v).length ≤ L.length + 1 ∧ L.length ≤ (addL L k v).length := by
  unfold addL; split
  · exact ⟨setL_le L k v, (setL_ge L k v).1⟩
  · omega
theorem LL_srt (cl : Nat → Nat → AV) : ∀ i, Srt (LL cl i)
  | 0 => by unfold LL chainL; exact setL_srt (setL_srt (setL_srt srt_nil _ _) _ _) _ _
  | i + 1 => addL_srt (LL_srt cl i) _ _
theorem LL_le (cl : Nat → Nat → AV) : ∀ i, (LL cl i).length ≤ 3 + i ∧ 1 ≤ (LL cl i).length
  | 0 => by
    have a := setL_le (setL (setL [] (joinB nextW [clientW]) (numS 1)) (joinB clientW [client0]) (clientV betW (catB keyofW betW) 0 0)) adminW rooW
    have b := setL_le (setL [] (joinB nextW [clientW]) (numS 1)) (joinB clientW [client0]) (clientV betW (catB keyofW betW) 0 0)
    have c := setL_le [] (joinB nextW [clientW]) (numS 1)
    simp only [List.length_nil] at c
    exact ⟨by unfold LL chainL; omega, by unfold LL chainL; exact (setL_ge _ _ _).2⟩
  | i + 1 => by
    have := addL_le (LL cl i) (strV (cl i 0)) (strV (cl i 1))
    have := LL_le cl i
    unfold LL; omega
theorem setAny {L : List KV} (hs : Srt L) (k v : ByteArray) (hr : (L.length + 1) * 2 ≤ room) : ∃ e : Int, Ctr Tryz.prog 27 [.ptr 0 0, .str k, .str v] [] [(0, jour L)] 1 1 (.int .i64 e) [(0, jour (addL L k v))] := by
  by_cases h : k.size ≤ 65536 ∧ v.size ≤ 65536
  · refine ⟨0, ?_⟩
    rw [show addL L k v = setL L k v from if_pos h]
    exact jsetP hs k v hr h.1 h.2
  · refine ⟨4, ?_⟩
    rw [show addL L k v = L from if_neg h]
    exact jsetL k v (by omega)
theorem jOf : Ctr Tryz.prog 26 [.ptr 0 0] [] [(0, cbox .nils)] 2 2 (.ptr 1 0) [(0, cbox .nils)] := by
  refine Ctr.introR (T := Tryz.T) Tryz.hT Tryz.hM Tryz.hE Tryz.func26 rfl (by kernel_rfl) rfl rfl rfl rfl ?_
  conv => whnf
  exact .mk' [] rfl rfl rfl rfl rfl rfl ⟨rfl, trivial⟩
-- BEGINS
def lstC (cl : Nat → Nat → AV) (len : Nat) : Res := .abs (lst none len 2 cl)
theorem LL_add (cl : Nat → Nat → AV) {i : Nat} {k v : ByteArray} (h0 : cl i 0 = .str k) (h1 : cl i 1 = .str v) : addL (LL cl i) k v = LL cl (i + 1) := by
  show _ = addL (LL cl i) (strV (cl i 0)) (strV (cl i 1))
  rw [h0, h1]; rfl
theorem begin0 {cl : Nat → Nat → AV} {len : Nat} (hl : isKV cl len) (h8 : len ≤ 8) : Ctr Tryz.prog 7 [.sl 0 len, .int .i64 0] [(0, lstC cl len)] [] 1 3 (.ptr 1 0) [(1, .box 81 [.str alW, .ptr 2 0, .nils, .int .i64 0, .nils, .nils]), (2, jour (LL cl len))] := by
  have hrm : room = 4398046511104 := rfl
  refine Ctr.introR (T := Tryz.T) Tryz.hT Tryz.hM Tryz.hE Tryz.func7 rfl (by kernel_rfl) rfl rfl rfl rfl ?_
  conv => whnf
  refine callR [] (chn (name := alW) (other := betW) (admin := rooW) (by decide) (by decide) (by decide) (by decide)) rfl rfl rfl rfl trivial trivial ?_
  conv => whnf
  refine loopR Tryz.hT Tryz.hM Tryz.hE (α := {i : Nat // i ≤ len})
    (fun i => ([(0, .sl 0 len), (1, .int .i64 0), (5, .ptr 1 0), (7, .int .i64 (i.1 : Int))], [(0, lstC cl len), (1, .box 81 [.str alW, .ptr 2 0, .nils, .int .i64 0, .nils, .nils]), (2, jour (LL cl i.1))]))
    (fun i => len - i.1) 3 ⟨0, Nat.zero_le _⟩ [] ?_ ?_
  · exact ⟨⟨rfl, rfl, rfl, rfl, trivial⟩, ⟨rfl, rfl, rfl, trivial⟩, rfl, rfl⟩
  rintro ⟨i, hi⟩
  conv => whnf
  dsimp only
  by_cases h : i < len
  · rw [show decide (((i : Nat) : Int) < ((len : Nat) : Int)) = true by simpa using h]
    obtain ⟨ky, v, h0, h1⟩ := hl i h
    have hle := LL_le cl i
    obtain ⟨e, hset⟩ := setAny (LL_srt cl i) ky v (by omega)
    rw [LL_add cl h0 h1] at hset
    conv => whnf
    refine callR [1, 2] jOf rfl rfl rfl rfl trivial ⟨rfl, trivial⟩ ?_
    conv => whnf
    simp only [Int.toNat_natCast]
    refine ⟨by omega, ?_⟩
    conv => whnf
    refine ⟨h, ?_⟩
    rw [show readEl false 1 ((lst none len 2 cl).cell i) (0 + 0) = .str ky from h0]
    conv => whnf
    simp only [Int.toNat_natCast]
    refine ⟨by omega, ?_⟩
    conv => whnf
    refine ⟨h, ?_⟩
    rw [show readEl false 1 ((lst none len 2 cl).cell i) (0 + 1) = .str v from h1]
    conv => whnf
    refine callR [2] hset rfl rfl rfl rfl trivial ⟨rfl, trivial⟩ ?_
    conv => whnf
    have hw : IntKind.i64.wrap ((i : Int) + 1) = ((i + 1 : Nat) : Int) := by rw [wrap_small] <;> omega
    rw [hw]
    exact ⟨⟨i + 1, h⟩, [], by dsimp only; omega, ⟨⟨rfl, rfl, rfl, rfl, trivial⟩, ⟨rfl, rfl, rfl, trivial⟩, rfl, rfl⟩⟩
  · rw [show decide (((i : Nat) : Int) < ((len : Nat) : Int)) = false by simpa using h]
    have h : i = len := by omega
    subst h
    conv => whnf
    refine unrollR Tryz.hT Tryz.hM Tryz.hE 1 ?_
    conv => whnf
    exact .mk' [1, 2] rfl rfl rfl rfl rfl rfl ⟨rfl, rfl, trivial⟩
theorem begin1 {cl : Nat → Nat → AV} {len : Nat} (hl : isKV cl len) (h8 : len ≤ 8) : Ctr Tryz.prog 7 [.sl 0 len, .int .i64 1] [(0, lstC cl len)] [] 1 5 (.ptr 1 0) [(1, .box 81 [.str alW, .ptr 2 0, .sv 3 2 0 1 none, .int .i64 0, .nils, .nils]), (2, jour (LL cl len)), (3, .row 74 2 [.str (rawB (LL cl len) 1), .sv 4 2 0 (LL cl len).length (some (LL cl len).length)] none), (4, rowD (LL cl len) (some (LL cl len).length))] := by
  have hrm : room = 4398046511104 := rfl
  refine Ctr.introR (T := Tryz.T) Tryz.hT Tryz.hM Tryz.hE Tryz.func7 rfl (by kernel_rfl) rfl rfl rfl rfl ?_
  conv => whnf
  refine callR [] (chn (name := alW) (other := betW) (admin := rooW) (by decide) (by decide) (by decide) (by decide)) rfl rfl rfl rfl trivial trivial ?_
  conv => whnf
  refine loopR Tryz.hT Tryz.hM Tryz.hE (α := {i : Nat // i ≤ len})
    (fun i => ([(0, .sl 0 len), (1, .int .i64 1), (5, .ptr 1 0), (7, .int .i64 (i.1 : Int))], [(0, lstC cl len), (1, .box 81 [.str alW, .ptr 2 0, .nils, .int .i64 0, .nils, .nils]), (2, jour (LL cl i.1))]))
    (fun i => len - i.1) 3 ⟨0, Nat.zero_le _⟩ [] ?_ ?_
  · exact ⟨⟨rfl, rfl, rfl, rfl, trivial⟩, ⟨rfl, rfl, rfl, trivial⟩, rfl, rfl⟩
  rintro ⟨i, hi⟩
  conv => whnf
  dsimp only
  by_cases h : i < len
  · rw [show decide (((i : Nat) : Int) < ((len : Nat) : Int)) = true by simpa using h]
    obtain ⟨ky, v, h0, h1⟩ := hl i h
    have hle := LL_le cl i
    obtain ⟨e, hset⟩ := setAny (LL_srt cl i) ky v (by omega)
    rw [LL_add cl h0 h1] at hset
    conv => whnf
    refine callR [1, 2] jOf rfl rfl rfl rfl trivial ⟨rfl, trivial⟩ ?_
    conv => whnf
    simp only [Int.toNat_natCast]
    refine ⟨by omega, ?_⟩
    conv => whnf
    refine ⟨h, ?_⟩
    rw [show readEl false 1 ((lst none len 2 cl).cell i) (0 + 0) = .str ky from h0]
    conv => whnf
    simp only [Int.toNat_natCast]
    refine ⟨by omega, ?_⟩
    conv => whnf
    refine ⟨h, ?_⟩
    rw [show readEl false 1 ((lst none len 2 cl).cell i) (0 + 1) = .str v from h1]
    conv => whnf
    refine callR [2] hset rfl rfl rfl rfl trivial ⟨rfl, trivial⟩ ?_
    conv => whnf
    have hw : IntKind.i64.wrap ((i : Int) + 1) = ((i + 1 : Nat) : Int) := by rw [wrap_small] <;> omega
    rw [hw]
    exact ⟨⟨i + 1, h⟩, [], by dsimp only; omega, ⟨⟨rfl, rfl, rfl, rfl, trivial⟩, ⟨rfl, rfl, rfl, trivial⟩, rfl, rfl⟩⟩
  · rw [show decide (((i : Nat) : Int) < ((len : Nat) : Int)) = false by simpa using h]
    have h : i = len := by omega
    subst h
    conv => whnf
    refine unrollR Tryz.hT Tryz.hM Tryz.hE 2 ?_
    conv => whnf
    refine callR [1, 2] (block0 (LL_srt cl i) (LL_le cl i).2 (by have := (LL_le cl i).1; omega) (by have := (LL_le cl i).1; omega)) (post' := [(1, .box 81 [.str alW, .ptr 2 0, .sv 4 2 0 1 none, .int .i64 0, .nils, .nils]), (2, jour (LL cl i)), (3, rowD (LL cl i) (some (LL cl i).length)), (4, .row 74 2 [.str (rawB (LL cl i) 1), .sv 3 2 0 (LL cl i).length (some (LL cl i).length)] none)]) (by simp only [renH, rowD_ren]; rfl) rfl rfl rfl trivial ⟨rfl, rfl, trivial⟩ ?_
    conv => whnf
    refine .mk' [1, 2, 4, 3] rfl rfl rfl ?_ rfl rfl ⟨rfl, rfl, rfl, rowD_at _ rfl, trivial⟩
    simp [okH_all, okR, rowD, bare_ok (cellsP_bare _), okL_cons, okL_nil, okA_str, okA_ptr, okA_int, okA_nils, okA_sv, jour]
theorem begin2 {cl : Nat → Nat → AV} {len : Nat} (hl : isKV cl len) (h8 : len ≤ 8) : Ctr Tryz.prog 7 [.sl 0 len, .int .i64 2] [(0, lstC cl len)] [] 1 6 (.ptr 1 0) [(1, .box 81 [.str alW, .ptr 2 0, .sv 3 2 0 2 none, .int .i64 0, .nils, .nils]), (2, jour (LL cl len)), (3, .row 74 2 [.str (rawB (LL cl len) 1), .sv 4 2 0 (LL cl len).length (some (LL cl len).length), .str (rawB (LL cl len) 2), .sv 5 2 0 (LL cl len).length (some (LL cl len).length)] none), (4, rowD (LL cl len) (some (LL cl len).length)), (5, rowD (LL cl len) (some (LL cl len).length))] := by
  have hrm : room = 4398046511104 := rfl
  refine Ctr.introR (T := Tryz.T) Tryz.hT Tryz.hM Tryz.hE Tryz.func7 rfl (by kernel_rfl) rfl rfl rfl rfl ?_
  conv => whnf
  refine callR [] (chn (name := alW) (other := betW) (admin := rooW) (by decide) (by decide) (by decide) (by decide)) rfl rfl rfl rfl trivial trivial ?_
  conv => whnf
  refine loopR Tryz.hT Tryz.hM Tryz.hE (α := {i : Nat // i ≤ len})
    (fun i => ([(0, .sl 0 len), (1, .int .i64 2), (5, .ptr 1 0), (7, .int .i64 (i.1 : Int))], [(0, lstC cl len), (1, .box 81 [.str alW, .ptr 2 0, .nils, .int .i64 0, .nils, .nils]), (2, jour (LL cl i.1))]))
    (fun i => len - i.1) 3 ⟨0, Nat.zero_le _⟩ [] ?_ ?_
  · exact ⟨⟨rfl, rfl, rfl, rfl, trivial⟩, ⟨rfl, rfl, rfl, trivial⟩, rfl, rfl⟩
  rintro ⟨i, hi⟩
  conv => whnf
  dsimp only
  by_cases h : i < len
  · rw [show decide (((i : Nat) : Int) < ((len : Nat) : Int)) = true by simpa using h]
    obtain ⟨ky, v, h0, h1⟩ := hl i h
    have hle := LL_le cl i
    obtain ⟨e, hset⟩ := setAny (LL_srt cl i) ky v (by omega)
    rw [LL_add cl h0 h1] at hset
    conv => whnf
    refine callR [1, 2] jOf rfl rfl rfl rfl trivial ⟨rfl, trivial⟩ ?_
    conv => whnf
    simp only [Int.toNat_natCast]
    refine ⟨by omega, ?_⟩
    conv => whnf
    refine ⟨h, ?_⟩
    rw [show readEl false 1 ((lst none len 2 cl).cell i) (0 + 0) = .str ky from h0]
    conv => whnf
    simp only [Int.toNat_natCast]
    refine ⟨by omega, ?_⟩
    conv => whnf
    refine ⟨h, ?_⟩
    rw [show readEl false 1 ((lst none len 2 cl).cell i) (0 + 1) = .str v from h1]
    conv => whnf
    refine callR [2] hset rfl rfl rfl rfl trivial ⟨rfl, trivial⟩ ?_
    conv => whnf
    have hw : IntKind.i64.wrap ((i : Int) + 1) = ((i + 1 : Nat) : Int) := by rw [wrap_small] <;> omega
    rw [hw]
    exact ⟨⟨i + 1, h⟩, [], by dsimp only; omega, ⟨⟨rfl, rfl, rfl, rfl, trivial⟩, ⟨rfl, rfl, rfl, trivial⟩, rfl, rfl⟩⟩
  · rw [show decide (((i : Nat) : Int) < ((len : Nat) : Int)) = false by simpa using h]
    have h : i = len := by omega
    subst h
    conv => whnf
    refine unrollR Tryz.hT Tryz.hM Tryz.hE 3 ?_
    conv => whnf
    refine callR [1, 2] (block0 (LL_srt cl i) (LL_le cl i).2 (by have := (LL_le cl i).1; omega) (by have := (LL_le cl i).1; omega)) (post' := [(1, .box 81 [.str alW, .ptr 2 0, .sv 4 2 0 1 none, .int .i64 0, .nils, .nils]), (2, jour (LL cl i)), (3, rowD (LL cl i) (some (LL cl i).length)), (4, .row 74 2 [.str (rawB (LL cl i) 1), .sv 3 2 0 (LL cl i).length (some (LL cl i).length)] none)]) (by simp only [renH, rowD_ren]; rfl) rfl rfl rfl trivial ⟨rfl, rfl, trivial⟩ ?_
    conv => whnf
    refine callR [1, 2, 4, 3] (block1 (LL_srt cl i) (LL_le cl i).2 (by have := (LL_le cl i).1; omega) (by have := (LL_le cl i).1; omega)) (post' := [(1, .box 81 [.str alW, .ptr 2 0, .sv 6 2 0 2 none, .int .i64 0, .nils, .nils]), (2, jour (LL cl i)), (4, .gone), (5, rowD (LL cl i) (some (LL cl i).length)), (6, .row 74 2 [.str (rawB (LL cl i) 1), .sv 3 2 0 (LL cl i).length (some (LL cl i).length), .str (rawB (LL cl i) 2), .sv 5 2 0 (LL cl i).length (some (LL cl i).length)] none)]) (by simp only [renH, rowD_ren]; rfl) rfl rfl rfl trivial ⟨rfl, rfl, rfl, trivial⟩ ?_
    conv => whnf
    refine .mk' [1, 2, 6, 3, 5] rfl rfl rfl ?_ rfl rfl ⟨rfl, rfl, rfl, rowD_at _ rfl, rowD_at _ rfl, trivial⟩
    simp [okH_all, okR, rowD, bare_ok (cellsP_bare _), okL_cons, okL_nil, okA_str, okA_ptr, okA_int, okA_nils, okA_sv, jour]
theorem begin3 {cl : Nat → Nat → AV} {len : Nat} (hl : isKV cl len) (h8 : len ≤ 8) : Ctr Tryz.prog 7 [.sl 0 len, .int .i64 3] [(0, lstC cl len)] [] 1 7 (.ptr 1 0) [(1, .box 81 [.str alW, .ptr 2 0, .sv 3 2 0 3 none, .int .i64 0, .nils, .nils]), (2, jour (LL cl len)), (3, .row 74 2 [.str (rawB (LL cl len) 1), .sv 4 2 0 (LL cl len).length (some (LL cl len).length), .str (rawB (LL cl len) 2), .sv 5 2 0 (LL cl len).length (some (LL cl len).length), .str (rawB (LL cl len) 3), .sv 6 2 0 (LL cl len).length (some (LL cl len).length)] none), (4, rowD (LL cl len) (some (LL cl len).length)), (5, rowD (LL cl len) (some (LL cl len).length)), (6, rowD (LL cl len) (some (LL cl len).length))] := by
  have hrm : room = 4398046511104 := rfl
  refine Ctr.introR (T := Tryz.T) Tryz.hT Tryz.hM Tryz.hE Tryz.func7 rfl (by kernel_rfl) rfl rfl rfl rfl ?_
  conv => whnf
  refine callR [] (chn (name := alW) (other := betW) (admin := rooW) (by decide) (by decide) (by decide) (by decide)) rfl rfl rfl rfl trivial trivial ?_
  conv => whnf
  refine loopR Tryz.hT Tryz.hM Tryz.hE (α := {i : Nat // i ≤ len})
    (fun i => ([(0, .sl 0 len), (1, .int .i64 3), (5, .ptr 1 0), (7, .int .i64 (i.1 : Int))], [(0, lstC cl len), (1, .box 81 [.str alW, .ptr 2 0, .nils, .int .i64 0, .nils, .nils]), (2, jour (LL cl i.1))]))
    (fun i => len - i.1) 3 ⟨0, Nat.zero_le _⟩ [] ?_ ?_
  · exact ⟨⟨rfl, rfl, rfl, rfl, trivial⟩, ⟨rfl, rfl, rfl, trivial⟩, rfl, rfl⟩
  rintro ⟨i, hi⟩
  conv => whnf
  dsimp only
  by_cases h : i < len
  · rw [show decide (((i : Nat) : Int) < ((len : Nat) : Int)) = true by simpa using h]
    obtain ⟨ky, v, h0, h1⟩ := hl i h
    have hle := LL_le cl i
    obtain ⟨e, hset⟩ := setAny (LL_srt cl i) ky v (by omega)
    rw [LL_add cl h0 h1] at hset
    conv => whnf
    refine callR [1, 2] jOf rfl rfl rfl rfl trivial ⟨rfl, trivial⟩ ?_
    conv => whnf
    simp only [Int.toNat_natCast]
    refine ⟨by omega, ?_⟩
    conv => whnf
    refine ⟨h, ?_⟩
    rw [show readEl false 1 ((lst none len 2 cl).cell i) (0 + 0) = .str ky from h0]
    conv => whnf
    simp only [Int.toNat_natCast]
    refine ⟨by omega, ?_⟩
    conv => whnf
    refine ⟨h, ?_⟩
    rw [show readEl false 1 ((lst none len 2 cl).cell i) (0 + 1) = .str v from h1]
    conv => whnf
    refine callR [2] hset rfl rfl rfl rfl trivial ⟨rfl, trivial⟩ ?_
    conv => whnf
    have hw : IntKind.i64.wrap ((i : Int) + 1) = ((i + 1 : Nat) : Int) := by rw [wrap_small] <;> omega
    rw [hw]
    exact ⟨⟨i + 1, h⟩, [], by dsimp only; omega, ⟨⟨rfl, rfl, rfl, rfl, trivial⟩, ⟨rfl, rfl, rfl, trivial⟩, rfl, rfl⟩⟩
  · rw [show decide (((i : Nat) : Int) < ((len : Nat) : Int)) = false by simpa using h]
    have h : i = len := by omega
    subst h
    conv => whnf
    refine unrollR Tryz.hT Tryz.hM Tryz.hE 4 ?_
    conv => whnf
    refine callR [1, 2] (block0 (LL_srt cl i) (LL_le cl i).2 (by have := (LL_le cl i).1; omega) (by have := (LL_le cl i).1; omega)) (post' := [(1, .box 81 [.str alW, .ptr 2 0, .sv 4 2 0 1 none, .int .i64 0, .nils, .nils]), (2, jour (LL cl i)), (3, rowD (LL cl i) (some (LL cl i).length)), (4, .row 74 2 [.str (rawB (LL cl i) 1), .sv 3 2 0 (LL cl i).length (some (LL cl i).length)] none)]) (by simp only [renH, rowD_ren]; rfl) rfl rfl rfl trivial ⟨rfl, rfl, trivial⟩ ?_
    conv => whnf
    refine callR [1, 2, 4, 3] (block1 (LL_srt cl i) (LL_le cl i).2 (by have := (LL_le cl i).1; omega) (by have := (LL_le cl i).1; omega)) (post' := [(1, .box 81 [.str alW, .ptr 2 0, .sv 6 2 0 2 none, .int .i64 0, .nils, .nils]), (2, jour (LL cl i)), (4, .gone), (5, rowD (LL cl i) (some (LL cl i).length)), (6, .row 74 2 [.str (rawB (LL cl i) 1), .sv 3 2 0 (LL cl i).length (some (LL cl i).length), .str (rawB (LL cl i) 2), .sv 5 2 0 (LL cl i).length (some (LL cl i).length)] none)]) (by simp only [renH, rowD_ren]; rfl) rfl rfl rfl trivial ⟨rfl, rfl, rfl, trivial⟩ ?_
    conv => whnf
    refine callR [1, 2, 6, 3, 5] (block2 (LL_srt cl i) (LL_le cl i).2 (by have := (LL_le cl i).1; omega) (by have := (LL_le cl i).1; omega)) (post' := [(1, .box 81 [.str alW, .ptr 2 0, .sv 8 2 0 3 none, .int .i64 0, .nils, .nils]), (2, jour (LL cl i)), (6, .gone), (7, rowD (LL cl i) (some (LL cl i).length)), (8, .row 74 2 [.str (rawB (LL cl i) 1), .sv 3 2 0 (LL cl i).length (some (LL cl i).length), .str (rawB (LL cl i) 2), .sv 5 2 0 (LL cl i).length (some (LL cl i).length), .str (rawB (LL cl i) 3), .sv 7 2 0 (LL cl i).length (some (LL cl i).length)] none)]) (by simp only [renH, rowD_ren]; rfl) rfl rfl rfl trivial ⟨rfl, rfl, rfl, trivial⟩ ?_
    conv => whnf
    refine .mk' [1, 2, 8, 3, 5, 7] rfl rfl rfl ?_ rfl rfl ⟨rfl, rfl, rfl, rowD_at _ rfl, rowD_at _ rfl, rowD_at _ rfl, trivial⟩
    simp [okH_all, okR, rowD, bare_ok (cellsP_bare _), okL_cons, okL_nil, okA_str, okA_ptr, okA_int, okA_nils, okA_sv, jour]
theorem begin4 {cl : Nat → Nat → AV} {len : Nat} (hl : isKV cl len) (h8 : len ≤ 8) : Ctr Tryz.prog 7 [.sl 0 len, .int .i64 4] [(0, lstC cl len)] [] 1 8 (.ptr 1 0) [(1, .box 81 [.str alW, .ptr 2 0, .sv 3 2 0 4 none, .int .i64 0, .nils, .nils]), (2, jour (LL cl len)), (3, .row 74 2 [.str (rawB (LL cl len) 1), .sv 4 2 0 (LL cl len).length (some (LL cl len).length), .str (rawB (LL cl len) 2), .sv 5 2 0 (LL cl len).length (some (LL cl len).length), .str (rawB (LL cl len) 3), .sv 6 2 0 (LL cl len).length (some (LL cl len).length), .str (rawB (LL cl len) 4), .sv 7 2 0 (LL cl len).length (some (LL cl len).length)] none), (4, rowD (LL cl len) (some (LL cl len).length)), (5, rowD (LL cl len) (some (LL cl len).length)), (6, rowD (LL cl len) (some (LL cl len).length)), (7, rowD (LL cl len) (some (LL cl len).length))] := by
  have hrm : room = 4398046511104 := rfl
  refine Ctr.introR (T := Tryz.T) Tryz.hT Tryz.hM Tryz.hE Tryz.func7 rfl (by kernel_rfl) rfl rfl rfl rfl ?_
  conv => whnf
  refine callR [] (chn (name := alW) (other := betW) (admin := rooW) (by decide) (by decide) (by decide) (by decide)) rfl rfl rfl rfl trivial trivial ?_
  conv => whnf
  refine loopR Tryz.hT Tryz.hM Tryz.hE (α := {i : Nat // i ≤ len})
    (fun i => ([(0, .sl 0 len), (1, .int .i64 4), (5, .ptr 1 0), (7, .int .i64 (i.1 : Int))], [(0, lstC cl len), (1, .box 81 [.str alW, .ptr 2 0, .nils, .int .i64 0, .nils, .nils]), (2, jour (LL cl i.1))]))
    (fun i => len - i.1) 3 ⟨0, Nat.zero_le _⟩ [] ?_ ?_
  · exact ⟨⟨rfl, rfl, rfl, rfl, trivial⟩, ⟨rfl, rfl, rfl, trivial⟩, rfl, rfl⟩
  rintro ⟨i, hi⟩
  conv => whnf
  dsimp only
  by_cases h : i < len
  · rw [show decide (((i : Nat) : Int) < ((len : Nat) : Int)) = true by simpa using h]
    obtain ⟨ky, v, h0, h1⟩ := hl i h
    have hle := LL_le cl i
    obtain ⟨e, hset⟩ := setAny (LL_srt cl i) ky v (by omega)
    rw [LL_add cl h0 h1] at hset
    conv => whnf
    refine callR [1, 2] jOf rfl rfl rfl rfl trivial ⟨rfl, trivial⟩ ?_
    conv => whnf
    simp only [Int.toNat_natCast]
    refine ⟨by omega, ?_⟩
    conv => whnf
    refine ⟨h, ?_⟩
    rw [show readEl false 1 ((lst none len 2 cl).cell i) (0 + 0) = .str ky from h0]
    conv => whnf
    simp only [Int.toNat_natCast]
    refine ⟨by omega, ?_⟩
    conv => whnf
    refine ⟨h, ?_⟩
    rw [show readEl false 1 ((lst none len 2 cl).cell i) (0 + 1) = .str v from h1]
    conv => whnf
    refine callR [2] hset rfl rfl rfl rfl trivial ⟨rfl, trivial⟩ ?_
    conv => whnf
    have hw : IntKind.i64.wrap ((i : Int) + 1) = ((i + 1 : Nat) : Int) := by rw [wrap_small] <;> omega
    rw [hw]
    exact ⟨⟨i + 1, h⟩, [], by dsimp only; omega, ⟨⟨rfl, rfl, rfl, rfl, trivial⟩, ⟨rfl, rfl, rfl, trivial⟩, rfl, rfl⟩⟩
  · rw [show decide (((i : Nat) : Int) < ((len : Nat) : Int)) = false by simpa using h]
    have h : i = len := by omega
    subst h
    conv => whnf
    refine unrollR Tryz.hT Tryz.hM Tryz.hE 5 ?_
    conv => whnf
    refine callR [1, 2] (block0 (LL_srt cl i) (LL_le cl i).2 (by have := (LL_le cl i).1; omega) (by have := (LL_le cl i).1; omega)) (post' := [(1, .box 81 [.str alW, .ptr 2 0, .sv 4 2 0 1 none, .int .i64 0, .nils, .nils]), (2, jour (LL cl i)), (3, rowD (LL cl i) (some (LL cl i).length)), (4, .row 74 2 [.str (rawB (LL cl i) 1), .sv 3 2 0 (LL cl i).length (some (LL cl i).length)] none)]) (by simp only [renH, rowD_ren]; rfl) rfl rfl rfl trivial ⟨rfl, rfl, trivial⟩ ?_
    conv => whnf
    refine callR [1, 2, 4, 3] (block1 (LL_srt cl i) (LL_le cl i).2 (by have := (LL_le cl i).1; omega) (by have := (LL_le cl i).1; omega)) (post' := [(1, .box 81 [.str alW, .ptr 2 0, .sv 6 2 0 2 none, .int .i64 0, .nils, .nils]), (2, jour (LL cl i)), (4, .gone), (5, rowD (LL cl i) (some (LL cl i).length)), (6, .row 74 2 [.str (rawB (LL cl i) 1), .sv 3 2 0 (LL cl i).length (some (LL cl i).length), .str (rawB (LL cl i) 2), .sv 5 2 0 (LL cl i).length (some (LL cl i).length)] none)]) (by simp only [renH, rowD_ren]; rfl) rfl rfl rfl trivial ⟨rfl, rfl, rfl, trivial⟩ ?_
    conv => whnf
    refine callR [1, 2, 6, 3, 5] (block2 (LL_srt cl i) (LL_le cl i).2 (by have := (LL_le cl i).1; omega) (by have := (LL_le cl i).1; omega)) (post' := [(1, .box 81 [.str alW, .ptr 2 0, .sv 8 2 0 3 none, .int .i64 0, .nils, .nils]), (2, jour (LL cl i)), (6, .gone), (7, rowD (LL cl i) (some (LL cl i).length)), (8, .row 74 2 [.str (rawB (LL cl i) 1), .sv 3 2 0 (LL cl i).length (some (LL cl i).length), .str (rawB (LL cl i) 2), .sv 5 2 0 (LL cl i).length (some (LL cl i).length), .str (rawB (LL cl i) 3), .sv 7 2 0 (LL cl i).length (some (LL cl i).length)] none)]) (by simp only [renH, rowD_ren]; rfl) rfl rfl rfl trivial ⟨rfl, rfl, rfl, trivial⟩ ?_
    conv => whnf
    refine callR [1, 2, 8, 3, 5, 7] (block3 (LL_srt cl i) (LL_le cl i).2 (by have := (LL_le cl i).1; omega) (by have := (LL_le cl i).1; omega)) (post' := [(1, .box 81 [.str alW, .ptr 2 0, .sv 10 2 0 4 none, .int .i64 0, .nils, .nils]), (2, jour (LL cl i)), (8, .gone), (9, rowD (LL cl i) (some (LL cl i).length)), (10, .row 74 2 [.str (rawB (LL cl i) 1), .sv 3 2 0 (LL cl i).length (some (LL cl i).length), .str (rawB (LL cl i) 2), .sv 5 2 0 (LL cl i).length (some (LL cl i).length), .str (rawB (LL cl i) 3), .sv 7 2 0 (LL cl i).length (some (LL cl i).length), .str (rawB (LL cl i) 4), .sv 9 2 0 (LL cl i).length (some (LL cl i).length)] none)]) (by simp only [renH, rowD_ren]; rfl) rfl rfl rfl trivial ⟨rfl, rfl, rfl, trivial⟩ ?_
    conv => whnf
    refine .mk' [1, 2, 10, 3, 5, 7, 9] rfl rfl rfl ?_ rfl rfl ⟨rfl, rfl, rfl, rowD_at _ rfl, rowD_at _ rfl, rowD_at _ rfl, rowD_at _ rfl, trivial⟩
    simp [okH_all, okR, rowD, bare_ok (cellsP_bare _), okL_cons, okL_nil, okA_str, okA_ptr, okA_int, okA_nils, okA_sv, jour]
end Go.Proofs.YtglkoaajgekonaaGreatDoor
