/- A chain at its beginning. -/
import Derived.Test.YtglkoaajgekonaaGreatDoorCL
namespace Go.Proofs.YtglkoaajgekonaaGreatDoor
open Go.SX
def keyofW : ByteArray := ⟨#[107, 101, 121, 32, 111, 102, 32]⟩
def chainL (other admin : ByteArray) : List KV := setL (setL (setL [] (joinB nextW [clientW]) (numS 1)) (joinB clientW [client0]) (clientV other (catB keyofW other) 0 0)) adminW admin
theorem chn_bad {name other admin : ByteArray} (h1 : name.size ≤ 300) (h2 : other.size ≤ 300) (h3 : admin.size ≤ 300) (h : (plainB name && (plainB other && (plainB admin && !eqB name other))) = false) : Ctr Tryz.prog 25 [.str name, .str other, .str admin] [] [] 0 0 (.tup [.nilp, .int .i64 7]) [] := by
  refine Ctr.shut (m := 0) (k := 1) ?_ rfl rfl
  refine Ctr.introR (T := Tryz.T) Tryz.hT Tryz.hM puCl_ok Tryz.func25 rfl (by kernel_rfl) rfl rfl rfl rfl ?_
  conv => whnf
  refine unrollR Tryz.hT Tryz.hM puCl_ok 4 ?_
  conv => whnf
  refine ⟨by decide, ?_⟩
  conv => whnf
  refine callR [] (check1 name (by omega)) rfl rfl rfl rfl trivial trivial ?_
  cases c1 : plainB name with
  | false =>
    rw [name_no c1]
    conv => whnf
    exact Fin.same rfl rfl (by simp)
  | true =>
    rw [name_ok c1]
    conv => whnf
    refine ⟨by decide, ?_⟩
    conv => whnf
    refine callR [] (check1 other (by omega)) rfl rfl rfl rfl trivial trivial ?_
    cases c2 : plainB other with
    | false =>
      rw [name_no c2]
      conv => whnf
      exact Fin.same rfl rfl (by simp)
    | true =>
      rw [name_ok c2]
      conv => whnf
      refine ⟨by decide, ?_⟩
      conv => whnf
      refine callR [] (check1 admin (by omega)) rfl rfl rfl rfl trivial trivial ?_
      cases c3 : plainB admin with
      | false =>
        rw [name_no c3]
        conv => whnf
        exact Fin.same rfl rfl (by simp)
      | true =>
        rw [name_ok c3]
        conv => whnf
        have h4 : eqB name other = true := by
          rw [c1, c2, c3] at h; simpa using h
        rw [h4]
        conv => whnf
        exact Fin.same rfl rfl (by simp)
theorem textS_small (s : ByteArray) : (textS s).size ≤ 8 + s.size := by
  unfold textS
  split
  · show 0 ≤ _; omega
  · rw [cat_size]; have := numS_size s.size; omega
theorem clientV_small {other : ByteArray} (h : other.size ≤ 64) : (clientV other (catB keyofW other) 0 0).size ≤ 65536 := by
  have a := textS_small other; have b := textS_small (catB keyofW other); have c := numS_size 0
  rw [cat_size] at b
  have d : keyofW.size = 7 := rfl
  unfold clientV; rw [cat_size, cat_size, cat_size]; omega
theorem chn {name other admin : ByteArray} (c1 : plainB name = true) (c2 : plainB other = true) (c3 : plainB admin = true) (h4 : eqB name other = false) : Ctr Tryz.prog 25 [.str name, .str other, .str admin] [] [] 0 2 (.tup [.ptr 0 0, .int .i64 0]) [(0, .box 81 [.str name, .ptr 1 0, .nils, .int .i64 0, .nils, .nils]), (1, jour (chainL other admin))] := by
  have h1 := plain_sz c1; have h2 := plain_sz c2; have h3 := plain_sz c3
  refine Ctr.introR (T := Tryz.T) Tryz.hT Tryz.hM puCl_ok Tryz.func25 rfl (by kernel_rfl) rfl rfl rfl rfl ?_
  conv => whnf
  refine unrollR Tryz.hT Tryz.hM puCl_ok 4 ?_
  conv => whnf
  refine ⟨by decide, ?_⟩
  conv => whnf
  refine callR [] (check1 name (by omega)) rfl rfl rfl rfl trivial trivial ?_
  rw [name_ok c1]
  conv => whnf
  refine ⟨by decide, ?_⟩
  conv => whnf
  refine callR [] (check1 other (by omega)) rfl rfl rfl rfl trivial trivial ?_
  rw [name_ok c2]
  conv => whnf
  refine ⟨by decide, ?_⟩
  conv => whnf
  refine callR [] (check1 admin (by omega)) rfl rfl rfl rfl trivial trivial ?_
  rw [name_ok c3]
  conv => whnf
  rw [h4]
  conv => whnf
  refine callR [] jnewP rfl rfl rfl rfl trivial trivial ?_
  conv => whnf
  refine ⟨by unfold big; have : keyofW.size = 7 := rfl; show 7 + other.size ≤ _; omega, ?_⟩
  conv => whnf
  refine callR [1] (cnew (chain := other) (key := catB keyofW other) c2 (by rw [cat_size]; have : keyofW.size = 7 := rfl; omega) (clientV_small h2)) rfl rfl rfl rfl trivial ⟨rfl, trivial⟩ ?_
  conv => whnf
  refine callR [1] (setadm (setL_srt (setL_srt srt_nil _ _) _ _) (by
    have a := setL_le (setL [] (joinB nextW [clientW]) (numS 1)) (joinB clientW [client0]) (clientV other (catB keyofW other) 0 0)
    have b := setL_le [] (joinB nextW [clientW]) (numS 1)
    simp only [List.length_nil] at b
    unfold room; omega) c3) rfl rfl rfl rfl trivial ⟨rfl, trivial⟩ ?_
  conv => whnf
  exact .mk' [2, 1] rfl rfl rfl rfl rfl rfl ⟨rfl, rfl, trivial⟩
end Go.Proofs.YtglkoaajgekonaaGreatDoor
