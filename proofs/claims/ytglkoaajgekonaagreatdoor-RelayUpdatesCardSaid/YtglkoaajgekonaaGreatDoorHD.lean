/- A chain's headers: signed by its key, and as bytes. -/
import Derived.Test.YtglkoaajgekonaaGreatDoorMK
namespace Go.Proofs.YtglkoaajgekonaaGreatDoor
open Go.SX
def alW : ByteArray := ⟨⟨[97, 108, 112, 104, 97]⟩⟩
def kalW : ByteArray := ⟨⟨[107, 101, 121, 32, 111, 102, 32, 97, 108, 112, 104, 97]⟩⟩
def outW : ByteArray := ⟨⟨[55, 57, 37, 124, 51, 58, 124, 61, 48, 44, 52, 61, 92, 92, 92, 92, 92, 92, 92, 92, 92, 92, 92, 92, 92, 92, 92, 92, 92, 92, 92, 92, 92, 92, 92, 92, 92, 92, 92, 92, 92, 92, 92, 92, 92, 92, 92, 92, 92, 92, 92, 92, 92, 92, 92, 92, 92, 92, 92, 92, 92, 92, 92, 92]⟩⟩
def innW : ByteArray := ⟨⟨[93, 83, 79, 22, 89, 80, 22, 87, 90, 70, 94, 87, 54, 54, 54, 54, 54, 54, 54, 54, 54, 54, 54, 54, 54, 54, 54, 54, 54, 54, 54, 54, 54, 54, 54, 54, 54, 54, 54, 54, 54, 54, 54, 54, 54, 54, 54, 54, 54, 54, 54, 54, 54, 54, 54, 54, 54, 54, 54, 54, 54, 54, 54, 54]⟩⟩
theorem turnA : Ctr Tryz.prog 126 [.int .u8 92, .ptr 1 0] [] [(1, .box 9 [.str kalW])] 2 3 (.str outW) [(1, .box 9 [.str kalW])] :=
  Tryz.ovA_ok 80 (show Tryz.evo Tryz.ovA 80 126 [.int .u8 92, .ptr 1 0] [(1, .box 9 [.str kalW])] [] 2 = .ok (.str outW, [(1, .box 9 [.str kalW])], 3) by kernel_rfl)
theorem turnB : Ctr Tryz.prog 126 [.int .u8 54, .ptr 1 0] [] [(1, .box 9 [.str kalW])] 2 3 (.str innW) [(1, .box 9 [.str kalW])] :=
  Tryz.ovA_ok 80 (show Tryz.evo Tryz.ovA 80 126 [.int .u8 54, .ptr 1 0] [(1, .box 9 [.str kalW])] [] 2 = .ok (.str innW, [(1, .box 9 [.str kalW])], 3) by kernel_rfl)
def macA (s : ByteArray) : ByteArray := sumB K64 (catB outW (sumB K64 (catB innW s)))
theorem macA_size (s : ByteArray) : (macA s).size = 32 := sumB_size _ _
theorem macP {s : ByteArray} (hs : s.size ≤ 16800000) : Ctr Tryz.prog 86 [.str kalW, .str s] [] [] 0 0 (.str (macA s)) [] := by
  have h1 : innW.size = 64 := rfl
  have h2 : outW.size = 64 := rfl
  have h3 := sumB_size K64 (catB innW s)
  refine Ctr.shut (m := 2) (k := 2) ?_ rfl rfl
  refine Ctr.introR (T := Tryz.T) Tryz.hT Tryz.hM Tryz.hE Tryz.func86 rfl (by kernel_rfl) rfl rfl rfl rfl ?_
  conv => whnf
  refine callR [0, 2] turnA rfl rfl rfl rfl trivial ⟨rfl, trivial⟩ ?_
  conv => whnf
  refine callR [0, 2] turnB rfl rfl rfl rfl trivial ⟨rfl, trivial⟩ ?_
  conv => whnf
  refine ⟨by unfold big; omega, ?_⟩
  conv => whnf
  refine callR [] (sumP (catB innW s) (by rw [cat_size]; omega)) rfl rfl rfl rfl trivial trivial ?_
  conv => whnf
  refine ⟨by unfold big; omega, ?_⟩
  conv => whnf
  refine callR [] (sumP (catB outW (sumB K64 (catB innW s))) (by rw [cat_size]; omega)) rfl rfl rfl rfl trivial trivial ?_
  generalize hv : sumB K64 (catB outW (sumB K64 (catB innW s))) = v
  have hv2 : macA s = v := hv
  rw [hv2]
  conv => whnf
  refine .mk' [] rfl rfl rfl rfl rfl rfl trivial
theorem addP {w s : ByteArray} {e : Int} (h : w.size + s.size ≤ big) : Ctr Tryz.prog 91 [.ptr 0 0, .str s, .int .i64 e] [] [(0, .box 144 [.str w, .int .i64 0])] 1 1 (.tup []) [(0, .box 144 [.str (catB w s), .int .i64 e])] := by
  refine Ctr.introR (T := Tryz.T) Tryz.hT Tryz.hM Tryz.hE Tryz.func91 rfl (by kernel_rfl) rfl rfl rfl rfl ?_
  conv => whnf
  refine ⟨h, ?_⟩
  conv => whnf
  exact .mk' [] rfl rfl rfl rfl rfl rfl ⟨rfl, trivial⟩
def headB (c : ByteArray) (h t : Int) (r : ByteArray) : ByteArray := catB (catB (catB (catB ⟨#[]⟩ (textS c)) (numS h)) (numS t)) (textS r)
noncomputable def hdA (c : ByteArray) (h t : Int) (r m : ByteArray) : AV := .agg [.str c, .int .i64 h, .int .i64 t, .str r, .str m]
def okH3 (c : ByteArray) (h t : Int) (r : ByteArray) : Prop := c.size ≤ 65536 ∧ (0 ≤ h ∧ h ≤ 9007199254740992) ∧ (0 ≤ t ∧ t ≤ 9007199254740992) ∧ r.size ≤ 65536
theorem headB_size (c : ByteArray) (h t : Int) (r : ByteArray) : (headB c h t r).size ≤ 131104 := by
  have := textS_size c; have := textS_size r; have := numS_size h; have := numS_size t
  unfold headB
  simp only [cat_size, nil_size]; omega
theorem bodyP {c r m : ByteArray} {h t : Int} (ok : okH3 c h t r) : Ctr Tryz.prog 85 [hdA c h t r m] [] [] 0 1 (.ptr 0 0) [(0, .box 144 [.str (headB c h t r), .int .i64 0])] := by
  obtain ⟨o1, o2, o3, o4⟩ := ok
  have := textS_size c; have := textS_size r; have := numS_size h; have := numS_size t
  refine Ctr.introR (T := Tryz.T) Tryz.hT Tryz.hM puZ_ok Tryz.func85 rfl (by kernel_rfl) rfl rfl rfl rfl ?_
  conv => whnf
  rw [textE_ok o1]
  refine callR [1] (addP (by rw [nil_size]; unfold big; omega)) rfl rfl rfl rfl trivial ⟨rfl, trivial⟩ ?_
  conv => whnf
  rw [numE_ok o2.1 o2.2]
  refine callR [1] (addP (by simp only [cat_size, nil_size]; unfold big; omega)) rfl rfl rfl rfl trivial ⟨rfl, trivial⟩ ?_
  conv => whnf
  rw [numE_ok o3.1 o3.2]
  refine callR [1] (addP (by simp only [cat_size, nil_size]; unfold big; omega)) rfl rfl rfl rfl trivial ⟨rfl, trivial⟩ ?_
  conv => whnf
  rw [textE_ok o4]
  refine callR [1] (addP (by simp only [cat_size, nil_size]; unfold big; omega)) rfl rfl rfl rfl trivial ⟨rfl, trivial⟩ ?_
  conv => whnf
  exact .mk' [1] rfl rfl rfl rfl rfl rfl ⟨rfl, trivial⟩
theorem signP {r m : ByteArray} {c : ByteArray} {h t : Int} (ok : okH3 c h t r) : Ctr Tryz.prog 54 [.str kalW, hdA c h t r m] [] [] 0 0 (.tup [hdA c h t r (macA (headB c h t r)), .int .i64 0]) [] := by
  have hs := headB_size c h t r
  refine Ctr.shut (m := 0) (k := 0) ?_ rfl rfl
  refine Ctr.introR (T := Tryz.T) Tryz.hT Tryz.hM puZ_ok Tryz.func54 rfl (by kernel_rfl) rfl rfl rfl rfl ?_
  conv => whnf
  refine callR [] (bodyP ok) rfl rfl rfl rfl trivial trivial ?_
  conv => whnf
  refine callR [] (macP (s := headB c h t r) (by omega)) rfl rfl rfl rfl trivial trivial ?_
  generalize macA (headB c h t r) = v
  conv => whnf
  exact .mk' [] rfl rfl rfl rfl rfl rfl trivial
theorem hputP {r m : ByteArray} {c : ByteArray} {h t : Int} (ok : okH3 c h t r) (hm : m.size ≤ 65536) : Ctr Tryz.prog 56 [hdA c h t r m] [] [] 0 0 (.tup [.str (catB (headB c h t r) (textS m)), .int .i64 0]) [] := by
  have hs := headB_size c h t r
  have hz := textS_size m
  refine Ctr.shut (m := 0) (k := 0) ?_ rfl rfl
  refine Ctr.introR (T := Tryz.T) Tryz.hT Tryz.hM puZ_ok Tryz.func56 rfl (by kernel_rfl) rfl rfl rfl rfl ?_
  conv => whnf
  refine callR [] (bodyP ok) rfl rfl rfl rfl trivial trivial ?_
  conv => whnf
  rw [textE_ok hm]
  refine callR [1] (addP (w := headB c h t r) (s := textS m) (by unfold big; omega)) rfl rfl rfl rfl trivial ⟨rfl, trivial⟩ ?_
  conv => whnf
  exact .mk' [] rfl rfl rfl rfl rfl rfl trivial
end Go.Proofs.YtglkoaajgekonaaGreatDoor
