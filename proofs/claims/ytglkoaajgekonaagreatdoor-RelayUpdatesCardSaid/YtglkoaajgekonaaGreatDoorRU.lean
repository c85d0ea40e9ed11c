/- RelayUpdates: the message of a chain's last header, and the law. -/
import Derived.Test.YtglkoaajgekonaaGreatDoorBG
namespace Go.Proofs.YtglkoaajgekonaaGreatDoor
open Go.SX
theorem height0 (L : List KV) : Ctr Tryz.prog 15 [.ptr 0 0] [] [(0, cbox (.nils))] 3 3 (.int .i64 0) [(0, cbox (.nils))] := by
  refine Ctr.introR (T := Tryz.T) Tryz.hT Tryz.hM puZ_ok Tryz.func15 rfl (by kernel_rfl) rfl rfl rfl rfl ?_
  conv => whnf
  exact .mk' [] rfl rfl rfl rfl rfl rfl ⟨rfl, trivial⟩
theorem at0 (L : List KV) : Ctr Tryz.prog 34 [.ptr 0 0, .int .i64 0] [] [(0, cbox (.nils))] 3 3 (.tup [.agg [.str ⟨#[]⟩, .nils], .int .i64 13]) [(0, cbox (.nils))] := by
  refine Ctr.introR (T := Tryz.T) Tryz.hT Tryz.hM puZ_ok Tryz.func34 rfl (by kernel_rfl) rfl rfl rfl rfl ?_
  conv => whnf
  exact .mk' [] rfl rfl rfl rfl rfl rfl ⟨rfl, trivial⟩
theorem header0 (L : List KV) : Ctr Tryz.prog 14 [.ptr 0 0, .int .i64 0] [] [(0, cbox (.nils))] 3 3 (.tup [.str ⟨#[]⟩, .int .i64 13]) [(0, cbox (.nils))] := by
  refine Ctr.introR (T := Tryz.T) Tryz.hT Tryz.hM puZ_ok Tryz.func14 rfl (by kernel_rfl) rfl rfl rfl rfl ?_
  conv => whnf
  refine callR [0, 1, 2] (at0 L) rfl rfl rfl rfl trivial ⟨rfl, trivial⟩ ?_
  conv => whnf
  exact .mk' [] rfl rfl rfl rfl rfl rfl ⟨rfl, trivial⟩
theorem height1 (L : List KV) : Ctr Tryz.prog 15 [.ptr 0 0] [] [(0, cbox (.sv 2 2 0 1 none)), (2, .row 74 2 [.str (rawB L 1), .sv 3 2 0 L.length (some L.length)] none)] 4 4 (.int .i64 1) [(0, cbox (.sv 2 2 0 1 none)), (2, .row 74 2 [.str (rawB L 1), .sv 3 2 0 L.length (some L.length)] none)] := by
  refine Ctr.introR (T := Tryz.T) Tryz.hT Tryz.hM puZ_ok Tryz.func15 rfl (by kernel_rfl) rfl rfl rfl rfl ?_
  conv => whnf
  exact .mk' [] rfl rfl rfl rfl rfl rfl ⟨rfl, rfl, trivial⟩
theorem at1 (L : List KV) : Ctr Tryz.prog 34 [.ptr 0 0, .int .i64 1] [] [(0, cbox (.sv 2 2 0 1 none)), (2, .row 74 2 [.str (rawB L 1), .sv 3 2 0 L.length (some L.length)] none)] 4 4 (.tup [.agg [.str (rawB L 1), .sv 3 2 0 L.length (some L.length)], .int .i64 0]) [(0, cbox (.sv 2 2 0 1 none)), (2, .row 74 2 [.str (rawB L 1), .sv 3 2 0 L.length (some L.length)] none)] := by
  refine Ctr.introR (T := Tryz.T) Tryz.hT Tryz.hM puZ_ok Tryz.func34 rfl (by kernel_rfl) rfl rfl rfl rfl ?_
  conv => whnf
  refine ⟨by decide, ?_⟩
  conv => whnf
  exact .mk' [] rfl rfl rfl rfl rfl rfl ⟨rfl, rfl, trivial⟩
theorem header1 (L : List KV) : Ctr Tryz.prog 14 [.ptr 0 0, .int .i64 1] [] [(0, cbox (.sv 2 2 0 1 none)), (2, .row 74 2 [.str (rawB L 1), .sv 3 2 0 L.length (some L.length)] none)] 4 4 (.tup [.str (rawB L 1), .int .i64 0]) [(0, cbox (.sv 2 2 0 1 none)), (2, .row 74 2 [.str (rawB L 1), .sv 3 2 0 L.length (some L.length)] none)] := by
  refine Ctr.introR (T := Tryz.T) Tryz.hT Tryz.hM puZ_ok Tryz.func14 rfl (by kernel_rfl) rfl rfl rfl rfl ?_
  conv => whnf
  refine callR [0, 1, 2, 3] (at1 L) rfl rfl rfl rfl trivial ⟨rfl, rfl, trivial⟩ ?_
  conv => whnf
  exact .mk' [] rfl rfl rfl rfl rfl rfl ⟨rfl, rfl, trivial⟩
theorem height2 (L : List KV) : Ctr Tryz.prog 15 [.ptr 0 0] [] [(0, cbox (.sv 2 2 0 2 none)), (2, .row 74 2 [.str (rawB L 1), .sv 3 2 0 L.length (some L.length), .str (rawB L 2), .sv 4 2 0 L.length (some L.length)] none)] 5 5 (.int .i64 2) [(0, cbox (.sv 2 2 0 2 none)), (2, .row 74 2 [.str (rawB L 1), .sv 3 2 0 L.length (some L.length), .str (rawB L 2), .sv 4 2 0 L.length (some L.length)] none)] := by
  refine Ctr.introR (T := Tryz.T) Tryz.hT Tryz.hM puZ_ok Tryz.func15 rfl (by kernel_rfl) rfl rfl rfl rfl ?_
  conv => whnf
  exact .mk' [] rfl rfl rfl rfl rfl rfl ⟨rfl, rfl, trivial⟩
theorem at2 (L : List KV) : Ctr Tryz.prog 34 [.ptr 0 0, .int .i64 2] [] [(0, cbox (.sv 2 2 0 2 none)), (2, .row 74 2 [.str (rawB L 1), .sv 3 2 0 L.length (some L.length), .str (rawB L 2), .sv 4 2 0 L.length (some L.length)] none)] 5 5 (.tup [.agg [.str (rawB L 2), .sv 4 2 0 L.length (some L.length)], .int .i64 0]) [(0, cbox (.sv 2 2 0 2 none)), (2, .row 74 2 [.str (rawB L 1), .sv 3 2 0 L.length (some L.length), .str (rawB L 2), .sv 4 2 0 L.length (some L.length)] none)] := by
  refine Ctr.introR (T := Tryz.T) Tryz.hT Tryz.hM puZ_ok Tryz.func34 rfl (by kernel_rfl) rfl rfl rfl rfl ?_
  conv => whnf
  refine ⟨by decide, ?_⟩
  conv => whnf
  exact .mk' [] rfl rfl rfl rfl rfl rfl ⟨rfl, rfl, trivial⟩
theorem header2 (L : List KV) : Ctr Tryz.prog 14 [.ptr 0 0, .int .i64 2] [] [(0, cbox (.sv 2 2 0 2 none)), (2, .row 74 2 [.str (rawB L 1), .sv 3 2 0 L.length (some L.length), .str (rawB L 2), .sv 4 2 0 L.length (some L.length)] none)] 5 5 (.tup [.str (rawB L 2), .int .i64 0]) [(0, cbox (.sv 2 2 0 2 none)), (2, .row 74 2 [.str (rawB L 1), .sv 3 2 0 L.length (some L.length), .str (rawB L 2), .sv 4 2 0 L.length (some L.length)] none)] := by
  refine Ctr.introR (T := Tryz.T) Tryz.hT Tryz.hM puZ_ok Tryz.func14 rfl (by kernel_rfl) rfl rfl rfl rfl ?_
  conv => whnf
  refine callR [0, 1, 2, 3, 4] (at2 L) rfl rfl rfl rfl trivial ⟨rfl, rfl, trivial⟩ ?_
  conv => whnf
  exact .mk' [] rfl rfl rfl rfl rfl rfl ⟨rfl, rfl, trivial⟩
theorem height3 (L : List KV) : Ctr Tryz.prog 15 [.ptr 0 0] [] [(0, cbox (.sv 2 2 0 3 none)), (2, .row 74 2 [.str (rawB L 1), .sv 3 2 0 L.length (some L.length), .str (rawB L 2), .sv 4 2 0 L.length (some L.length), .str (rawB L 3), .sv 5 2 0 L.length (some L.length)] none)] 6 6 (.int .i64 3) [(0, cbox (.sv 2 2 0 3 none)), (2, .row 74 2 [.str (rawB L 1), .sv 3 2 0 L.length (some L.length), .str (rawB L 2), .sv 4 2 0 L.length (some L.length), .str (rawB L 3), .sv 5 2 0 L.length (some L.length)] none)] := by
  refine Ctr.introR (T := Tryz.T) Tryz.hT Tryz.hM puZ_ok Tryz.func15 rfl (by kernel_rfl) rfl rfl rfl rfl ?_
  conv => whnf
  exact .mk' [] rfl rfl rfl rfl rfl rfl ⟨rfl, rfl, trivial⟩
theorem at3 (L : List KV) : Ctr Tryz.prog 34 [.ptr 0 0, .int .i64 3] [] [(0, cbox (.sv 2 2 0 3 none)), (2, .row 74 2 [.str (rawB L 1), .sv 3 2 0 L.length (some L.length), .str (rawB L 2), .sv 4 2 0 L.length (some L.length), .str (rawB L 3), .sv 5 2 0 L.length (some L.length)] none)] 6 6 (.tup [.agg [.str (rawB L 3), .sv 5 2 0 L.length (some L.length)], .int .i64 0]) [(0, cbox (.sv 2 2 0 3 none)), (2, .row 74 2 [.str (rawB L 1), .sv 3 2 0 L.length (some L.length), .str (rawB L 2), .sv 4 2 0 L.length (some L.length), .str (rawB L 3), .sv 5 2 0 L.length (some L.length)] none)] := by
  refine Ctr.introR (T := Tryz.T) Tryz.hT Tryz.hM puZ_ok Tryz.func34 rfl (by kernel_rfl) rfl rfl rfl rfl ?_
  conv => whnf
  refine ⟨by decide, ?_⟩
  conv => whnf
  exact .mk' [] rfl rfl rfl rfl rfl rfl ⟨rfl, rfl, trivial⟩
theorem header3 (L : List KV) : Ctr Tryz.prog 14 [.ptr 0 0, .int .i64 3] [] [(0, cbox (.sv 2 2 0 3 none)), (2, .row 74 2 [.str (rawB L 1), .sv 3 2 0 L.length (some L.length), .str (rawB L 2), .sv 4 2 0 L.length (some L.length), .str (rawB L 3), .sv 5 2 0 L.length (some L.length)] none)] 6 6 (.tup [.str (rawB L 3), .int .i64 0]) [(0, cbox (.sv 2 2 0 3 none)), (2, .row 74 2 [.str (rawB L 1), .sv 3 2 0 L.length (some L.length), .str (rawB L 2), .sv 4 2 0 L.length (some L.length), .str (rawB L 3), .sv 5 2 0 L.length (some L.length)] none)] := by
  refine Ctr.introR (T := Tryz.T) Tryz.hT Tryz.hM puZ_ok Tryz.func14 rfl (by kernel_rfl) rfl rfl rfl rfl ?_
  conv => whnf
  refine callR [0, 1, 2, 3, 4, 5] (at3 L) rfl rfl rfl rfl trivial ⟨rfl, rfl, trivial⟩ ?_
  conv => whnf
  exact .mk' [] rfl rfl rfl rfl rfl rfl ⟨rfl, rfl, trivial⟩
theorem height4 (L : List KV) : Ctr Tryz.prog 15 [.ptr 0 0] [] [(0, cbox (.sv 2 2 0 4 none)), (2, .row 74 2 [.str (rawB L 1), .sv 3 2 0 L.length (some L.length), .str (rawB L 2), .sv 4 2 0 L.length (some L.length), .str (rawB L 3), .sv 5 2 0 L.length (some L.length), .str (rawB L 4), .sv 6 2 0 L.length (some L.length)] none)] 7 7 (.int .i64 4) [(0, cbox (.sv 2 2 0 4 none)), (2, .row 74 2 [.str (rawB L 1), .sv 3 2 0 L.length (some L.length), .str (rawB L 2), .sv 4 2 0 L.length (some L.length), .str (rawB L 3), .sv 5 2 0 L.length (some L.length), .str (rawB L 4), .sv 6 2 0 L.length (some L.length)] none)] := by
  refine Ctr.introR (T := Tryz.T) Tryz.hT Tryz.hM puZ_ok Tryz.func15 rfl (by kernel_rfl) rfl rfl rfl rfl ?_
  conv => whnf
  exact .mk' [] rfl rfl rfl rfl rfl rfl ⟨rfl, rfl, trivial⟩
theorem at4 (L : List KV) : Ctr Tryz.prog 34 [.ptr 0 0, .int .i64 4] [] [(0, cbox (.sv 2 2 0 4 none)), (2, .row 74 2 [.str (rawB L 1), .sv 3 2 0 L.length (some L.length), .str (rawB L 2), .sv 4 2 0 L.length (some L.length), .str (rawB L 3), .sv 5 2 0 L.length (some L.length), .str (rawB L 4), .sv 6 2 0 L.length (some L.length)] none)] 7 7 (.tup [.agg [.str (rawB L 4), .sv 6 2 0 L.length (some L.length)], .int .i64 0]) [(0, cbox (.sv 2 2 0 4 none)), (2, .row 74 2 [.str (rawB L 1), .sv 3 2 0 L.length (some L.length), .str (rawB L 2), .sv 4 2 0 L.length (some L.length), .str (rawB L 3), .sv 5 2 0 L.length (some L.length), .str (rawB L 4), .sv 6 2 0 L.length (some L.length)] none)] := by
  refine Ctr.introR (T := Tryz.T) Tryz.hT Tryz.hM puZ_ok Tryz.func34 rfl (by kernel_rfl) rfl rfl rfl rfl ?_
  conv => whnf
  refine ⟨by decide, ?_⟩
  conv => whnf
  exact .mk' [] rfl rfl rfl rfl rfl rfl ⟨rfl, rfl, trivial⟩
theorem header4 (L : List KV) : Ctr Tryz.prog 14 [.ptr 0 0, .int .i64 4] [] [(0, cbox (.sv 2 2 0 4 none)), (2, .row 74 2 [.str (rawB L 1), .sv 3 2 0 L.length (some L.length), .str (rawB L 2), .sv 4 2 0 L.length (some L.length), .str (rawB L 3), .sv 5 2 0 L.length (some L.length), .str (rawB L 4), .sv 6 2 0 L.length (some L.length)] none)] 7 7 (.tup [.str (rawB L 4), .int .i64 0]) [(0, cbox (.sv 2 2 0 4 none)), (2, .row 74 2 [.str (rawB L 1), .sv 3 2 0 L.length (some L.length), .str (rawB L 2), .sv 4 2 0 L.length (some L.length), .str (rawB L 3), .sv 5 2 0 L.length (some L.length), .str (rawB L 4), .sv 6 2 0 L.length (some L.length)] none)] := by
  refine Ctr.introR (T := Tryz.T) Tryz.hT Tryz.hM puZ_ok Tryz.func14 rfl (by kernel_rfl) rfl rfl rfl rfl ?_
  conv => whnf
  refine callR [0, 1, 2, 3, 4, 5, 6] (at4 L) rfl rfl rfl rfl trivial ⟨rfl, rfl, trivial⟩ ?_
  conv => whnf
  exact .mk' [] rfl rfl rfl rfl rfl rfl ⟨rfl, rfl, trivial⟩
def cl0W : ByteArray := ⟨#[99, 108, 105, 101, 110, 116, 45, 48]⟩
theorem kind12 : Kind 12 2 0 := ⟨⟨false, clo (by kernel_rfl) rfl rfl⟩, clo (by kernel_rfl) rfl rfl, clo (by kernel_rfl) rfl rfl⟩
theorem rawB_size (L : List KV) (h : Nat) : (rawB L h).size ≤ 200 := by
  have a := textS_small alW; have b := textS_small (rootB L); have c := textS_small (macA (headB alW (h : Int) 0 (rootB L)))
  have d := numS_size (h : Int); have e := numS_size 0
  rw [rootB_size] at b
  rw [macA_size] at c
  have f : alW.size = 5 := rfl
  unfold rawB
  rw [cat_size]
  generalize textS (macA (headB alW (h : Int) 0 (rootB L))) = m at c ⊢
  unfold headB
  simp only [cat_size, nil_size]
  omega
theorem two_short (L : List KV) (h : Nat) : shortL [cl0W, rawB L h] := by
  intro s hs
  have := rawB_size L h
  have h0 : cl0W.size = 8 := rfl
  simp only [List.mem_cons, List.not_mem_nil, or_false] at hs
  rcases hs with rfl | rfl <;> omega
theorem put12 (L : List KV) (h : Nat) : Ctr Tryz.prog 33 [.int .i64 12, .nils, .sv 0 1 0 2 (some 2)] [] [(0, rowS [cl0W, rawB L h] (some 2))] 1 1 (.tup [.str (msgB 12 [cl0W, rawB L h] []), .int .i64 0]) [(0, rowS [cl0W, rawB L h] (some 2))] := by
  refine Ctr.introR (T := Tryz.T) Tryz.hT Tryz.hM puZ_ok Tryz.func33 rfl (by kernel_rfl) rfl rfl ?_ rfl ?_
  · simp [okH_all, rowS_ok]
  conv => whnf
  refine callR [0] (putP0 (k := 12) (l := [cl0W, rawB L h]) kind12 (some 2) (by show 2 ≤ 256; decide) (two_short L h)) (post' := [(0, rowS [cl0W, rawB L h] (some 2))]) (by simp only [renH, rowS_ren]; rfl) rfl rfl rfl trivial ⟨rowS_at _ rfl, trivial⟩ ?_
  conv => whnf
  refine Fin.same ?_ rfl ?_
  · simp [okH_all, rowS_ok]
  · intro p hp
    simp only [List.mem_cons, List.not_mem_nil, or_false] at hp
    rcases hp with rfl <;> rfl
theorem update0 (L : List KV) : Ctr Tryz.prog 13 [.ptr 0 0] [] [(0, cbox (.nils))] 3 3 (.tup [.str ⟨#[]⟩, .int .i64 13]) [(0, cbox (.nils))] := by
  refine Ctr.introR (T := Tryz.T) Tryz.hT Tryz.hM puZ_ok Tryz.func13 rfl (by kernel_rfl) rfl rfl rfl rfl ?_
  conv => whnf
  refine callR [0, 1, 2] (height0 L) rfl rfl rfl rfl trivial ⟨rfl, trivial⟩ ?_
  conv => whnf
  refine callR [0, 1, 2] (header0 L) rfl rfl rfl rfl trivial ⟨rfl, trivial⟩ ?_
  conv => whnf
  exact .mk' [] rfl rfl rfl rfl rfl rfl ⟨rfl, trivial⟩
theorem update1 (L : List KV) : Ctr Tryz.prog 13 [.ptr 0 0] [] [(0, cbox (.sv 2 2 0 1 none)), (2, .row 74 2 [.str (rawB L 1), .sv 3 2 0 L.length (some L.length)] none)] 4 4 (.tup [.str (msgB 12 [cl0W, rawB L 1] []), .int .i64 0]) [(0, cbox (.sv 2 2 0 1 none)), (2, .row 74 2 [.str (rawB L 1), .sv 3 2 0 L.length (some L.length)] none)] := by
  refine Ctr.introR (T := Tryz.T) Tryz.hT Tryz.hM puZ_ok Tryz.func13 rfl (by kernel_rfl) rfl rfl rfl rfl ?_
  conv => whnf
  refine callR [0, 1, 2, 3] (height1 L) rfl rfl rfl rfl trivial ⟨rfl, rfl, trivial⟩ ?_
  conv => whnf
  refine callR [0, 1, 2, 3] (header1 L) rfl rfl rfl rfl trivial ⟨rfl, rfl, trivial⟩ ?_
  conv => whnf
  refine callR [4] (put12 L 1) (post' := [(4, rowS [cl0W, rawB L 1] (some 2))]) (by simp only [renH, rowS_ren]; rfl) rfl rfl rfl trivial ⟨rowS_at _ rfl, trivial⟩ ?_
  conv => whnf
  exact .mk' [] rfl rfl rfl rfl rfl rfl ⟨rfl, rfl, trivial⟩
theorem update2 (L : List KV) : Ctr Tryz.prog 13 [.ptr 0 0] [] [(0, cbox (.sv 2 2 0 2 none)), (2, .row 74 2 [.str (rawB L 1), .sv 3 2 0 L.length (some L.length), .str (rawB L 2), .sv 4 2 0 L.length (some L.length)] none)] 5 5 (.tup [.str (msgB 12 [cl0W, rawB L 2] []), .int .i64 0]) [(0, cbox (.sv 2 2 0 2 none)), (2, .row 74 2 [.str (rawB L 1), .sv 3 2 0 L.length (some L.length), .str (rawB L 2), .sv 4 2 0 L.length (some L.length)] none)] := by
  refine Ctr.introR (T := Tryz.T) Tryz.hT Tryz.hM puZ_ok Tryz.func13 rfl (by kernel_rfl) rfl rfl rfl rfl ?_
  conv => whnf
  refine callR [0, 1, 2, 3, 4] (height2 L) rfl rfl rfl rfl trivial ⟨rfl, rfl, trivial⟩ ?_
  conv => whnf
  refine callR [0, 1, 2, 3, 4] (header2 L) rfl rfl rfl rfl trivial ⟨rfl, rfl, trivial⟩ ?_
  conv => whnf
  refine callR [5] (put12 L 2) (post' := [(5, rowS [cl0W, rawB L 2] (some 2))]) (by simp only [renH, rowS_ren]; rfl) rfl rfl rfl trivial ⟨rowS_at _ rfl, trivial⟩ ?_
  conv => whnf
  exact .mk' [] rfl rfl rfl rfl rfl rfl ⟨rfl, rfl, trivial⟩
theorem update3 (L : List KV) : Ctr Tryz.prog 13 [.ptr 0 0] [] [(0, cbox (.sv 2 2 0 3 none)), (2, .row 74 2 [.str (rawB L 1), .sv 3 2 0 L.length (some L.length), .str (rawB L 2), .sv 4 2 0 L.length (some L.length), .str (rawB L 3), .sv 5 2 0 L.length (some L.length)] none)] 6 6 (.tup [.str (msgB 12 [cl0W, rawB L 3] []), .int .i64 0]) [(0, cbox (.sv 2 2 0 3 none)), (2, .row 74 2 [.str (rawB L 1), .sv 3 2 0 L.length (some L.length), .str (rawB L 2), .sv 4 2 0 L.length (some L.length), .str (rawB L 3), .sv 5 2 0 L.length (some L.length)] none)] := by
  refine Ctr.introR (T := Tryz.T) Tryz.hT Tryz.hM puZ_ok Tryz.func13 rfl (by kernel_rfl) rfl rfl rfl rfl ?_
  conv => whnf
  refine callR [0, 1, 2, 3, 4, 5] (height3 L) rfl rfl rfl rfl trivial ⟨rfl, rfl, trivial⟩ ?_
  conv => whnf
  refine callR [0, 1, 2, 3, 4, 5] (header3 L) rfl rfl rfl rfl trivial ⟨rfl, rfl, trivial⟩ ?_
  conv => whnf
  refine callR [6] (put12 L 3) (post' := [(6, rowS [cl0W, rawB L 3] (some 2))]) (by simp only [renH, rowS_ren]; rfl) rfl rfl rfl trivial ⟨rowS_at _ rfl, trivial⟩ ?_
  conv => whnf
  exact .mk' [] rfl rfl rfl rfl rfl rfl ⟨rfl, rfl, trivial⟩
theorem update4 (L : List KV) : Ctr Tryz.prog 13 [.ptr 0 0] [] [(0, cbox (.sv 2 2 0 4 none)), (2, .row 74 2 [.str (rawB L 1), .sv 3 2 0 L.length (some L.length), .str (rawB L 2), .sv 4 2 0 L.length (some L.length), .str (rawB L 3), .sv 5 2 0 L.length (some L.length), .str (rawB L 4), .sv 6 2 0 L.length (some L.length)] none)] 7 7 (.tup [.str (msgB 12 [cl0W, rawB L 4] []), .int .i64 0]) [(0, cbox (.sv 2 2 0 4 none)), (2, .row 74 2 [.str (rawB L 1), .sv 3 2 0 L.length (some L.length), .str (rawB L 2), .sv 4 2 0 L.length (some L.length), .str (rawB L 3), .sv 5 2 0 L.length (some L.length), .str (rawB L 4), .sv 6 2 0 L.length (some L.length)] none)] := by
  refine Ctr.introR (T := Tryz.T) Tryz.hT Tryz.hM puZ_ok Tryz.func13 rfl (by kernel_rfl) rfl rfl rfl rfl ?_
  conv => whnf
  refine callR [0, 1, 2, 3, 4, 5, 6] (height4 L) rfl rfl rfl rfl trivial ⟨rfl, rfl, trivial⟩ ?_
  conv => whnf
  refine callR [0, 1, 2, 3, 4, 5, 6] (header4 L) rfl rfl rfl rfl trivial ⟨rfl, rfl, trivial⟩ ?_
  conv => whnf
  refine callR [7] (put12 L 4) (post' := [(7, rowS [cl0W, rawB L 4] (some 2))]) (by simp only [renH, rowS_ren]; rfl) rfl rfl rfl trivial ⟨rowS_at _ rfl, trivial⟩ ?_
  conv => whnf
  exact .mk' [] rfl rfl rfl rfl rfl rfl ⟨rfl, rfl, trivial⟩
theorem updates1 (aw : Ctr Tryz.prog 6 [] [] [] 0 0 (.bool true) []) {cl : Nat → Nat → AV} {len : Nat} (hl : isKV cl len) {b : Int} (hb : 0 ≤ b ∧ b ≤ 255) :
    Ctr Tryz.prog 4 [.sl 0 len, .int .u8 b] [(0, lstC cl len)] [] 1 1 (.bool true) [] := by
  refine Ctr.introR (T := Tryz.T) Tryz.hT Tryz.hM puZ_ok Tryz.func4 rfl (by kernel_rfl) rfl rfl rfl rfl ?_
  conv => whnf
  by_cases h8 : len ≤ 8
  · rw [show decide ((8 : Int) < (len : Int)) = false by simp; omega]
    conv => whnf
    rcases (by rw [Int.tmod_eq_emod_of_nonneg hb.1]; omega : b.tmod 5 = 0 ∨ b.tmod 5 = 1 ∨ b.tmod 5 = 2 ∨ b.tmod 5 = 3 ∨ b.tmod 5 = 4) with e | e | e | e | e
    · rw [e, show IntKind.i64.wrap 0 = 0 from rfl]
      refine callR [0] (begin0 hl h8) rfl rfl rfl rfl ⟨rfl, trivial⟩ trivial ?_
      conv => whnf
      refine callR [1, 2, 0] (update0 (LL cl len)) rfl rfl rfl rfl trivial ⟨rfl, trivial⟩ ?_
      conv => whnf
      refine callR [1, 2, 0] (height0 (LL cl len)) rfl rfl rfl rfl trivial ⟨rfl, trivial⟩ ?_
      conv => whnf
      refine callR [1, 2, 0] (header0 (LL cl len)) rfl rfl rfl rfl trivial ⟨rfl, trivial⟩ ?_
      conv => whnf
      refine callR [] aw rfl rfl rfl rfl trivial trivial ?_
      conv => whnf
      exact .mk' [] rfl rfl rfl rfl rfl rfl trivial
    · rw [e, show IntKind.i64.wrap 1 = 1 from rfl]
      refine callR [0] (begin1 hl h8) (post' := [(1, .box 81 [.str alW, .ptr 2 0, .sv 3 2 0 1 none, .int .i64 0, .nils, .nils]), (2, jour (LL cl len)), (3, .row 74 2 [.str (rawB (LL cl len) 1), .sv 4 2 0 (LL cl len).length (some (LL cl len).length)] none), (4, rowD (LL cl len) (some (LL cl len).length))]) (by simp only [renH, rowD_ren]; rfl) rfl rfl rfl ⟨rfl, trivial⟩ trivial ?_
      conv => whnf
      refine callR [1, 2, 3, 4] (update1 (LL cl len)) rfl rfl rfl rfl trivial ⟨rfl, rfl, trivial⟩ ?_
      conv => whnf
      refine callR [1, 2, 3, 4] (height1 (LL cl len)) rfl rfl rfl rfl trivial ⟨rfl, rfl, trivial⟩ ?_
      conv => whnf
      refine callR [1, 2, 3, 4] (header1 (LL cl len)) rfl rfl rfl rfl trivial ⟨rfl, rfl, trivial⟩ ?_
      conv => whnf
      refine callR [5] (putR0 (k := 12) (l := [cl0W, rawB (LL cl len) 1]) kind12 (some 2) (by show 2 ≤ 256; decide) (two_short (LL cl len) 1)) (post' := [(5, rowS [cl0W, rawB (LL cl len) 1] (some 2))]) (by simp only [renH, rowS_ren]; rfl) rfl rfl rfl trivial ⟨rowS_at _ rfl, trivial⟩ ?_
      conv => whnf
      rw [show eqB (msgB 12 [cl0W, rawB (LL cl len) 1] []) (msgB 12 [cl0W, rawB (LL cl len) 1] []) = true by simp [eqB_eq]]
      conv => whnf
      refine callR [] aw rfl rfl rfl rfl trivial trivial ?_
      conv => whnf
      exact .mk' [] rfl rfl rfl rfl rfl rfl trivial
    · rw [e, show IntKind.i64.wrap 2 = 2 from rfl]
      refine callR [0] (begin2 hl h8) (post' := [(1, .box 81 [.str alW, .ptr 2 0, .sv 3 2 0 2 none, .int .i64 0, .nils, .nils]), (2, jour (LL cl len)), (3, .row 74 2 [.str (rawB (LL cl len) 1), .sv 4 2 0 (LL cl len).length (some (LL cl len).length), .str (rawB (LL cl len) 2), .sv 5 2 0 (LL cl len).length (some (LL cl len).length)] none), (4, rowD (LL cl len) (some (LL cl len).length)), (5, rowD (LL cl len) (some (LL cl len).length))]) (by simp only [renH, rowD_ren]; rfl) rfl rfl rfl ⟨rfl, trivial⟩ trivial ?_
      conv => whnf
      refine callR [1, 2, 3, 4, 5] (update2 (LL cl len)) rfl rfl rfl rfl trivial ⟨rfl, rfl, trivial⟩ ?_
      conv => whnf
      refine callR [1, 2, 3, 4, 5] (height2 (LL cl len)) rfl rfl rfl rfl trivial ⟨rfl, rfl, trivial⟩ ?_
      conv => whnf
      refine callR [1, 2, 3, 4, 5] (header2 (LL cl len)) rfl rfl rfl rfl trivial ⟨rfl, rfl, trivial⟩ ?_
      conv => whnf
      refine callR [6] (putR0 (k := 12) (l := [cl0W, rawB (LL cl len) 2]) kind12 (some 2) (by show 2 ≤ 256; decide) (two_short (LL cl len) 2)) (post' := [(6, rowS [cl0W, rawB (LL cl len) 2] (some 2))]) (by simp only [renH, rowS_ren]; rfl) rfl rfl rfl trivial ⟨rowS_at _ rfl, trivial⟩ ?_
      conv => whnf
      rw [show eqB (msgB 12 [cl0W, rawB (LL cl len) 2] []) (msgB 12 [cl0W, rawB (LL cl len) 2] []) = true by simp [eqB_eq]]
      conv => whnf
      refine callR [] aw rfl rfl rfl rfl trivial trivial ?_
      conv => whnf
      exact .mk' [] rfl rfl rfl rfl rfl rfl trivial
    · rw [e, show IntKind.i64.wrap 3 = 3 from rfl]
      refine callR [0] (begin3 hl h8) (post' := [(1, .box 81 [.str alW, .ptr 2 0, .sv 3 2 0 3 none, .int .i64 0, .nils, .nils]), (2, jour (LL cl len)), (3, .row 74 2 [.str (rawB (LL cl len) 1), .sv 4 2 0 (LL cl len).length (some (LL cl len).length), .str (rawB (LL cl len) 2), .sv 5 2 0 (LL cl len).length (some (LL cl len).length), .str (rawB (LL cl len) 3), .sv 6 2 0 (LL cl len).length (some (LL cl len).length)] none), (4, rowD (LL cl len) (some (LL cl len).length)), (5, rowD (LL cl len) (some (LL cl len).length)), (6, rowD (LL cl len) (some (LL cl len).length))]) (by simp only [renH, rowD_ren]; rfl) rfl rfl rfl ⟨rfl, trivial⟩ trivial ?_
      conv => whnf
      refine callR [1, 2, 3, 4, 5, 6] (update3 (LL cl len)) rfl rfl rfl rfl trivial ⟨rfl, rfl, trivial⟩ ?_
      conv => whnf
      refine callR [1, 2, 3, 4, 5, 6] (height3 (LL cl len)) rfl rfl rfl rfl trivial ⟨rfl, rfl, trivial⟩ ?_
      conv => whnf
      refine callR [1, 2, 3, 4, 5, 6] (header3 (LL cl len)) rfl rfl rfl rfl trivial ⟨rfl, rfl, trivial⟩ ?_
      conv => whnf
      refine callR [7] (putR0 (k := 12) (l := [cl0W, rawB (LL cl len) 3]) kind12 (some 2) (by show 2 ≤ 256; decide) (two_short (LL cl len) 3)) (post' := [(7, rowS [cl0W, rawB (LL cl len) 3] (some 2))]) (by simp only [renH, rowS_ren]; rfl) rfl rfl rfl trivial ⟨rowS_at _ rfl, trivial⟩ ?_
      conv => whnf
      rw [show eqB (msgB 12 [cl0W, rawB (LL cl len) 3] []) (msgB 12 [cl0W, rawB (LL cl len) 3] []) = true by simp [eqB_eq]]
      conv => whnf
      refine callR [] aw rfl rfl rfl rfl trivial trivial ?_
      conv => whnf
      exact .mk' [] rfl rfl rfl rfl rfl rfl trivial
    · rw [e, show IntKind.i64.wrap 4 = 4 from rfl]
      refine callR [0] (begin4 hl h8) (post' := [(1, .box 81 [.str alW, .ptr 2 0, .sv 3 2 0 4 none, .int .i64 0, .nils, .nils]), (2, jour (LL cl len)), (3, .row 74 2 [.str (rawB (LL cl len) 1), .sv 4 2 0 (LL cl len).length (some (LL cl len).length), .str (rawB (LL cl len) 2), .sv 5 2 0 (LL cl len).length (some (LL cl len).length), .str (rawB (LL cl len) 3), .sv 6 2 0 (LL cl len).length (some (LL cl len).length), .str (rawB (LL cl len) 4), .sv 7 2 0 (LL cl len).length (some (LL cl len).length)] none), (4, rowD (LL cl len) (some (LL cl len).length)), (5, rowD (LL cl len) (some (LL cl len).length)), (6, rowD (LL cl len) (some (LL cl len).length)), (7, rowD (LL cl len) (some (LL cl len).length))]) (by simp only [renH, rowD_ren]; rfl) rfl rfl rfl ⟨rfl, trivial⟩ trivial ?_
      conv => whnf
      refine callR [1, 2, 3, 4, 5, 6, 7] (update4 (LL cl len)) rfl rfl rfl rfl trivial ⟨rfl, rfl, trivial⟩ ?_
      conv => whnf
      refine callR [1, 2, 3, 4, 5, 6, 7] (height4 (LL cl len)) rfl rfl rfl rfl trivial ⟨rfl, rfl, trivial⟩ ?_
      conv => whnf
      refine callR [1, 2, 3, 4, 5, 6, 7] (header4 (LL cl len)) rfl rfl rfl rfl trivial ⟨rfl, rfl, trivial⟩ ?_
      conv => whnf
      refine callR [8] (putR0 (k := 12) (l := [cl0W, rawB (LL cl len) 4]) kind12 (some 2) (by show 2 ≤ 256; decide) (two_short (LL cl len) 4)) (post' := [(8, rowS [cl0W, rawB (LL cl len) 4] (some 2))]) (by simp only [renH, rowS_ren]; rfl) rfl rfl rfl trivial ⟨rowS_at _ rfl, trivial⟩ ?_
      conv => whnf
      rw [show eqB (msgB 12 [cl0W, rawB (LL cl len) 4] []) (msgB 12 [cl0W, rawB (LL cl len) 4] []) = true by simp [eqB_eq]]
      conv => whnf
      refine callR [] aw rfl rfl rfl rfl trivial trivial ?_
      conv => whnf
      exact .mk' [] rfl rfl rfl rfl rfl rfl trivial
  · rw [show decide ((8 : Int) < (len : Int)) = true by simp; omega]
    conv => whnf
    refine callR [] aw rfl rfl rfl rfl trivial trivial ?_
    conv => whnf
    exact .mk' [] rfl rfl rfl rfl rfl rfl trivial
theorem kv_of {nl : Nat} {cl : Nat → Nat → AV} (h : ∀ (a j : Nat) (k : LK), a < nl → ([.str, .str] : List LK)[j]? = some k → k.okA (cl a j)) : isKV cl nl := by
  intro i hi
  obtain ⟨s, e, _⟩ := h i 0 .str hi rfl
  obtain ⟨s2, e2, _⟩ := h i 1 .str hi rfl
  exact ⟨s, s2, e, e2⟩
theorem relayUpdates_law (aw : Ctr Tryz.prog 6 [] [] [] 0 0 (.bool true) []) : ∀ vs R n, ArgsL [.s [.str, .str], .p (.one (.i .u8))] 0 vs R n → ∃ n', Ctr Tryz.prog 4 vs R [] n n' (.bool true) [] := by
  rintro vs R n ⟨len, cl, vs1, R1, rfl, rfl, _, h1, v, vs2, rfl, ⟨b, rfl, hb⟩, _, rfl, rfl, rfl⟩
  exact ⟨1, updates1 aw (kv_of h1) ⟨show (0 : Int) ≤ b from hb.1, show b ≤ 255 from hb.2⟩⟩
end Go.Proofs.YtglkoaajgekonaaGreatDoor
