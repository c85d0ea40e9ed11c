/- RZZ: what relaySteps_law needs of RY, RZ, WT, RW, RX. -/
import Derived.Test.YtglkoaajgekonaaGreatDoorRA
namespace Go.Proofs.YtglkoaajgekonaaGreatDoor
open Go.SX
def nftW : ByteArray := ⟨#[110, 102, 116]⟩
def icsW : ByteArray := ⟨#[105, 99, 115, 55, 50, 49, 45, 49]⟩
theorem kind15 : Kind 15 3 1 := ⟨⟨false, clo (by kernel_rfl) rfl rfl⟩, clo (by kernel_rfl) rfl rfl, clo (by kernel_rfl) rfl rfl⟩
theorem kind16 : Kind 16 2 1 := ⟨⟨false, clo (by kernel_rfl) rfl rfl⟩, clo (by kernel_rfl) rfl rfl, clo (by kernel_rfl) rfl rfl⟩
theorem kind18 : Kind 18 6 2 := ⟨⟨false, clo (by kernel_rfl) rfl rfl⟩, clo (by kernel_rfl) rfl rfl, clo (by kernel_rfl) rfl rfl⟩
theorem kind19 : Kind 19 4 1 := ⟨⟨false, clo (by kernel_rfl) rfl rfl⟩, clo (by kernel_rfl) rfl rfl, clo (by kernel_rfl) rfl rfl⟩
theorem kind20 : Kind 20 3 1 := ⟨⟨false, clo (by kernel_rfl) rfl rfl⟩, clo (by kernel_rfl) rfl rfl, clo (by kernel_rfl) rfl rfl⟩
theorem relput1 {k : Int} {l : List ByteArray} {x : Int} (hk : Kind k l.length 1) (hn : l.length ≤ 256) (hl : shortL l) (h0 : 0 ≤ x) (h1 : x ≤ 1099511627776) :
    Ctr Tryz.prog 33 [.int .i64 k, .sv 1 1 0 1 none, .sv 0 1 0 l.length none] [] [(0, rowS l none), (1, rowI [x] none)] 2 2 (.tup [.str (msgB k l [x]), .int .i64 0]) [(0, rowS l none), (1, rowI [x] none)] := by
  refine Ctr.introR (T := Tryz.T) Tryz.hT Tryz.hM puZ_ok Tryz.func33 rfl (by kernel_rfl) rfl rfl ?_ rfl ?_
  · simp [okH_all, rowS_ok, rowI_ok]
  conv => whnf
  refine callR [0, 1] (putP1 (k := k) (l := l) hk none hn hl h0 h1) (post' := [(0, rowS l none), (1, rowI [x] none)]) (by simp only [renH, rowS_ren, rowI_ren]; rfl) rfl rfl rfl trivial ⟨rowS_at _ rfl, rowI_at _ rfl, trivial⟩ ?_
  conv => whnf
  refine Fin.same ?_ rfl ?_
  · simp [okH_all, rowS_ok, rowI_ok]
  · intro p hp
    simp only [List.mem_cons, List.not_mem_nil, or_false] at hp
    rcases hp with rfl | rfl <;> rfl
theorem relput2 {k : Int} {l : List ByteArray} {x y : Int} (hk : Kind k l.length 2) (hn : l.length ≤ 256) (hl : shortL l) (h0 : 0 ≤ x) (h1 : x ≤ 1099511627776) (h2 : 0 ≤ y) (h3 : y ≤ 1099511627776) :
    Ctr Tryz.prog 33 [.int .i64 k, .sv 1 1 0 2 none, .sv 0 1 0 l.length none] [] [(0, rowS l none), (1, rowI [x, y] none)] 2 2 (.tup [.str (msgB k l [x, y]), .int .i64 0]) [(0, rowS l none), (1, rowI [x, y] none)] := by
  refine Ctr.introR (T := Tryz.T) Tryz.hT Tryz.hM puZ_ok Tryz.func33 rfl (by kernel_rfl) rfl rfl ?_ rfl ?_
  · simp [okH_all, rowS_ok, rowI_ok]
  conv => whnf
  refine callR [0, 1] (putP2 (k := k) (l := l) hk none hn hl h0 h1 h2 h3) (post' := [(0, rowS l none), (1, rowI [x, y] none)]) (by simp only [renH, rowS_ren, rowI_ren]; rfl) rfl rfl rfl trivial ⟨rowS_at _ rfl, rowI_at _ rfl, trivial⟩ ?_
  conv => whnf
  refine Fin.same ?_ rfl ?_
  · simp [okH_all, rowS_ok, rowI_ok]
  · intro p hp
    simp only [List.mem_cons, List.not_mem_nil, or_false] at hp
    rcases hp with rfl | rfl <;> rfl
theorem ready1 (L : List KV) : Ctr Tryz.prog 29 [.ptr 0 0] [] [(0, cbox (.sv 2 2 0 1 none)), (2, .row 74 2 [.str (rawB L 1), .sv 3 2 0 L.length (some L.length)] none)] 4 4 (.int .i64 0) [(0, cbox (.sv 2 2 0 1 none)), (2, .row 74 2 [.str (rawB L 1), .sv 3 2 0 L.length (some L.length)] none)] := by
  refine Ctr.introR (T := Tryz.T) Tryz.hT Tryz.hM puZ_ok Tryz.func29 rfl (by kernel_rfl) rfl rfl rfl rfl ?_
  conv => whnf
  refine callR [0, 1, 2, 3] (height1 L) rfl rfl rfl rfl trivial ⟨rfl, rfl, trivial⟩ ?_
  conv => whnf
  exact .mk' [] rfl rfl rfl rfl rfl rfl ⟨rfl, rfl, trivial⟩
theorem provedC14 {L : List KV} {key s far : ByteArray} (hs : s.size ≤ 65536) (hfar : far.size ≤ 65536)
    (cp : Ctr Tryz.prog 32 [.ptr 0 0, .int .i64 1, .str key] [] [(0, cbox (.sv 2 2 0 1 none)), (2, .row 74 2 [.str (rawB L 1), .sv 3 2 0 L.length (some L.length)] none), (3, rowD L (some L.length))] 4 4 (.tup [.agg [.int .i64 1, .str s], .int .i64 0]) [(0, cbox (.sv 2 2 0 1 none)), (2, .row 74 2 [.str (rawB L 1), .sv 3 2 0 L.length (some L.length)] none), (3, rowD L (some L.length))]) :
    Ctr Tryz.prog 30 [.ptr 0 0, .int .i64 14, .str key, .nils, .sv 4 1 0 3 (some 3)] [] [(0, cbox (.sv 2 2 0 1 none)), (2, .row 74 2 [.str (rawB L 1), .sv 3 2 0 L.length (some L.length)] none), (3, rowD L (some L.length)), (4, rowS [cl0W, cl0W, far] (some 3))] 5 5 (.tup [.str (msgB 14 [cl0W, cl0W, far, s] [1]), .int .i64 0]) [(0, cbox (.sv 2 2 0 1 none)), (2, .row 74 2 [.str (rawB L 1), .sv 3 2 0 L.length (some L.length)] none), (3, rowD L (some L.length)), (4, rowS [cl0W, cl0W, far] (some 3))] := by
  have hT : shortL [cl0W, cl0W, far, s] := by
    intro x hx
    simp only [List.mem_cons, List.not_mem_nil, or_false] at hx
    rcases hx with rfl | rfl | rfl | rfl
    · decide
    · decide
    · exact hfar
    · exact hs
  refine Ctr.introR (T := Tryz.T) Tryz.hT Tryz.hM puZ_ok Tryz.func30 rfl (by kernel_rfl) rfl rfl ?_ rfl ?_
  · simp [okH_all, okR, cbox, rowD, rowS, bare_ok (cellsP_bare _), bare_ok (strsA_bare _), okL_cons, okL_nil, okA_str, okA_ptr, okA_int, okA_nils, okA_sv]
  conv => whnf
  refine callR [0, 1, 2, 3] (height1 L) rfl rfl rfl rfl trivial ⟨rfl, rfl, trivial⟩ ?_
  conv => whnf
  refine callR [0, 1, 2, 3] cp (post' := [(0, cbox (.sv 2 2 0 1 none)), (2, .row 74 2 [.str (rawB L 1), .sv 3 2 0 L.length (some L.length)] none), (3, rowD L (some L.length))]) (by simp only [renH, rowD_ren]; rfl) rfl rfl rfl trivial ⟨rfl, rfl, rowD_at _ rfl, trivial⟩ ?_
  conv => whnf
  refine ⟨by decide, ?_⟩
  conv => whnf
  refine ⟨by decide, ?_⟩
  conv => whnf
  refine callR [9, 7] (relput1 (k := 14) (l := [cl0W, cl0W, far, s]) kind14 (by show 4 ≤ 256; decide) hT (by decide) (by decide)) (post' := [(9, rowS [cl0W, cl0W, far, s] none), (7, rowI [1] none)]) (by simp only [renH, rowS_ren, rowI_ren]; rfl) rfl rfl rfl trivial ⟨rowS_at _ rfl, rowI_at _ rfl, trivial⟩ ?_
  conv => whnf
  generalize hrc : raceB _ _ = rb
  obtain rfl : rb = true := hrc.symm.trans (by kernel_rfl)
  conv => whnf
  refine Fin.same ?_ rfl ?_
  · simp [okH_all, okR, cbox, rowD, rowS, bare_ok (cellsP_bare _), bare_ok (strsA_bare _), okL_cons, okL_nil, okA_str, okA_ptr, okA_int, okA_nils, okA_sv]
  · intro p hp
    simp only [List.mem_cons, List.not_mem_nil, or_false] at hp
    rcases hp with rfl | rfl | rfl | rfl <;> rfl
theorem provedC15 {L : List KV} {key s far own : ByteArray} (hs : s.size ≤ 65536) (hfar : far.size ≤ 65536) (hown : own.size ≤ 65536)
    (cp : Ctr Tryz.prog 32 [.ptr 0 0, .int .i64 1, .str key] [] [(0, cbox (.sv 2 2 0 1 none)), (2, .row 74 2 [.str (rawB L 1), .sv 3 2 0 L.length (some L.length)] none), (3, rowD L (some L.length))] 4 4 (.tup [.agg [.int .i64 1, .str s], .int .i64 0]) [(0, cbox (.sv 2 2 0 1 none)), (2, .row 74 2 [.str (rawB L 1), .sv 3 2 0 L.length (some L.length)] none), (3, rowD L (some L.length))]) :
    Ctr Tryz.prog 30 [.ptr 0 0, .int .i64 15, .str key, .nils, .sv 4 1 0 2 none] [] [(0, cbox (.sv 2 2 0 1 none)), (2, .row 74 2 [.str (rawB L 1), .sv 3 2 0 L.length (some L.length)] none), (3, rowD L (some L.length)), (4, rowS [own, far] none)] 5 5 (.tup [.str (msgB 15 [own, far, s] [1]), .int .i64 0]) [(0, cbox (.sv 2 2 0 1 none)), (2, .row 74 2 [.str (rawB L 1), .sv 3 2 0 L.length (some L.length)] none), (3, rowD L (some L.length)), (4, .gone)] := by
  have hT : shortL [own, far, s] := by
    intro x hx
    simp only [List.mem_cons, List.not_mem_nil, or_false] at hx
    rcases hx with rfl | rfl | rfl
    · exact hown
    · exact hfar
    · exact hs
  refine Ctr.introR (T := Tryz.T) Tryz.hT Tryz.hM puZ_ok Tryz.func30 rfl (by kernel_rfl) rfl rfl ?_ rfl ?_
  · simp [okH_all, okR, cbox, rowD, rowS, bare_ok (cellsP_bare _), bare_ok (strsA_bare _), okL_cons, okL_nil, okA_str, okA_ptr, okA_int, okA_nils, okA_sv]
  conv => whnf
  refine callR [0, 1, 2, 3] (height1 L) rfl rfl rfl rfl trivial ⟨rfl, rfl, trivial⟩ ?_
  conv => whnf
  refine callR [0, 1, 2, 3] cp (post' := [(0, cbox (.sv 2 2 0 1 none)), (2, .row 74 2 [.str (rawB L 1), .sv 3 2 0 L.length (some L.length)] none), (3, rowD L (some L.length))]) (by simp only [renH, rowD_ren]; rfl) rfl rfl rfl trivial ⟨rfl, rfl, rowD_at _ rfl, trivial⟩ ?_
  conv => whnf
  refine ⟨by decide, ?_⟩
  conv => whnf
  refine ⟨by decide, ?_⟩
  conv => whnf
  refine callR [9, 7] (relput1 (k := 15) (l := [own, far, s]) kind15 (by show 3 ≤ 256; decide) hT (by decide) (by decide)) (post' := [(9, rowS [own, far, s] none), (7, rowI [1] none)]) (by simp only [renH, rowS_ren, rowI_ren]; rfl) rfl rfl rfl trivial ⟨rowS_at _ rfl, rowI_at _ rfl, trivial⟩ ?_
  conv => whnf
  generalize hrc : raceB _ _ = rb
  obtain rfl : rb = true := hrc.symm.trans (by kernel_rfl)
  conv => whnf
  refine Fin.same ?_ rfl ?_
  · simp [okH_all, okR, cbox, rowD, bare_ok (cellsP_bare _), okL_cons, okL_nil, okA_str, okA_ptr, okA_int, okA_nils, okA_sv]
  · intro p hp
    simp only [List.mem_cons, List.not_mem_nil, or_false] at hp
    rcases hp with rfl | rfl | rfl | rfl <;> rfl
theorem provedC16 {L : List KV} {key s own : ByteArray} (hs : s.size ≤ 65536) (hown : own.size ≤ 65536)
    (cp : Ctr Tryz.prog 32 [.ptr 0 0, .int .i64 1, .str key] [] [(0, cbox (.sv 2 2 0 1 none)), (2, .row 74 2 [.str (rawB L 1), .sv 3 2 0 L.length (some L.length)] none), (3, rowD L (some L.length))] 4 4 (.tup [.agg [.int .i64 1, .str s], .int .i64 0]) [(0, cbox (.sv 2 2 0 1 none)), (2, .row 74 2 [.str (rawB L 1), .sv 3 2 0 L.length (some L.length)] none), (3, rowD L (some L.length))]) :
    Ctr Tryz.prog 30 [.ptr 0 0, .int .i64 16, .str key, .nils, .sv 4 1 0 1 (some 1)] [] [(0, cbox (.sv 2 2 0 1 none)), (2, .row 74 2 [.str (rawB L 1), .sv 3 2 0 L.length (some L.length)] none), (3, rowD L (some L.length)), (4, rowS [own] (some 1))] 5 5 (.tup [.str (msgB 16 [own, s] [1]), .int .i64 0]) [(0, cbox (.sv 2 2 0 1 none)), (2, .row 74 2 [.str (rawB L 1), .sv 3 2 0 L.length (some L.length)] none), (3, rowD L (some L.length)), (4, rowS [own] (some 1))] := by
  have hT : shortL [own, s] := by
    intro x hx
    simp only [List.mem_cons, List.not_mem_nil, or_false] at hx
    rcases hx with rfl | rfl
    · exact hown
    · exact hs
  refine Ctr.introR (T := Tryz.T) Tryz.hT Tryz.hM puZ_ok Tryz.func30 rfl (by kernel_rfl) rfl rfl ?_ rfl ?_
  · simp [okH_all, okR, cbox, rowD, rowS, bare_ok (cellsP_bare _), bare_ok (strsA_bare _), okL_cons, okL_nil, okA_str, okA_ptr, okA_int, okA_nils, okA_sv]
  conv => whnf
  refine callR [0, 1, 2, 3] (height1 L) rfl rfl rfl rfl trivial ⟨rfl, rfl, trivial⟩ ?_
  conv => whnf
  refine callR [0, 1, 2, 3] cp (post' := [(0, cbox (.sv 2 2 0 1 none)), (2, .row 74 2 [.str (rawB L 1), .sv 3 2 0 L.length (some L.length)] none), (3, rowD L (some L.length))]) (by simp only [renH, rowD_ren]; rfl) rfl rfl rfl trivial ⟨rfl, rfl, rowD_at _ rfl, trivial⟩ ?_
  conv => whnf
  refine ⟨by decide, ?_⟩
  conv => whnf
  refine ⟨by decide, ?_⟩
  conv => whnf
  refine callR [9, 7] (relput1 (k := 16) (l := [own, s]) kind16 (by show 2 ≤ 256; decide) hT (by decide) (by decide)) (post' := [(9, rowS [own, s] none), (7, rowI [1] none)]) (by simp only [renH, rowS_ren, rowI_ren]; rfl) rfl rfl rfl trivial ⟨rowS_at _ rfl, rowI_at _ rfl, trivial⟩ ?_
  conv => whnf
  generalize hrc : raceB _ _ = rb
  obtain rfl : rb = true := hrc.symm.trans (by kernel_rfl)
  conv => whnf
  refine Fin.same ?_ rfl ?_
  · simp [okH_all, okR, cbox, rowD, rowS, bare_ok (cellsP_bare _), bare_ok (strsA_bare _), okL_cons, okL_nil, okA_str, okA_ptr, okA_int, okA_nils, okA_sv]
  · intro p hp
    simp only [List.mem_cons, List.not_mem_nil, or_false] at hp
    rcases hp with rfl | rfl | rfl | rfl <;> rfl
theorem provedH18 {L : List KV} {key s far own : ByteArray} (hs : s.size ≤ 65536) (hfar : far.size ≤ 65536) (hown : own.size ≤ 65536)
    (cp : Ctr Tryz.prog 32 [.ptr 0 0, .int .i64 1, .str key] [] [(0, cbox (.sv 2 2 0 1 none)), (2, .row 74 2 [.str (rawB L 1), .sv 3 2 0 L.length (some L.length)] none), (3, rowD L (some L.length))] 4 4 (.tup [.agg [.int .i64 1, .str s], .int .i64 0]) [(0, cbox (.sv 2 2 0 1 none)), (2, .row 74 2 [.str (rawB L 1), .sv 3 2 0 L.length (some L.length)] none), (3, rowD L (some L.length))]) :
    Ctr Tryz.prog 30 [.ptr 0 0, .int .i64 18, .str key, .sv 5 1 0 1 (some 1), .sv 4 1 0 5 (some 5)] [] [(0, cbox (.sv 2 2 0 1 none)), (2, .row 74 2 [.str (rawB L 1), .sv 3 2 0 L.length (some L.length)] none), (3, rowD L (some L.length)), (4, rowS [nftW, own, nftW, far, icsW] (some 5)), (5, rowI [1] (some 1))] 6 6 (.tup [.str (msgB 18 [nftW, own, nftW, far, icsW, s] [1, 1]), .int .i64 0]) [(0, cbox (.sv 2 2 0 1 none)), (2, .row 74 2 [.str (rawB L 1), .sv 3 2 0 L.length (some L.length)] none), (3, rowD L (some L.length)), (4, rowS [nftW, own, nftW, far, icsW] (some 5)), (5, rowI [1] (some 1))] := by
  have hT : shortL [nftW, own, nftW, far, icsW, s] := by
    intro x hx
    simp only [List.mem_cons, List.not_mem_nil, or_false] at hx
    rcases hx with rfl | rfl | rfl | rfl | rfl | rfl
    · decide
    · exact hown
    · decide
    · exact hfar
    · decide
    · exact hs
  refine Ctr.introR (T := Tryz.T) Tryz.hT Tryz.hM puZ_ok Tryz.func30 rfl (by kernel_rfl) rfl rfl ?_ rfl ?_
  · simp [okH_all, okR, cbox, rowD, rowS, rowI, bare_ok (cellsP_bare _), bare_ok (strsA_bare _), bare_ok (intsA_bare _), okL_cons, okL_nil, okA_str, okA_ptr, okA_int, okA_nils, okA_sv]
  conv => whnf
  refine callR [0, 1, 2, 3] (height1 L) rfl rfl rfl rfl trivial ⟨rfl, rfl, trivial⟩ ?_
  conv => whnf
  refine callR [0, 1, 2, 3] cp (post' := [(0, cbox (.sv 2 2 0 1 none)), (2, .row 74 2 [.str (rawB L 1), .sv 3 2 0 L.length (some L.length)] none), (3, rowD L (some L.length))]) (by simp only [renH, rowD_ren]; rfl) rfl rfl rfl trivial ⟨rfl, rfl, rowD_at _ rfl, trivial⟩ ?_
  conv => whnf
  refine ⟨by decide, ?_⟩
  conv => whnf
  refine ⟨by decide, ?_⟩
  conv => whnf
  refine callR [10, 8] (relput2 (k := 18) (l := [nftW, own, nftW, far, icsW, s]) kind18 (by show 6 ≤ 256; decide) hT (by decide) (by decide) (by decide) (by decide)) (post' := [(10, rowS [nftW, own, nftW, far, icsW, s] none), (8, rowI [1, 1] none)]) (by simp only [renH, rowS_ren, rowI_ren]; rfl) rfl rfl rfl trivial ⟨rowS_at _ rfl, rowI_at _ rfl, trivial⟩ ?_
  conv => whnf
  generalize hrc : raceB _ _ = rb
  obtain rfl : rb = true := hrc.symm.trans (by kernel_rfl)
  conv => whnf
  refine Fin.same ?_ rfl ?_
  · simp [okH_all, okR, cbox, rowD, rowS, rowI, bare_ok (cellsP_bare _), bare_ok (strsA_bare _), bare_ok (intsA_bare _), okL_cons, okL_nil, okA_str, okA_ptr, okA_int, okA_nils, okA_sv]
  · intro p hp
    simp only [List.mem_cons, List.not_mem_nil, or_false] at hp
    rcases hp with rfl | rfl | rfl | rfl | rfl <;> rfl
theorem provedH19 {L : List KV} {key s far own : ByteArray} (hs : s.size ≤ 65536) (hfar : far.size ≤ 65536) (hown : own.size ≤ 65536)
    (cp : Ctr Tryz.prog 32 [.ptr 0 0, .int .i64 1, .str key] [] [(0, cbox (.sv 2 2 0 1 none)), (2, .row 74 2 [.str (rawB L 1), .sv 3 2 0 L.length (some L.length)] none), (3, rowD L (some L.length))] 4 4 (.tup [.agg [.int .i64 1, .str s], .int .i64 0]) [(0, cbox (.sv 2 2 0 1 none)), (2, .row 74 2 [.str (rawB L 1), .sv 3 2 0 L.length (some L.length)] none), (3, rowD L (some L.length))]) :
    Ctr Tryz.prog 30 [.ptr 0 0, .int .i64 19, .str key, .nils, .sv 4 1 0 3 none] [] [(0, cbox (.sv 2 2 0 1 none)), (2, .row 74 2 [.str (rawB L 1), .sv 3 2 0 L.length (some L.length)] none), (3, rowD L (some L.length)), (4, rowS [nftW, own, far] none)] 5 5 (.tup [.str (msgB 19 [nftW, own, far, s] [1]), .int .i64 0]) [(0, cbox (.sv 2 2 0 1 none)), (2, .row 74 2 [.str (rawB L 1), .sv 3 2 0 L.length (some L.length)] none), (3, rowD L (some L.length)), (4, .gone)] := by
  have hT : shortL [nftW, own, far, s] := by
    intro x hx
    simp only [List.mem_cons, List.not_mem_nil, or_false] at hx
    rcases hx with rfl | rfl | rfl | rfl
    · decide
    · exact hown
    · exact hfar
    · exact hs
  refine Ctr.introR (T := Tryz.T) Tryz.hT Tryz.hM puZ_ok Tryz.func30 rfl (by kernel_rfl) rfl rfl ?_ rfl ?_
  · simp [okH_all, okR, cbox, rowD, rowS, bare_ok (cellsP_bare _), bare_ok (strsA_bare _), okL_cons, okL_nil, okA_str, okA_ptr, okA_int, okA_nils, okA_sv]
  conv => whnf
  refine callR [0, 1, 2, 3] (height1 L) rfl rfl rfl rfl trivial ⟨rfl, rfl, trivial⟩ ?_
  conv => whnf
  refine callR [0, 1, 2, 3] cp (post' := [(0, cbox (.sv 2 2 0 1 none)), (2, .row 74 2 [.str (rawB L 1), .sv 3 2 0 L.length (some L.length)] none), (3, rowD L (some L.length))]) (by simp only [renH, rowD_ren]; rfl) rfl rfl rfl trivial ⟨rfl, rfl, rowD_at _ rfl, trivial⟩ ?_
  conv => whnf
  refine ⟨by decide, ?_⟩
  conv => whnf
  refine ⟨by decide, ?_⟩
  conv => whnf
  refine callR [9, 7] (relput1 (k := 19) (l := [nftW, own, far, s]) kind19 (by show 4 ≤ 256; decide) hT (by decide) (by decide)) (post' := [(9, rowS [nftW, own, far, s] none), (7, rowI [1] none)]) (by simp only [renH, rowS_ren, rowI_ren]; rfl) rfl rfl rfl trivial ⟨rowS_at _ rfl, rowI_at _ rfl, trivial⟩ ?_
  conv => whnf
  generalize hrc : raceB _ _ = rb
  obtain rfl : rb = true := hrc.symm.trans (by kernel_rfl)
  conv => whnf
  refine Fin.same ?_ rfl ?_
  · simp [okH_all, okR, cbox, rowD, bare_ok (cellsP_bare _), okL_cons, okL_nil, okA_str, okA_ptr, okA_int, okA_nils, okA_sv]
  · intro p hp
    simp only [List.mem_cons, List.not_mem_nil, or_false] at hp
    rcases hp with rfl | rfl | rfl | rfl <;> rfl
theorem provedH20 {L : List KV} {key s own : ByteArray} (hs : s.size ≤ 65536) (hown : own.size ≤ 65536)
    (cp : Ctr Tryz.prog 32 [.ptr 0 0, .int .i64 1, .str key] [] [(0, cbox (.sv 2 2 0 1 none)), (2, .row 74 2 [.str (rawB L 1), .sv 3 2 0 L.length (some L.length)] none), (3, rowD L (some L.length))] 4 4 (.tup [.agg [.int .i64 1, .str s], .int .i64 0]) [(0, cbox (.sv 2 2 0 1 none)), (2, .row 74 2 [.str (rawB L 1), .sv 3 2 0 L.length (some L.length)] none), (3, rowD L (some L.length))]) :
    Ctr Tryz.prog 30 [.ptr 0 0, .int .i64 20, .str key, .nils, .sv 4 1 0 2 (some 2)] [] [(0, cbox (.sv 2 2 0 1 none)), (2, .row 74 2 [.str (rawB L 1), .sv 3 2 0 L.length (some L.length)] none), (3, rowD L (some L.length)), (4, rowS [nftW, own] (some 2))] 5 5 (.tup [.str (msgB 20 [nftW, own, s] [1]), .int .i64 0]) [(0, cbox (.sv 2 2 0 1 none)), (2, .row 74 2 [.str (rawB L 1), .sv 3 2 0 L.length (some L.length)] none), (3, rowD L (some L.length)), (4, rowS [nftW, own] (some 2))] := by
  have hT : shortL [nftW, own, s] := by
    intro x hx
    simp only [List.mem_cons, List.not_mem_nil, or_false] at hx
    rcases hx with rfl | rfl | rfl
    · decide
    · exact hown
    · exact hs
  refine Ctr.introR (T := Tryz.T) Tryz.hT Tryz.hM puZ_ok Tryz.func30 rfl (by kernel_rfl) rfl rfl ?_ rfl ?_
  · simp [okH_all, okR, cbox, rowD, rowS, bare_ok (cellsP_bare _), bare_ok (strsA_bare _), okL_cons, okL_nil, okA_str, okA_ptr, okA_int, okA_nils, okA_sv]
  conv => whnf
  refine callR [0, 1, 2, 3] (height1 L) rfl rfl rfl rfl trivial ⟨rfl, rfl, trivial⟩ ?_
  conv => whnf
  refine callR [0, 1, 2, 3] cp (post' := [(0, cbox (.sv 2 2 0 1 none)), (2, .row 74 2 [.str (rawB L 1), .sv 3 2 0 L.length (some L.length)] none), (3, rowD L (some L.length))]) (by simp only [renH, rowD_ren]; rfl) rfl rfl rfl trivial ⟨rfl, rfl, rowD_at _ rfl, trivial⟩ ?_
  conv => whnf
  refine ⟨by decide, ?_⟩
  conv => whnf
  refine ⟨by decide, ?_⟩
  conv => whnf
  refine callR [9, 7] (relput1 (k := 20) (l := [nftW, own, s]) kind20 (by show 3 ≤ 256; decide) hT (by decide) (by decide)) (post' := [(9, rowS [nftW, own, s] none), (7, rowI [1] none)]) (by simp only [renH, rowS_ren, rowI_ren]; rfl) rfl rfl rfl trivial ⟨rowS_at _ rfl, rowI_at _ rfl, trivial⟩ ?_
  conv => whnf
  generalize hrc : raceB _ _ = rb
  obtain rfl : rb = true := hrc.symm.trans (by kernel_rfl)
  conv => whnf
  refine Fin.same ?_ rfl ?_
  · simp [okH_all, okR, cbox, rowD, rowS, bare_ok (cellsP_bare _), bare_ok (strsA_bare _), okL_cons, okL_nil, okA_str, okA_ptr, okA_int, okA_nils, okA_sv]
  · intro p hp
    simp only [List.mem_cons, List.not_mem_nil, or_false] at hp
    rcases hp with rfl | rfl | rfl | rfl <;> rfl
def conW : ByteArray := ⟨#[99, 111, 110, 110]⟩
def chaW : ByteArray := ⟨#[99, 104, 97, 110]⟩
theorem conn14 {L : List KV} {s own far : ByteArray} (hs : s.size ≤ 65536) (hown : own.size ≤ 65536) (hfar : far.size ≤ 65536)
    (cp : Ctr Tryz.prog 32 [.ptr 0 0, .int .i64 1, .str (joinB conW [far])] [] [(0, cbox (.sv 2 2 0 1 none)), (2, .row 74 2 [.str (rawB L 1), .sv 3 2 0 L.length (some L.length)] none), (3, rowD L (some L.length))] 4 4 (.tup [.agg [.int .i64 1, .str s], .int .i64 0]) [(0, cbox (.sv 2 2 0 1 none)), (2, .row 74 2 [.str (rawB L 1), .sv 3 2 0 L.length (some L.length)] none), (3, rowD L (some L.length))]) :
    Ctr Tryz.prog 8 [.ptr 0 0, .int .i64 14, .str own, .str far] [] [(0, cbox (.sv 2 2 0 1 none)), (2, .row 74 2 [.str (rawB L 1), .sv 3 2 0 L.length (some L.length)] none), (3, rowD L (some L.length))] 4 4 (.tup [.str (msgB 14 [cl0W, cl0W, far, s] [1]), .int .i64 0]) [(0, cbox (.sv 2 2 0 1 none)), (2, .row 74 2 [.str (rawB L 1), .sv 3 2 0 L.length (some L.length)] none), (3, rowD L (some L.length))] := by
  refine Ctr.introR (T := Tryz.T) Tryz.hT Tryz.hM puZ_ok Tryz.func8 rfl (by kernel_rfl) rfl rfl ?_ rfl ?_
  · simp [okH_all, okR, cbox, rowD, bare_ok (cellsP_bare _), okL_cons, okL_nil, okA_str, okA_ptr, okA_int, okA_nils, okA_sv]
  conv => whnf
  refine callR [0, 1, 2, 3] (ready1 L) rfl rfl rfl rfl trivial ⟨rfl, rfl, trivial⟩ ?_
  conv => whnf
  refine callR [5] (join1 conW [far] (by decide) (fun x hx => by simp only [List.mem_cons, List.not_mem_nil, or_false] at hx; rcases hx with rfl <;> first | omega | decide) (by simp)) rfl rfl rfl rfl trivial ⟨rfl, trivial⟩ ?_
  conv => whnf
  refine callR [0, 1, 2, 3, 4] (provedC14 hs hfar cp) (post' := [(0, cbox (.sv 2 2 0 1 none)), (2, .row 74 2 [.str (rawB L 1), .sv 3 2 0 L.length (some L.length)] none), (3, rowD L (some L.length)), (4, rowS [cl0W, cl0W, far] (some 3))]) (by simp only [renH, rowD_ren, rowS_ren]; rfl) rfl rfl rfl trivial ⟨rfl, rfl, rowD_at _ rfl, rowS_at _ rfl, trivial⟩ ?_
  conv => whnf
  refine Fin.same ?_ rfl ?_
  · simp [okH_all, okR, cbox, rowD, bare_ok (cellsP_bare _), okL_cons, okL_nil, okA_str, okA_ptr, okA_int, okA_nils, okA_sv]
  · intro p hp
    simp only [List.mem_cons, List.not_mem_nil, or_false] at hp
    rcases hp with rfl | rfl | rfl <;> rfl
theorem conn15 {L : List KV} {s own far : ByteArray} (hs : s.size ≤ 65536) (hown : own.size ≤ 65536) (hfar : far.size ≤ 65536)
    (cp : Ctr Tryz.prog 32 [.ptr 0 0, .int .i64 1, .str (joinB conW [far])] [] [(0, cbox (.sv 2 2 0 1 none)), (2, .row 74 2 [.str (rawB L 1), .sv 3 2 0 L.length (some L.length)] none), (3, rowD L (some L.length))] 4 4 (.tup [.agg [.int .i64 1, .str s], .int .i64 0]) [(0, cbox (.sv 2 2 0 1 none)), (2, .row 74 2 [.str (rawB L 1), .sv 3 2 0 L.length (some L.length)] none), (3, rowD L (some L.length))]) :
    Ctr Tryz.prog 8 [.ptr 0 0, .int .i64 15, .str own, .str far] [] [(0, cbox (.sv 2 2 0 1 none)), (2, .row 74 2 [.str (rawB L 1), .sv 3 2 0 L.length (some L.length)] none), (3, rowD L (some L.length))] 4 4 (.tup [.str (msgB 15 [own, far, s] [1]), .int .i64 0]) [(0, cbox (.sv 2 2 0 1 none)), (2, .row 74 2 [.str (rawB L 1), .sv 3 2 0 L.length (some L.length)] none), (3, rowD L (some L.length))] := by
  refine Ctr.introR (T := Tryz.T) Tryz.hT Tryz.hM puZ_ok Tryz.func8 rfl (by kernel_rfl) rfl rfl ?_ rfl ?_
  · simp [okH_all, okR, cbox, rowD, bare_ok (cellsP_bare _), okL_cons, okL_nil, okA_str, okA_ptr, okA_int, okA_nils, okA_sv]
  conv => whnf
  refine callR [0, 1, 2, 3] (ready1 L) rfl rfl rfl rfl trivial ⟨rfl, rfl, trivial⟩ ?_
  conv => whnf
  refine ⟨by decide, ?_⟩
  conv => whnf
  refine ⟨by decide, ?_⟩
  conv => whnf
  refine callR [8] (join1 conW [far] (by decide) (fun x hx => by simp only [List.mem_cons, List.not_mem_nil, or_false] at hx; rcases hx with rfl <;> first | omega | decide) (by simp)) rfl rfl rfl rfl trivial ⟨rfl, trivial⟩ ?_
  conv => whnf
  refine callR [0, 1, 2, 3, 7] (provedC15 hs hfar hown cp) (post' := [(0, cbox (.sv 2 2 0 1 none)), (2, .row 74 2 [.str (rawB L 1), .sv 3 2 0 L.length (some L.length)] none), (3, rowD L (some L.length)), (7, .gone)]) (by simp only [renH, rowD_ren]; rfl) rfl rfl rfl trivial ⟨rfl, rfl, rowD_at _ rfl, rowS_at _ rfl, trivial⟩ ?_
  conv => whnf
  refine Fin.same ?_ rfl ?_
  · simp [okH_all, okR, cbox, rowD, bare_ok (cellsP_bare _), okL_cons, okL_nil, okA_str, okA_ptr, okA_int, okA_nils, okA_sv]
  · intro p hp
    simp only [List.mem_cons, List.not_mem_nil, or_false] at hp
    rcases hp with rfl | rfl | rfl <;> rfl
theorem conn16 {L : List KV} {s own far : ByteArray} (hs : s.size ≤ 65536) (hown : own.size ≤ 65536) (hfar : far.size ≤ 65536)
    (cp : Ctr Tryz.prog 32 [.ptr 0 0, .int .i64 1, .str (joinB conW [far])] [] [(0, cbox (.sv 2 2 0 1 none)), (2, .row 74 2 [.str (rawB L 1), .sv 3 2 0 L.length (some L.length)] none), (3, rowD L (some L.length))] 4 4 (.tup [.agg [.int .i64 1, .str s], .int .i64 0]) [(0, cbox (.sv 2 2 0 1 none)), (2, .row 74 2 [.str (rawB L 1), .sv 3 2 0 L.length (some L.length)] none), (3, rowD L (some L.length))]) :
    Ctr Tryz.prog 8 [.ptr 0 0, .int .i64 16, .str own, .str far] [] [(0, cbox (.sv 2 2 0 1 none)), (2, .row 74 2 [.str (rawB L 1), .sv 3 2 0 L.length (some L.length)] none), (3, rowD L (some L.length))] 4 4 (.tup [.str (msgB 16 [own, s] [1]), .int .i64 0]) [(0, cbox (.sv 2 2 0 1 none)), (2, .row 74 2 [.str (rawB L 1), .sv 3 2 0 L.length (some L.length)] none), (3, rowD L (some L.length))] := by
  refine Ctr.introR (T := Tryz.T) Tryz.hT Tryz.hM puZ_ok Tryz.func8 rfl (by kernel_rfl) rfl rfl ?_ rfl ?_
  · simp [okH_all, okR, cbox, rowD, bare_ok (cellsP_bare _), okL_cons, okL_nil, okA_str, okA_ptr, okA_int, okA_nils, okA_sv]
  conv => whnf
  refine callR [0, 1, 2, 3] (ready1 L) rfl rfl rfl rfl trivial ⟨rfl, rfl, trivial⟩ ?_
  conv => whnf
  refine callR [5] (join1 conW [far] (by decide) (fun x hx => by simp only [List.mem_cons, List.not_mem_nil, or_false] at hx; rcases hx with rfl <;> first | omega | decide) (by simp)) rfl rfl rfl rfl trivial ⟨rfl, trivial⟩ ?_
  conv => whnf
  refine callR [0, 1, 2, 3, 4] (provedC16 hs hown cp) (post' := [(0, cbox (.sv 2 2 0 1 none)), (2, .row 74 2 [.str (rawB L 1), .sv 3 2 0 L.length (some L.length)] none), (3, rowD L (some L.length)), (4, rowS [own] (some 1))]) (by simp only [renH, rowD_ren, rowS_ren]; rfl) rfl rfl rfl trivial ⟨rfl, rfl, rowD_at _ rfl, rowS_at _ rfl, trivial⟩ ?_
  conv => whnf
  refine Fin.same ?_ rfl ?_
  · simp [okH_all, okR, cbox, rowD, bare_ok (cellsP_bare _), okL_cons, okL_nil, okA_str, okA_ptr, okA_int, okA_nils, okA_sv]
  · intro p hp
    simp only [List.mem_cons, List.not_mem_nil, or_false] at hp
    rcases hp with rfl | rfl | rfl <;> rfl
theorem chan18 {L : List KV} {s own far : ByteArray} (hs : s.size ≤ 65536) (hown : own.size ≤ 65536) (hfar : far.size ≤ 65536)
    (cp : Ctr Tryz.prog 32 [.ptr 0 0, .int .i64 1, .str (joinB chaW [nftW, far])] [] [(0, cbox (.sv 2 2 0 1 none)), (2, .row 74 2 [.str (rawB L 1), .sv 3 2 0 L.length (some L.length)] none), (3, rowD L (some L.length))] 4 4 (.tup [.agg [.int .i64 1, .str s], .int .i64 0]) [(0, cbox (.sv 2 2 0 1 none)), (2, .row 74 2 [.str (rawB L 1), .sv 3 2 0 L.length (some L.length)] none), (3, rowD L (some L.length))]) :
    Ctr Tryz.prog 9 [.ptr 0 0, .int .i64 18, .str own, .str far] [] [(0, cbox (.sv 2 2 0 1 none)), (2, .row 74 2 [.str (rawB L 1), .sv 3 2 0 L.length (some L.length)] none), (3, rowD L (some L.length))] 4 4 (.tup [.str (msgB 18 [nftW, own, nftW, far, icsW, s] [1, 1]), .int .i64 0]) [(0, cbox (.sv 2 2 0 1 none)), (2, .row 74 2 [.str (rawB L 1), .sv 3 2 0 L.length (some L.length)] none), (3, rowD L (some L.length))] := by
  refine Ctr.introR (T := Tryz.T) Tryz.hT Tryz.hM puZ_ok Tryz.func9 rfl (by kernel_rfl) rfl rfl ?_ rfl ?_
  · simp [okH_all, okR, cbox, rowD, bare_ok (cellsP_bare _), okL_cons, okL_nil, okA_str, okA_ptr, okA_int, okA_nils, okA_sv]
  conv => whnf
  refine callR [0, 1, 2, 3] (ready1 L) rfl rfl rfl rfl trivial ⟨rfl, rfl, trivial⟩ ?_
  conv => whnf
  refine callR [6] (join1 chaW [nftW, far] (by decide) (fun x hx => by simp only [List.mem_cons, List.not_mem_nil, or_false] at hx; rcases hx with rfl | rfl <;> first | omega | decide) (by simp)) rfl rfl rfl rfl trivial ⟨rfl, trivial⟩ ?_
  conv => whnf
  refine callR [0, 1, 2, 3, 4, 5] (provedH18 hs hfar hown cp) (post' := [(0, cbox (.sv 2 2 0 1 none)), (2, .row 74 2 [.str (rawB L 1), .sv 3 2 0 L.length (some L.length)] none), (3, rowD L (some L.length)), (4, rowS [nftW, own, nftW, far, icsW] (some 5)), (5, rowI [1] (some 1))]) (by simp only [renH, rowD_ren, rowS_ren, rowI_ren]; rfl) rfl rfl rfl trivial ⟨rfl, rfl, rowD_at _ rfl, rowS_at _ rfl, rowI_at _ rfl, trivial⟩ ?_
  conv => whnf
  refine Fin.same ?_ rfl ?_
  · simp [okH_all, okR, cbox, rowD, bare_ok (cellsP_bare _), okL_cons, okL_nil, okA_str, okA_ptr, okA_int, okA_nils, okA_sv]
  · intro p hp
    simp only [List.mem_cons, List.not_mem_nil, or_false] at hp
    rcases hp with rfl | rfl | rfl <;> rfl
theorem chan19 {L : List KV} {s own far : ByteArray} (hs : s.size ≤ 65536) (hown : own.size ≤ 65536) (hfar : far.size ≤ 65536)
    (cp : Ctr Tryz.prog 32 [.ptr 0 0, .int .i64 1, .str (joinB chaW [nftW, far])] [] [(0, cbox (.sv 2 2 0 1 none)), (2, .row 74 2 [.str (rawB L 1), .sv 3 2 0 L.length (some L.length)] none), (3, rowD L (some L.length))] 4 4 (.tup [.agg [.int .i64 1, .str s], .int .i64 0]) [(0, cbox (.sv 2 2 0 1 none)), (2, .row 74 2 [.str (rawB L 1), .sv 3 2 0 L.length (some L.length)] none), (3, rowD L (some L.length))]) :
    Ctr Tryz.prog 9 [.ptr 0 0, .int .i64 19, .str own, .str far] [] [(0, cbox (.sv 2 2 0 1 none)), (2, .row 74 2 [.str (rawB L 1), .sv 3 2 0 L.length (some L.length)] none), (3, rowD L (some L.length))] 4 4 (.tup [.str (msgB 19 [nftW, own, far, s] [1]), .int .i64 0]) [(0, cbox (.sv 2 2 0 1 none)), (2, .row 74 2 [.str (rawB L 1), .sv 3 2 0 L.length (some L.length)] none), (3, rowD L (some L.length))] := by
  refine Ctr.introR (T := Tryz.T) Tryz.hT Tryz.hM puZ_ok Tryz.func9 rfl (by kernel_rfl) rfl rfl ?_ rfl ?_
  · simp [okH_all, okR, cbox, rowD, bare_ok (cellsP_bare _), okL_cons, okL_nil, okA_str, okA_ptr, okA_int, okA_nils, okA_sv]
  conv => whnf
  refine callR [0, 1, 2, 3] (ready1 L) rfl rfl rfl rfl trivial ⟨rfl, rfl, trivial⟩ ?_
  conv => whnf
  refine ⟨by decide, ?_⟩
  conv => whnf
  refine ⟨by decide, ?_⟩
  conv => whnf
  refine callR [8] (join1 chaW [nftW, far] (by decide) (fun x hx => by simp only [List.mem_cons, List.not_mem_nil, or_false] at hx; rcases hx with rfl | rfl <;> first | omega | decide) (by simp)) rfl rfl rfl rfl trivial ⟨rfl, trivial⟩ ?_
  conv => whnf
  refine callR [0, 1, 2, 3, 7] (provedH19 hs hfar hown cp) (post' := [(0, cbox (.sv 2 2 0 1 none)), (2, .row 74 2 [.str (rawB L 1), .sv 3 2 0 L.length (some L.length)] none), (3, rowD L (some L.length)), (7, .gone)]) (by simp only [renH, rowD_ren]; rfl) rfl rfl rfl trivial ⟨rfl, rfl, rowD_at _ rfl, rowS_at _ rfl, trivial⟩ ?_
  conv => whnf
  refine Fin.same ?_ rfl ?_
  · simp [okH_all, okR, cbox, rowD, bare_ok (cellsP_bare _), okL_cons, okL_nil, okA_str, okA_ptr, okA_int, okA_nils, okA_sv]
  · intro p hp
    simp only [List.mem_cons, List.not_mem_nil, or_false] at hp
    rcases hp with rfl | rfl | rfl <;> rfl
theorem chan20 {L : List KV} {s own far : ByteArray} (hs : s.size ≤ 65536) (hown : own.size ≤ 65536) (hfar : far.size ≤ 65536)
    (cp : Ctr Tryz.prog 32 [.ptr 0 0, .int .i64 1, .str (joinB chaW [nftW, far])] [] [(0, cbox (.sv 2 2 0 1 none)), (2, .row 74 2 [.str (rawB L 1), .sv 3 2 0 L.length (some L.length)] none), (3, rowD L (some L.length))] 4 4 (.tup [.agg [.int .i64 1, .str s], .int .i64 0]) [(0, cbox (.sv 2 2 0 1 none)), (2, .row 74 2 [.str (rawB L 1), .sv 3 2 0 L.length (some L.length)] none), (3, rowD L (some L.length))]) :
    Ctr Tryz.prog 9 [.ptr 0 0, .int .i64 20, .str own, .str far] [] [(0, cbox (.sv 2 2 0 1 none)), (2, .row 74 2 [.str (rawB L 1), .sv 3 2 0 L.length (some L.length)] none), (3, rowD L (some L.length))] 4 4 (.tup [.str (msgB 20 [nftW, own, s] [1]), .int .i64 0]) [(0, cbox (.sv 2 2 0 1 none)), (2, .row 74 2 [.str (rawB L 1), .sv 3 2 0 L.length (some L.length)] none), (3, rowD L (some L.length))] := by
  refine Ctr.introR (T := Tryz.T) Tryz.hT Tryz.hM puZ_ok Tryz.func9 rfl (by kernel_rfl) rfl rfl ?_ rfl ?_
  · simp [okH_all, okR, cbox, rowD, bare_ok (cellsP_bare _), okL_cons, okL_nil, okA_str, okA_ptr, okA_int, okA_nils, okA_sv]
  conv => whnf
  refine callR [0, 1, 2, 3] (ready1 L) rfl rfl rfl rfl trivial ⟨rfl, rfl, trivial⟩ ?_
  conv => whnf
  refine callR [5] (join1 chaW [nftW, far] (by decide) (fun x hx => by simp only [List.mem_cons, List.not_mem_nil, or_false] at hx; rcases hx with rfl | rfl <;> first | omega | decide) (by simp)) rfl rfl rfl rfl trivial ⟨rfl, trivial⟩ ?_
  conv => whnf
  refine callR [0, 1, 2, 3, 4] (provedH20 hs hown cp) (post' := [(0, cbox (.sv 2 2 0 1 none)), (2, .row 74 2 [.str (rawB L 1), .sv 3 2 0 L.length (some L.length)] none), (3, rowD L (some L.length)), (4, rowS [nftW, own] (some 2))]) (by simp only [renH, rowD_ren, rowS_ren]; rfl) rfl rfl rfl trivial ⟨rfl, rfl, rowD_at _ rfl, rowS_at _ rfl, trivial⟩ ?_
  conv => whnf
  refine Fin.same ?_ rfl ?_
  · simp [okH_all, okR, cbox, rowD, bare_ok (cellsP_bare _), okL_cons, okL_nil, okA_str, okA_ptr, okA_int, okA_nils, okA_sv]
  · intro p hp
    simp only [List.mem_cons, List.not_mem_nil, or_false] at hp
    rcases hp with rfl | rfl | rfl <;> rfl

theorem wantC14 {L : List KV} {key s far : ByteArray} (hkey : eqB key ⟨#[]⟩ = false) (hs : s.size ≤ 65536) (hfar : far.size ≤ 65536)
    (cp : Ctr Tryz.prog 32 [.ptr 0 0, .int .i64 1, .str key] [] [(0, cbox (.sv 2 2 0 1 none)), (2, .row 74 2 [.str (rawB L 1), .sv 3 2 0 L.length (some L.length)] none), (3, rowD L (some L.length))] 4 4 (.tup [.agg [.int .i64 1, .str s], .int .i64 0]) [(0, cbox (.sv 2 2 0 1 none)), (2, .row 74 2 [.str (rawB L 1), .sv 3 2 0 L.length (some L.length)] none), (3, rowD L (some L.length))]) :
    Ctr Tryz.prog 12 [.ptr 0 0, .agg [.int .i64 14, .str ⟨#[]⟩, .sv 4 1 0 3 (some 3), .nils, .nils], .str key] [] [(0, cbox (.sv 2 2 0 1 none)), (2, .row 74 2 [.str (rawB L 1), .sv 3 2 0 L.length (some L.length)] none), (3, rowD L (some L.length)), (4, rowS [cl0W, cl0W, far] (some 3))] 5 5 (.str (msgB 14 [cl0W, cl0W, far, s] [1])) [(0, cbox (.sv 2 2 0 1 none)), (2, .row 74 2 [.str (rawB L 1), .sv 3 2 0 L.length (some L.length)] none), (3, rowD L (some L.length)), (4, rowS [cl0W, cl0W, far] (some 3))] := by
  have hT : shortL [cl0W, cl0W, far, s] := by
    intro x hx
    simp only [List.mem_cons, List.not_mem_nil, or_false] at hx
    rcases hx with rfl | rfl | rfl | rfl
    · decide
    · decide
    · exact hfar
    · exact hs
  refine Ctr.introR (T := Tryz.T) Tryz.hT Tryz.hM puZ_ok Tryz.func12 rfl (by kernel_rfl) rfl rfl ?_ rfl ?_
  · simp [okH_all, okR, cbox, rowD, rowS, bare_ok (cellsP_bare _), bare_ok (strsA_bare _), okL_cons, okL_nil, okA_str, okA_ptr, okA_int, okA_nils, okA_sv]
  conv => whnf
  refine callR [0, 1, 2, 3] (height1 L) rfl rfl rfl rfl trivial ⟨rfl, rfl, trivial⟩ ?_
  conv => whnf
  refine callR [0, 1, 2, 3] cp (post' := [(0, cbox (.sv 2 2 0 1 none)), (2, .row 74 2 [.str (rawB L 1), .sv 3 2 0 L.length (some L.length)] none), (3, rowD L (some L.length))]) (by simp only [renH, rowD_ren]; rfl) rfl rfl rfl trivial ⟨rfl, rfl, rowD_at _ rfl, trivial⟩ ?_
  conv => whnf
  rw [hkey]
  conv => whnf
  refine ⟨by decide, ?_⟩
  conv => whnf
  refine ⟨by decide, ?_⟩
  conv => whnf
  refine callR [8, 10] (putR1 (k := 14) (l := [cl0W, cl0W, far, s]) kind14 none (by show 4 ≤ 256; decide) hT (by decide) (by decide)) (post' := [(8, rowS [cl0W, cl0W, far, s] none), (10, rowI [1] none)]) (by simp only [renH, rowS_ren, rowI_ren]; rfl) rfl rfl rfl trivial ⟨rowS_at _ rfl, rowI_at _ rfl, trivial⟩ ?_
  conv => whnf
  refine Fin.same ?_ rfl ?_
  · simp [okH_all, okR, cbox, rowD, rowS, bare_ok (cellsP_bare _), bare_ok (strsA_bare _), okL_cons, okL_nil, okA_str, okA_ptr, okA_int, okA_nils, okA_sv]
  · intro p hp
    simp only [List.mem_cons, List.not_mem_nil, or_false] at hp
    rcases hp with rfl | rfl | rfl | rfl <;> rfl
theorem wantC15 {L : List KV} {key s far own : ByteArray} (hkey : eqB key ⟨#[]⟩ = false) (hs : s.size ≤ 65536) (hfar : far.size ≤ 65536) (hown : own.size ≤ 65536)
    (cp : Ctr Tryz.prog 32 [.ptr 0 0, .int .i64 1, .str key] [] [(0, cbox (.sv 2 2 0 1 none)), (2, .row 74 2 [.str (rawB L 1), .sv 3 2 0 L.length (some L.length)] none), (3, rowD L (some L.length))] 4 4 (.tup [.agg [.int .i64 1, .str s], .int .i64 0]) [(0, cbox (.sv 2 2 0 1 none)), (2, .row 74 2 [.str (rawB L 1), .sv 3 2 0 L.length (some L.length)] none), (3, rowD L (some L.length))]) :
    Ctr Tryz.prog 12 [.ptr 0 0, .agg [.int .i64 15, .str ⟨#[]⟩, .sv 4 1 0 2 (some 2), .nils, .nils], .str key] [] [(0, cbox (.sv 2 2 0 1 none)), (2, .row 74 2 [.str (rawB L 1), .sv 3 2 0 L.length (some L.length)] none), (3, rowD L (some L.length)), (4, rowS [own, far] (some 2))] 5 5 (.str (msgB 15 [own, far, s] [1])) [(0, cbox (.sv 2 2 0 1 none)), (2, .row 74 2 [.str (rawB L 1), .sv 3 2 0 L.length (some L.length)] none), (3, rowD L (some L.length)), (4, rowS [own, far] (some 2))] := by
  have hT : shortL [own, far, s] := by
    intro x hx
    simp only [List.mem_cons, List.not_mem_nil, or_false] at hx
    rcases hx with rfl | rfl | rfl
    · exact hown
    · exact hfar
    · exact hs
  refine Ctr.introR (T := Tryz.T) Tryz.hT Tryz.hM puZ_ok Tryz.func12 rfl (by kernel_rfl) rfl rfl ?_ rfl ?_
  · simp [okH_all, okR, cbox, rowD, rowS, bare_ok (cellsP_bare _), bare_ok (strsA_bare _), okL_cons, okL_nil, okA_str, okA_ptr, okA_int, okA_nils, okA_sv]
  conv => whnf
  refine callR [0, 1, 2, 3] (height1 L) rfl rfl rfl rfl trivial ⟨rfl, rfl, trivial⟩ ?_
  conv => whnf
  refine callR [0, 1, 2, 3] cp (post' := [(0, cbox (.sv 2 2 0 1 none)), (2, .row 74 2 [.str (rawB L 1), .sv 3 2 0 L.length (some L.length)] none), (3, rowD L (some L.length))]) (by simp only [renH, rowD_ren]; rfl) rfl rfl rfl trivial ⟨rfl, rfl, rowD_at _ rfl, trivial⟩ ?_
  conv => whnf
  rw [hkey]
  conv => whnf
  refine ⟨by decide, ?_⟩
  conv => whnf
  refine ⟨by decide, ?_⟩
  conv => whnf
  refine callR [8, 10] (putR1 (k := 15) (l := [own, far, s]) kind15 none (by show 3 ≤ 256; decide) hT (by decide) (by decide)) (post' := [(8, rowS [own, far, s] none), (10, rowI [1] none)]) (by simp only [renH, rowS_ren, rowI_ren]; rfl) rfl rfl rfl trivial ⟨rowS_at _ rfl, rowI_at _ rfl, trivial⟩ ?_
  conv => whnf
  refine Fin.same ?_ rfl ?_
  · simp [okH_all, okR, cbox, rowD, rowS, bare_ok (cellsP_bare _), bare_ok (strsA_bare _), okL_cons, okL_nil, okA_str, okA_ptr, okA_int, okA_nils, okA_sv]
  · intro p hp
    simp only [List.mem_cons, List.not_mem_nil, or_false] at hp
    rcases hp with rfl | rfl | rfl | rfl <;> rfl
theorem wantC16 {L : List KV} {key s own : ByteArray} (hkey : eqB key ⟨#[]⟩ = false) (hs : s.size ≤ 65536) (hown : own.size ≤ 65536)
    (cp : Ctr Tryz.prog 32 [.ptr 0 0, .int .i64 1, .str key] [] [(0, cbox (.sv 2 2 0 1 none)), (2, .row 74 2 [.str (rawB L 1), .sv 3 2 0 L.length (some L.length)] none), (3, rowD L (some L.length))] 4 4 (.tup [.agg [.int .i64 1, .str s], .int .i64 0]) [(0, cbox (.sv 2 2 0 1 none)), (2, .row 74 2 [.str (rawB L 1), .sv 3 2 0 L.length (some L.length)] none), (3, rowD L (some L.length))]) :
    Ctr Tryz.prog 12 [.ptr 0 0, .agg [.int .i64 16, .str ⟨#[]⟩, .sv 4 1 0 1 (some 1), .nils, .nils], .str key] [] [(0, cbox (.sv 2 2 0 1 none)), (2, .row 74 2 [.str (rawB L 1), .sv 3 2 0 L.length (some L.length)] none), (3, rowD L (some L.length)), (4, rowS [own] (some 1))] 5 5 (.str (msgB 16 [own, s] [1])) [(0, cbox (.sv 2 2 0 1 none)), (2, .row 74 2 [.str (rawB L 1), .sv 3 2 0 L.length (some L.length)] none), (3, rowD L (some L.length)), (4, rowS [own] (some 1))] := by
  have hT : shortL [own, s] := by
    intro x hx
    simp only [List.mem_cons, List.not_mem_nil, or_false] at hx
    rcases hx with rfl | rfl
    · exact hown
    · exact hs
  refine Ctr.introR (T := Tryz.T) Tryz.hT Tryz.hM puZ_ok Tryz.func12 rfl (by kernel_rfl) rfl rfl ?_ rfl ?_
  · simp [okH_all, okR, cbox, rowD, rowS, bare_ok (cellsP_bare _), bare_ok (strsA_bare _), okL_cons, okL_nil, okA_str, okA_ptr, okA_int, okA_nils, okA_sv]
  conv => whnf
  refine callR [0, 1, 2, 3] (height1 L) rfl rfl rfl rfl trivial ⟨rfl, rfl, trivial⟩ ?_
  conv => whnf
  refine callR [0, 1, 2, 3] cp (post' := [(0, cbox (.sv 2 2 0 1 none)), (2, .row 74 2 [.str (rawB L 1), .sv 3 2 0 L.length (some L.length)] none), (3, rowD L (some L.length))]) (by simp only [renH, rowD_ren]; rfl) rfl rfl rfl trivial ⟨rfl, rfl, rowD_at _ rfl, trivial⟩ ?_
  conv => whnf
  rw [hkey]
  conv => whnf
  refine ⟨by decide, ?_⟩
  conv => whnf
  refine ⟨by decide, ?_⟩
  conv => whnf
  refine callR [8, 10] (putR1 (k := 16) (l := [own, s]) kind16 none (by show 2 ≤ 256; decide) hT (by decide) (by decide)) (post' := [(8, rowS [own, s] none), (10, rowI [1] none)]) (by simp only [renH, rowS_ren, rowI_ren]; rfl) rfl rfl rfl trivial ⟨rowS_at _ rfl, rowI_at _ rfl, trivial⟩ ?_
  conv => whnf
  refine Fin.same ?_ rfl ?_
  · simp [okH_all, okR, cbox, rowD, rowS, bare_ok (cellsP_bare _), bare_ok (strsA_bare _), okL_cons, okL_nil, okA_str, okA_ptr, okA_int, okA_nils, okA_sv]
  · intro p hp
    simp only [List.mem_cons, List.not_mem_nil, or_false] at hp
    rcases hp with rfl | rfl | rfl | rfl <;> rfl
theorem wantH18 {L : List KV} {key s far own : ByteArray} (hkey : eqB key ⟨#[]⟩ = false) (hs : s.size ≤ 65536) (hfar : far.size ≤ 65536) (hown : own.size ≤ 65536)
    (cp : Ctr Tryz.prog 32 [.ptr 0 0, .int .i64 1, .str key] [] [(0, cbox (.sv 2 2 0 1 none)), (2, .row 74 2 [.str (rawB L 1), .sv 3 2 0 L.length (some L.length)] none), (3, rowD L (some L.length))] 4 4 (.tup [.agg [.int .i64 1, .str s], .int .i64 0]) [(0, cbox (.sv 2 2 0 1 none)), (2, .row 74 2 [.str (rawB L 1), .sv 3 2 0 L.length (some L.length)] none), (3, rowD L (some L.length))]) :
    Ctr Tryz.prog 12 [.ptr 0 0, .agg [.int .i64 18, .str ⟨#[]⟩, .sv 4 1 0 5 (some 5), .nils, .sv 5 1 0 1 (some 1)], .str key] [] [(0, cbox (.sv 2 2 0 1 none)), (2, .row 74 2 [.str (rawB L 1), .sv 3 2 0 L.length (some L.length)] none), (3, rowD L (some L.length)), (4, rowS [nftW, own, nftW, far, icsW] (some 5)), (5, rowI [1] (some 1))] 6 6 (.str (msgB 18 [nftW, own, nftW, far, icsW, s] [1, 1])) [(0, cbox (.sv 2 2 0 1 none)), (2, .row 74 2 [.str (rawB L 1), .sv 3 2 0 L.length (some L.length)] none), (3, rowD L (some L.length)), (4, rowS [nftW, own, nftW, far, icsW] (some 5)), (5, rowI [1] (some 1))] := by
  have hT : shortL [nftW, own, nftW, far, icsW, s] := by
    intro x hx
    simp only [List.mem_cons, List.not_mem_nil, or_false] at hx
    rcases hx with rfl | rfl | rfl | rfl | rfl | rfl
    · decide
    · exact hown
    · decide
    · exact hfar
    · decide
    · exact hs
  refine Ctr.introR (T := Tryz.T) Tryz.hT Tryz.hM puZ_ok Tryz.func12 rfl (by kernel_rfl) rfl rfl ?_ rfl ?_
  · simp [okH_all, okR, cbox, rowD, rowS, rowI, bare_ok (cellsP_bare _), bare_ok (strsA_bare _), bare_ok (intsA_bare _), okL_cons, okL_nil, okA_str, okA_ptr, okA_int, okA_nils, okA_sv]
  conv => whnf
  refine callR [0, 1, 2, 3] (height1 L) rfl rfl rfl rfl trivial ⟨rfl, rfl, trivial⟩ ?_
  conv => whnf
  refine callR [0, 1, 2, 3] cp (post' := [(0, cbox (.sv 2 2 0 1 none)), (2, .row 74 2 [.str (rawB L 1), .sv 3 2 0 L.length (some L.length)] none), (3, rowD L (some L.length))]) (by simp only [renH, rowD_ren]; rfl) rfl rfl rfl trivial ⟨rfl, rfl, rowD_at _ rfl, trivial⟩ ?_
  conv => whnf
  rw [hkey]
  conv => whnf
  refine ⟨by decide, ?_⟩
  conv => whnf
  refine ⟨by decide, ?_⟩
  conv => whnf
  refine callR [9, 11] (putR2 (k := 18) (l := [nftW, own, nftW, far, icsW, s]) kind18 none (by show 6 ≤ 256; decide) hT (by decide) (by decide) (by decide) (by decide)) (post' := [(9, rowS [nftW, own, nftW, far, icsW, s] none), (11, rowI [1, 1] none)]) (by simp only [renH, rowS_ren, rowI_ren]; rfl) rfl rfl rfl trivial ⟨rowS_at _ rfl, rowI_at _ rfl, trivial⟩ ?_
  conv => whnf
  refine Fin.same ?_ rfl ?_
  · simp [okH_all, okR, cbox, rowD, rowS, rowI, bare_ok (cellsP_bare _), bare_ok (strsA_bare _), bare_ok (intsA_bare _), okL_cons, okL_nil, okA_str, okA_ptr, okA_int, okA_nils, okA_sv]
  · intro p hp
    simp only [List.mem_cons, List.not_mem_nil, or_false] at hp
    rcases hp with rfl | rfl | rfl | rfl | rfl <;> rfl
theorem wantH19 {L : List KV} {key s far own : ByteArray} (hkey : eqB key ⟨#[]⟩ = false) (hs : s.size ≤ 65536) (hfar : far.size ≤ 65536) (hown : own.size ≤ 65536)
    (cp : Ctr Tryz.prog 32 [.ptr 0 0, .int .i64 1, .str key] [] [(0, cbox (.sv 2 2 0 1 none)), (2, .row 74 2 [.str (rawB L 1), .sv 3 2 0 L.length (some L.length)] none), (3, rowD L (some L.length))] 4 4 (.tup [.agg [.int .i64 1, .str s], .int .i64 0]) [(0, cbox (.sv 2 2 0 1 none)), (2, .row 74 2 [.str (rawB L 1), .sv 3 2 0 L.length (some L.length)] none), (3, rowD L (some L.length))]) :
    Ctr Tryz.prog 12 [.ptr 0 0, .agg [.int .i64 19, .str ⟨#[]⟩, .sv 4 1 0 3 (some 3), .nils, .nils], .str key] [] [(0, cbox (.sv 2 2 0 1 none)), (2, .row 74 2 [.str (rawB L 1), .sv 3 2 0 L.length (some L.length)] none), (3, rowD L (some L.length)), (4, rowS [nftW, own, far] (some 3))] 5 5 (.str (msgB 19 [nftW, own, far, s] [1])) [(0, cbox (.sv 2 2 0 1 none)), (2, .row 74 2 [.str (rawB L 1), .sv 3 2 0 L.length (some L.length)] none), (3, rowD L (some L.length)), (4, rowS [nftW, own, far] (some 3))] := by
  have hT : shortL [nftW, own, far, s] := by
    intro x hx
    simp only [List.mem_cons, List.not_mem_nil, or_false] at hx
    rcases hx with rfl | rfl | rfl | rfl
    · decide
    · exact hown
    · exact hfar
    · exact hs
  refine Ctr.introR (T := Tryz.T) Tryz.hT Tryz.hM puZ_ok Tryz.func12 rfl (by kernel_rfl) rfl rfl ?_ rfl ?_
  · simp [okH_all, okR, cbox, rowD, rowS, bare_ok (cellsP_bare _), bare_ok (strsA_bare _), okL_cons, okL_nil, okA_str, okA_ptr, okA_int, okA_nils, okA_sv]
  conv => whnf
  refine callR [0, 1, 2, 3] (height1 L) rfl rfl rfl rfl trivial ⟨rfl, rfl, trivial⟩ ?_
  conv => whnf
  refine callR [0, 1, 2, 3] cp (post' := [(0, cbox (.sv 2 2 0 1 none)), (2, .row 74 2 [.str (rawB L 1), .sv 3 2 0 L.length (some L.length)] none), (3, rowD L (some L.length))]) (by simp only [renH, rowD_ren]; rfl) rfl rfl rfl trivial ⟨rfl, rfl, rowD_at _ rfl, trivial⟩ ?_
  conv => whnf
  rw [hkey]
  conv => whnf
  refine ⟨by decide, ?_⟩
  conv => whnf
  refine ⟨by decide, ?_⟩
  conv => whnf
  refine callR [8, 10] (putR1 (k := 19) (l := [nftW, own, far, s]) kind19 none (by show 4 ≤ 256; decide) hT (by decide) (by decide)) (post' := [(8, rowS [nftW, own, far, s] none), (10, rowI [1] none)]) (by simp only [renH, rowS_ren, rowI_ren]; rfl) rfl rfl rfl trivial ⟨rowS_at _ rfl, rowI_at _ rfl, trivial⟩ ?_
  conv => whnf
  refine Fin.same ?_ rfl ?_
  · simp [okH_all, okR, cbox, rowD, rowS, bare_ok (cellsP_bare _), bare_ok (strsA_bare _), okL_cons, okL_nil, okA_str, okA_ptr, okA_int, okA_nils, okA_sv]
  · intro p hp
    simp only [List.mem_cons, List.not_mem_nil, or_false] at hp
    rcases hp with rfl | rfl | rfl | rfl <;> rfl
theorem wantH20 {L : List KV} {key s own : ByteArray} (hkey : eqB key ⟨#[]⟩ = false) (hs : s.size ≤ 65536) (hown : own.size ≤ 65536)
    (cp : Ctr Tryz.prog 32 [.ptr 0 0, .int .i64 1, .str key] [] [(0, cbox (.sv 2 2 0 1 none)), (2, .row 74 2 [.str (rawB L 1), .sv 3 2 0 L.length (some L.length)] none), (3, rowD L (some L.length))] 4 4 (.tup [.agg [.int .i64 1, .str s], .int .i64 0]) [(0, cbox (.sv 2 2 0 1 none)), (2, .row 74 2 [.str (rawB L 1), .sv 3 2 0 L.length (some L.length)] none), (3, rowD L (some L.length))]) :
    Ctr Tryz.prog 12 [.ptr 0 0, .agg [.int .i64 20, .str ⟨#[]⟩, .sv 4 1 0 2 (some 2), .nils, .nils], .str key] [] [(0, cbox (.sv 2 2 0 1 none)), (2, .row 74 2 [.str (rawB L 1), .sv 3 2 0 L.length (some L.length)] none), (3, rowD L (some L.length)), (4, rowS [nftW, own] (some 2))] 5 5 (.str (msgB 20 [nftW, own, s] [1])) [(0, cbox (.sv 2 2 0 1 none)), (2, .row 74 2 [.str (rawB L 1), .sv 3 2 0 L.length (some L.length)] none), (3, rowD L (some L.length)), (4, rowS [nftW, own] (some 2))] := by
  have hT : shortL [nftW, own, s] := by
    intro x hx
    simp only [List.mem_cons, List.not_mem_nil, or_false] at hx
    rcases hx with rfl | rfl | rfl
    · decide
    · exact hown
    · exact hs
  refine Ctr.introR (T := Tryz.T) Tryz.hT Tryz.hM puZ_ok Tryz.func12 rfl (by kernel_rfl) rfl rfl ?_ rfl ?_
  · simp [okH_all, okR, cbox, rowD, rowS, bare_ok (cellsP_bare _), bare_ok (strsA_bare _), okL_cons, okL_nil, okA_str, okA_ptr, okA_int, okA_nils, okA_sv]
  conv => whnf
  refine callR [0, 1, 2, 3] (height1 L) rfl rfl rfl rfl trivial ⟨rfl, rfl, trivial⟩ ?_
  conv => whnf
  refine callR [0, 1, 2, 3] cp (post' := [(0, cbox (.sv 2 2 0 1 none)), (2, .row 74 2 [.str (rawB L 1), .sv 3 2 0 L.length (some L.length)] none), (3, rowD L (some L.length))]) (by simp only [renH, rowD_ren]; rfl) rfl rfl rfl trivial ⟨rfl, rfl, rowD_at _ rfl, trivial⟩ ?_
  conv => whnf
  rw [hkey]
  conv => whnf
  refine ⟨by decide, ?_⟩
  conv => whnf
  refine ⟨by decide, ?_⟩
  conv => whnf
  refine callR [8, 10] (putR1 (k := 20) (l := [nftW, own, s]) kind20 none (by show 3 ≤ 256; decide) hT (by decide) (by decide)) (post' := [(8, rowS [nftW, own, s] none), (10, rowI [1] none)]) (by simp only [renH, rowS_ren, rowI_ren]; rfl) rfl rfl rfl trivial ⟨rowS_at _ rfl, rowI_at _ rfl, trivial⟩ ?_
  conv => whnf
  refine Fin.same ?_ rfl ?_
  · simp [okH_all, okR, cbox, rowD, rowS, bare_ok (cellsP_bare _), bare_ok (strsA_bare _), okL_cons, okL_nil, okA_str, okA_ptr, okA_int, okA_nils, okA_sv]
  · intro p hp
    simp only [List.mem_cons, List.not_mem_nil, or_false] at hp
    rcases hp with rfl | rfl | rfl | rfl <;> rfl
theorem texts14 (own far : ByteArray) : Ctr Tryz.prog 10 [.int .i64 14, .str own, .str far] [] [] 0 1 (.tup [.sv 0 1 0 3 (some 3), .nils, .bool true]) [(0, rowS [cl0W, cl0W, far] (some 3))] := by
  refine Ctr.introR (T := Tryz.T) Tryz.hT Tryz.hM puZ_ok Tryz.func10 rfl (by kernel_rfl) rfl rfl rfl rfl ?_
  conv => whnf
  refine .mk' [0] rfl rfl rfl ?_ rfl rfl ⟨rowS_at _ rfl, trivial⟩
  simp [okH_all, okR, rowS, bare_ok (strsA_bare _)]
theorem texts15 (own far : ByteArray) : Ctr Tryz.prog 10 [.int .i64 15, .str own, .str far] [] [] 0 1 (.tup [.sv 0 1 0 2 (some 2), .nils, .bool true]) [(0, rowS [own, far] (some 2))] := by
  refine Ctr.introR (T := Tryz.T) Tryz.hT Tryz.hM puZ_ok Tryz.func10 rfl (by kernel_rfl) rfl rfl rfl rfl ?_
  conv => whnf
  refine .mk' [0] rfl rfl rfl ?_ rfl rfl ⟨rowS_at _ rfl, trivial⟩
  simp [okH_all, okR, rowS, bare_ok (strsA_bare _)]
theorem texts16 (own far : ByteArray) : Ctr Tryz.prog 10 [.int .i64 16, .str own, .str far] [] [] 0 1 (.tup [.sv 0 1 0 1 (some 1), .nils, .bool true]) [(0, rowS [own] (some 1))] := by
  refine Ctr.introR (T := Tryz.T) Tryz.hT Tryz.hM puZ_ok Tryz.func10 rfl (by kernel_rfl) rfl rfl rfl rfl ?_
  conv => whnf
  refine .mk' [0] rfl rfl rfl ?_ rfl rfl ⟨rowS_at _ rfl, trivial⟩
  simp [okH_all, okR, rowS, bare_ok (strsA_bare _)]
theorem texts18 (own far : ByteArray) : Ctr Tryz.prog 10 [.int .i64 18, .str own, .str far] [] [] 0 2 (.tup [.sv 0 1 0 5 (some 5), .sv 1 1 0 1 (some 1), .bool true]) [(0, rowS [nftW, own, nftW, far, icsW] (some 5)), (1, rowI [1] (some 1))] := by
  refine Ctr.introR (T := Tryz.T) Tryz.hT Tryz.hM puZ_ok Tryz.func10 rfl (by kernel_rfl) rfl rfl rfl rfl ?_
  conv => whnf
  refine .mk' [0, 1] rfl rfl rfl ?_ rfl rfl ⟨rowS_at _ rfl, rowI_at _ rfl, trivial⟩
  simp [okH_all, okR, rowS, rowI, bare_ok (strsA_bare _), bare_ok (intsA_bare _)]
theorem texts19 (own far : ByteArray) : Ctr Tryz.prog 10 [.int .i64 19, .str own, .str far] [] [] 0 1 (.tup [.sv 0 1 0 3 (some 3), .nils, .bool true]) [(0, rowS [nftW, own, far] (some 3))] := by
  refine Ctr.introR (T := Tryz.T) Tryz.hT Tryz.hM puZ_ok Tryz.func10 rfl (by kernel_rfl) rfl rfl rfl rfl ?_
  conv => whnf
  refine .mk' [0] rfl rfl rfl ?_ rfl rfl ⟨rowS_at _ rfl, trivial⟩
  simp [okH_all, okR, rowS, bare_ok (strsA_bare _)]
theorem texts20 (own far : ByteArray) : Ctr Tryz.prog 10 [.int .i64 20, .str own, .str far] [] [] 0 1 (.tup [.sv 0 1 0 2 (some 2), .nils, .bool true]) [(0, rowS [nftW, own] (some 2))] := by
  refine Ctr.introR (T := Tryz.T) Tryz.hT Tryz.hM puZ_ok Tryz.func10 rfl (by kernel_rfl) rfl rfl rfl rfl ?_
  conv => whnf
  refine .mk' [0] rfl rfl rfl ?_ rfl rfl ⟨rowS_at _ rfl, trivial⟩
  simp [okH_all, okR, rowS, bare_ok (strsA_bare _)]
theorem connNo {L : List KV} {own far : ByteArray} {kind : Int} (h14 : kind ≠ 14) (h15 : kind ≠ 15) (h16 : kind ≠ 16) : Ctr Tryz.prog 8 [.ptr 0 0, .int .i64 kind, .str own, .str far] [] [(0, cbox (.sv 2 2 0 1 none)), (2, .row 74 2 [.str (rawB L 1), .sv 3 2 0 L.length (some L.length)] none)] 4 4 (.tup [.str ⟨#[]⟩, .int .i64 1]) [(0, cbox (.sv 2 2 0 1 none)), (2, .row 74 2 [.str (rawB L 1), .sv 3 2 0 L.length (some L.length)] none)] := by
  refine Ctr.introR (T := Tryz.T) Tryz.hT Tryz.hM puZ_ok Tryz.func8 rfl (by kernel_rfl) rfl rfl rfl rfl ?_
  conv => whnf
  refine callR [0, 1, 2, 3] (ready1 L) rfl rfl rfl rfl trivial ⟨rfl, rfl, trivial⟩ ?_
  conv => whnf
  rw [show decide (kind = 14) = false from decide_eq_false h14]
  conv => whnf
  rw [show decide (kind = 15) = false from decide_eq_false h15]
  conv => whnf
  rw [show decide (kind = 16) = false from decide_eq_false h16]
  conv => whnf
  exact .mk' [] rfl rfl rfl rfl rfl rfl ⟨rfl, rfl, trivial⟩
theorem chanNo {L : List KV} {own far : ByteArray} {kind : Int} (h18 : kind ≠ 18) (h19 : kind ≠ 19) (h20 : kind ≠ 20) : Ctr Tryz.prog 9 [.ptr 0 0, .int .i64 kind, .str own, .str far] [] [(0, cbox (.sv 2 2 0 1 none)), (2, .row 74 2 [.str (rawB L 1), .sv 3 2 0 L.length (some L.length)] none)] 4 4 (.tup [.str ⟨#[]⟩, .int .i64 1]) [(0, cbox (.sv 2 2 0 1 none)), (2, .row 74 2 [.str (rawB L 1), .sv 3 2 0 L.length (some L.length)] none)] := by
  refine Ctr.introR (T := Tryz.T) Tryz.hT Tryz.hM puZ_ok Tryz.func9 rfl (by kernel_rfl) rfl rfl rfl rfl ?_
  conv => whnf
  refine callR [0, 1, 2, 3] (ready1 L) rfl rfl rfl rfl trivial ⟨rfl, rfl, trivial⟩ ?_
  conv => whnf
  rw [show decide (kind = 18) = false from decide_eq_false h18]
  conv => whnf
  rw [show decide (kind = 19) = false from decide_eq_false h19]
  conv => whnf
  rw [show decide (kind = 20) = false from decide_eq_false h20]
  conv => whnf
  exact .mk' [] rfl rfl rfl rfl rfl rfl ⟨rfl, rfl, trivial⟩
theorem textsNo {L : List KV} {own far : ByteArray} {kind : Int} (h14 : kind ≠ 14) (h15 : kind ≠ 15) (h16 : kind ≠ 16) (h18 : kind ≠ 18) (h19 : kind ≠ 19) (h20 : kind ≠ 20) : Ctr Tryz.prog 10 [.int .i64 kind, .str own, .str far] [] [] 0 0 (.tup [.nils, .nils, .bool false]) [] := by
  refine Ctr.introR (T := Tryz.T) Tryz.hT Tryz.hM puZ_ok Tryz.func10 rfl (by kernel_rfl) rfl rfl rfl rfl ?_
  conv => whnf
  rw [show decide (kind = 14) = false from decide_eq_false h14]
  conv => whnf
  rw [show decide (kind = 15) = false from decide_eq_false h15]
  conv => whnf
  rw [show decide (kind = 16) = false from decide_eq_false h16]
  conv => whnf
  rw [show decide (kind = 18) = false from decide_eq_false h18]
  conv => whnf
  rw [show decide (kind = 19) = false from decide_eq_false h19]
  conv => whnf
  rw [show decide (kind = 20) = false from decide_eq_false h20]
  conv => whnf
  exact .mk' [] rfl rfl rfl rfl rfl rfl trivial

def escL (l : List UInt8) : List UInt8 := l.flatMap fun b => if b = 47 then [37, 115] else if b = 37 then [37, 112] else [b]
theorem escL_hid (l : List UInt8) : repl 47 115 (repl 37 112 l) = escL l := by
  induction l with
  | nil => rfl
  | cons x l ih =>
    have h1 : repl 37 112 (x :: l) = (if x = 37 then [37, 112] else [x]) ++ repl 37 112 l := rfl
    have h2 : ∀ a b, repl 47 115 (a ++ b) = repl 47 115 a ++ repl 47 115 b := by intro a b; simp [repl]
    have h3 : escL (x :: l) = (if x = 47 then [37, 115] else if x = 37 then [37, 112] else [x]) ++ escL l := rfl
    rw [h1, h2, ih, h3]
    congr 1
    by_cases a : x = 37
    · subst a; decide
    · by_cases b : x = 47
      · subst b; decide
      · simp [repl, a, b]
theorem escL_snoc (l : List UInt8) (x : UInt8) : escL (l ++ [x]) = escL l ++ (if x = 47 then [37, 115] else if x = 37 then [37, 112] else [x]) := by simp [escL]
theorem escL_len (l : List UInt8) : (escL l).length ≤ 2 * l.length := by
  induction l with
  | nil => decide
  | cons x l ih =>
    have h3 : escL (x :: l) = (if x = 47 then [37, 115] else if x = 37 then [37, 112] else [x]) ++ escL l := rfl
    rw [h3, List.length_append, List.length_cons]
    by_cases b : x = 47
    · simp [b]; omega
    · by_cases a : x = 37
      · simp [a]; omega
      · simp [a, b]; omega
theorem byteAt_eq {s : ByteArray} {i : Nat} (h : i < s.size) (hd : s.data.toList.length = s.size) : byteAt s (i : Int) = ((s.data.toList[i]'(by omega)).toNat : Int) := by
  unfold byteAt
  rw [Int.toNat_natCast, getElem?_pos s i h]
  rfl
theorem byte_ne {x y : UInt8} (h : x ≠ y) : decide ((x.toNat : Int) = (y.toNat : Int)) = false := by
  apply decide_eq_false
  intro e
  exact h (UInt8.toNat_inj.1 (by omega))
theorem hiddenP (s : ByteArray) (hs : s.size ≤ 65536) : Ctr Tryz.prog 11 [.str s] [] [] 0 0 (.str (hid s)) [] := by
  have hd : s.data.toList.length = s.size := rfl
  refine Ctr.introR (T := Tryz.T) Tryz.hT Tryz.hM puZ_ok Tryz.func11 rfl (by kernel_rfl) rfl rfl rfl rfl ?_
  conv => whnf
  refine loopR Tryz.hT Tryz.hM puZ_ok (α := {i : Nat // i ≤ s.size})
    (fun i => ([(0, .str s), (3, .str (ofL (escL (s.data.toList.take i.1)))), (4, .int .i64 (i.1 : Int))], [])) (fun i => s.size - i.1) 0 ⟨0, Nat.zero_le _⟩ [] ?_ ?_
  · exact ⟨⟨rfl, rfl, rfl, trivial⟩, trivial, rfl, rfl⟩
  rintro ⟨i, hi⟩
  conv => whnf
  dsimp only
  by_cases h : i < s.size
  · rw [show decide (((i : Nat) : Int) < ((s.size : Nat) : Int)) = true by simpa using h]
    conv => whnf
    simp only
    refine ⟨by omega, ?_⟩
    conv => whnf
    rw [byteAt_eq h hd]
    have hsz : ∀ j, j ≤ s.size → (ofL (escL (s.data.toList.take j))).size ≤ 2 * s.size := fun j hj => by
      rw [ofL_size]
      have := escL_len (s.data.toList.take j)
      rw [List.length_take] at this
      omega
    have hz := hsz i hi
    have hw : IntKind.i64.wrap ((i : Int) + 1) = ((i + 1 : Nat) : Int) := by rw [wrap_small] <;> omega
    have hsn : s.data.toList.take (i + 1) = s.data.toList.take i ++ [s.data.toList[i]'(by omega)] := List.take_succ_eq_append_getElem (by omega)
    generalize hx : s.data.toList[i]'(by omega) = x at hsn ⊢
    have h2 : (ByteArray.mk #[37, 115]).size = 2 := rfl
    have h3 : (ByteArray.mk #[37, 112]).size = 2 := rfl
    by_cases x47 : x = 47
    · have e : catB (ofL (escL (s.data.toList.take i))) ⟨#[37, 115]⟩ = ofL (escL (s.data.toList.take (i + 1))) := by
        rw [hsn, escL_snoc, if_pos x47, ← ofL_app, catB_eq]; rfl
      rw [show decide ((x.toNat : Int) = 47) = true from decide_eq_true (by rw [x47]; rfl)]
      conv => whnf
      refine ⟨by rw [h2]; unfold big; omega, ?_⟩
      conv => whnf
      rw [e, hw]
      exact ⟨⟨i + 1, h⟩, [], by dsimp only; omega, ⟨⟨rfl, rfl, rfl, trivial⟩, trivial, rfl, rfl⟩⟩
    · rw [show decide ((x.toNat : Int) = 47) = false from byte_ne (y := 47) x47]
      conv => whnf
      by_cases x37 : x = 37
      · have e : catB (ofL (escL (s.data.toList.take i))) ⟨#[37, 112]⟩ = ofL (escL (s.data.toList.take (i + 1))) := by
          rw [hsn, escL_snoc, if_neg x47, if_pos x37, ← ofL_app, catB_eq]; rfl
        rw [show decide ((x.toNat : Int) = 37) = true from decide_eq_true (by rw [x37]; rfl)]
        conv => whnf
        refine ⟨by rw [h3]; unfold big; omega, ?_⟩
        conv => whnf
        rw [e, hw]
        exact ⟨⟨i + 1, h⟩, [], by dsimp only; omega, ⟨⟨rfl, rfl, rfl, trivial⟩, trivial, rfl, rfl⟩⟩
      · rw [show decide ((x.toNat : Int) = 37) = false from byte_ne (y := 37) x37]
        have e1 : subB s i (i + 1) = ofL [x] := by
          rw [subB_ofL, show i + 1 - i = 1 by omega, List.drop_eq_getElem_cons (by omega), hx]; rfl
        have e : catB (ofL (escL (s.data.toList.take i))) (ofL [x]) = ofL (escL (s.data.toList.take (i + 1))) := by
          rw [hsn, escL_snoc, if_neg x47, if_neg x37, ← ofL_app, catB_eq]
        conv => whnf
        simp only [hw, Int.toNat_natCast]
        refine ⟨by omega, ?_⟩
        conv => whnf
        rw [e1]
        have h1 : (ofL [x]).size = 1 := rfl
        refine ⟨by rw [h1]; unfold big; omega, ?_⟩
        conv => whnf
        rw [e, hw]
        exact ⟨⟨i + 1, h⟩, [], by dsimp only; omega, ⟨⟨rfl, rfl, rfl, trivial⟩, trivial, rfl, rfl⟩⟩
  · rw [show decide (((i : Nat) : Int) < ((s.size : Nat) : Int)) = false by simpa using h]
    have h : i = s.size := by omega
    conv => whnf
    have e : ofL (escL (s.data.toList.take i)) = hid s := by
      rw [List.take_of_length_le (by omega)]
      unfold hid; rw [escL_hid]
    rw [e]
    exact .mk' [] rfl rfl rfl rfl rfl rfl trivial
def k1W : ByteArray := ⟨#[99, 111, 110, 110, 47, 99, 111, 110, 110, 101, 99, 116, 105, 111, 110, 45, 48]⟩
def k2W : ByteArray := ⟨#[99, 104, 97, 110, 47, 110, 102, 116, 47, 99, 104, 97, 110, 110, 101, 108, 45, 48]⟩
def xW : ByteArray := ⟨#[120]⟩
def yW : ByteArray := ⟨#[121]⟩
def LS : List KV := setL (setL (chainL betW rooW) k1W xW) k2W yW
theorem LS_srt : Srt LS := setL_srt (setL_srt (setL_srt (setL_srt (setL_srt srt_nil _ _) _ _) _ _) _ _) _ _
theorem LS_len : LS.length = 5 := by kernel_rfl
def smallB (L : List KV) : Bool := L.all fun p => Nat.ble p.1.size 1000 && Nat.ble p.2.size 1000
theorem small_of {L : List KV} (h : smallB L = true) : smallK L := by
  intro i hi
  have := List.all_eq_true.1 h L[i] (List.getElem_mem hi)
  rw [Bool.and_eq_true] at this
  exact ⟨Nat.le_of_ble_eq_true this.1, Nat.le_of_ble_eq_true this.2⟩
theorem LS_small : smallK LS := small_of (by kernel_rfl)
noncomputable def litR : Res := .row 26 2 [.str k1W, .str xW, .str k2W, .str yW] (some 2)
theorem chainL_len : (chainL betW rooW).length = 3 := by kernel_rfl
theorem beginS : Ctr Tryz.prog 7 [.sv 0 2 0 2 (some 2), .int .i64 1] [] [(0, litR)] 1 5 (.ptr 1 0) [(0, litR), (1, .box 81 [.str alW, .ptr 2 0, .sv 3 2 0 1 none, .int .i64 0, .nils, .nils]), (2, jour LS), (3, .row 74 2 [.str (rawB LS 1), .sv 4 2 0 LS.length (some LS.length)] none), (4, rowD LS (some LS.length))] := by
  have hrm : room = 4398046511104 := rfl
  have s0 : Srt (chainL betW rooW) := setL_srt (setL_srt (setL_srt srt_nil _ _) _ _) _ _
  have l1 := setL_le (chainL betW rooW) k1W xW
  have l0 := chainL_len
  refine Ctr.introR (T := Tryz.T) Tryz.hT Tryz.hM Tryz.hE Tryz.func7 rfl (by kernel_rfl) rfl rfl rfl rfl ?_
  conv => whnf
  refine callR [] (chn (name := alW) (other := betW) (admin := rooW) (by decide) (by decide) (by decide) (by decide)) rfl rfl rfl rfl trivial trivial ?_
  conv => whnf
  refine unrollR Tryz.hT Tryz.hM Tryz.hE 3 ?_
  conv => whnf
  refine callR [1, 2] jOf rfl rfl rfl rfl trivial ⟨rfl, trivial⟩ ?_
  conv => whnf
  refine ⟨by decide, ?_⟩
  conv => whnf
  refine ⟨by decide, ?_⟩
  conv => whnf
  refine callR [2] (jsetP s0 k1W xW (by omega) (by decide) (by decide)) rfl rfl rfl rfl trivial ⟨rfl, trivial⟩ ?_
  conv => whnf
  refine callR [1, 2] jOf rfl rfl rfl rfl trivial ⟨rfl, trivial⟩ ?_
  conv => whnf
  refine ⟨by decide, ?_⟩
  conv => whnf
  refine ⟨by decide, ?_⟩
  conv => whnf
  refine callR [2] (jsetP (setL_srt s0 k1W xW) k2W yW (by omega) (by decide) (by decide)) rfl rfl rfl rfl trivial ⟨rfl, trivial⟩ ?_
  conv => whnf
  refine unrollR Tryz.hT Tryz.hM Tryz.hE 2 ?_
  conv => whnf
  refine callR [1, 2] (block0 (L := LS) LS_srt (by rw [LS_len]; omega) (by rw [LS_len]; omega) (by rw [LS_len]; omega)) (post' := [(1, .box 81 [.str alW, .ptr 2 0, .sv 4 2 0 1 none, .int .i64 0, .nils, .nils]), (2, jour LS), (3, rowD LS (some LS.length)), (4, .row 74 2 [.str (rawB LS 1), .sv 3 2 0 LS.length (some LS.length)] none)]) (by simp only [renH, rowD_ren]; rfl) rfl rfl rfl trivial ⟨rfl, rfl, trivial⟩ ?_
  conv => whnf
  refine .mk' [1, 2, 4, 3] rfl rfl rfl ?_ rfl rfl ⟨rfl, rfl, rfl, rfl, rowD_at _ rfl, trivial⟩
  simp [okH_all, okR, litR, rowD, bare_ok (cellsP_bare _), okL_cons, okL_nil, okA_str, okA_ptr, okA_int, okA_nils, okA_sv, jour]

theorem key_con (s : ByteArray) : catB ⟨#[99, 111, 110, 110, 47]⟩ (hid s) = joinB conW [s] := by
  show _ = catB (hid conW) (catB ⟨#[47]⟩ (hid s))
  rw [catB_eq, catB_eq, catB_eq, ← ByteArray.append_assoc]
  congr 1
theorem key_cha (s : ByteArray) : catB ⟨#[99, 104, 97, 110, 47, 110, 102, 116, 47]⟩ (hid s) = joinB chaW [nftW, s] := by
  show _ = catB (catB (hid chaW) (catB ⟨#[47]⟩ (hid nftW))) (catB ⟨#[47]⟩ (hid s))
  rw [catB_eq, catB_eq, catB_eq, catB_eq, catB_eq, ← ByteArray.append_assoc]
  congr 1
theorem key_no {a b : ByteArray} (h : 0 < a.size) : eqB (catB a b) ⟨#[]⟩ = false := by
  rw [eqB_eq]
  apply decide_eq_false
  intro e
  have := congrArg ByteArray.size e
  rw [cat_size] at this
  have h0 : (ByteArray.mk #[]).size = 0 := rfl
  omega
theorem hid_size (s : ByteArray) (h : s.size ≤ 300) : (hid s).size ≤ 600 := by
  unfold hid
  rw [escL_hid, ofL_size]
  have := escL_len s.data.toList
  have hd : s.data.toList.length = s.size := rfl
  omega
theorem steps14 (aw : Ctr Tryz.prog 6 [] [] [] 0 0 (.bool true) []) {own far : ByteArray} (hown : own.size ≤ 300) (hfar : far.size ≤ 300) : Ctr Tryz.prog 3 [.int .i64 14, .str own, .str far] [] [] 0 0 (.bool true) [] := by
  have hown2 : own.size ≤ 65536 := by omega
  have hfar2 : far.size ≤ 65536 := by omega
  obtain ⟨s, hs, cp⟩ := prove1 LS_srt (by rw [LS_len]; omega) (by rw [LS_len]; omega) LS_small (joinB conW [far])
  have hs2 : s.size ≤ 65536 := by omega
  have hz := hid_size far hfar
  refine Ctr.introR (T := Tryz.T) Tryz.hT Tryz.hM puZ_ok Tryz.func3 rfl (by kernel_rfl) rfl rfl rfl rfl ?_
  conv => whnf
  rw [show decide ((300 : Int) < (own.size : Int)) = false by simp; omega]
  conv => whnf
  rw [show decide ((300 : Int) < (far.size : Int)) = false by simp; omega]
  conv => whnf
  refine callR [0] beginS (post' := [(0, litR), (1, .box 81 [.str alW, .ptr 2 0, .sv 3 2 0 1 none, .int .i64 0, .nils, .nils]), (2, jour LS), (3, .row 74 2 [.str (rawB LS 1), .sv 4 2 0 LS.length (some LS.length)] none), (4, rowD LS (some LS.length))]) (by simp only [renH, rowD_ren]; rfl) rfl rfl rfl trivial ⟨rfl, trivial⟩ ?_
  conv => whnf
  refine callR [1, 2, 3, 4] (conn14 hs2 hown2 hfar2 cp) (post' := [(1, .box 81 [.str alW, .ptr 2 0, .sv 3 2 0 1 none, .int .i64 0, .nils, .nils]), (3, .row 74 2 [.str (rawB LS 1), .sv 4 2 0 LS.length (some LS.length)] none), (4, rowD LS (some LS.length))]) (by simp only [renH, rowD_ren]; rfl) rfl rfl rfl trivial ⟨rfl, rfl, rowD_at _ rfl, trivial⟩ ?_
  conv => whnf
  refine callR [1, 2, 3, 4] (chanNo (L := LS) (own := own) (far := far) (kind := 14) (by decide) (by decide) (by decide)) rfl rfl rfl rfl trivial ⟨rfl, rfl, trivial⟩ ?_
  conv => whnf
  refine callR [] (texts14 own far) (post' := [(5, rowS [cl0W, cl0W, far] (some 3))]) (by simp only [renH, rowS_ren]; rfl) rfl rfl rfl trivial trivial ?_
  conv => whnf
  refine callR [] (hiddenP far hfar2) rfl rfl rfl rfl trivial trivial ?_
  conv => whnf
  have hc5 : (ByteArray.mk #[99, 111, 110, 110, 47]).size = 5 := rfl
  have hc9 : (ByteArray.mk #[99, 104, 97, 110, 47, 110, 102, 116, 47]).size = 9 := rfl
  refine ⟨by rw [hc5]; unfold big; omega, ?_⟩
  rw [key_con]
  conv => whnf
  refine callR [1, 2, 3, 4, 5] (wantC14 (by rw [← key_con]; exact key_no (by decide)) hs2 hfar2 cp) (post' := [(1, .box 81 [.str alW, .ptr 2 0, .sv 3 2 0 1 none, .int .i64 0, .nils, .nils]), (3, .row 74 2 [.str (rawB LS 1), .sv 4 2 0 LS.length (some LS.length)] none), (4, rowD LS (some LS.length)), (5, rowS [cl0W, cl0W, far] (some 3))]) (by simp only [renH, rowD_ren, rowS_ren]; rfl) rfl rfl rfl trivial ⟨rfl, rfl, rowD_at _ rfl, rowS_at _ rfl, trivial⟩ ?_
  conv => whnf
  rw [show eqB (msgB 14 [cl0W, cl0W, far, s] [1]) (msgB 14 [cl0W, cl0W, far, s] [1]) = true by simp [eqB_eq]]
  conv => whnf
  refine callR [] aw rfl rfl rfl rfl trivial trivial ?_
  conv => whnf
  exact .mk' [] rfl rfl rfl rfl rfl rfl trivial
theorem steps15 (aw : Ctr Tryz.prog 6 [] [] [] 0 0 (.bool true) []) {own far : ByteArray} (hown : own.size ≤ 300) (hfar : far.size ≤ 300) : Ctr Tryz.prog 3 [.int .i64 15, .str own, .str far] [] [] 0 0 (.bool true) [] := by
  have hown2 : own.size ≤ 65536 := by omega
  have hfar2 : far.size ≤ 65536 := by omega
  obtain ⟨s, hs, cp⟩ := prove1 LS_srt (by rw [LS_len]; omega) (by rw [LS_len]; omega) LS_small (joinB conW [far])
  have hs2 : s.size ≤ 65536 := by omega
  have hz := hid_size far hfar
  refine Ctr.introR (T := Tryz.T) Tryz.hT Tryz.hM puZ_ok Tryz.func3 rfl (by kernel_rfl) rfl rfl rfl rfl ?_
  conv => whnf
  rw [show decide ((300 : Int) < (own.size : Int)) = false by simp; omega]
  conv => whnf
  rw [show decide ((300 : Int) < (far.size : Int)) = false by simp; omega]
  conv => whnf
  refine callR [0] beginS (post' := [(0, litR), (1, .box 81 [.str alW, .ptr 2 0, .sv 3 2 0 1 none, .int .i64 0, .nils, .nils]), (2, jour LS), (3, .row 74 2 [.str (rawB LS 1), .sv 4 2 0 LS.length (some LS.length)] none), (4, rowD LS (some LS.length))]) (by simp only [renH, rowD_ren]; rfl) rfl rfl rfl trivial ⟨rfl, trivial⟩ ?_
  conv => whnf
  refine callR [1, 2, 3, 4] (conn15 hs2 hown2 hfar2 cp) (post' := [(1, .box 81 [.str alW, .ptr 2 0, .sv 3 2 0 1 none, .int .i64 0, .nils, .nils]), (3, .row 74 2 [.str (rawB LS 1), .sv 4 2 0 LS.length (some LS.length)] none), (4, rowD LS (some LS.length))]) (by simp only [renH, rowD_ren]; rfl) rfl rfl rfl trivial ⟨rfl, rfl, rowD_at _ rfl, trivial⟩ ?_
  conv => whnf
  refine callR [1, 2, 3, 4] (chanNo (L := LS) (own := own) (far := far) (kind := 15) (by decide) (by decide) (by decide)) rfl rfl rfl rfl trivial ⟨rfl, rfl, trivial⟩ ?_
  conv => whnf
  refine callR [] (texts15 own far) (post' := [(5, rowS [own, far] (some 2))]) (by simp only [renH, rowS_ren]; rfl) rfl rfl rfl trivial trivial ?_
  conv => whnf
  refine callR [] (hiddenP far hfar2) rfl rfl rfl rfl trivial trivial ?_
  conv => whnf
  have hc5 : (ByteArray.mk #[99, 111, 110, 110, 47]).size = 5 := rfl
  have hc9 : (ByteArray.mk #[99, 104, 97, 110, 47, 110, 102, 116, 47]).size = 9 := rfl
  refine ⟨by rw [hc5]; unfold big; omega, ?_⟩
  rw [key_con]
  conv => whnf
  refine callR [1, 2, 3, 4, 5] (wantC15 (by rw [← key_con]; exact key_no (by decide)) hs2 hfar2 hown2 cp) (post' := [(1, .box 81 [.str alW, .ptr 2 0, .sv 3 2 0 1 none, .int .i64 0, .nils, .nils]), (3, .row 74 2 [.str (rawB LS 1), .sv 4 2 0 LS.length (some LS.length)] none), (4, rowD LS (some LS.length)), (5, rowS [own, far] (some 2))]) (by simp only [renH, rowD_ren, rowS_ren]; rfl) rfl rfl rfl trivial ⟨rfl, rfl, rowD_at _ rfl, rowS_at _ rfl, trivial⟩ ?_
  conv => whnf
  rw [show eqB (msgB 15 [own, far, s] [1]) (msgB 15 [own, far, s] [1]) = true by simp [eqB_eq]]
  conv => whnf
  refine callR [] aw rfl rfl rfl rfl trivial trivial ?_
  conv => whnf
  exact .mk' [] rfl rfl rfl rfl rfl rfl trivial
theorem steps16 (aw : Ctr Tryz.prog 6 [] [] [] 0 0 (.bool true) []) {own far : ByteArray} (hown : own.size ≤ 300) (hfar : far.size ≤ 300) : Ctr Tryz.prog 3 [.int .i64 16, .str own, .str far] [] [] 0 0 (.bool true) [] := by
  have hown2 : own.size ≤ 65536 := by omega
  have hfar2 : far.size ≤ 65536 := by omega
  obtain ⟨s, hs, cp⟩ := prove1 LS_srt (by rw [LS_len]; omega) (by rw [LS_len]; omega) LS_small (joinB conW [far])
  have hs2 : s.size ≤ 65536 := by omega
  have hz := hid_size far hfar
  refine Ctr.introR (T := Tryz.T) Tryz.hT Tryz.hM puZ_ok Tryz.func3 rfl (by kernel_rfl) rfl rfl rfl rfl ?_
  conv => whnf
  rw [show decide ((300 : Int) < (own.size : Int)) = false by simp; omega]
  conv => whnf
  rw [show decide ((300 : Int) < (far.size : Int)) = false by simp; omega]
  conv => whnf
  refine callR [0] beginS (post' := [(0, litR), (1, .box 81 [.str alW, .ptr 2 0, .sv 3 2 0 1 none, .int .i64 0, .nils, .nils]), (2, jour LS), (3, .row 74 2 [.str (rawB LS 1), .sv 4 2 0 LS.length (some LS.length)] none), (4, rowD LS (some LS.length))]) (by simp only [renH, rowD_ren]; rfl) rfl rfl rfl trivial ⟨rfl, trivial⟩ ?_
  conv => whnf
  refine callR [1, 2, 3, 4] (conn16 hs2 hown2 hfar2 cp) (post' := [(1, .box 81 [.str alW, .ptr 2 0, .sv 3 2 0 1 none, .int .i64 0, .nils, .nils]), (3, .row 74 2 [.str (rawB LS 1), .sv 4 2 0 LS.length (some LS.length)] none), (4, rowD LS (some LS.length))]) (by simp only [renH, rowD_ren]; rfl) rfl rfl rfl trivial ⟨rfl, rfl, rowD_at _ rfl, trivial⟩ ?_
  conv => whnf
  refine callR [1, 2, 3, 4] (chanNo (L := LS) (own := own) (far := far) (kind := 16) (by decide) (by decide) (by decide)) rfl rfl rfl rfl trivial ⟨rfl, rfl, trivial⟩ ?_
  conv => whnf
  refine callR [] (texts16 own far) (post' := [(5, rowS [own] (some 1))]) (by simp only [renH, rowS_ren]; rfl) rfl rfl rfl trivial trivial ?_
  conv => whnf
  refine callR [] (hiddenP far hfar2) rfl rfl rfl rfl trivial trivial ?_
  conv => whnf
  have hc5 : (ByteArray.mk #[99, 111, 110, 110, 47]).size = 5 := rfl
  have hc9 : (ByteArray.mk #[99, 104, 97, 110, 47, 110, 102, 116, 47]).size = 9 := rfl
  refine ⟨by rw [hc5]; unfold big; omega, ?_⟩
  rw [key_con]
  conv => whnf
  refine callR [1, 2, 3, 4, 5] (wantC16 (by rw [← key_con]; exact key_no (by decide)) hs2 hown2 cp) (post' := [(1, .box 81 [.str alW, .ptr 2 0, .sv 3 2 0 1 none, .int .i64 0, .nils, .nils]), (3, .row 74 2 [.str (rawB LS 1), .sv 4 2 0 LS.length (some LS.length)] none), (4, rowD LS (some LS.length)), (5, rowS [own] (some 1))]) (by simp only [renH, rowD_ren, rowS_ren]; rfl) rfl rfl rfl trivial ⟨rfl, rfl, rowD_at _ rfl, rowS_at _ rfl, trivial⟩ ?_
  conv => whnf
  rw [show eqB (msgB 16 [own, s] [1]) (msgB 16 [own, s] [1]) = true by simp [eqB_eq]]
  conv => whnf
  refine callR [] aw rfl rfl rfl rfl trivial trivial ?_
  conv => whnf
  exact .mk' [] rfl rfl rfl rfl rfl rfl trivial
theorem steps18 (aw : Ctr Tryz.prog 6 [] [] [] 0 0 (.bool true) []) {own far : ByteArray} (hown : own.size ≤ 300) (hfar : far.size ≤ 300) : Ctr Tryz.prog 3 [.int .i64 18, .str own, .str far] [] [] 0 0 (.bool true) [] := by
  have hown2 : own.size ≤ 65536 := by omega
  have hfar2 : far.size ≤ 65536 := by omega
  obtain ⟨s, hs, cp⟩ := prove1 LS_srt (by rw [LS_len]; omega) (by rw [LS_len]; omega) LS_small (joinB chaW [nftW, far])
  have hs2 : s.size ≤ 65536 := by omega
  have hz := hid_size far hfar
  refine Ctr.introR (T := Tryz.T) Tryz.hT Tryz.hM puZ_ok Tryz.func3 rfl (by kernel_rfl) rfl rfl rfl rfl ?_
  conv => whnf
  rw [show decide ((300 : Int) < (own.size : Int)) = false by simp; omega]
  conv => whnf
  rw [show decide ((300 : Int) < (far.size : Int)) = false by simp; omega]
  conv => whnf
  refine callR [0] beginS (post' := [(0, litR), (1, .box 81 [.str alW, .ptr 2 0, .sv 3 2 0 1 none, .int .i64 0, .nils, .nils]), (2, jour LS), (3, .row 74 2 [.str (rawB LS 1), .sv 4 2 0 LS.length (some LS.length)] none), (4, rowD LS (some LS.length))]) (by simp only [renH, rowD_ren]; rfl) rfl rfl rfl trivial ⟨rfl, trivial⟩ ?_
  conv => whnf
  refine callR [1, 2, 3, 4] (connNo (L := LS) (own := own) (far := far) (kind := 18) (by decide) (by decide) (by decide)) rfl rfl rfl rfl trivial ⟨rfl, rfl, trivial⟩ ?_
  conv => whnf
  refine callR [1, 2, 3, 4] (chan18 hs2 hown2 hfar2 cp) (post' := [(1, .box 81 [.str alW, .ptr 2 0, .sv 3 2 0 1 none, .int .i64 0, .nils, .nils]), (3, .row 74 2 [.str (rawB LS 1), .sv 4 2 0 LS.length (some LS.length)] none), (4, rowD LS (some LS.length))]) (by simp only [renH, rowD_ren]; rfl) rfl rfl rfl trivial ⟨rfl, rfl, rowD_at _ rfl, trivial⟩ ?_
  conv => whnf
  refine callR [] (texts18 own far) (post' := [(5, rowS [nftW, own, nftW, far, icsW] (some 5)), (6, rowI [1] (some 1))]) (by simp only [renH, rowS_ren, rowI_ren]; rfl) rfl rfl rfl trivial trivial ?_
  conv => whnf
  refine callR [] (hiddenP far hfar2) rfl rfl rfl rfl trivial trivial ?_
  conv => whnf
  have hc5 : (ByteArray.mk #[99, 111, 110, 110, 47]).size = 5 := rfl
  have hc9 : (ByteArray.mk #[99, 104, 97, 110, 47, 110, 102, 116, 47]).size = 9 := rfl
  refine ⟨by rw [hc5]; unfold big; omega, ?_⟩
  conv => whnf
  refine callR [] (hiddenP far hfar2) rfl rfl rfl rfl trivial trivial ?_
  conv => whnf
  refine ⟨by rw [hc9]; unfold big; omega, ?_⟩
  rw [key_cha]
  conv => whnf
  refine callR [1, 2, 3, 4, 5, 6] (wantH18 (by rw [← key_cha]; exact key_no (by decide)) hs2 hfar2 hown2 cp) (post' := [(1, .box 81 [.str alW, .ptr 2 0, .sv 3 2 0 1 none, .int .i64 0, .nils, .nils]), (3, .row 74 2 [.str (rawB LS 1), .sv 4 2 0 LS.length (some LS.length)] none), (4, rowD LS (some LS.length)), (5, rowS [nftW, own, nftW, far, icsW] (some 5)), (6, rowI [1] (some 1))]) (by simp only [renH, rowD_ren, rowS_ren, rowI_ren]; rfl) rfl rfl rfl trivial ⟨rfl, rfl, rowD_at _ rfl, rowS_at _ rfl, rowI_at _ rfl, trivial⟩ ?_
  conv => whnf
  rw [show eqB (msgB 18 [nftW, own, nftW, far, icsW, s] [1, 1]) (msgB 18 [nftW, own, nftW, far, icsW, s] [1, 1]) = true by simp [eqB_eq]]
  conv => whnf
  refine callR [] aw rfl rfl rfl rfl trivial trivial ?_
  conv => whnf
  exact .mk' [] rfl rfl rfl rfl rfl rfl trivial
theorem steps19 (aw : Ctr Tryz.prog 6 [] [] [] 0 0 (.bool true) []) {own far : ByteArray} (hown : own.size ≤ 300) (hfar : far.size ≤ 300) : Ctr Tryz.prog 3 [.int .i64 19, .str own, .str far] [] [] 0 0 (.bool true) [] := by
  have hown2 : own.size ≤ 65536 := by omega
  have hfar2 : far.size ≤ 65536 := by omega
  obtain ⟨s, hs, cp⟩ := prove1 LS_srt (by rw [LS_len]; omega) (by rw [LS_len]; omega) LS_small (joinB chaW [nftW, far])
  have hs2 : s.size ≤ 65536 := by omega
  have hz := hid_size far hfar
  refine Ctr.introR (T := Tryz.T) Tryz.hT Tryz.hM puZ_ok Tryz.func3 rfl (by kernel_rfl) rfl rfl rfl rfl ?_
  conv => whnf
  rw [show decide ((300 : Int) < (own.size : Int)) = false by simp; omega]
  conv => whnf
  rw [show decide ((300 : Int) < (far.size : Int)) = false by simp; omega]
  conv => whnf
  refine callR [0] beginS (post' := [(0, litR), (1, .box 81 [.str alW, .ptr 2 0, .sv 3 2 0 1 none, .int .i64 0, .nils, .nils]), (2, jour LS), (3, .row 74 2 [.str (rawB LS 1), .sv 4 2 0 LS.length (some LS.length)] none), (4, rowD LS (some LS.length))]) (by simp only [renH, rowD_ren]; rfl) rfl rfl rfl trivial ⟨rfl, trivial⟩ ?_
  conv => whnf
  refine callR [1, 2, 3, 4] (connNo (L := LS) (own := own) (far := far) (kind := 19) (by decide) (by decide) (by decide)) rfl rfl rfl rfl trivial ⟨rfl, rfl, trivial⟩ ?_
  conv => whnf
  refine callR [1, 2, 3, 4] (chan19 hs2 hown2 hfar2 cp) (post' := [(1, .box 81 [.str alW, .ptr 2 0, .sv 3 2 0 1 none, .int .i64 0, .nils, .nils]), (3, .row 74 2 [.str (rawB LS 1), .sv 4 2 0 LS.length (some LS.length)] none), (4, rowD LS (some LS.length))]) (by simp only [renH, rowD_ren]; rfl) rfl rfl rfl trivial ⟨rfl, rfl, rowD_at _ rfl, trivial⟩ ?_
  conv => whnf
  refine callR [] (texts19 own far) (post' := [(5, rowS [nftW, own, far] (some 3))]) (by simp only [renH, rowS_ren]; rfl) rfl rfl rfl trivial trivial ?_
  conv => whnf
  refine callR [] (hiddenP far hfar2) rfl rfl rfl rfl trivial trivial ?_
  conv => whnf
  have hc5 : (ByteArray.mk #[99, 111, 110, 110, 47]).size = 5 := rfl
  have hc9 : (ByteArray.mk #[99, 104, 97, 110, 47, 110, 102, 116, 47]).size = 9 := rfl
  refine ⟨by rw [hc5]; unfold big; omega, ?_⟩
  conv => whnf
  refine callR [] (hiddenP far hfar2) rfl rfl rfl rfl trivial trivial ?_
  conv => whnf
  refine ⟨by rw [hc9]; unfold big; omega, ?_⟩
  rw [key_cha]
  conv => whnf
  refine callR [1, 2, 3, 4, 5] (wantH19 (by rw [← key_cha]; exact key_no (by decide)) hs2 hfar2 hown2 cp) (post' := [(1, .box 81 [.str alW, .ptr 2 0, .sv 3 2 0 1 none, .int .i64 0, .nils, .nils]), (3, .row 74 2 [.str (rawB LS 1), .sv 4 2 0 LS.length (some LS.length)] none), (4, rowD LS (some LS.length)), (5, rowS [nftW, own, far] (some 3))]) (by simp only [renH, rowD_ren, rowS_ren]; rfl) rfl rfl rfl trivial ⟨rfl, rfl, rowD_at _ rfl, rowS_at _ rfl, trivial⟩ ?_
  conv => whnf
  rw [show eqB (msgB 19 [nftW, own, far, s] [1]) (msgB 19 [nftW, own, far, s] [1]) = true by simp [eqB_eq]]
  conv => whnf
  refine callR [] aw rfl rfl rfl rfl trivial trivial ?_
  conv => whnf
  exact .mk' [] rfl rfl rfl rfl rfl rfl trivial
theorem steps20 (aw : Ctr Tryz.prog 6 [] [] [] 0 0 (.bool true) []) {own far : ByteArray} (hown : own.size ≤ 300) (hfar : far.size ≤ 300) : Ctr Tryz.prog 3 [.int .i64 20, .str own, .str far] [] [] 0 0 (.bool true) [] := by
  have hown2 : own.size ≤ 65536 := by omega
  have hfar2 : far.size ≤ 65536 := by omega
  obtain ⟨s, hs, cp⟩ := prove1 LS_srt (by rw [LS_len]; omega) (by rw [LS_len]; omega) LS_small (joinB chaW [nftW, far])
  have hs2 : s.size ≤ 65536 := by omega
  have hz := hid_size far hfar
  refine Ctr.introR (T := Tryz.T) Tryz.hT Tryz.hM puZ_ok Tryz.func3 rfl (by kernel_rfl) rfl rfl rfl rfl ?_
  conv => whnf
  rw [show decide ((300 : Int) < (own.size : Int)) = false by simp; omega]
  conv => whnf
  rw [show decide ((300 : Int) < (far.size : Int)) = false by simp; omega]
  conv => whnf
  refine callR [0] beginS (post' := [(0, litR), (1, .box 81 [.str alW, .ptr 2 0, .sv 3 2 0 1 none, .int .i64 0, .nils, .nils]), (2, jour LS), (3, .row 74 2 [.str (rawB LS 1), .sv 4 2 0 LS.length (some LS.length)] none), (4, rowD LS (some LS.length))]) (by simp only [renH, rowD_ren]; rfl) rfl rfl rfl trivial ⟨rfl, trivial⟩ ?_
  conv => whnf
  refine callR [1, 2, 3, 4] (connNo (L := LS) (own := own) (far := far) (kind := 20) (by decide) (by decide) (by decide)) rfl rfl rfl rfl trivial ⟨rfl, rfl, trivial⟩ ?_
  conv => whnf
  refine callR [1, 2, 3, 4] (chan20 hs2 hown2 hfar2 cp) (post' := [(1, .box 81 [.str alW, .ptr 2 0, .sv 3 2 0 1 none, .int .i64 0, .nils, .nils]), (3, .row 74 2 [.str (rawB LS 1), .sv 4 2 0 LS.length (some LS.length)] none), (4, rowD LS (some LS.length))]) (by simp only [renH, rowD_ren]; rfl) rfl rfl rfl trivial ⟨rfl, rfl, rowD_at _ rfl, trivial⟩ ?_
  conv => whnf
  refine callR [] (texts20 own far) (post' := [(5, rowS [nftW, own] (some 2))]) (by simp only [renH, rowS_ren]; rfl) rfl rfl rfl trivial trivial ?_
  conv => whnf
  refine callR [] (hiddenP far hfar2) rfl rfl rfl rfl trivial trivial ?_
  conv => whnf
  have hc5 : (ByteArray.mk #[99, 111, 110, 110, 47]).size = 5 := rfl
  have hc9 : (ByteArray.mk #[99, 104, 97, 110, 47, 110, 102, 116, 47]).size = 9 := rfl
  refine ⟨by rw [hc5]; unfold big; omega, ?_⟩
  conv => whnf
  refine callR [] (hiddenP far hfar2) rfl rfl rfl rfl trivial trivial ?_
  conv => whnf
  refine ⟨by rw [hc9]; unfold big; omega, ?_⟩
  rw [key_cha]
  conv => whnf
  refine callR [1, 2, 3, 4, 5] (wantH20 (by rw [← key_cha]; exact key_no (by decide)) hs2 hown2 cp) (post' := [(1, .box 81 [.str alW, .ptr 2 0, .sv 3 2 0 1 none, .int .i64 0, .nils, .nils]), (3, .row 74 2 [.str (rawB LS 1), .sv 4 2 0 LS.length (some LS.length)] none), (4, rowD LS (some LS.length)), (5, rowS [nftW, own] (some 2))]) (by simp only [renH, rowD_ren, rowS_ren]; rfl) rfl rfl rfl trivial ⟨rfl, rfl, rowD_at _ rfl, rowS_at _ rfl, trivial⟩ ?_
  conv => whnf
  rw [show eqB (msgB 20 [nftW, own, s] [1]) (msgB 20 [nftW, own, s] [1]) = true by simp [eqB_eq]]
  conv => whnf
  refine callR [] aw rfl rfl rfl rfl trivial trivial ?_
  conv => whnf
  exact .mk' [] rfl rfl rfl rfl rfl rfl trivial
theorem stepsNo (aw : Ctr Tryz.prog 6 [] [] [] 0 0 (.bool true) []) {own far : ByteArray} {kind : Int} (hown : own.size ≤ 300) (hfar : far.size ≤ 300) (h14 : kind ≠ 14) (h15 : kind ≠ 15) (h16 : kind ≠ 16) (h18 : kind ≠ 18) (h19 : kind ≠ 19) (h20 : kind ≠ 20) : Ctr Tryz.prog 3 [.int .i64 kind, .str own, .str far] [] [] 0 0 (.bool true) [] := by
  refine Ctr.introR (T := Tryz.T) Tryz.hT Tryz.hM puZ_ok Tryz.func3 rfl (by kernel_rfl) rfl rfl rfl rfl ?_
  conv => whnf
  rw [show decide ((300 : Int) < (own.size : Int)) = false by simp; omega]
  conv => whnf
  rw [show decide ((300 : Int) < (far.size : Int)) = false by simp; omega]
  conv => whnf
  refine callR [0] beginS (post' := [(0, litR), (1, .box 81 [.str alW, .ptr 2 0, .sv 3 2 0 1 none, .int .i64 0, .nils, .nils]), (2, jour LS), (3, .row 74 2 [.str (rawB LS 1), .sv 4 2 0 LS.length (some LS.length)] none), (4, rowD LS (some LS.length))]) (by simp only [renH, rowD_ren]; rfl) rfl rfl rfl trivial ⟨rfl, trivial⟩ ?_
  conv => whnf
  refine callR [1, 2, 3, 4] (connNo (L := LS) (own := own) (far := far) (kind := kind) h14 h15 h16) rfl rfl rfl rfl trivial ⟨rfl, rfl, trivial⟩ ?_
  conv => whnf
  refine callR [1, 2, 3, 4] (chanNo (L := LS) (own := own) (far := far) (kind := kind) h18 h19 h20) rfl rfl rfl rfl trivial ⟨rfl, rfl, trivial⟩ ?_
  conv => whnf
  refine callR [] (textsNo (L := LS) (own := own) (far := far) (kind := kind) h14 h15 h16 h18 h19 h20) rfl rfl rfl rfl trivial trivial ?_
  conv => whnf
  refine bcase_intro (fun h => ?_) (fun h => ?_)
  all_goals
    conv => whnf
    refine ⟨by decide, ?_⟩
    conv => whnf
    refine callR [] aw rfl rfl rfl rfl trivial trivial ?_
    conv => whnf
    exact .mk' [] rfl rfl rfl rfl rfl rfl trivial
theorem stepsBig (aw : Ctr Tryz.prog 6 [] [] [] 0 0 (.bool true) []) {own far : ByteArray} {kind : Int} (h : 300 < own.size ∨ 300 < far.size) : Ctr Tryz.prog 3 [.int .i64 kind, .str own, .str far] [] [] 0 0 (.bool true) [] := by
  refine Ctr.introR (T := Tryz.T) Tryz.hT Tryz.hM puZ_ok Tryz.func3 rfl (by kernel_rfl) rfl rfl rfl rfl ?_
  conv => whnf
  by_cases h1 : 300 < own.size
  · rw [show decide ((300 : Int) < (own.size : Int)) = true by simp; omega]
    conv => whnf
    refine callR [] aw rfl rfl rfl rfl trivial trivial ?_
    conv => whnf
    exact .mk' [] rfl rfl rfl rfl rfl rfl trivial
  · rw [show decide ((300 : Int) < (own.size : Int)) = false by simp; omega]
    conv => whnf
    rw [show decide ((300 : Int) < (far.size : Int)) = true by simp; omega]
    conv => whnf
    refine callR [] aw rfl rfl rfl rfl trivial trivial ?_
    conv => whnf
    exact .mk' [] rfl rfl rfl rfl rfl rfl trivial
theorem relaySteps_law (aw : Ctr Tryz.prog 6 [] [] [] 0 0 (.bool true) []) : ∀ vs, okT2 [.one (.i .i64), .one .s, .one .s] vs → ∃ n', Ctr Tryz.prog 3 vs [] [] 0 n' (.bool true) [] := by
  intro vs hv
  obtain ⟨a1, _, rfl, ⟨kind, rfl, _⟩, g1⟩ := okT2_one hv
  obtain ⟨a2, _, rfl, ⟨own, rfl, _⟩, g2⟩ := okT2_one g1
  obtain ⟨a3, _, rfl, ⟨far, rfl, _⟩, g3⟩ := okT2_one g2
  obtain rfl := okT2_nil g3
  refine ⟨0, ?_⟩
  by_cases hb : 300 < own.size ∨ 300 < far.size
  · exact stepsBig aw hb
  have ho : own.size ≤ 300 := by omega
  have hf : far.size ≤ 300 := by omega
  by_cases h14 : kind = 14
  · subst h14; exact steps14 aw ho hf
  by_cases h15 : kind = 15
  · subst h15; exact steps15 aw ho hf
  by_cases h16 : kind = 16
  · subst h16; exact steps16 aw ho hf
  by_cases h18 : kind = 18
  · subst h18; exact steps18 aw ho hf
  by_cases h19 : kind = 19
  · subst h19; exact steps19 aw ho hf
  by_cases h20 : kind = 20
  · subst h20; exact steps20 aw ho hf
  exact stepsNo aw ho hf h14 h15 h16 h18 h19 h20

end Go.Proofs.YtglkoaajgekonaaGreatDoor
