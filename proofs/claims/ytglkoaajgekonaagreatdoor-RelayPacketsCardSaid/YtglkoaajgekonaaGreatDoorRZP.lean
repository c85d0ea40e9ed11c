/- RZP: what relayPackets_law needs of RY, RZ, WT, K8, K9, NC, PT, PU, RV, RK. -/
import Derived.Test.YtglkoaajgekonaaGreatDoorRAP
import Derived.Test.YtglkoaajgekonaaGreatDoorRep
import Derived.Test.YtglkoaajgekonaaGreatDoorNum
import Derived.Test.YtglkoaajgekonaaGreatDoorSXZ
namespace Go.Proofs.YtglkoaajgekonaaGreatDoor
open Go.SX
theorem kind21 : Kind 21 2 1 := ⟨⟨false, clo (by kernel_rfl) rfl rfl⟩, clo (by kernel_rfl) rfl rfl, clo (by kernel_rfl) rfl rfl⟩
theorem kind22 : Kind 22 3 1 := ⟨⟨false, clo (by kernel_rfl) rfl rfl⟩, clo (by kernel_rfl) rfl rfl, clo (by kernel_rfl) rfl rfl⟩
theorem kind23 : Kind 23 2 1 := ⟨⟨false, clo (by kernel_rfl) rfl rfl⟩, clo (by kernel_rfl) rfl rfl, clo (by kernel_rfl) rfl rfl⟩
theorem relput1 {k : Int} {l : List ByteArray} {x : Int} (hk : Kind k l.length 1) (hn : l.length ≤ 256) (hl : shortL l) (h0 : 0 ≤ x) (h1 : x ≤ 1099511627776) :
  Ctr Tryz.prog 33 [.int .i64 k, .sv 1 1 0 1 none, .sv 0 1 0 l.length none] [] [(0, rowS l none), (1, rowI [x] none)] 2 2 (.tup [.str (msgB k l [x]), .int .i64 0]) [(0, rowS l none), (1, rowI [x] none)] := by
 refine Ctr.introR (T := Tryz.T) Tryz.hT Tryz.hM puZ_ok Tryz.func33 rfl (by kernel_rfl) rfl rfl ?_ rfl ?_
 ·simp [okH_all, rowS_ok, rowI_ok]
 conv => whnf
 refine callR [0, 1] (putP1 (k := k) (l := l) hk none hn hl h0 h1) (post' := [(0, rowS l none), (1, rowI [x] none)]) (by simp only [renH, rowS_ren, rowI_ren]; rfl) rfl rfl rfl trivial ⟨rowS_at _ rfl, rowI_at _ rfl, trivial⟩ ?_
 conv => whnf
 refine Fin.same ?_ rfl ?_
 ·simp [okH_all, rowS_ok, rowI_ok]
 ·intro p hp
  simp only [List.mem_cons, List.not_mem_nil, or_false] at hp
  rcases hp with rfl | rfl <;> rfl
theorem ready2 (L : List KV) : Ctr Tryz.prog 29 [.ptr 0 0] [] [(0, cbox (.sv 2 2 0 2 none)), (2, .row 74 2 [.str (rawB L 1), .sv 3 2 0 L.length (some L.length), .str (rawB L 2), .sv 4 2 0 L.length (some L.length)] none)] 5 5 (.int .i64 0) [(0, cbox (.sv 2 2 0 2 none)), (2, .row 74 2 [.str (rawB L 1), .sv 3 2 0 L.length (some L.length), .str (rawB L 2), .sv 4 2 0 L.length (some L.length)] none)] := by
 refine Ctr.introR (T := Tryz.T) Tryz.hT Tryz.hM puZ_ok Tryz.func29 rfl (by kernel_rfl) rfl rfl rfl rfl ?_
 conv => whnf
 refine callR [0, 1, 2, 3, 4] (height2 L) rfl rfl rfl rfl trivial ⟨rfl, rfl, trivial⟩ ?_
 conv => whnf
 exact .mk' [] rfl rfl rfl rfl rfl rfl ⟨rfl, rfl, trivial⟩
theorem provedP21 {L : List KV} {key s raw : ByteArray} (hs : s.size ≤ 65536) (hraw : raw.size ≤ 65536)
  (cp : Ctr Tryz.prog 32 [.ptr 0 0, .int .i64 2, .str key] [] [(0, cbox (.sv 2 2 0 2 none)), (2, .row 74 2 [.str (rawB L 1), .sv 3 2 0 L.length (some L.length), .str (rawB L 2), .sv 4 2 0 L.length (some L.length)] none), (4, rowD L (some L.length))] 5 5 (.tup [.agg [.int .i64 2, .str s], .int .i64 0]) [(0, cbox (.sv 2 2 0 2 none)), (2, .row 74 2 [.str (rawB L 1), .sv 3 2 0 L.length (some L.length), .str (rawB L 2), .sv 4 2 0 L.length (some L.length)] none), (4, rowD L (some L.length))]) :
  Ctr Tryz.prog 30 [.ptr 0 0, .int .i64 21, .str key, .nils, .sv 5 1 0 1 (some 1)] [] [(0, cbox (.sv 2 2 0 2 none)), (2, .row 74 2 [.str (rawB L 1), .sv 3 2 0 L.length (some L.length), .str (rawB L 2), .sv 4 2 0 L.length (some L.length)] none), (4, rowD L (some L.length)), (5, rowS [raw] (some 1))] 6 6 (.tup [.str (msgB 21 [raw, s] [2]), .int .i64 0]) [(0, cbox (.sv 2 2 0 2 none)), (2, .row 74 2 [.str (rawB L 1), .sv 3 2 0 L.length (some L.length), .str (rawB L 2), .sv 4 2 0 L.length (some L.length)] none), (4, rowD L (some L.length)), (5, rowS [raw] (some 1))] := by
 have hT : shortL [raw, s] := by
  intro x hx
  simp only [List.mem_cons, List.not_mem_nil, or_false] at hx
  rcases hx with rfl | rfl
  ·exact hraw
  ·exact hs
 refine Ctr.introR (T := Tryz.T) Tryz.hT Tryz.hM puZ_ok Tryz.func30 rfl (by kernel_rfl) rfl rfl ?_ rfl ?_
 ·simp [okH_all, okR, cbox, rowD, rowS, bare_ok (cellsP_bare _), bare_ok (strsA_bare _), okL_cons, okL_nil, okA_str, okA_ptr, okA_int, okA_nils, okA_sv]
 conv => whnf
 refine callR [0, 1, 2, 3, 4] (height2 L) rfl rfl rfl rfl trivial ⟨rfl, rfl, trivial⟩ ?_
 conv => whnf
 refine callR [0, 1, 2, 3, 4] cp (post' := [(0, cbox (.sv 2 2 0 2 none)), (2, .row 74 2 [.str (rawB L 1), .sv 3 2 0 L.length (some L.length), .str (rawB L 2), .sv 4 2 0 L.length (some L.length)] none), (4, rowD L (some L.length))]) (by simp only [renH, rowD_ren]; rfl) rfl rfl rfl trivial ⟨rfl, rfl, rowD_at _ rfl, trivial⟩ ?_
 conv => whnf
 refine ⟨by decide, ?_⟩
 conv => whnf
 refine ⟨by decide, ?_⟩
 conv => whnf
 refine callR [10, 8] (relput1 (k := 21) (l := [raw, s]) kind21 (by show 2 ≤ 256; decide) hT (by decide) (by decide)) (post' := [(10, rowS [raw, s] none), (8, rowI [2] none)]) (by simp only [renH, rowS_ren, rowI_ren]; rfl) rfl rfl rfl trivial ⟨rowS_at _ rfl, rowI_at _ rfl, trivial⟩ ?_
 conv => whnf
 generalize hrc : raceB _ _ = rb
 obtain rfl : rb = true := hrc.symm.trans (by kernel_rfl)
 conv => whnf
 refine Fin.same ?_ rfl ?_
 ·simp [okH_all, okR, cbox, rowD, rowS, bare_ok (cellsP_bare _), bare_ok (strsA_bare _), okL_cons, okL_nil, okA_str, okA_ptr, okA_int, okA_nils, okA_sv]
 ·intro p hp
  simp only [List.mem_cons, List.not_mem_nil, or_false] at hp
  rcases hp with rfl | rfl | rfl | rfl <;> rfl
theorem provedP22 {L : List KV} {key s ack raw : ByteArray} (hs : s.size ≤ 65536) (hack : ack.size ≤ 65536) (hraw : raw.size ≤ 65536)
  (cp : Ctr Tryz.prog 32 [.ptr 0 0, .int .i64 2, .str key] [] [(0, cbox (.sv 2 2 0 2 none)), (2, .row 74 2 [.str (rawB L 1), .sv 3 2 0 L.length (some L.length), .str (rawB L 2), .sv 4 2 0 L.length (some L.length)] none), (4, rowD L (some L.length))] 5 5 (.tup [.agg [.int .i64 2, .str s], .int .i64 0]) [(0, cbox (.sv 2 2 0 2 none)), (2, .row 74 2 [.str (rawB L 1), .sv 3 2 0 L.length (some L.length), .str (rawB L 2), .sv 4 2 0 L.length (some L.length)] none), (4, rowD L (some L.length))]) :
  Ctr Tryz.prog 30 [.ptr 0 0, .int .i64 22, .str key, .nils, .sv 5 1 0 2 none] [] [(0, cbox (.sv 2 2 0 2 none)), (2, .row 74 2 [.str (rawB L 1), .sv 3 2 0 L.length (some L.length), .str (rawB L 2), .sv 4 2 0 L.length (some L.length)] none), (4, rowD L (some L.length)), (5, rowS [raw, ack] none)] 6 6 (.tup [.str (msgB 22 [raw, ack, s] [2]), .int .i64 0]) [(0, cbox (.sv 2 2 0 2 none)), (2, .row 74 2 [.str (rawB L 1), .sv 3 2 0 L.length (some L.length), .str (rawB L 2), .sv 4 2 0 L.length (some L.length)] none), (4, rowD L (some L.length)), (5, .gone)] := by
 have hT : shortL [raw, ack, s] := by
  intro x hx
  simp only [List.mem_cons, List.not_mem_nil, or_false] at hx
  rcases hx with rfl | rfl | rfl
  ·exact hraw
  ·exact hack
  ·exact hs
 refine Ctr.introR (T := Tryz.T) Tryz.hT Tryz.hM puZ_ok Tryz.func30 rfl (by kernel_rfl) rfl rfl ?_ rfl ?_
 ·simp [okH_all, okR, cbox, rowD, rowS, bare_ok (cellsP_bare _), bare_ok (strsA_bare _), okL_cons, okL_nil, okA_str, okA_ptr, okA_int, okA_nils, okA_sv]
 conv => whnf
 refine callR [0, 1, 2, 3, 4] (height2 L) rfl rfl rfl rfl trivial ⟨rfl, rfl, trivial⟩ ?_
 conv => whnf
 refine callR [0, 1, 2, 3, 4] cp (post' := [(0, cbox (.sv 2 2 0 2 none)), (2, .row 74 2 [.str (rawB L 1), .sv 3 2 0 L.length (some L.length), .str (rawB L 2), .sv 4 2 0 L.length (some L.length)] none), (4, rowD L (some L.length))]) (by simp only [renH, rowD_ren]; rfl) rfl rfl rfl trivial ⟨rfl, rfl, rowD_at _ rfl, trivial⟩ ?_
 conv => whnf
 refine ⟨by decide, ?_⟩
 conv => whnf
 refine ⟨by decide, ?_⟩
 conv => whnf
 refine callR [10, 8] (relput1 (k := 22) (l := [raw, ack, s]) kind22 (by show 3 ≤ 256; decide) hT (by decide) (by decide)) (post' := [(10, rowS [raw, ack, s] none), (8, rowI [2] none)]) (by simp only [renH, rowS_ren, rowI_ren]; rfl) rfl rfl rfl trivial ⟨rowS_at _ rfl, rowI_at _ rfl, trivial⟩ ?_
 conv => whnf
 generalize hrc : raceB _ _ = rb
 obtain rfl : rb = true := hrc.symm.trans (by kernel_rfl)
 conv => whnf
 refine Fin.same ?_ rfl ?_
 ·simp [okH_all, okR, cbox, rowD, bare_ok (cellsP_bare _), okL_cons, okL_nil, okA_str, okA_ptr, okA_int, okA_nils, okA_sv]
 ·intro p hp
  simp only [List.mem_cons, List.not_mem_nil, or_false] at hp
  rcases hp with rfl | rfl | rfl | rfl <;> rfl
theorem provedP23 {L : List KV} {key s raw : ByteArray} (hs : s.size ≤ 65536) (hraw : raw.size ≤ 65536)
  (cp : Ctr Tryz.prog 32 [.ptr 0 0, .int .i64 2, .str key] [] [(0, cbox (.sv 2 2 0 2 none)), (2, .row 74 2 [.str (rawB L 1), .sv 3 2 0 L.length (some L.length), .str (rawB L 2), .sv 4 2 0 L.length (some L.length)] none), (4, rowD L (some L.length))] 5 5 (.tup [.agg [.int .i64 2, .str s], .int .i64 0]) [(0, cbox (.sv 2 2 0 2 none)), (2, .row 74 2 [.str (rawB L 1), .sv 3 2 0 L.length (some L.length), .str (rawB L 2), .sv 4 2 0 L.length (some L.length)] none), (4, rowD L (some L.length))]) :
  Ctr Tryz.prog 30 [.ptr 0 0, .int .i64 23, .str key, .nils, .sv 5 1 0 1 (some 1)] [] [(0, cbox (.sv 2 2 0 2 none)), (2, .row 74 2 [.str (rawB L 1), .sv 3 2 0 L.length (some L.length), .str (rawB L 2), .sv 4 2 0 L.length (some L.length)] none), (4, rowD L (some L.length)), (5, rowS [raw] (some 1))] 6 6 (.tup [.str (msgB 23 [raw, s] [2]), .int .i64 0]) [(0, cbox (.sv 2 2 0 2 none)), (2, .row 74 2 [.str (rawB L 1), .sv 3 2 0 L.length (some L.length), .str (rawB L 2), .sv 4 2 0 L.length (some L.length)] none), (4, rowD L (some L.length)), (5, rowS [raw] (some 1))] := by
 have hT : shortL [raw, s] := by
  intro x hx
  simp only [List.mem_cons, List.not_mem_nil, or_false] at hx
  rcases hx with rfl | rfl
  ·exact hraw
  ·exact hs
 refine Ctr.introR (T := Tryz.T) Tryz.hT Tryz.hM puZ_ok Tryz.func30 rfl (by kernel_rfl) rfl rfl ?_ rfl ?_
 ·simp [okH_all, okR, cbox, rowD, rowS, bare_ok (cellsP_bare _), bare_ok (strsA_bare _), okL_cons, okL_nil, okA_str, okA_ptr, okA_int, okA_nils, okA_sv]
 conv => whnf
 refine callR [0, 1, 2, 3, 4] (height2 L) rfl rfl rfl rfl trivial ⟨rfl, rfl, trivial⟩ ?_
 conv => whnf
 refine callR [0, 1, 2, 3, 4] cp (post' := [(0, cbox (.sv 2 2 0 2 none)), (2, .row 74 2 [.str (rawB L 1), .sv 3 2 0 L.length (some L.length), .str (rawB L 2), .sv 4 2 0 L.length (some L.length)] none), (4, rowD L (some L.length))]) (by simp only [renH, rowD_ren]; rfl) rfl rfl rfl trivial ⟨rfl, rfl, rowD_at _ rfl, trivial⟩ ?_
 conv => whnf
 refine ⟨by decide, ?_⟩
 conv => whnf
 refine ⟨by decide, ?_⟩
 conv => whnf
 refine callR [10, 8] (relput1 (k := 23) (l := [raw, s]) kind23 (by show 2 ≤ 256; decide) hT (by decide) (by decide)) (post' := [(10, rowS [raw, s] none), (8, rowI [2] none)]) (by simp only [renH, rowS_ren, rowI_ren]; rfl) rfl rfl rfl trivial ⟨rowS_at _ rfl, rowI_at _ rfl, trivial⟩ ?_
 conv => whnf
 generalize hrc : raceB _ _ = rb
 obtain rfl : rb = true := hrc.symm.trans (by kernel_rfl)
 conv => whnf
 refine Fin.same ?_ rfl ?_
 ·simp [okH_all, okR, cbox, rowD, rowS, bare_ok (cellsP_bare _), bare_ok (strsA_bare _), okL_cons, okL_nil, okA_str, okA_ptr, okA_int, okA_nils, okA_sv]
 ·intro p hp
  simp only [List.mem_cons, List.not_mem_nil, or_false] at hp
  rcases hp with rfl | rfl | rfl | rfl <;> rfl
theorem wantP21 {L : List KV} {key s raw : ByteArray} (hkey : eqB key ⟨#[]⟩ = false) (hs : s.size ≤ 65536) (hraw : raw.size ≤ 65536)
  (cp : Ctr Tryz.prog 32 [.ptr 0 0, .int .i64 2, .str key] [] [(0, cbox (.sv 2 2 0 2 none)), (2, .row 74 2 [.str (rawB L 1), .sv 3 2 0 L.length (some L.length), .str (rawB L 2), .sv 4 2 0 L.length (some L.length)] none), (4, rowD L (some L.length))] 5 5 (.tup [.agg [.int .i64 2, .str s], .int .i64 0]) [(0, cbox (.sv 2 2 0 2 none)), (2, .row 74 2 [.str (rawB L 1), .sv 3 2 0 L.length (some L.length), .str (rawB L 2), .sv 4 2 0 L.length (some L.length)] none), (4, rowD L (some L.length))]) :
  Ctr Tryz.prog 12 [.ptr 0 0, .agg [.int .i64 21, .str ⟨#[]⟩, .sv 5 1 0 1 (some 1), .nils, .nils], .str key] [] [(0, cbox (.sv 2 2 0 2 none)), (2, .row 74 2 [.str (rawB L 1), .sv 3 2 0 L.length (some L.length), .str (rawB L 2), .sv 4 2 0 L.length (some L.length)] none), (4, rowD L (some L.length)), (5, rowS [raw] (some 1))] 6 6 (.str (msgB 21 [raw, s] [2])) [(0, cbox (.sv 2 2 0 2 none)), (2, .row 74 2 [.str (rawB L 1), .sv 3 2 0 L.length (some L.length), .str (rawB L 2), .sv 4 2 0 L.length (some L.length)] none), (4, rowD L (some L.length)), (5, rowS [raw] (some 1))] := by
 have hT : shortL [raw, s] := by
  intro x hx
  simp only [List.mem_cons, List.not_mem_nil, or_false] at hx
  rcases hx with rfl | rfl
  ·exact hraw
  ·exact hs
 refine Ctr.introR (T := Tryz.T) Tryz.hT Tryz.hM puZ_ok Tryz.func12 rfl (by kernel_rfl) rfl rfl ?_ rfl ?_
 ·simp [okH_all, okR, cbox, rowD, rowS, bare_ok (cellsP_bare _), bare_ok (strsA_bare _), okL_cons, okL_nil, okA_str, okA_ptr, okA_int, okA_nils, okA_sv]
 conv => whnf
 refine callR [0, 1, 2, 3, 4] (height2 L) rfl rfl rfl rfl trivial ⟨rfl, rfl, trivial⟩ ?_
 conv => whnf
 refine callR [0, 1, 2, 3, 4] cp (post' := [(0, cbox (.sv 2 2 0 2 none)), (2, .row 74 2 [.str (rawB L 1), .sv 3 2 0 L.length (some L.length), .str (rawB L 2), .sv 4 2 0 L.length (some L.length)] none), (4, rowD L (some L.length))]) (by simp only [renH, rowD_ren]; rfl) rfl rfl rfl trivial ⟨rfl, rfl, rowD_at _ rfl, trivial⟩ ?_
 conv => whnf
 rw [hkey]
 conv => whnf
 refine ⟨by decide, ?_⟩
 conv => whnf
 refine ⟨by decide, ?_⟩
 conv => whnf
 refine callR [9, 11] (putR1 (k := 21) (l := [raw, s]) kind21 none (by show 2 ≤ 256; decide) hT (by decide) (by decide)) (post' := [(9, rowS [raw, s] none), (11, rowI [2] none)]) (by simp only [renH, rowS_ren, rowI_ren]; rfl) rfl rfl rfl trivial ⟨rowS_at _ rfl, rowI_at _ rfl, trivial⟩ ?_
 conv => whnf
 refine Fin.same ?_ rfl ?_
 ·simp [okH_all, okR, cbox, rowD, rowS, bare_ok (cellsP_bare _), bare_ok (strsA_bare _), okL_cons, okL_nil, okA_str, okA_ptr, okA_int, okA_nils, okA_sv]
 ·intro p hp
  simp only [List.mem_cons, List.not_mem_nil, or_false] at hp
  rcases hp with rfl | rfl | rfl | rfl <;> rfl
theorem wantP22 {L : List KV} {key s ack raw : ByteArray} (hkey : eqB key ⟨#[]⟩ = false) (hs : s.size ≤ 65536) (hack : ack.size ≤ 65536) (hraw : raw.size ≤ 65536)
  (cp : Ctr Tryz.prog 32 [.ptr 0 0, .int .i64 2, .str key] [] [(0, cbox (.sv 2 2 0 2 none)), (2, .row 74 2 [.str (rawB L 1), .sv 3 2 0 L.length (some L.length), .str (rawB L 2), .sv 4 2 0 L.length (some L.length)] none), (4, rowD L (some L.length))] 5 5 (.tup [.agg [.int .i64 2, .str s], .int .i64 0]) [(0, cbox (.sv 2 2 0 2 none)), (2, .row 74 2 [.str (rawB L 1), .sv 3 2 0 L.length (some L.length), .str (rawB L 2), .sv 4 2 0 L.length (some L.length)] none), (4, rowD L (some L.length))]) :
  Ctr Tryz.prog 12 [.ptr 0 0, .agg [.int .i64 22, .str ⟨#[]⟩, .sv 5 1 0 2 (some 2), .nils, .nils], .str key] [] [(0, cbox (.sv 2 2 0 2 none)), (2, .row 74 2 [.str (rawB L 1), .sv 3 2 0 L.length (some L.length), .str (rawB L 2), .sv 4 2 0 L.length (some L.length)] none), (4, rowD L (some L.length)), (5, rowS [raw, ack] (some 2))] 6 6 (.str (msgB 22 [raw, ack, s] [2])) [(0, cbox (.sv 2 2 0 2 none)), (2, .row 74 2 [.str (rawB L 1), .sv 3 2 0 L.length (some L.length), .str (rawB L 2), .sv 4 2 0 L.length (some L.length)] none), (4, rowD L (some L.length)), (5, rowS [raw, ack] (some 2))] := by
 have hT : shortL [raw, ack, s] := by
  intro x hx
  simp only [List.mem_cons, List.not_mem_nil, or_false] at hx
  rcases hx with rfl | rfl | rfl
  ·exact hraw
  ·exact hack
  ·exact hs
 refine Ctr.introR (T := Tryz.T) Tryz.hT Tryz.hM puZ_ok Tryz.func12 rfl (by kernel_rfl) rfl rfl ?_ rfl ?_
 ·simp [okH_all, okR, cbox, rowD, rowS, bare_ok (cellsP_bare _), bare_ok (strsA_bare _), okL_cons, okL_nil, okA_str, okA_ptr, okA_int, okA_nils, okA_sv]
 conv => whnf
 refine callR [0, 1, 2, 3, 4] (height2 L) rfl rfl rfl rfl trivial ⟨rfl, rfl, trivial⟩ ?_
 conv => whnf
 refine callR [0, 1, 2, 3, 4] cp (post' := [(0, cbox (.sv 2 2 0 2 none)), (2, .row 74 2 [.str (rawB L 1), .sv 3 2 0 L.length (some L.length), .str (rawB L 2), .sv 4 2 0 L.length (some L.length)] none), (4, rowD L (some L.length))]) (by simp only [renH, rowD_ren]; rfl) rfl rfl rfl trivial ⟨rfl, rfl, rowD_at _ rfl, trivial⟩ ?_
 conv => whnf
 rw [hkey]
 conv => whnf
 refine ⟨by decide, ?_⟩
 conv => whnf
 refine ⟨by decide, ?_⟩
 conv => whnf
 refine callR [9, 11] (putR1 (k := 22) (l := [raw, ack, s]) kind22 none (by show 3 ≤ 256; decide) hT (by decide) (by decide)) (post' := [(9, rowS [raw, ack, s] none), (11, rowI [2] none)]) (by simp only [renH, rowS_ren, rowI_ren]; rfl) rfl rfl rfl trivial ⟨rowS_at _ rfl, rowI_at _ rfl, trivial⟩ ?_
 conv => whnf
 refine Fin.same ?_ rfl ?_
 ·simp [okH_all, okR, cbox, rowD, rowS, bare_ok (cellsP_bare _), bare_ok (strsA_bare _), okL_cons, okL_nil, okA_str, okA_ptr, okA_int, okA_nils, okA_sv]
 ·intro p hp
  simp only [List.mem_cons, List.not_mem_nil, or_false] at hp
  rcases hp with rfl | rfl | rfl | rfl <;> rfl
theorem wantP23 {L : List KV} {key s raw : ByteArray} (hkey : eqB key ⟨#[]⟩ = false) (hs : s.size ≤ 65536) (hraw : raw.size ≤ 65536)
  (cp : Ctr Tryz.prog 32 [.ptr 0 0, .int .i64 2, .str key] [] [(0, cbox (.sv 2 2 0 2 none)), (2, .row 74 2 [.str (rawB L 1), .sv 3 2 0 L.length (some L.length), .str (rawB L 2), .sv 4 2 0 L.length (some L.length)] none), (4, rowD L (some L.length))] 5 5 (.tup [.agg [.int .i64 2, .str s], .int .i64 0]) [(0, cbox (.sv 2 2 0 2 none)), (2, .row 74 2 [.str (rawB L 1), .sv 3 2 0 L.length (some L.length), .str (rawB L 2), .sv 4 2 0 L.length (some L.length)] none), (4, rowD L (some L.length))]) :
  Ctr Tryz.prog 12 [.ptr 0 0, .agg [.int .i64 23, .str ⟨#[]⟩, .sv 5 1 0 1 (some 1), .nils, .nils], .str key] [] [(0, cbox (.sv 2 2 0 2 none)), (2, .row 74 2 [.str (rawB L 1), .sv 3 2 0 L.length (some L.length), .str (rawB L 2), .sv 4 2 0 L.length (some L.length)] none), (4, rowD L (some L.length)), (5, rowS [raw] (some 1))] 6 6 (.str (msgB 23 [raw, s] [2])) [(0, cbox (.sv 2 2 0 2 none)), (2, .row 74 2 [.str (rawB L 1), .sv 3 2 0 L.length (some L.length), .str (rawB L 2), .sv 4 2 0 L.length (some L.length)] none), (4, rowD L (some L.length)), (5, rowS [raw] (some 1))] := by
 have hT : shortL [raw, s] := by
  intro x hx
  simp only [List.mem_cons, List.not_mem_nil, or_false] at hx
  rcases hx with rfl | rfl
  ·exact hraw
  ·exact hs
 refine Ctr.introR (T := Tryz.T) Tryz.hT Tryz.hM puZ_ok Tryz.func12 rfl (by kernel_rfl) rfl rfl ?_ rfl ?_
 ·simp [okH_all, okR, cbox, rowD, rowS, bare_ok (cellsP_bare _), bare_ok (strsA_bare _), okL_cons, okL_nil, okA_str, okA_ptr, okA_int, okA_nils, okA_sv]
 conv => whnf
 refine callR [0, 1, 2, 3, 4] (height2 L) rfl rfl rfl rfl trivial ⟨rfl, rfl, trivial⟩ ?_
 conv => whnf
 refine callR [0, 1, 2, 3, 4] cp (post' := [(0, cbox (.sv 2 2 0 2 none)), (2, .row 74 2 [.str (rawB L 1), .sv 3 2 0 L.length (some L.length), .str (rawB L 2), .sv 4 2 0 L.length (some L.length)] none), (4, rowD L (some L.length))]) (by simp only [renH, rowD_ren]; rfl) rfl rfl rfl trivial ⟨rfl, rfl, rowD_at _ rfl, trivial⟩ ?_
 conv => whnf
 rw [hkey]
 conv => whnf
 refine ⟨by decide, ?_⟩
 conv => whnf
 refine ⟨by decide, ?_⟩
 conv => whnf
 refine callR [9, 11] (putR1 (k := 23) (l := [raw, s]) kind23 none (by show 2 ≤ 256; decide) hT (by decide) (by decide)) (post' := [(9, rowS [raw, s] none), (11, rowI [2] none)]) (by simp only [renH, rowS_ren, rowI_ren]; rfl) rfl rfl rfl trivial ⟨rowS_at _ rfl, rowI_at _ rfl, trivial⟩ ?_
 conv => whnf
 refine Fin.same ?_ rfl ?_
 ·simp [okH_all, okR, cbox, rowD, rowS, bare_ok (cellsP_bare _), bare_ok (strsA_bare _), okL_cons, okL_nil, okA_str, okA_ptr, okA_int, okA_nils, okA_sv]
 ·intro p hp
  simp only [List.mem_cons, List.not_mem_nil, or_false] at hp
  rcases hp with rfl | rfl | rfl | rfl <;> rfl
theorem s1z (v : Int) : (strOfNums [v]).size = 1 := rfl
theorem catz (a b : ByteArray) : (catB a b).size = a.size + b.size := by
 show (a.data.toList ++ b.data.toList).length = _
 rw [List.length_append]; rfl
def dgt (n : Int) : Int := IntKind.u8.wrap (IntKind.i64.wrap (48 + n.tmod 10))
def numL : Nat → Int → List Int
 | 0, _ => []
 | k + 1, n => numL k (IntKind.i64.wrap (n.tdiv 10)) ++ [dgt n]
def pnS (x : Int) : ByteArray := strOfNums (numL 14 (max 0 (min x 99999999999999)))
theorem cat14 (a0 a1 a2 a3 a4 a5 a6 a7 a8 a9 a10 a11 a12 a13 : Int) : catB (strOfNums [a0]) (catB (strOfNums [a1]) (catB (strOfNums [a2]) (catB (strOfNums [a3]) (catB (strOfNums [a4]) (catB (strOfNums [a5]) (catB (strOfNums [a6]) (catB (strOfNums [a7]) (catB (strOfNums [a8]) (catB (strOfNums [a9]) (catB (strOfNums [a10]) (catB (strOfNums [a11]) (catB (strOfNums [a12]) (catB (strOfNums [a13]) ⟨#[]⟩))))))))))))) = strOfNums [a0, a1, a2, a3, a4, a5, a6, a7, a8, a9, a10, a11, a12, a13] := rfl
theorem fin_str2 {n n' : Nat} {r : AV} {t : ByteArray} {H : Heap} (h : r = .str t) : Fin n n' (.str t) [] r H := by subst h; exact Fin.same rfl rfl (by simp)
theorem numL_len : ∀ (k : Nat) (n : Int), (numL k n).length = k
 | 0, _ => rfl
 | k + 1, n => by rw [numL, List.length_append, numL_len]; rfl
theorem pnS_size (x : Int) : (pnS x).size = 14 := by
 show ((numL 14 _).map _).length = 14
 rw [List.length_map, numL_len]
set_option maxRecDepth 20000 in
theorem pnum1 (x : Int) : Ctr Tryz.prog 67 [.int .i64 x] [] [] 0 0 (.str (pnS x)) [] := by
 refine Ctr.shut (m := 0) (k := 1) ?_ rfl rfl
 refine Ctr.introR (T := Tryz.T) Tryz.hT Tryz.hM Tryz.hE Tryz.func67 rfl (by kernel_rfl) rfl rfl rfl rfl ?_
 conv => whnf
 refine unrollR Tryz.hT Tryz.hM Tryz.hE 15 ?_
 conv => whnf
 iterate 15
  refine ⟨by decide, ?_⟩
  conv => whnf
 refine fin_str2 ?_
 conv => lhs; whnf
 rfl
set_option maxRecDepth 20000 in
theorem pnum2 (x : Int) : Ctr Tryz.prog 44 [.int .i64 x] [] [] 0 0 (.str (pnS x)) [] := by
 refine Ctr.shut (m := 0) (k := 1) ?_ rfl rfl
 refine Ctr.introR (T := Tryz.T) Tryz.hT Tryz.hM Tryz.hE Tryz.func44 rfl (by kernel_rfl) rfl rfl rfl rfl ?_
 conv => whnf
 refine unrollR Tryz.hT Tryz.hM Tryz.hE 15 ?_
 conv => whnf
 iterate 14
  refine ⟨by (try simp only [catz, s1z]); unfold big; decide, ?_⟩
  conv => whnf
 refine fin_str2 ?_
 conv => lhs; whnf
 rw [cat14]
 rfl
def escL (l : List UInt8) : List UInt8 := l.flatMap fun b => if b = 47 then [37, 115] else if b = 37 then [37, 112] else [b]
theorem escL_hid (l : List UInt8) : repl 47 115 (repl 37 112 l) = escL l := by
 induction l with
 | nil => rfl
 | cons x l ih =>
  have h1 : repl 37 112 (x :: l) = (if x = 37 then [37, 112] else [x]) ++ repl 37 112 l := rfl
  have h2 : ∀ a b, repl 47 115 (a ++ b) = repl 47 115 a ++ repl 47 115 b := by intro a b; simp [repl]
  have h3 : escL (x :: l) = (if x = 47 then [37, 115] else if x = 37 then [37, 112] else [x]) ++ escL l := rfl
  rw [h1, h2, ih, h3]
  congr 1
  by_cases a : x = 37
  ·subst a; decide
  ·by_cases b : x = 47
   ·subst b; decide
   ·simp [repl, a, b]
theorem escL_snoc (l : List UInt8) (x : UInt8) : escL (l ++ [x]) = escL l ++ (if x = 47 then [37, 115] else if x = 37 then [37, 112] else [x]) := by simp [escL]
theorem escL_len (l : List UInt8) : (escL l).length ≤ 2 * l.length := by
 induction l with
 | nil => decide
 | cons x l ih =>
  have h3 : escL (x :: l) = (if x = 47 then [37, 115] else if x = 37 then [37, 112] else [x]) ++ escL l := rfl
  rw [h3, List.length_append, List.length_cons]
  by_cases b : x = 47
  ·simp [b]; omega
  ·by_cases a : x = 37
   ·simp [a]; omega
   ·simp [a, b]; omega
theorem byteAt_eq {s : ByteArray} {i : Nat} (h : i < s.size) (hd : s.data.toList.length = s.size) : byteAt s (i : Int) = ((s.data.toList[i]'(by omega)).toNat : Int) := by
 unfold byteAt
 rw [Int.toNat_natCast, getElem?_pos s i h]
 rfl
theorem byte_ne {x y : UInt8} (h : x ≠ y) : decide ((x.toNat : Int) = (y.toNat : Int)) = false := by
 apply decide_eq_false
 intro e
 exact h (UInt8.toNat_inj.1 (by omega))
noncomputable def rowU (l : List UInt8) : Res := .row 5 1 (u8A l) none
theorem rowU_ren (l : List UInt8) (π : Nat → Nat) : renR π (rowU l) = rowU l := by simp only [rowU, renR, bare_ren (u8A_bare _)]
theorem rowU_ok (l : List UInt8) (n : Nat) : okR n (rowU l) = true := bare_ok (u8A_bare _)
theorem rowU_at {l : List UInt8} {H : Heap} {k : Nat} (π : Nat → Nat) (h : SX.look H (π k) = some (rowU l)) : SX.look H (π k) = some (renR π (rowU l)) := by rw [rowU_ren]; exact h
noncomputable def oV (E : Nat → List UInt8) : Nat → AV
 | 0 => .nils
 | i + 1 => .sv 0 1 0 (E (i + 1)).length none
noncomputable def oH (E : Nat → List UInt8) : Nat → Heap
 | 0 => []
 | i + 1 => [(0, rowU (E (i + 1)))]
theorem oH_ok (E : Nat → List UInt8) (i : Nat) : okH 1 (oH E i) = true := by cases i <;> simp [oH, okH_all, rowU_ok]
theorem hid8 (s : ByteArray) (hs : s.size ≤ 65536) : Ctr Tryz.prog 110 [.str s] [] [] 0 0 (.str (hid s)) [] := by
 have hd : s.data.toList.length = s.size := rfl
 obtain ⟨E, hE⟩ : ∃ E : Nat → List UInt8, E = fun i => escL (s.data.toList.take i) := ⟨_, rfl⟩
 have hEl : ∀ i, i ≤ s.size → (E i).length ≤ 2 * s.size := fun i hi => by
  rw [hE]
  have := escL_len (s.data.toList.take i)
  rw [List.length_take] at this
  dsimp only
  omega
 have hEs : ∀ i (h : i < s.size), E (i + 1) = E i ++ (if s.data.toList[i]'(by omega) = 47 then [37, 115] else if s.data.toList[i]'(by omega) = 37 then [37, 112] else [s.data.toList[i]'(by omega)]) := fun i h => by
  rw [hE]
  dsimp only
  rw [List.take_succ_eq_append_getElem (by omega), escL_snoc]
 refine Ctr.introR (T := Tryz.T) Tryz.hT Tryz.hM Tryz.hE Tryz.func110 rfl (by kernel_rfl) rfl rfl rfl rfl ?_
 conv => whnf
 refine loopR Tryz.hT Tryz.hM Tryz.hE (α := {i : Nat // i ≤ s.size})
  (fun i => ([(0, .str s), (3, oV E i.1), (4, .int .i64 (i.1 : Int))], oH E i.1)) (fun i => s.size - i.1) 1 ⟨0, Nat.zero_le _⟩ [] ?_ ?_
 ·exact ⟨⟨rfl, rfl, rfl, trivial⟩, trivial, rfl, rfl⟩
 rintro ⟨i, hi⟩
 cases i with
 | zero =>
  conv => whnf
  by_cases h : 0 < s.size
  ·rw [show decide (((0 : Nat) : Int) < ((s.size : Nat) : Int)) = true by simpa using h]
   conv => whnf
   simp only
   refine ⟨by omega, ?_⟩
   conv => whnf
   rw [byteAt_eq h hd]
   have h1 := hEs 0 h
   have h0 : E 0 = [] := by rw [hE]; rfl
   rw [h0, List.nil_append] at h1
   generalize hx : s.data.toList[0]'(by omega) = x at h1 ⊢
   by_cases x37 : x = 37
   ·rw [if_neg (by rw [x37]; decide), if_pos x37] at h1
    rw [show decide ((x.toNat : Int) = 37) = true from decide_eq_true (by rw [x37]; rfl)]
    conv => whnf
    refine ⟨by decide, ?_⟩
    conv => whnf
    refine ⟨⟨1, h⟩, [(0, 2)], by dsimp only; omega, ⟨⟨rfl, ?_, rfl, trivial⟩, ⟨rowU_at _ ?_, trivial⟩, ?_, rfl⟩⟩
    ·show some _ = some (AV.sv _ 1 0 (E (0 + 1)).length none)
     rw [h1]; rfl
    ·show SX.look _ _ = some (rowU (E (0 + 1)))
     rw [h1]; rfl
    ·simp only [oH_ok]; rfl
   ·rw [show decide ((x.toNat : Int) = 37) = false from byte_ne (y := 37) x37]
    conv => whnf
    by_cases x47 : x = 47
    ·rw [if_pos x47] at h1
     rw [show decide ((x.toNat : Int) = 47) = true from decide_eq_true (by rw [x47]; rfl)]
     conv => whnf
     refine ⟨by decide, ?_⟩
     conv => whnf
     refine ⟨⟨1, h⟩, [(0, 2)], by dsimp only; omega, ⟨⟨rfl, ?_, rfl, trivial⟩, ⟨rowU_at _ ?_, trivial⟩, ?_, rfl⟩⟩
     ·show some _ = some (AV.sv _ 1 0 (E (0 + 1)).length none)
      rw [h1]; rfl
     ·show SX.look _ _ = some (rowU (E (0 + 1)))
      rw [h1]; rfl
     ·simp only [oH_ok]; rfl
    ·rw [if_neg x47, if_neg x37] at h1
     rw [show decide ((x.toNat : Int) = 47) = false from byte_ne (y := 47) x47]
     conv => whnf
     simp only
     refine ⟨by omega, ?_⟩
     conv => whnf
     rw [byteAt_eq h hd, hx]
     conv => whnf
     refine ⟨by decide, ?_⟩
     conv => whnf
     refine ⟨⟨1, h⟩, [(0, 2)], by dsimp only; omega, ⟨⟨rfl, ?_, rfl, trivial⟩, ⟨rowU_at _ ?_, trivial⟩, ?_, rfl⟩⟩
     ·show some _ = some (AV.sv _ 1 0 (E (0 + 1)).length none)
      rw [h1]; rfl
     ·show SX.look _ _ = some (rowU (E (0 + 1)))
      rw [h1]; rfl
     ·simp only [oH_ok]; rfl
  ·rw [show decide (((0 : Nat) : Int) < ((s.size : Nat) : Int)) = false by simpa using h]
   conv => whnf
   have e : hid s = ⟨#[]⟩ := by
    unfold hid
    rw [escL_hid]
    have h0 : s.data.toList = [] := List.eq_nil_of_length_eq_zero (by omega)
    rw [h0]; rfl
   rw [e]
   exact .mk' [] rfl rfl rfl rfl rfl rfl trivial
 | succ i =>
  conv => whnf
  have hPl : (u8A (E (i + 1))).length = (E (i + 1)).length := u8A_len _
  have hEb := hEl (i + 1) hi
  by_cases h : i + 1 < s.size
  ·rw [show decide (((i + 1 : Nat) : Int) < ((s.size : Nat) : Int)) = true from decide_eq_true (by omega)]
   conv => whnf
   simp only
   refine ⟨by omega, ?_⟩
   conv => whnf
   rw [byteAt_eq h hd]
   have h1 := hEs (i + 1) h
   generalize hx : s.data.toList[i + 1]'(by omega) = x at h1 ⊢
   by_cases x37 : x = 37
   ·rw [if_neg (by rw [x37]; decide), if_pos x37] at h1
    rw [show decide ((x.toNat : Int) = 37) = true from decide_eq_true (by rw [x37]; rfl)]
    conv => whnf
    have e3 : rowU (E (i + 1 + 1)) = .row 5 1 (u8A (E (i + 1)) ++ [AV.int .u8 37, AV.int .u8 112]) none := by rw [h1]; simp [rowU, u8A]
    have hb3 : (u8A (E (i + 1)) ++ [AV.int .u8 37, AV.int .u8 112]).all bareA = true := by rw [List.all_append, u8A_bare]; rfl
    rw [show Nat.ble ((0 + (E (i + 1)).length) * 1) (u8A (E (i + 1))).length = true from Nat.ble_eq_true_of_le (by rw [hPl]; omega)]
    conv => whnf
    refine bcase_intro (fun h => ?_) (fun _ => ?_)
    ·exact absurd (Nat.le_of_ble_eq_true h) (by omega)
    conv => whnf
    refine ⟨by unfold room; omega, ?_⟩
    rw [spine_eq, show List.take ((E (i + 1)).length * 1) (List.drop (0 * 1) (u8A (E (i + 1)))) = u8A (E (i + 1)) by rw [Nat.zero_mul, List.drop_zero, List.take_of_length_le (by omega)]]
    conv => whnf
    have hw : IntKind.i64.wrap (((i + 1 : Nat) : Int) + 1) = ((i + 1 + 1 : Nat) : Int) := by rw [wrap_small] <;> omega
    rw [hw]
    refine ⟨⟨i + 1 + 1, h⟩, [(0, 2)], by dsimp only; omega, ⟨⟨rfl, ?_, rfl, trivial⟩, ⟨rowU_at _ ?_, trivial⟩, ?_, rfl⟩⟩
    ·show some _ = some (AV.sv _ 1 0 (E (i + 1 + 1)).length none)
     rw [h1, List.length_append]; rfl
    ·show SX.look _ _ = some (rowU (E (i + 1 + 1)))
     rw [e3]; rfl
    ·simp only [oH_ok]; rfl
   ·rw [show decide ((x.toNat : Int) = 37) = false from byte_ne (y := 37) x37]
    conv => whnf
    by_cases x47 : x = 47
    ·rw [if_pos x47] at h1
     rw [show decide ((x.toNat : Int) = 47) = true from decide_eq_true (by rw [x47]; rfl)]
     conv => whnf
     have e3 : rowU (E (i + 1 + 1)) = .row 5 1 (u8A (E (i + 1)) ++ [AV.int .u8 37, AV.int .u8 115]) none := by rw [h1]; simp [rowU, u8A]
     have hb3 : (u8A (E (i + 1)) ++ [AV.int .u8 37, AV.int .u8 115]).all bareA = true := by rw [List.all_append, u8A_bare]; rfl
     rw [show Nat.ble ((0 + (E (i + 1)).length) * 1) (u8A (E (i + 1))).length = true from Nat.ble_eq_true_of_le (by rw [hPl]; omega)]
     conv => whnf
     refine bcase_intro (fun h => ?_) (fun _ => ?_)
     ·exact absurd (Nat.le_of_ble_eq_true h) (by omega)
     conv => whnf
     refine ⟨by unfold room; omega, ?_⟩
     rw [spine_eq, show List.take ((E (i + 1)).length * 1) (List.drop (0 * 1) (u8A (E (i + 1)))) = u8A (E (i + 1)) by rw [Nat.zero_mul, List.drop_zero, List.take_of_length_le (by omega)]]
     conv => whnf
     have hw : IntKind.i64.wrap (((i + 1 : Nat) : Int) + 1) = ((i + 1 + 1 : Nat) : Int) := by rw [wrap_small] <;> omega
     rw [hw]
     refine ⟨⟨i + 1 + 1, h⟩, [(0, 2)], by dsimp only; omega, ⟨⟨rfl, ?_, rfl, trivial⟩, ⟨rowU_at _ ?_, trivial⟩, ?_, rfl⟩⟩
     ·show some _ = some (AV.sv _ 1 0 (E (i + 1 + 1)).length none)
      rw [h1, List.length_append]; rfl
     ·show SX.look _ _ = some (rowU (E (i + 1 + 1)))
      rw [e3]; rfl
     ·simp only [oH_ok]; rfl
    ·rw [if_neg x47, if_neg x37] at h1
     rw [show decide ((x.toNat : Int) = 47) = false from byte_ne (y := 47) x47]
     conv => whnf
     simp only
     refine ⟨by omega, ?_⟩
     conv => whnf
     rw [byteAt_eq h hd, hx]
     conv => whnf
     have e3 : rowU (E (i + 1 + 1)) = .row 5 1 (u8A (E (i + 1)) ++ [AV.int .u8 (x.toNat : Int)]) none := by rw [h1]; simp [rowU, u8A]
     have hb3 : (u8A (E (i + 1)) ++ [AV.int .u8 (x.toNat : Int)]).all bareA = true := by rw [List.all_append, u8A_bare]; rfl
     rw [show Nat.ble ((0 + (E (i + 1)).length) * 1) (u8A (E (i + 1))).length = true from Nat.ble_eq_true_of_le (by rw [hPl]; omega)]
     conv => whnf
     refine bcase_intro (fun h => ?_) (fun _ => ?_)
     ·exact absurd (Nat.le_of_ble_eq_true h) (by omega)
     conv => whnf
     refine ⟨by unfold room; omega, ?_⟩
     rw [spine_eq, show List.take ((E (i + 1)).length * 1) (List.drop (0 * 1) (u8A (E (i + 1)))) = u8A (E (i + 1)) by rw [Nat.zero_mul, List.drop_zero, List.take_of_length_le (by omega)]]
     conv => whnf
     have hw : IntKind.i64.wrap (((i + 1 : Nat) : Int) + 1) = ((i + 1 + 1 : Nat) : Int) := by rw [wrap_small] <;> omega
     rw [hw]
     refine ⟨⟨i + 1 + 1, h⟩, [(0, 2)], by dsimp only; omega, ⟨⟨rfl, ?_, rfl, trivial⟩, ⟨rowU_at _ ?_, trivial⟩, ?_, rfl⟩⟩
     ·show some _ = some (AV.sv _ 1 0 (E (i + 1 + 1)).length none)
      rw [h1, List.length_append]; rfl
     ·show SX.look _ _ = some (rowU (E (i + 1 + 1)))
      rw [e3]; rfl
     ·simp only [oH_ok]; rfl
  ·rw [show decide (((i + 1 : Nat) : Int) < ((s.size : Nat) : Int)) = false from decide_eq_false (by omega)]
   have hi2 : i + 1 = s.size := by omega
   have e : hid s = ⟨⟨E (i + 1)⟩⟩ := by
    unfold hid
    rw [escL_hid, hE]
    dsimp only
    rw [List.take_of_length_le (by omega)]; rfl
   rw [e]
   conv => whnf
   rw [List.drop_zero, show intsL (u8A (E (i + 1))) (E (i + 1)).length = some ((E (i + 1)).map fun b => (b.toNat : Int)) from intsL_mkB _, show (0 + (E (i + 1)).length).ble (u8A (E (i + 1))).length = true from Nat.ble_eq_true_of_le (by omega)]
   conv => whnf
   rw [sn_map]
   refine .mk' [] rfl rfl rfl rfl rfl rfl trivial
theorem joinR (w : ByteArray) {M : List ByteArray} {a n : Nat} {c d : Option Nat} (hw : w.size ≤ 65536) (hM : ∀ s ∈ M, s.size ≤ 65536) (han : a + n ≤ M.length) (hn : n ≤ 1000) :
  Ctr Tryz.prog 68 [.str w, .sv 0 1 a n c] [] [(0, rowS M d)] 1 1 (.str (joinB w ((M.drop a).take n))) [(0, rowS M d)] := by
 refine Ctr.introR (T := Tryz.T) Tryz.hT Tryz.hM Tryz.hE Tryz.func68 rfl (by kernel_rfl) rfl rfl ?_ rfl ?_
 ·simp [okH_all, rowS_ok]
 conv => whnf
 refine callR [] (hid8 w hw) rfl rfl rfl rfl trivial trivial ?_
 conv => whnf
 have hlen : ((M.drop a).take n).length = n := by rw [List.length_take, List.length_drop]; omega
 obtain ⟨P, hP⟩ : ∃ P, P = (M.drop a).take n := ⟨_, rfl⟩
 rw [← hP] at hlen ⊢
 have hPM : ∀ i (h : i < n), P[i]'(by omega) = M[a + i]'(by omega) := fun i h => by
  simp only [hP, List.getElem_take, List.getElem_drop]
 have hPs : ∀ i (h : i < n), (P[i]'(by omega)).size ≤ 65536 := fun i h => by rw [hPM i h]; exact hM _ (List.getElem_mem _)
 have hh : ∀ s : ByteArray, s.size ≤ 65536 → (hid s).size ≤ 131072 := fun s h => by
  unfold hid
  rw [escL_hid, ofL_size]
  have := escL_len s.data.toList
  have hd : s.data.toList.length = s.size := rfl
  omega
 have hjs : ∀ i, i ≤ n → (joinB w (P.take i)).size ≤ (i + 1) * 131073 := by
  intro i
  induction i with
  | zero => intro _; have := hh w hw; simp only [List.take_zero, joinB, List.foldl_nil]; omega
  | succ i ih =>
   intro hi
   have h1 := ih (by omega)
   have h2 := hh _ (hPs i (by omega))
   rw [List.take_succ_eq_append_getElem (by omega), joinB_snoc, catB_eq, catB_eq, ByteArray.size_append, ByteArray.size_append]
   have e : (ByteArray.mk #[47]).size = 1 := rfl
   rw [e]; omega
 have hcat : ∀ x y z : ByteArray, catB (catB x y) z = catB x (catB y z) := fun x y z => by rw [catB_eq, catB_eq, catB_eq, catB_eq, ByteArray.append_assoc]
 refine loopR Tryz.hT Tryz.hM Tryz.hE (α := {i : Nat // i ≤ n})
  (fun i => ([(1, .sv 0 1 a n c), (5, .str (joinB w (P.take i.1))), (6, .int .i64 (i.1 : Int))], [(0, rowS M d)])) (fun i => n - i.1) 1 ⟨0, Nat.zero_le _⟩ [] ?_ ?_
 ·refine ⟨⟨rfl, rfl, rfl, trivial⟩, ⟨rowS_at _ rfl, trivial⟩, ?_, rfl⟩
  simp [okFr, okH_all, rowS_ok, okA_sv, okA_str, okA_int, nodupB]
 rintro ⟨i, hi⟩
 dsimp only at hi ⊢
 conv => whnf
 by_cases h : i < n
 ·rw [show decide (((i : Nat) : Int) < ((n : Nat) : Int)) = true by simpa using h]
  have hj := hjs i hi
  have h1 := hh _ (hPs i h)
  have e47 : (ByteArray.mk #[47]).size = 1 := rfl
  have hb : (joinB w (P.take i)).size ≤ 131204073 := Nat.le_trans hj (by have : (i + 1) * 131073 ≤ 1001 * 131073 := Nat.mul_le_mul_right _ (by omega); omega)
  conv => whnf
  refine ⟨by rw [e47]; unfold big; omega, ?_⟩
  conv => whnf
  simp only [Int.toNat_natCast]
  refine ⟨by omega, ?_⟩
  conv => whnf
  have hr : readA false 1 (strsA M) ((a + i) * 1 + 0) = some (.str (P[i]'(by omega))) := by
   show nth (strsA M) _ = _
   rw [nth_eq, show (a + i) * 1 + 0 = a + i by omega, strsA, List.getElem?_map, List.getElem?_eq_getElem (by omega), hPM i h]; rfl
  rw [hr]
  conv => whnf
  refine callR [] (hid8 _ (hPs i h)) rfl rfl rfl rfl trivial trivial ?_
  conv => whnf
  refine ⟨by rw [catz, e47]; unfold big; omega, ?_⟩
  conv => whnf
  have hw2 : IntKind.i64.wrap ((i : Int) + 1) = ((i + 1 : Nat) : Int) := by rw [wrap_small] <;> omega
  have hsn : catB (catB (joinB w (P.take i)) ⟨#[47]⟩) (hid (P[i]'(by omega))) = joinB w (P.take (i + 1)) := by rw [hcat, List.take_succ_eq_append_getElem (by omega), joinB_snoc]
  rw [hw2, hsn]
  refine ⟨⟨i + 1, h⟩, [], by dsimp only; omega, ⟨⟨rfl, rfl, rfl, trivial⟩, ⟨rowS_at _ rfl, trivial⟩, ?_, rfl⟩⟩
  simp [okFr, okH_all, rowS_ok, okA_sv, okA_str, okA_int, nodupB]
 ·rw [show decide (((i : Nat) : Int) < ((n : Nat) : Int)) = false by simpa using h]
  have h : i = n := by omega
  subst h
  conv => whnf
  rw [show P.take i = P from List.take_of_length_le (by omega)]
  refine Fin.same ?_ rfl ?_
  ·simp [okH_all, rowS_ok]
  ·simp [lookC]
theorem key14 (w : ByteArray) (l : List ByteArray) {d : Option Nat} (hw : w.size ≤ 65536) (hl : ∀ s ∈ l, s.size ≤ 65536) (hn : l.length ≤ 100) :
  Ctr Tryz.prog 43 [.sv 0 1 0 (l.length + 1) (some (l.length + 1))] [] [(0, rowS (w :: l) d)] 1 1 (.str (joinB w l)) [(0, rowS (w :: l) d)] := by
 refine Ctr.introR (T := Tryz.T) Tryz.hT Tryz.hM Tryz.hE Tryz.func43 rfl (by kernel_rfl) rfl rfl ?_ rfl ?_
 ·simp [okH_all, rowS_ok]
 conv => whnf
 refine ⟨by omega, ?_⟩
 conv => whnf
 refine ⟨by simp only [capE]; omega, ?_⟩
 rw [show ((l.length + 1 : Nat) : Int).toNat - Int.toNat 1 = l.length by simp, show capM none (some (l.length + 1)) 1 ((capE (some (l.length + 1)) (l.length + 1) : Nat) : Int) = some l.length by simp [capM, capSub]]
 conv => whnf
 have c := joinR (d := d) (c := some l.length) w (M := w :: l) (a := 1) (n := l.length) hw (fun s hs => by rcases List.mem_cons.1 hs with rfl | h; exact hw; exact hl s h) (by rw [List.length_cons]; omega) (by omega)
 rw [show ((w :: l).drop 1).take l.length = l from by rw [List.drop_one, List.tail_cons, List.take_of_length_le (Nat.le_refl _)]] at c
 refine callR [0] c (post' := [(0, rowS (w :: l) d)]) (by simp only [renH, rowS_ren]; rfl) rfl rfl rfl trivial ⟨rowS_at _ rfl, trivial⟩ ?_
 conv => whnf
 generalize hrc : raceB _ _ = rb
 obtain rfl : rb = true := hrc.symm.trans (by kernel_rfl)
 conv => whnf
 refine Fin.same ?_ rfl ?_
 ·simp [okH_all, rowS_ok]
 ·intro p hp
  simp only [List.mem_cons, List.not_mem_nil, or_false] at hp
  rcases hp with rfl <;> rfl
def chnW : ByteArray := ⟨#[99, 104, 97, 110, 110, 101, 108, 45]⟩
def isDig (b : UInt8) : Bool := decide (48 ≤ b.toNat) && decide (b.toNat ≤ 57)
def decV (l : List UInt8) : Nat := l.foldl (fun n c => n * 10 + (c.toNat - 48)) 0
def cntB (r : List UInt8) : Bool := !r.isEmpty && (!(decide (1 < r.length) && decide (r.headD 0 = 48)) && (r.all isDig && decide (decV r ≤ 1099511627776)))
def chnB (s : ByteArray) : Bool := (decide (8 ≤ s.size) && eqB (subB s 0 8) chnW) && cntB (s.data.toList.drop 8)
def chnE (s : ByteArray) : Int := if chnB s then 0 else 7
theorem subB_to8 (s : ByteArray) (a : Nat) : subB s a s.size = ⟨⟨s.data.toList.drop a⟩⟩ := by
 have : (s.data.toList.drop a).take (s.size - a) = s.data.toList.drop a := List.take_of_length_le (by rw [List.length_drop]; exact Nat.le_refl _)
 unfold subB; rw [this]
theorem decV_snoc (l : List UInt8) (c : UInt8) : decV (l ++ [c]) = decV l * 10 + (c.toNat - 48) := by simp [decV]
theorem decV_mono (l m : List UInt8) : decV l ≤ decV (l ++ m) := by
 induction m generalizing l with
 | nil => simp
 | cons c m ih =>
  have h := ih (l ++ [c])
  rw [List.append_assoc] at h
  have h2 := decV_snoc l c
  simp only [List.cons_append, List.nil_append] at h
  omega
theorem head1 : Ctr Tryz.prog 69 [.int .i64 1] [] [] 0 0 (.str chnW) [] := closed1 (by kernel_rfl)
theorem word1 : Ctr Tryz.prog 105 [.int .i64 1] [] [] 0 0 (.str chnW) [] := closed1 (by kernel_rfl)
theorem cutP (a b : ByteArray) : Ctr Tryz.prog 137 [.str a, .str b] [] [] 0 0 (.tup [.str (if decide (b.size ≤ a.size) && eqB (subB a 0 b.size) b then subB a b.size a.size else a), .bool (decide (b.size ≤ a.size) && eqB (subB a 0 b.size) b)]) [] := by
 refine Ctr.introR (T := Tryz.T) Tryz.hT Tryz.hM puC_ok Tryz.func137 rfl (by kernel_rfl) rfl rfl rfl rfl ?_
 conv => whnf
 refine callR [] (hpf a b) rfl rfl rfl rfl trivial trivial ?_
 cases hh : (decide (b.size ≤ a.size) && eqB (subB a 0 b.size) b) with
 | false =>
  conv => whnf
  exact Fin.same rfl rfl (by simp)
 | true =>
  conv => whnf
  have hle : b.size ≤ a.size := by simp at hh; exact hh.1
  simp only [Int.toNat_natCast]
  refine ⟨by omega, ?_⟩
  conv => whnf
  exact Fin.same rfl rfl (by simp)
theorem cutS (a b : ByteArray) : Ctr Tryz.prog 111 [.str a, .str b] [] [] 0 0 (.tup [.str (if decide (b.size ≤ a.size) && eqB (subB a 0 b.size) b then subB a b.size a.size else a), .bool (decide (b.size ≤ a.size) && eqB (subB a 0 b.size) b)]) [] := by
 refine Ctr.introR (T := Tryz.T) Tryz.hT Tryz.hM puC_ok Tryz.func111 rfl (by kernel_rfl) rfl rfl rfl rfl ?_
 conv => whnf
 refine callR [] (cutP a b) rfl rfl rfl rfl trivial trivial ?_
 conv => whnf
 exact Fin.same rfl rfl (by simp)
theorem rdU {l : List UInt8} {i : Nat} (h : i < l.length) : readA false 1 (u8A l) ((0 + i) * 1 + 0) = some (.int .u8 (l[i].toNat : Int)) := by
 show nth (u8A l) _ = _
 rw [nth_eq, show (0 + i) * 1 + 0 = i by omega, u8A, List.getElem?_map, List.getElem?_eq_getElem h]; rfl
theorem dig_in {c : UInt8} (h : isDig c = true) : 48 ≤ c.toNat ∧ c.toNat ≤ 57 := by
 unfold isDig at h
 rw [Bool.and_eq_true] at h
 exact ⟨of_decide_eq_true h.1, of_decide_eq_true h.2⟩
theorem u8_sub {c : UInt8} (h1 : 48 ≤ c.toNat) (h2 : c.toNat ≤ 57) : IntKind.u8.wrap ((c.toNat : Int) - 48) = ((c.toNat - 48 : Nat) : Int) := by
 rw [show (c.toNat : Int) - 48 = ((c.toNat - 48 : Nat) : Int) by omega]
 have hm : c.toNat - 48 < 256 := by omega
 generalize c.toNat - 48 = m at hm ⊢
 rw [u8_wrap]
 simp
 omega
set_option maxHeartbeats 4000000 in
theorem num1c (s : ByteArray) (hs : s.size ≤ 65536) : Ctr Tryz.prog 70 [.int .i64 1, .str s] [] [] 0 0 (.tup [.int .i64 (if chnB s then decV (s.data.toList.drop 8) else 0), .int .i64 (chnE s)]) [] := by
 have hd : s.data.toList.length = s.size := rfl
 refine Ctr.shut (m := 0) (k := 0) ?_ rfl rfl
 refine Ctr.introR (T := Tryz.T) Tryz.hT Tryz.hM puC_ok Tryz.func70 rfl (by kernel_rfl) rfl rfl rfl rfl ?_
 conv => whnf
 refine callR [] head1 rfl rfl rfl rfl trivial trivial ?_
 conv => whnf
 refine callR [] (cutS s chnW) rfl rfl rfl rfl trivial trivial ?_
 rw [show chnW.size = 8 from rfl]
 cases hh : (decide (8 ≤ s.size) && eqB (subB s 0 8) chnW) with
 | false =>
  have h1 : chnB s = false := by unfold chnB; rw [hh]; rfl
  unfold chnE
  rw [h1]
  conv => whnf
  exact .mk' [] rfl rfl rfl rfl rfl rfl trivial
 | true =>
  have hle : 8 ≤ s.size := by simp at hh; exact hh.1
  have h1 : chnB s = cntB (s.data.toList.drop 8) := by unfold chnB; rw [hh]; rfl
  have hsub : subB s 8 s.size = ⟨⟨s.data.toList.drop 8⟩⟩ := subB_to8 s 8
  unfold chnE
  rw [h1, if_pos rfl, hsub]
  generalize hr : s.data.toList.drop 8 = r
  have hrl : r.length = s.size - 8 := by rw [← hr, List.length_drop, hd]
  clear h1
  cases r with
  | nil =>
   rw [show cntB [] = false from rfl]
   conv => whnf
   exact .mk' [] rfl rfl rfl rfl rfl rfl trivial
  | cons x r =>
   have hne : eqB ⟨⟨x :: r⟩⟩ ⟨#[]⟩ = false := by
    rw [eqB_eq]
    apply decide_eq_false
    intro e
    have := congrArg ByteArray.size e
    cases this
   have hsz : (ByteArray.mk ⟨x :: r⟩).size = r.length + 1 := rfl
   have hb0 : byteAt ⟨⟨x :: r⟩⟩ 0 = (x.toNat : Int) := rfl
   conv => whnf
   rw [hne]
   conv => whnf
   have hlz : (decide (1 < (x :: r).length) && decide (x = 48)) = true → cntB (x :: r) = false := fun h => by
    unfold cntB
    rw [show (x :: r).headD 0 = x from rfl, h]
    simp
   have go : (decide (1 < (x :: r).length) && decide (x = 48)) = false → cntB (x :: r) = ((x :: r).all isDig && decide (decV (x :: r) ≤ 1099511627776)) := fun h => by
    unfold cntB
    rw [show (x :: r).headD 0 = x from rfl, h]
    simp
   by_cases h1 : 1 < r.length + 1
   ·rw [show decide ((1 : Int) < ((ByteArray.mk ⟨x :: r⟩).size : Int)) = true from decide_eq_true (by rw [hsz]; omega)]
    conv => whnf
    refine ⟨⟨by decide, by rw [hsz]; omega⟩, ?_⟩
    conv => whnf
    rw [hb0]
    by_cases hx : x = 48
    ·rw [show decide ((x.toNat : Int) = 48) = true from decide_eq_true (by rw [hx]; rfl)]
     rw [hlz (by rw [Bool.and_eq_true]; exact ⟨decide_eq_true h1, decide_eq_true hx⟩)]
     conv => whnf
     exact .mk' [] rfl rfl rfl rfl rfl rfl trivial
    ·rw [show decide ((x.toNat : Int) = 48) = false from byte_ne (y := 48) hx]
     rw [go (by rw [decide_eq_false hx, Bool.and_false])]
     conv => whnf
     rw [spine_rec]
     conv => whnf
     have hR2 : (x :: r).length ≤ 65536 := by omega
     refine loopR Tryz.hT Tryz.hM puC_ok (α := {i : Nat // i ≤ (x :: r).length ∧ ((x :: r).take i).all isDig = true ∧ decV ((x :: r).take i) ≤ 1099511627776})
      (fun i => ([(9, .int .i64 (decV ((x :: r).take i.1) : Int)), (39, .sv 0 1 0 (x :: r).length none), (40, .int .i64 ((x :: r).length : Int)), (41, .int .i64 (i.1 : Int))], [(0, rowU (x :: r))])) (fun i => (x :: r).length - i.1) 1 ⟨0, Nat.zero_le _, rfl, Nat.zero_le _⟩ [] ?_ ?_
     ·refine ⟨⟨rfl, rfl, rfl, rfl, trivial⟩, ⟨rowU_at _ rfl, trivial⟩, ?_, rfl⟩
      simp [okFr, okH_all, rowU_ok, okA_sv, okA_int, nodupB]
     rintro ⟨i, hi, ha, hv⟩
     dsimp only at hi ha hv ⊢
     conv => whnf
     by_cases h : i < (x :: r).length
     ·rw [show decide (((i : Nat) : Int) < (((x :: r).length : Nat) : Int)) = true from decide_eq_true (by omega)]
      conv => whnf
      simp only [Int.toNat_natCast]
      refine ⟨by omega, ?_⟩
      conv => whnf
      rw [show readA false 1 (u8A (x :: r)) ((0 + i) * 1 + 0) = some (.int .u8 ((x :: r)[i].toNat : Int)) from rdU h]
      conv => whnf
      have htk : (x :: r).take (i + 1) = (x :: r).take i ++ [(x :: r)[i]] := List.take_succ_eq_append_getElem h
      generalize hc : (x :: r)[i] = c at htk ⊢
      by_cases hd1 : isDig c = true
      ·obtain ⟨q1, q2⟩ := dig_in hd1
       rw [show decide ((c.toNat : Int) < 48) = false from decide_eq_false (by omega)]
       conv => whnf
       rw [show decide ((57 : Int) < (c.toNat : Int)) = false from decide_eq_false (by omega)]
       conv => whnf
       have hw1 : IntKind.i64.wrap (IntKind.i64.wrap ((decV ((x :: r).take i) : Int) * 10) + IntKind.i64.wrap (IntKind.u8.wrap ((c.toNat : Int) - 48))) = ((decV ((x :: r).take (i + 1)) : Nat) : Int) := by
        rw [htk, decV_snoc]
        have e1 : IntKind.u8.wrap ((c.toNat : Int) - 48) = ((c.toNat - 48 : Nat) : Int) := u8_sub q1 q2
        rw [e1, wrap_small (n := ((c.toNat - 48 : Nat) : Int)) (by omega) (by omega), wrap_small (n := (decV ((x :: r).take i) : Int) * 10) (by omega) (by omega), wrap_small (by omega) (by omega)]
        omega
       rw [hw1]
       by_cases hb : 1099511627776 < decV ((x :: r).take (i + 1))
       ·rw [show decide ((1099511627776 : Int) < ((decV ((x :: r).take (i + 1)) : Nat) : Int)) = true from decide_eq_true (by omega)]
        have hf : ((x :: r).all isDig && decide (decV (x :: r) ≤ 1099511627776)) = false := by
         have := decV_mono ((x :: r).take (i + 1)) ((x :: r).drop (i + 1))
         rw [List.take_append_drop] at this
         rw [decide_eq_false (by omega), Bool.and_false]
        rw [hf]
        conv => whnf
        exact .mk' [] rfl rfl rfl rfl rfl rfl trivial
       ·rw [show decide ((1099511627776 : Int) < ((decV ((x :: r).take (i + 1)) : Nat) : Int)) = false from decide_eq_false (by omega)]
        conv => whnf
        have hwi : IntKind.i64.wrap ((i : Int) + 1) = ((i + 1 : Nat) : Int) := by rw [wrap_small] <;> omega
        rw [hwi]
        refine ⟨⟨i + 1, h, by rw [htk, List.all_append, ha]; simp [hd1], by omega⟩, [], by dsimp only; omega, ⟨⟨rfl, rfl, rfl, rfl, trivial⟩, ⟨rowU_at _ rfl, trivial⟩, ?_, rfl⟩⟩
        simp [okFr, okH_all, rowU_ok, okA_sv, okA_int, nodupB]
      ·have hf : ((x :: r).all isDig && decide (decV (x :: r) ≤ 1099511627776)) = false := by
        have : (x :: r).all isDig = false := by
         cases hq : (x :: r).all isDig with
         | false => rfl
         | true => exact absurd (List.all_eq_true.1 hq _ (hc ▸ List.getElem_mem h)) hd1
        rw [this, Bool.false_and]
       rw [hf]
       by_cases q : c.toNat < 48
       ·rw [show decide ((c.toNat : Int) < 48) = true from decide_eq_true (by omega)]
        conv => whnf
        exact .mk' [] rfl rfl rfl rfl rfl rfl trivial
       ·rw [show decide ((c.toNat : Int) < 48) = false from decide_eq_false (by omega)]
        have q2 : 57 < c.toNat := by
         rcases Nat.lt_or_ge 57 c.toNat with q2 | q2
         ·exact q2
         ·exact absurd (by unfold isDig; rw [Bool.and_eq_true]; exact ⟨decide_eq_true (by omega), decide_eq_true q2⟩) hd1
        conv => whnf
        rw [show decide ((57 : Int) < (c.toNat : Int)) = true from decide_eq_true (by omega)]
        conv => whnf
        exact .mk' [] rfl rfl rfl rfl rfl rfl trivial
     ·rw [show decide (((i : Nat) : Int) < (((x :: r).length : Nat) : Int)) = false from decide_eq_false (by omega)]
      have h : i = (x :: r).length := by omega
      subst h
      rw [List.take_length] at ha hv
      rw [show ((x :: r).all isDig && decide (decV (x :: r) ≤ 1099511627776)) = true by rw [ha, decide_eq_true hv]; rfl]
      conv => whnf
      rw [List.take_length]
      exact .mk' [] rfl rfl rfl rfl rfl rfl trivial
   ·rw [show decide ((1 : Int) < ((ByteArray.mk ⟨x :: r⟩).size : Int)) = false from decide_eq_false (by rw [hsz]; omega)]
    rw [go (by rw [decide_eq_false (show ¬ 1 < (x :: r).length by simpa using h1), Bool.false_and])]
    conv => whnf
    rw [spine_rec]
    conv => whnf
    have hR2 : (x :: r).length ≤ 65536 := by omega
    refine loopR Tryz.hT Tryz.hM puC_ok (α := {i : Nat // i ≤ (x :: r).length ∧ ((x :: r).take i).all isDig = true ∧ decV ((x :: r).take i) ≤ 1099511627776})
     (fun i => ([(9, .int .i64 (decV ((x :: r).take i.1) : Int)), (39, .sv 0 1 0 (x :: r).length none), (40, .int .i64 ((x :: r).length : Int)), (41, .int .i64 (i.1 : Int))], [(0, rowU (x :: r))])) (fun i => (x :: r).length - i.1) 1 ⟨0, Nat.zero_le _, rfl, Nat.zero_le _⟩ [] ?_ ?_
    ·refine ⟨⟨rfl, rfl, rfl, rfl, trivial⟩, ⟨rowU_at _ rfl, trivial⟩, ?_, rfl⟩
     simp [okFr, okH_all, rowU_ok, okA_sv, okA_int, nodupB]
    rintro ⟨i, hi, ha, hv⟩
    dsimp only at hi ha hv ⊢
    conv => whnf
    by_cases h : i < (x :: r).length
    ·rw [show decide (((i : Nat) : Int) < (((x :: r).length : Nat) : Int)) = true from decide_eq_true (by omega)]
     conv => whnf
     simp only [Int.toNat_natCast]
     refine ⟨by omega, ?_⟩
     conv => whnf
     rw [show readA false 1 (u8A (x :: r)) ((0 + i) * 1 + 0) = some (.int .u8 ((x :: r)[i].toNat : Int)) from rdU h]
     conv => whnf
     have htk : (x :: r).take (i + 1) = (x :: r).take i ++ [(x :: r)[i]] := List.take_succ_eq_append_getElem h
     generalize hc : (x :: r)[i] = c at htk ⊢
     by_cases hd1 : isDig c = true
     ·obtain ⟨q1, q2⟩ := dig_in hd1
      rw [show decide ((c.toNat : Int) < 48) = false from decide_eq_false (by omega)]
      conv => whnf
      rw [show decide ((57 : Int) < (c.toNat : Int)) = false from decide_eq_false (by omega)]
      conv => whnf
      have hw1 : IntKind.i64.wrap (IntKind.i64.wrap ((decV ((x :: r).take i) : Int) * 10) + IntKind.i64.wrap (IntKind.u8.wrap ((c.toNat : Int) - 48))) = ((decV ((x :: r).take (i + 1)) : Nat) : Int) := by
       rw [htk, decV_snoc]
       have e1 : IntKind.u8.wrap ((c.toNat : Int) - 48) = ((c.toNat - 48 : Nat) : Int) := u8_sub q1 q2
       rw [e1, wrap_small (n := ((c.toNat - 48 : Nat) : Int)) (by omega) (by omega), wrap_small (n := (decV ((x :: r).take i) : Int) * 10) (by omega) (by omega), wrap_small (by omega) (by omega)]
       omega
      rw [hw1]
      by_cases hb : 1099511627776 < decV ((x :: r).take (i + 1))
      ·rw [show decide ((1099511627776 : Int) < ((decV ((x :: r).take (i + 1)) : Nat) : Int)) = true from decide_eq_true (by omega)]
       have hf : ((x :: r).all isDig && decide (decV (x :: r) ≤ 1099511627776)) = false := by
        have := decV_mono ((x :: r).take (i + 1)) ((x :: r).drop (i + 1))
        rw [List.take_append_drop] at this
        rw [decide_eq_false (by omega), Bool.and_false]
       rw [hf]
       conv => whnf
       exact .mk' [] rfl rfl rfl rfl rfl rfl trivial
      ·rw [show decide ((1099511627776 : Int) < ((decV ((x :: r).take (i + 1)) : Nat) : Int)) = false from decide_eq_false (by omega)]
       conv => whnf
       have hwi : IntKind.i64.wrap ((i : Int) + 1) = ((i + 1 : Nat) : Int) := by rw [wrap_small] <;> omega
       rw [hwi]
       refine ⟨⟨i + 1, h, by rw [htk, List.all_append, ha]; simp [hd1], by omega⟩, [], by dsimp only; omega, ⟨⟨rfl, rfl, rfl, rfl, trivial⟩, ⟨rowU_at _ rfl, trivial⟩, ?_, rfl⟩⟩
       simp [okFr, okH_all, rowU_ok, okA_sv, okA_int, nodupB]
     ·have hf : ((x :: r).all isDig && decide (decV (x :: r) ≤ 1099511627776)) = false := by
       have : (x :: r).all isDig = false := by
        cases hq : (x :: r).all isDig with
        | false => rfl
        | true => exact absurd (List.all_eq_true.1 hq _ (hc ▸ List.getElem_mem h)) hd1
       rw [this, Bool.false_and]
      rw [hf]
      by_cases q : c.toNat < 48
      ·rw [show decide ((c.toNat : Int) < 48) = true from decide_eq_true (by omega)]
       conv => whnf
       exact .mk' [] rfl rfl rfl rfl rfl rfl trivial
      ·rw [show decide ((c.toNat : Int) < 48) = false from decide_eq_false (by omega)]
       have q2 : 57 < c.toNat := by
        rcases Nat.lt_or_ge 57 c.toNat with q2 | q2
        ·exact q2
        ·exact absurd (by unfold isDig; rw [Bool.and_eq_true]; exact ⟨decide_eq_true (by omega), decide_eq_true q2⟩) hd1
       conv => whnf
       rw [show decide ((57 : Int) < (c.toNat : Int)) = true from decide_eq_true (by omega)]
       conv => whnf
       exact .mk' [] rfl rfl rfl rfl rfl rfl trivial
    ·rw [show decide (((i : Nat) : Int) < (((x :: r).length : Nat) : Int)) = false from decide_eq_false (by omega)]
     have h : i = (x :: r).length := by omega
     subst h
     rw [List.take_length] at ha hv
     rw [show ((x :: r).all isDig && decide (decV (x :: r) ≤ 1099511627776)) = true by rw [ha, decide_eq_true hv]; rfl]
     conv => whnf
     rw [List.take_length]
     exact .mk' [] rfl rfl rfl rfl rfl rfl trivial
def decD (n : Nat) : List UInt8 := if n < 10 then [UInt8.ofNat (48 + n)] else decD (n / 10) ++ [UInt8.ofNat (48 + n % 10)]
termination_by n
decreasing_by omega
theorem decD_lo {n : Nat} (h : n < 10) : decD n = [UInt8.ofNat (48 + n)] := by rw [decD, if_pos h]
theorem decD_hi {n : Nat} (h : 10 ≤ n) : decD n = decD (n / 10) ++ [UInt8.ofNat (48 + n % 10)] := by rw [decD, if_neg (by omega)]
theorem dig_of {c : UInt8} (h : isDig c = true) : UInt8.ofNat (48 + (c.toNat - 48)) = c := by
 obtain ⟨h1, h2⟩ := dig_in h
 rw [show 48 + (c.toNat - 48) = c.toNat by omega]
 exact UInt8.ofNat_toNat
theorem decV_one (c : UInt8) : decV [c] = c.toNat - 48 := by simp [decV]
theorem decV_head {x : UInt8} {r : List UInt8} (h : isDig x = true) (hx : x ≠ 48) : 1 ≤ decV (x :: r) := by
 have h1 := decV_mono [x] r
 rw [decV_one] at h1
 obtain ⟨h2, h3⟩ := dig_in h
 have h4 : x.toNat ≠ 48 := fun e => hx (UInt8.toNat_inj.1 e)
 simp only [List.cons_append, List.nil_append] at h1
 omega
theorem rt : ∀ (n : Nat) (R : List UInt8), R.length = n → R ≠ [] → R.all isDig = true → (R.length = 1 ∨ R.headD 0 ≠ 48) → decD (decV R) = R
 | 0, R, hn, h0, _, _ => absurd (List.eq_nil_of_length_eq_zero hn) h0
 | n + 1, R, hn, h0, ha, hz => by
  obtain ⟨Q, c, rfl⟩ : ∃ Q c, R = Q ++ [c] := ⟨R.dropLast, R.getLast h0, (List.dropLast_concat_getLast h0).symm⟩
  rw [List.all_append, Bool.and_eq_true] at ha
  have hc : isDig c = true := by simpa using ha.2
  obtain ⟨c1, c2⟩ := dig_in hc
  cases Q with
  | nil =>
   simp only [List.nil_append]
   rw [decV_one, decD_lo (by omega), dig_of hc]
  | cons x Q =>
   have hx : x ≠ 48 := by
    rcases hz with h | h
    ·simp at h
    ·simpa using h
   have hd : isDig x = true := by
    have := ha.1
    simp only [List.all_cons, Bool.and_eq_true] at this
    exact this.1
   have h1 := decV_head (r := Q) hd hx
   rw [decV_snoc, decD_hi (by omega), show (decV (x :: Q) * 10 + (c.toNat - 48)) / 10 = decV (x :: Q) by omega, show (decV (x :: Q) * 10 + (c.toNat - 48)) % 10 = c.toNat - 48 by omega, dig_of hc]
   rw [rt n (x :: Q) (by simpa using hn) (by simp) ha.1 (.inr (by simpa using hx))]
theorem lz : ∀ (n : Nat), 10 ≤ n → (decD n).headD 0 ≠ 48 := by
 intro n
 induction n using Nat.strongRecOn with
 | _ n ih =>
  intro h
  rw [decD_hi h]
  by_cases h2 : n / 10 < 10
  ·rw [decD_lo h2]
   have : 1 ≤ n / 10 := by omega
   generalize n / 10 = q at *
   show UInt8.ofNat (48 + q) ≠ 48
   intro e
   have := congrArg UInt8.toNat e
   simp at this
   omega
  ·have := ih (n / 10) (by omega) (by omega)
   cases hq : decD (n / 10) with
   | nil => rw [hq] at this; rw [decD_hi (by omega)] at hq; simp at hq
   | cons y l => rw [hq] at this; exact this
theorem rt_iff {R : List UInt8} (h0 : R ≠ []) (ha : R.all isDig = true) : decD (decV R) = R ↔ ¬ (1 < R.length ∧ R.headD 0 = 48) := by
 constructor
 ·rintro e ⟨h1, h2⟩
  rcases Nat.lt_or_ge (decV R) 10 with h | h
  ·rw [decD_lo h] at e
   rw [← e] at h1
   simp at h1
  ·exact lz _ h (by rw [e]; exact h2)
 ·intro h
  refine rt _ R rfl h0 ha ?_
  have : 0 < R.length := List.length_pos_iff.2 h0
  rcases Nat.lt_or_ge 1 R.length with h1 | h1
  ·exact .inr fun e => h ⟨h1, e⟩
  ·exact .inl (by omega)
theorem decV_lt : ∀ (n : Nat) (R : List UInt8), R.length = n → R.all isDig = true → decV R < 10 ^ n
 | 0, R, hn, _ => by rw [List.eq_nil_of_length_eq_zero hn]; decide
 | n + 1, R, hn, ha => by
  have h0 : R ≠ [] := by intro e; rw [e] at hn; simp at hn
  obtain ⟨Q, c, rfl⟩ : ∃ Q c, R = Q ++ [c] := ⟨R.dropLast, R.getLast h0, (List.dropLast_concat_getLast h0).symm⟩
  rw [List.all_append, Bool.and_eq_true] at ha
  have hc : isDig c = true := by simpa using ha.2
  obtain ⟨c1, c2⟩ := dig_in hc
  have := decV_lt n Q (by simpa using hn) ha.1
  rw [decV_snoc, Nat.pow_succ]
  omega
theorem dgv {m : Nat} (h : m < 10) {v : Int} (hv : v = (m : Int)) : strOfNums [IntKind.u8.wrap (IntKind.i64.wrap (48 + v))] = ⟨⟨[UInt8.ofNat (48 + m)]⟩⟩ := by
 subst hv
 rw [show (48 : Int) + (m : Int) = ((48 + m : Nat) : Int) by omega, wrap_small (n := ((48 + m : Nat) : Int)) (by omega) (by omega), u8_wrap]
 have : (48 + m) % 256 = 48 + m := Nat.mod_eq_of_lt (by omega)
 rw [this]
 unfold strOfNums
 simp only [List.map_cons, List.map_nil, Int.toNat_natCast]
 congr 3
 exact UInt8.ofNat_toNat
theorem dig8 {n : Nat} (hn : n ≤ 1099511627776) : Ctr Tryz.prog 152 [.int .i64 (n : Int)] [] [] 0 0 (.str ⟨⟨decD n⟩⟩) [] := by
 refine Ctr.shut (m := 0) (k := 0) ?_ rfl rfl
 refine Ctr.introR (T := Tryz.T) Tryz.hT Tryz.hM puC_ok Tryz.func152 rfl (by kernel_rfl) rfl rfl rfl rfl ?_
 conv => whnf
 refine loopR Tryz.hT Tryz.hM puC_ok (α := {p : Nat × List UInt8 // p.2.length + p.1 ≤ n ∧ decD n = decD p.1 ++ p.2})
  (fun p => ([(0, .int .i64 (p.1.1 : Int)), (3, .str ⟨⟨p.1.2⟩⟩)], [])) (fun p => p.1.1) 0 ⟨(n, []), by simp, by simp⟩ [] ?_ ?_
 ·exact ⟨⟨rfl, rfl, trivial⟩, trivial, rfl, rfl⟩
 rintro ⟨⟨m, l⟩, hm, hd⟩
 dsimp only at hm hd ⊢
 conv => whnf
 have hsz : (ByteArray.mk ⟨l⟩).size = l.length := rfl
 by_cases h : 10 ≤ m
 ·rw [show decide ((10 : Int) ≤ (m : Int)) = true from decide_eq_true (by omega)]
  conv => whnf
  rw [dgv (m := m % 10) (by omega) (by rw [Int.tmod_eq_emod_of_nonneg (by omega)]; omega)]
  refine ⟨by rw [hsz]; show 1 + l.length ≤ big; unfold big; omega, ?_⟩
  conv => whnf
  have hw : IntKind.i64.wrap ((m : Int).tdiv 10) = ((m / 10 : Nat) : Int) := by
   rw [Int.tdiv_eq_ediv_of_nonneg (by omega), wrap_small] <;> omega
  rw [hw]
  refine ⟨⟨(m / 10, UInt8.ofNat (48 + m % 10) :: l), by simp only [List.length_cons]; omega, by dsimp only; rw [hd, decD_hi h, List.append_assoc]; rfl⟩, [], by dsimp only; omega, ⟨⟨rfl, rfl, trivial⟩, trivial, rfl, rfl⟩⟩
 ·rw [show decide ((10 : Int) ≤ (m : Int)) = false from decide_eq_false (by omega)]
  conv => whnf
  rw [dgv (m := m) (by omega) rfl]
  refine ⟨by rw [hsz]; show 1 + l.length ≤ big; unfold big; omega, ?_⟩
  conv => whnf
  rw [hd, decD_lo (by omega)]
  exact .mk' [] rfl rfl rfl rfl rfl rfl trivial
theorem decD_len : ∀ (k n : Nat), n < 10 ^ (k + 1) → (decD n).length ≤ k + 1
 | 0, n, h => by rw [decD_lo (by omega)]; simp
 | k + 1, n, h => by
  by_cases h1 : n < 10
  ·rw [decD_lo h1]; simp
  ·have := decD_len k (n / 10) (by rw [Nat.pow_succ] at h; omega)
   rw [decD_hi (by omega), List.length_append]
   simp only [List.length_cons, List.length_nil]; omega
theorem make1 {n : Nat} (hn : n < 10000000000000) : Ctr Tryz.prog 133 [.int .i64 1, .int .i64 (n : Int)] [] [] 0 0 (if n ≤ 1099511627776 then .tup [.str (catB chnW ⟨⟨decD n⟩⟩), .int .i64 0] else .tup [.str ⟨#[]⟩, .int .i64 3]) [] := by
 have h8 : chnW.size = 8 := rfl
 refine Ctr.introR (T := Tryz.T) Tryz.hT Tryz.hM puC_ok Tryz.func133 rfl (by kernel_rfl) rfl rfl rfl rfl ?_
 conv => whnf
 refine callR [] word1 rfl rfl rfl rfl trivial trivial ?_
 conv => whnf
 rw [show decide ((n : Int) < 0) = false from decide_eq_false (by omega)]
 conv => whnf
 by_cases h : n ≤ 1099511627776
 ·rw [show decide ((1099511627776 : Int) < (n : Int)) = false from decide_eq_false (by omega), if_pos h]
  conv => whnf
  refine callR [] word1 rfl rfl rfl rfl trivial trivial ?_
  conv => whnf
  refine callR [] (dig8 h) rfl rfl rfl rfl trivial trivial ?_
  conv => whnf
  have := decD_len 12 n hn
  refine ⟨by rw [h8]; show 8 + (decD n).length ≤ big; unfold big; omega, ?_⟩
  conv => whnf
  exact .mk' [] rfl rfl rfl rfl rfl rfl trivial
 ·rw [show decide ((1099511627776 : Int) < (n : Int)) = true from decide_eq_true (by omega), if_neg h]
  conv => whnf
  exact .mk' [] rfl rfl rfl rfl rfl rfl trivial
theorem decV_ge : ∀ (n : Nat) (R : List UInt8), R.length = n + 1 → R.all isDig = true → R.headD 0 ≠ 48 → 10 ^ n ≤ decV R
 | 0, R, hn, ha, hz => by
  match R, hn with
  | [x], _ =>
   have := decV_head (r := []) (by simpa using ha) (by simpa using hz)
   simpa using this
 | n + 1, R, hn, ha, hz => by
  have h0 : R ≠ [] := by intro e; rw [e] at hn; simp at hn
  obtain ⟨Q, c, rfl⟩ : ∃ Q c, R = Q ++ [c] := ⟨R.dropLast, R.getLast h0, (List.dropLast_concat_getLast h0).symm⟩
  rw [List.all_append, Bool.and_eq_true] at ha
  have hQ : Q.length = n + 1 := by simpa using hn
  have hz2 : Q.headD 0 ≠ 48 := by
   cases Q with
   | nil => simp at hQ
   | cons x Q => simpa using hz
  have := decV_ge n Q hQ ha.1 hz2
  rw [decV_snoc, Nat.pow_succ]
  omega
theorem cnt_long {R : List UInt8} (h : 13 < R.length) : cntB R = false := by
 cases hc : cntB R with
 | false => rfl
 | true =>
  unfold cntB at hc
  simp only [Bool.and_eq_true, Bool.not_eq_true', decide_eq_true_eq] at hc
  obtain ⟨_, h1, h2, h3⟩ := hc
  have hz : R.headD 0 ≠ 48 := by
   intro e
   rw [Bool.and_eq_false_iff] at h1
   rcases h1 with h1 | h1
   ·exact absurd (of_decide_eq_false h1) (by omega)
   ·exact of_decide_eq_false h1 e
  have := decV_ge (R.length - 1) R (by omega) h2 hz
  have h4 : 10 ^ 13 ≤ 10 ^ (R.length - 1) := Nat.pow_le_pow_right (by decide) (by omega)
  have h5 : (10 : Nat) ^ 13 = 10000000000000 := by decide
  omega
set_option maxHeartbeats 4000000 in
theorem num2c (s : ByteArray) (hs : s.size ≤ 65536) : Ctr Tryz.prog 106 [.int .i64 1, .str s] [] [] 0 0 (.tup [.int .i64 (if chnB s then decV (s.data.toList.drop 8) else 0), .int .i64 (chnE s)]) [] := by
 have hd : s.data.toList.length = s.size := rfl
 have h8 : chnW.size = 8 := rfl
 refine Ctr.shut (m := 0) (k := 0) ?_ rfl rfl
 refine Ctr.introR (T := Tryz.T) Tryz.hT Tryz.hM puC_ok Tryz.func106 rfl (by kernel_rfl) rfl rfl rfl rfl ?_
 conv => whnf
 refine callR [] word1 rfl rfl rfl rfl trivial trivial ?_
 conv => whnf
 rw [h8]
 by_cases hA : s.size ≤ 8
 ·have hf : chnB s = false := by
   unfold chnB
   rw [show s.data.toList.drop 8 = [] from List.drop_of_length_le (by omega), show cntB [] = false from rfl, Bool.and_false]
  unfold chnE
  rw [hf, show decide ((s.size : Int) ≤ ((8 : Nat) : Int)) = true from decide_eq_true (by omega)]
  conv => whnf
  exact .mk' [] rfl rfl rfl rfl rfl rfl trivial
 rw [show decide ((s.size : Int) ≤ ((8 : Nat) : Int)) = false from decide_eq_false (by omega)]
 conv => whnf
 have hrl : (s.data.toList.drop 8).length = s.size - 8 := by rw [List.length_drop, hd]
 rw [show IntKind.i64.wrap (((chnW.size : Nat) : Int) + 13) = 21 from rfl]
 by_cases hB : 21 < s.size
 ·have hf : chnB s = false := by
   unfold chnB
   rw [cnt_long (by omega), Bool.and_false]
  unfold chnE
  rw [hf, show decide ((21 : Int) < (s.size : Int)) = true from decide_eq_true (by omega)]
  conv => whnf
  exact .mk' [] rfl rfl rfl rfl rfl rfl trivial
 rw [show decide ((21 : Int) < (s.size : Int)) = false from decide_eq_false (by omega)]
 conv => whnf
 refine ⟨⟨by decide, by rw [h8]; omega⟩, ?_⟩
 rw [show (((chnW.size : Nat) : Int)).toNat = 8 from rfl]
 conv => whnf
 cases hh : eqB (subB s 0 8) chnW with
 | false =>
  have hf : chnB s = false := by unfold chnB; rw [hh, Bool.and_false, Bool.false_and]
  unfold chnE
  rw [hf]
  conv => whnf
  exact .mk' [] rfl rfl rfl rfl rfl rfl trivial
 | true =>
  have h1 : chnB s = cntB (s.data.toList.drop 8) := by unfold chnB; rw [hh, decide_eq_true (show 8 ≤ s.size by omega)]; rfl
  have hse : s = catB chnW ⟨⟨s.data.toList.drop 8⟩⟩ := by
   rw [eqB_eq] at hh
   have e := congrArg (fun b : ByteArray => b.data.toList) (of_decide_eq_true hh)
   have e2 : (subB s 0 8).data.toList = s.data.toList.take 8 := by show (s.data.toList.drop 0).take (8 - 0) = _; rw [List.drop_zero]
   rw [e2] at e
   rw [catB_eq]
   apply ByteArray.ext
   rw [ByteArray.data_append]
   apply Array.toList_inj.1
   rw [Array.toList_append, ← e]
   exact (List.take_append_drop 8 _).symm
  have hat : ∀ i (h : i < (s.data.toList.drop 8).length), byteAt s ((8 + i : Nat) : Int) = (((s.data.toList.drop 8)[i]).toNat : Int) := fun i h => by
   rw [byteAt_eq (by omega) hd, List.getElem_drop]
  unfold chnE
  rw [h1]
  generalize hr : s.data.toList.drop 8 = R at *
  conv => whnf
  have hRb : R.length ≤ 13 := by omega
  have hlt : ∀ j, j ≤ R.length → (R.take j).all isDig = true → decV (R.take j) < 10000000000000 := fun j hj ha => by
   have h2 := decV_lt (R.take j).length (R.take j) rfl ha
   have h3 : (R.take j).length ≤ 13 := by rw [List.length_take]; omega
   have h4 : 10 ^ (R.take j).length ≤ 10 ^ 13 := Nat.pow_le_pow_right (by decide) h3
   have h5 : (10 : Nat) ^ 13 = 10000000000000 := by decide
   omega
  refine loopR Tryz.hT Tryz.hM puC_ok (α := {j : Nat // j ≤ R.length ∧ (R.take j).all isDig = true})
   (fun j => ([(0, .int .i64 1), (1, .str s), (6, .str chnW), (7, .int .i64 (decV (R.take j.1) : Int)), (8, .int .i64 ((8 + j.1 : Nat) : Int))], [])) (fun j => R.length - j.1) 0 ⟨0, Nat.zero_le _, rfl⟩ [] ?_ ?_
  ·exact ⟨⟨rfl, rfl, rfl, rfl, rfl, trivial⟩, trivial, rfl, rfl⟩
  rintro ⟨j, hj, ha⟩
  dsimp only at hj ha ⊢
  have hvl := hlt j hj ha
  conv => whnf
  by_cases h : j < R.length
  ·rw [show decide (((8 + j : Nat) : Int) < ((s.size : Nat) : Int)) = true from decide_eq_true (by omega)]
   conv => whnf
   simp only
   refine ⟨by omega, ?_⟩
   conv => whnf
   rw [hat j h]
   have htk : R.take (j + 1) = R.take j ++ [R[j]] := List.take_succ_eq_append_getElem h
   generalize hc : R[j] = c at htk ⊢
   by_cases hd1 : isDig c = true
   ·obtain ⟨q1, q2⟩ := dig_in hd1
    rw [show decide ((c.toNat : Int) < 48) = false from decide_eq_false (by omega)]
    conv => whnf
    simp only
    refine ⟨by omega, ?_⟩
    conv => whnf
    rw [hat j h, hc]
    rw [show decide ((57 : Int) < (c.toNat : Int)) = false from decide_eq_false (by omega)]
    conv => whnf
    simp only
    refine ⟨by omega, ?_⟩
    conv => whnf
    rw [hat j h, hc]
    have hw1 : IntKind.i64.wrap (IntKind.i64.wrap ((decV (R.take j) : Int) * 10) + IntKind.i64.wrap (IntKind.u8.wrap ((c.toNat : Int) - 48))) = ((decV (R.take (j + 1)) : Nat) : Int) := by
     rw [htk, decV_snoc]
     have e1 : IntKind.u8.wrap ((c.toNat : Int) - 48) = ((c.toNat - 48 : Nat) : Int) := u8_sub q1 q2
     rw [e1, wrap_small (n := ((c.toNat - 48 : Nat) : Int)) (by omega) (by omega), wrap_small (n := (decV (R.take j) : Int) * 10) (by omega) (by omega), wrap_small (by omega) (by omega)]
     omega
    have hwi : IntKind.i64.wrap (((8 + j : Nat) : Int) + 1) = ((8 + (j + 1) : Nat) : Int) := by rw [wrap_small] <;> omega
    conv => whnf
    rw [hw1, hwi]
    exact ⟨⟨j + 1, h, by rw [htk, List.all_append, ha]; simp [hd1]⟩, [], by dsimp only; omega, ⟨⟨rfl, rfl, rfl, rfl, rfl, trivial⟩, trivial, rfl, rfl⟩⟩
   ·have hf : cntB R = false := by
     have : R.all isDig = false := by
      cases hq : R.all isDig with
      | false => rfl
      | true => exact absurd (List.all_eq_true.1 hq _ (hc ▸ List.getElem_mem h)) hd1
     unfold cntB
     rw [this]
     simp
    rw [hf]
    by_cases q : c.toNat < 48
    ·rw [show decide ((c.toNat : Int) < 48) = true from decide_eq_true (by omega)]
     conv => whnf
     exact .mk' [] rfl rfl rfl rfl rfl rfl trivial
    ·rw [show decide ((c.toNat : Int) < 48) = false from decide_eq_false (by omega)]
     have q2 : 57 < c.toNat := by
      rcases Nat.lt_or_ge 57 c.toNat with q2 | q2
      ·exact q2
      ·exact absurd (by unfold isDig; rw [Bool.and_eq_true]; exact ⟨decide_eq_true (by omega), decide_eq_true q2⟩) hd1
     conv => whnf
     simp only
     refine ⟨by omega, ?_⟩
     conv => whnf
     rw [hat j h, hc]
     rw [show decide ((57 : Int) < (c.toNat : Int)) = true from decide_eq_true (by omega)]
     conv => whnf
     exact .mk' [] rfl rfl rfl rfl rfl rfl trivial
  ·rw [show decide (((8 + j : Nat) : Int) < ((s.size : Nat) : Int)) = false from decide_eq_false (by omega)]
   have hjl : j = R.length := by omega
   subst hjl
   rw [List.take_length] at ha hvl
   have hR0 : R ≠ [] := by intro e; rw [e] at hrl; simp at hrl; omega
   have hri := rt_iff hR0 ha
   conv => whnf
   rw [List.take_length]
   refine callR [] (make1 (n := decV R) hvl) rfl rfl rfl rfl trivial trivial ?_
   by_cases hm : decV R ≤ 1099511627776
   ·rw [if_pos hm]
    conv => whnf
    have he : eqB (catB chnW ⟨⟨decD (decV R)⟩⟩) s = cntB R := by
     have e1 : eqB (catB chnW ⟨⟨decD (decV R)⟩⟩) s = decide (decD (decV R) = R) := by
      rw [eqB_eq]
      apply decide_eq_decide.2
      constructor
      ·intro e
       have e2 := congrArg (fun b : ByteArray => b.data.toList) (e.trans hse)
       rw [catB_eq, catB_eq] at e2
       simp only [ByteArray.data_append, Array.toList_append] at e2
       exact List.append_cancel_left e2
      ·intro e
       rw [e]; exact hse.symm
     rw [e1]
     unfold cntB
     rw [ha, decide_eq_true hm, show R.isEmpty = false by cases R with
      | nil => exact absurd rfl hR0
      | cons x l => rfl]
     simp only [Bool.not_false, Bool.true_and, Bool.and_true]
     cases hq : (decide (1 < R.length) && decide (R.headD 0 = 48)) with
     | false =>
      refine decide_eq_true (hri.2 fun ⟨a, b⟩ => ?_)
      rw [decide_eq_true a, decide_eq_true b] at hq
      cases hq
     | true =>
      rw [Bool.and_eq_true] at hq
      exact decide_eq_false fun e => hri.1 e ⟨of_decide_eq_true hq.1, of_decide_eq_true hq.2⟩
    rw [he]
    cases cntB R with
    | true =>
     conv => whnf
     exact .mk' [] rfl rfl rfl rfl rfl rfl trivial
    | false =>
     conv => whnf
     exact .mk' [] rfl rfl rfl rfl rfl rfl trivial
   ·rw [if_neg hm]
    have hf : cntB R = false := by
     unfold cntB
     rw [decide_eq_false hm]
     simp
    rw [hf]
    conv => whnf
    exact .mk' [] rfl rfl rfl rfl rfl rfl trivial
theorem checkC1 (s : ByteArray) (hs : s.size ≤ 65536) : Ctr Tryz.prog 45 [.int .i64 1, .str s] [] [] 0 0 (.int .i64 (chnE s)) [] := by
 refine Ctr.introR (T := Tryz.T) Tryz.hT Tryz.hM puC_ok Tryz.func45 rfl (by kernel_rfl) rfl rfl rfl rfl ?_
 conv => whnf
 refine callR [] head1 rfl rfl rfl rfl trivial trivial ?_
 conv => whnf
 refine callR [] (num1c s hs) rfl rfl rfl rfl trivial trivial ?_
 conv => whnf
 exact Fin.same rfl rfl (by simp)
theorem checkC2 (s : ByteArray) (hs : s.size ≤ 65536) : Ctr Tryz.prog 63 [.int .i64 1, .str s] [] [] 0 0 (.int .i64 (chnE s)) [] := by
 refine Ctr.introR (T := Tryz.T) Tryz.hT Tryz.hM puC_ok Tryz.func63 rfl (by kernel_rfl) rfl rfl rfl rfl ?_
 conv => whnf
 refine callR [] word1 rfl rfl rfl rfl trivial trivial ?_
 conv => whnf
 refine callR [] (num2c s hs) rfl rfl rfl rfl trivial trivial ?_
 conv => whnf
 exact Fin.same rfl rfl (by simp)
theorem head0 : Ctr Tryz.prog 69 [.int .i64 0] [] [] 0 0 (.str ⟨#[]⟩) [] := closed1 (by kernel_rfl)
theorem word0 : Ctr Tryz.prog 105 [.int .i64 0] [] [] 0 0 (.str ⟨#[]⟩) [] := closed1 (by kernel_rfl)
theorem checkP1' (s : ByteArray) (hs : s.size ≤ 65536) : Ctr Tryz.prog 45 [.int .i64 0, .str s] [] [] 0 0 (.int .i64 (nameE s)) [] := by
 refine Ctr.introR (T := Tryz.T) Tryz.hT Tryz.hM puC_ok Tryz.func45 rfl (by kernel_rfl) rfl rfl rfl rfl ?_
 conv => whnf
 refine callR [] head0 rfl rfl rfl rfl trivial trivial ?_
 conv => whnf
 refine callR [] (plain1 s (by omega)) rfl rfl rfl rfl trivial trivial ?_
 unfold nameE
 cases plainB s <;>
 ·conv => whnf
  exact Fin.same rfl rfl (by simp)
theorem checkP2' (s : ByteArray) (hs : s.size ≤ 65536) : Ctr Tryz.prog 63 [.int .i64 0, .str s] [] [] 0 0 (.int .i64 (nameE s)) [] := by
 refine Ctr.introR (T := Tryz.T) Tryz.hT Tryz.hM puC_ok Tryz.func63 rfl (by kernel_rfl) rfl rfl rfl rfl ?_
 conv => whnf
 refine callR [] word0 rfl rfl rfl rfl trivial trivial ?_
 conv => whnf
 refine callR [] (plain2 s (by omega)) rfl rfl rfl rfl trivial trivial ?_
 unfold nameE
 cases plainB s <;>
 ·conv => whnf
  exact Fin.same rfl rfl (by simp)
theorem namedP (x y : ByteArray) (hx : x.size ≤ 65536) (hy : y.size ≤ 65536) : Ctr Tryz.prog 135 [.int .i64 0, .sv 0 1 0 2 (some 2)] [] [(0, rowS [x, y] (some 2))] 1 1 (.bool (plainB x && plainB y)) [(0, rowS [x, y] (some 2))] := by
 refine Ctr.introR (T := Tryz.T) Tryz.hT Tryz.hM Tryz.hE Tryz.func135 rfl (by kernel_rfl) rfl rfl ?_ rfl ?_
 ·simp [okH_all, rowS_ok]
 conv => whnf
 refine unrollR Tryz.hT Tryz.hM Tryz.hE 3 ?_
 conv => whnf
 refine ⟨by decide, ?_⟩
 conv => whnf
 refine callR [] (checkP1' x hx) rfl rfl rfl rfl trivial trivial ?_
 unfold nameE
 cases plainB x with
 | false =>
  conv => whnf
  refine Fin.same ?_ rfl ?_
  ·simp [okH_all, rowS_ok]
  ·intro p hp
   simp only [List.mem_cons, List.not_mem_nil, or_false] at hp
   rcases hp with rfl <;> rfl
 | true =>
  conv => whnf
  refine ⟨by decide, ?_⟩
  conv => whnf
  refine callR [] (checkP1' y hy) rfl rfl rfl rfl trivial trivial ?_
  unfold nameE
  cases plainB y <;>
  ·conv => whnf
   refine Fin.same ?_ rfl ?_
   ·simp [okH_all, rowS_ok]
   ·intro p hp
    simp only [List.mem_cons, List.not_mem_nil, or_false] at hp
    rcases hp with rfl <;> rfl
theorem namedC (x y : ByteArray) (hx : x.size ≤ 65536) (hy : y.size ≤ 65536) : Ctr Tryz.prog 135 [.int .i64 1, .sv 0 1 0 2 (some 2)] [] [(0, rowS [x, y] (some 2))] 1 1 (.bool (chnB x && chnB y)) [(0, rowS [x, y] (some 2))] := by
 refine Ctr.introR (T := Tryz.T) Tryz.hT Tryz.hM Tryz.hE Tryz.func135 rfl (by kernel_rfl) rfl rfl ?_ rfl ?_
 ·simp [okH_all, rowS_ok]
 conv => whnf
 refine unrollR Tryz.hT Tryz.hM Tryz.hE 3 ?_
 conv => whnf
 refine ⟨by decide, ?_⟩
 conv => whnf
 refine callR [] (checkC1 x hx) rfl rfl rfl rfl trivial trivial ?_
 unfold chnE
 cases chnB x with
 | false =>
  conv => whnf
  refine Fin.same ?_ rfl ?_
  ·simp [okH_all, rowS_ok]
  ·intro p hp
   simp only [List.mem_cons, List.not_mem_nil, or_false] at hp
   rcases hp with rfl <;> rfl
 | true =>
  conv => whnf
  refine ⟨by decide, ?_⟩
  conv => whnf
  refine callR [] (checkC1 y hy) rfl rfl rfl rfl trivial trivial ?_
  unfold chnE
  cases chnB y <;>
  ·conv => whnf
   refine Fin.same ?_ rfl ?_
   ·simp [okH_all, rowS_ok]
   ·intro p hp
    simp only [List.mem_cons, List.not_mem_nil, or_false] at hp
    rcases hp with rfl <;> rfl
noncomputable def pkV (a : Int) (b c d e f : ByteArray) (g h : Int) : AV := .agg [.int .i64 a, .str b, .str c, .str d, .str e, .str f, .int .i64 g, .int .i64 h]
def pktE (a : Int) (b c d e f : ByteArray) (g h : Int) : Int :=
 if a < 1 ∨ 1099511627776 < a then 15 else if plainB b = false ∨ plainB d = false ∨ chnB c = false ∨ chnB e = false then 7 else
 if f.size = 0 then 1 else if g < 0 ∨ 1099511627776 < g ∨ h < 0 ∨ 1099511627776 < h then 3 else if g = 0 ∧ h = 0 then 14 else 0
theorem badP (n : Int) : Ctr Tryz.prog 136 [.int .i64 n] [] [] 0 0 (.bool (decide (n < 0) || decide (1099511627776 < n))) [] := by
 refine Ctr.introR (T := Tryz.T) Tryz.hT Tryz.hM Tryz.hE Tryz.func136 rfl (by kernel_rfl) rfl rfl rfl rfl ?_
 conv => whnf
 cases decide (n < 0) with
 | true =>
  conv => whnf
  exact Fin.same rfl rfl (by simp)
 | false =>
  conv => whnf
  exact Fin.same rfl rfl (by simp)
theorem pchk1 (a : Int) {b c d e f : ByteArray} (g h : Int) (hb : b.size ≤ 65536) (hc : c.size ≤ 65536) (hd : d.size ≤ 65536) (he : e.size ≤ 65536) (hf : f.size ≤ 65536) :
  Ctr Tryz.prog 108 [pkV a b c d e f g h] [] [] 0 0 (.int .i64 (pktE a b c d e f g h)) [] := by
 refine Ctr.shut (m := 0) (k := 0) ?_ rfl rfl
 refine Ctr.introR (T := Tryz.T) Tryz.hT Tryz.hM Tryz.hE Tryz.func108 rfl (by kernel_rfl) rfl rfl rfl rfl ?_
 conv => whnf
 by_cases hA : a < 1 ∨ 1099511627776 < a
 ·rw [show pktE a b c d e f g h = 15 from if_pos hA]
  by_cases h1 : a < 1
  ·rw [show decide (a < 1) = true from decide_eq_true h1]
   conv => whnf
   exact .mk' [] rfl rfl rfl rfl rfl rfl trivial
  ·rw [show decide (a < 1) = false from decide_eq_false h1]
   conv => whnf
   rw [show decide ((1099511627776 : Int) < a) = true from decide_eq_true (by omega)]
   conv => whnf
   exact .mk' [] rfl rfl rfl rfl rfl rfl trivial
 rw [show decide (a < 1) = false from decide_eq_false (by omega)]
 conv => whnf
 rw [show decide ((1099511627776 : Int) < a) = false from decide_eq_false (by omega)]
 conv => whnf
 have hN : pktE a b c d e f g h = if plainB b = false ∨ plainB d = false ∨ chnB c = false ∨ chnB e = false then 7 else if f.size = 0 then 1 else if g < 0 ∨ 1099511627776 < g ∨ h < 0 ∨ 1099511627776 < h then 3 else if g = 0 ∧ h = 0 then 14 else 0 := if_neg hA
 rw [hN]
 clear hN
 refine callR [1] (namedP b d hb hd) (post' := [(1, rowS [b, d] (some 2))]) (by simp only [renH, rowS_ren]; rfl) rfl rfl rfl trivial ⟨rowS_at _ rfl, trivial⟩ ?_
 cases hP : (plainB b && plainB d) with
 | false =>
  rw [if_pos (by rw [Bool.and_eq_false_iff] at hP; rcases hP with q | q; exact .inl q; exact .inr (.inl q))]
  conv => whnf
  exact .mk' [] rfl rfl rfl rfl rfl rfl trivial
 | true =>
  rw [Bool.and_eq_true] at hP
  conv => whnf
  refine callR [2] (namedC c e hc he) (post' := [(2, rowS [c, e] (some 2))]) (by simp only [renH, rowS_ren]; rfl) rfl rfl rfl trivial ⟨rowS_at _ rfl, trivial⟩ ?_
  cases hC : (chnB c && chnB e) with
  | false =>
   rw [if_pos (by rw [Bool.and_eq_false_iff] at hC; rcases hC with q | q; exact .inr (.inr (.inl q)); exact .inr (.inr (.inr q)))]
   conv => whnf
   exact .mk' [] rfl rfl rfl rfl rfl rfl trivial
  | true =>
   rw [Bool.and_eq_true] at hC
   rw [if_neg (by rintro (q | q | q | q); rw [hP.1] at q; cases q; rw [hP.2] at q; cases q; rw [hC.1] at q; cases q; rw [hC.2] at q; cases q)]
   conv => whnf
   rw [empty_eq]
   by_cases hz : f.size = 0
   ·rw [if_pos hz]
    rw [show decide (f.size = 0) = true from decide_eq_true hz]
    conv => whnf
    exact .mk' [] rfl rfl rfl rfl rfl rfl trivial
   rw [if_neg hz]
   rw [show decide (f.size = 0) = false from decide_eq_false hz]
   conv => whnf
   rw [show decide ((65536 : Int) < (f.size : Int)) = false from decide_eq_false (by omega)]
   conv => whnf
   by_cases hr : g < 0 ∨ 1099511627776 < g ∨ h < 0 ∨ 1099511627776 < h
   ·rw [if_pos hr]
    refine callR [] (badP g) rfl rfl rfl rfl trivial trivial ?_
    by_cases hg : g < 0 ∨ 1099511627776 < g
    ·rw [show (decide (g < 0) || decide (1099511627776 < g)) = true by simpa using hg]
     conv => whnf
     exact .mk' [] rfl rfl rfl rfl rfl rfl trivial
    ·rw [show (decide (g < 0) || decide (1099511627776 < g)) = false by simp; omega]
     conv => whnf
     refine callR [] (badP h) rfl rfl rfl rfl trivial trivial ?_
     rw [show (decide (h < 0) || decide (1099511627776 < h)) = true by simp; omega]
     conv => whnf
     exact .mk' [] rfl rfl rfl rfl rfl rfl trivial
   rw [if_neg hr]
   refine callR [] (badP g) rfl rfl rfl rfl trivial trivial ?_
   rw [show (decide (g < 0) || decide (1099511627776 < g)) = false by simp; omega]
   conv => whnf
   refine callR [] (badP h) rfl rfl rfl rfl trivial trivial ?_
   rw [show (decide (h < 0) || decide (1099511627776 < h)) = false by simp; omega]
   conv => whnf
   by_cases h0 : g = 0
   ·rw [show decide (g = 0) = true from decide_eq_true h0]
    conv => whnf
    by_cases h00 : h = 0
    ·rw [if_pos ⟨h0, h00⟩]
     rw [show decide (h = 0) = true from decide_eq_true h00]
     conv => whnf
     exact .mk' [] rfl rfl rfl rfl rfl rfl trivial
    ·rw [if_neg (fun q => h00 q.2)]
     rw [show decide (h = 0) = false from decide_eq_false h00]
     conv => whnf
     exact .mk' [] rfl rfl rfl rfl rfl rfl trivial
   ·rw [if_neg (fun q => h0 q.1)]
    rw [show decide (g = 0) = false from decide_eq_false h0]
    conv => whnf
    exact .mk' [] rfl rfl rfl rfl rfl rfl trivial
theorem pchk2 (a : Int) {b c d e f : ByteArray} (g h : Int) (hb : b.size ≤ 65536) (hc : c.size ≤ 65536) (hd : d.size ≤ 65536) (he : e.size ≤ 65536) (hf : f.size ≤ 65536) :
  Ctr Tryz.prog 39 [pkV a b c d e f g h] [] [] 0 0 (.int .i64 (pktE a b c d e f g h)) [] := by
 refine Ctr.shut (m := 0) (k := 0) ?_ rfl rfl
 refine Ctr.introR (T := Tryz.T) Tryz.hT Tryz.hM Tryz.hE Tryz.func39 rfl (by kernel_rfl) rfl rfl rfl rfl ?_
 conv => whnf
 by_cases hA : a < 1 ∨ 1099511627776 < a
 ·rw [show pktE a b c d e f g h = 15 from if_pos hA]
  by_cases h1 : a < 1
  ·rw [show decide (a < 1) = true from decide_eq_true h1]
   conv => whnf
   exact .mk' [] rfl rfl rfl rfl rfl rfl trivial
  ·rw [show decide (a < 1) = false from decide_eq_false h1]
   conv => whnf
   rw [show decide ((1099511627776 : Int) < a) = true from decide_eq_true (by omega)]
   conv => whnf
   exact .mk' [] rfl rfl rfl rfl rfl rfl trivial
 rw [show decide (a < 1) = false from decide_eq_false (by omega)]
 conv => whnf
 rw [show decide ((1099511627776 : Int) < a) = false from decide_eq_false (by omega)]
 conv => whnf
 have hN : pktE a b c d e f g h = if plainB b = false ∨ plainB d = false ∨ chnB c = false ∨ chnB e = false then 7 else if f.size = 0 then 1 else if g < 0 ∨ 1099511627776 < g ∨ h < 0 ∨ 1099511627776 < h then 3 else if g = 0 ∧ h = 0 then 14 else 0 := if_neg hA
 rw [hN]
 clear hN
 refine callR [] (checkP2' b hb) rfl rfl rfl rfl trivial trivial ?_
 by_cases qb : plainB b = true
 case' neg =>
  rw [show nameE b = 7 by unfold nameE; rw [if_neg qb]]
  have hq : plainB b = false ∨ plainB d = false ∨ chnB c = false ∨ chnB e = false := Or.inl (by simpa using qb)
  rw [if_pos hq]
  conv => whnf
  exact .mk' [] rfl rfl rfl rfl rfl rfl trivial
 rw [show nameE b = 0 by unfold nameE; rw [if_pos qb]]
 conv => whnf
 refine callR [] (checkP2' d hd) rfl rfl rfl rfl trivial trivial ?_
 by_cases qd : plainB d = true
 case' neg =>
  rw [show nameE d = 7 by unfold nameE; rw [if_neg qd]]
  have hq : plainB b = false ∨ plainB d = false ∨ chnB c = false ∨ chnB e = false := Or.inr (Or.inl (by simpa using qd))
  rw [if_pos hq]
  conv => whnf
  exact .mk' [] rfl rfl rfl rfl rfl rfl trivial
 rw [show nameE d = 0 by unfold nameE; rw [if_pos qd]]
 conv => whnf
 refine callR [] (checkC2 c hc) rfl rfl rfl rfl trivial trivial ?_
 by_cases qc : chnB c = true
 case' neg =>
  rw [show chnE c = 7 by unfold chnE; rw [if_neg qc]]
  have hq : plainB b = false ∨ plainB d = false ∨ chnB c = false ∨ chnB e = false := Or.inr (Or.inr (Or.inl (by simpa using qc)))
  rw [if_pos hq]
  conv => whnf
  exact .mk' [] rfl rfl rfl rfl rfl rfl trivial
 rw [show chnE c = 0 by unfold chnE; rw [if_pos qc]]
 conv => whnf
 refine callR [] (checkC2 e he) rfl rfl rfl rfl trivial trivial ?_
 by_cases qe : chnB e = true
 case' neg =>
  rw [show chnE e = 7 by unfold chnE; rw [if_neg qe]]
  have hq : plainB b = false ∨ plainB d = false ∨ chnB c = false ∨ chnB e = false := Or.inr (Or.inr (Or.inr (by simpa using qe)))
  rw [if_pos hq]
  conv => whnf
  exact .mk' [] rfl rfl rfl rfl rfl rfl trivial
 rw [show chnE e = 0 by unfold chnE; rw [if_pos qe]]
 conv => whnf
 rw [if_neg (by rintro (q | q | q | q); rw [qb] at q; cases q; rw [qd] at q; cases q; rw [qc] at q; cases q; rw [qe] at q; cases q)]
 rw [empty_eq]
 by_cases hz : f.size = 0
 ·rw [if_pos hz]
  rw [show decide (f.size = 0) = true from decide_eq_true hz]
  conv => whnf
  exact .mk' [] rfl rfl rfl rfl rfl rfl trivial
 rw [if_neg hz]
 rw [show decide (f.size = 0) = false from decide_eq_false hz]
 conv => whnf
 rw [show decide ((65536 : Int) < (f.size : Int)) = false from decide_eq_false (by omega)]
 conv => whnf
 by_cases hr : g < 0 ∨ 1099511627776 < g ∨ h < 0 ∨ 1099511627776 < h
 ·rw [if_pos hr]
  by_cases hx0 : g < 0
  ·rw [show decide (g < 0) = true from decide_eq_true hx0]
   conv => whnf
   exact .mk' [] rfl rfl rfl rfl rfl rfl trivial
  rw [show decide (g < 0) = false from decide_eq_false hx0]
  conv => whnf
  by_cases hx1 : (1099511627776 : Int) < g
  ·rw [show decide ((1099511627776 : Int) < g) = true from decide_eq_true hx1]
   conv => whnf
   exact .mk' [] rfl rfl rfl rfl rfl rfl trivial
  rw [show decide ((1099511627776 : Int) < g) = false from decide_eq_false hx1]
  conv => whnf
  by_cases hx2 : h < 0
  ·rw [show decide (h < 0) = true from decide_eq_true hx2]
   conv => whnf
   exact .mk' [] rfl rfl rfl rfl rfl rfl trivial
  rw [show decide (h < 0) = false from decide_eq_false hx2]
  conv => whnf
  rw [show decide ((1099511627776 : Int) < h) = true from decide_eq_true (by omega)]
  conv => whnf
  exact .mk' [] rfl rfl rfl rfl rfl rfl trivial
 rw [if_neg hr]
 rw [show decide (g < 0) = false from decide_eq_false (by omega)]
 conv => whnf
 rw [show decide ((1099511627776 : Int) < g) = false from decide_eq_false (by omega)]
 conv => whnf
 rw [show decide (h < 0) = false from decide_eq_false (by omega)]
 conv => whnf
 rw [show decide ((1099511627776 : Int) < h) = false from decide_eq_false (by omega)]
 conv => whnf
 by_cases h0 : g = 0
 ·rw [show decide (g = 0) = true from decide_eq_true h0]
  conv => whnf
  by_cases h00 : h = 0
  ·rw [if_pos ⟨h0, h00⟩]
   rw [show decide (h = 0) = true from decide_eq_true h00]
   conv => whnf
   exact .mk' [] rfl rfl rfl rfl rfl rfl trivial
  ·rw [if_neg (fun q => h00 q.2)]
   rw [show decide (h = 0) = false from decide_eq_false h00]
   conv => whnf
   exact .mk' [] rfl rfl rfl rfl rfl rfl trivial
 ·rw [if_neg (fun q => h0 q.1)]
  rw [show decide (g = 0) = false from decide_eq_false h0]
  conv => whnf
  exact .mk' [] rfl rfl rfl rfl rfl rfl trivial
def pktB (a : Int) (b c d e f : ByteArray) (g h : Int) : ByteArray := catB (catB (catB (catB (catB (catB (catB (catB ⟨#[]⟩ (numS a)) (textS b)) (textS c)) (textS d)) (textS e)) (textS f)) (numS g)) (numS h)
theorem play1 {o s : ByteArray} (h : o.size + s.size ≤ big) (e : Int) : Ctr Tryz.prog 109 [.str s, .int .i64 e, .ptr 0 0] [] [(0, .box 9 [.str o])] 1 1 (.tup []) [(0, .box 9 [.str (catB o s)])] := by
 refine Ctr.introR (T := Tryz.T) Tryz.hT Tryz.hM puZ_ok Tryz.func109 rfl (by kernel_rfl) rfl rfl rfl rfl ?_
 conv => whnf
 refine ⟨h, ?_⟩
 conv => whnf
 exact .mk' [] rfl rfl rfl rfl rfl rfl ⟨rfl, trivial⟩
theorem pput1N (a : Int) {b c d e f : ByteArray} (g h : Int) (hb : b.size ≤ 65536) (hc : c.size ≤ 65536) (hd : d.size ≤ 65536) (he : e.size ≤ 65536) (hf : f.size ≤ 65536) (hE : pktE a b c d e f g h ≠ 0) : Ctr Tryz.prog 66 [pkV a b c d e f g h] [] [] 0 0 (.tup [.str ⟨#[]⟩, .int .i64 (pktE a b c d e f g h)]) [] := by
 refine Ctr.shut (m := 0) (k := 0) ?_ rfl rfl
 refine Ctr.introR (T := Tryz.T) Tryz.hT Tryz.hM puZ_ok Tryz.func66 rfl (by kernel_rfl) rfl rfl rfl rfl ?_
 conv => whnf
 refine callR [] (pchk1 a g h hb hc hd he hf) rfl rfl rfl rfl trivial trivial ?_
 generalize pktE a b c d e f g h = E at hE ⊢
 conv => whnf
 rw [show decide (E = 0) = false from decide_eq_false hE]
 conv => whnf
 exact .mk' [] rfl rfl rfl rfl rfl rfl trivial
theorem pput1 (a : Int) {b c d e f : ByteArray} (g h : Int) (hb : b.size ≤ 65536) (hc : c.size ≤ 65536) (hd : d.size ≤ 65536) (he : e.size ≤ 65536) (hf : f.size ≤ 65536) (hE : pktE a b c d e f g h = 0) : Ctr Tryz.prog 66 [pkV a b c d e f g h] [] [] 0 0 (.tup [.str (pktB a b c d e f g h), .int .i64 0]) [] := by
 have tb := textS_size b
 have tc := textS_size c
 have td := textS_size d
 have te := textS_size e
 have tf := textS_size f
 have na := numS_size a
 have ng := numS_size g
 have nh := numS_size h
 refine Ctr.shut (m := 0) (k := 0) ?_ rfl rfl
 refine Ctr.introR (T := Tryz.T) Tryz.hT Tryz.hM puZ_ok Tryz.func66 rfl (by kernel_rfl) rfl rfl rfl rfl ?_
 conv => whnf
 refine callR [] (pchk1 a g h hb hc hd he hf) rfl rfl rfl rfl trivial trivial ?_
 rw [hE]
 conv => whnf
 refine callR [1] (play1 (by (try simp only [nil_size]); unfold big; omega) _) rfl rfl rfl rfl trivial ⟨rfl, trivial⟩ ?_
 conv => whnf
 refine unrollR Tryz.hT Tryz.hM puZ_ok 6 ?_
 conv => whnf
 refine ⟨by decide, ?_⟩
 conv => whnf
 refine callR [1] (play1 (by (try simp only [cat_size, nil_size]); unfold big; omega) _) rfl rfl rfl rfl trivial ⟨rfl, trivial⟩ ?_
 conv => whnf
 refine ⟨by decide, ?_⟩
 conv => whnf
 refine callR [1] (play1 (by (try simp only [cat_size, nil_size]); unfold big; omega) _) rfl rfl rfl rfl trivial ⟨rfl, trivial⟩ ?_
 conv => whnf
 refine ⟨by decide, ?_⟩
 conv => whnf
 refine callR [1] (play1 (by (try simp only [cat_size, nil_size]); unfold big; omega) _) rfl rfl rfl rfl trivial ⟨rfl, trivial⟩ ?_
 conv => whnf
 refine ⟨by decide, ?_⟩
 conv => whnf
 refine callR [1] (play1 (by (try simp only [cat_size, nil_size]); unfold big; omega) _) rfl rfl rfl rfl trivial ⟨rfl, trivial⟩ ?_
 conv => whnf
 refine ⟨by decide, ?_⟩
 conv => whnf
 refine callR [1] (play1 (by (try simp only [cat_size, nil_size]); unfold big; omega) _) rfl rfl rfl rfl trivial ⟨rfl, trivial⟩ ?_
 conv => whnf
 refine callR [1] (play1 (by (try simp only [cat_size, nil_size]); unfold big; omega) _) rfl rfl rfl rfl trivial ⟨rfl, trivial⟩ ?_
 conv => whnf
 refine callR [1] (play1 (by (try simp only [cat_size, nil_size]); unfold big; omega) _) rfl rfl rfl rfl trivial ⟨rfl, trivial⟩ ?_
 conv => whnf
 exact .mk' [] rfl rfl rfl rfl rfl rfl trivial
theorem pput2N (a : Int) {b c d e f : ByteArray} (g h : Int) (hb : b.size ≤ 65536) (hc : c.size ≤ 65536) (hd : d.size ≤ 65536) (he : e.size ≤ 65536) (hf : f.size ≤ 65536) (hE : pktE a b c d e f g h ≠ 0) : Ctr Tryz.prog 17 [pkV a b c d e f g h] [] [] 0 0 (.tup [.str ⟨#[]⟩, .int .i64 (pktE a b c d e f g h)]) [] := by
 refine Ctr.shut (m := 0) (k := 0) ?_ rfl rfl
 refine Ctr.introR (T := Tryz.T) Tryz.hT Tryz.hM puZ_ok Tryz.func17 rfl (by kernel_rfl) rfl rfl rfl rfl ?_
 conv => whnf
 refine callR [] (pchk2 a g h hb hc hd he hf) rfl rfl rfl rfl trivial trivial ?_
 generalize pktE a b c d e f g h = E at hE ⊢
 conv => whnf
 rw [show decide (E = 0) = false from decide_eq_false hE]
 conv => whnf
 exact .mk' [] rfl rfl rfl rfl rfl rfl trivial
theorem pput2 (a : Int) {b c d e f : ByteArray} (g h : Int) (hb : b.size ≤ 65536) (hc : c.size ≤ 65536) (hd : d.size ≤ 65536) (he : e.size ≤ 65536) (hf : f.size ≤ 65536) (hE : pktE a b c d e f g h = 0) : Ctr Tryz.prog 17 [pkV a b c d e f g h] [] [] 0 0 (.tup [.str (pktB a b c d e f g h), .int .i64 0]) [] := by
 have tb := textS_size b
 have tc := textS_size c
 have td := textS_size d
 have te := textS_size e
 have tf := textS_size f
 have na := numS_size a
 have ng := numS_size g
 have nh := numS_size h
 refine Ctr.shut (m := 0) (k := 0) ?_ rfl rfl
 refine Ctr.introR (T := Tryz.T) Tryz.hT Tryz.hM puZ_ok Tryz.func17 rfl (by kernel_rfl) rfl rfl rfl rfl ?_
 conv => whnf
 refine callR [] (pchk2 a g h hb hc hd he hf) rfl rfl rfl rfl trivial trivial ?_
 rw [hE]
 conv => whnf
 refine ⟨by (try simp only [cat_size]); unfold big; omega, ?_⟩
 conv => whnf
 refine ⟨by (try simp only [cat_size]); unfold big; omega, ?_⟩
 conv => whnf
 refine ⟨by (try simp only [cat_size]); unfold big; omega, ?_⟩
 conv => whnf
 refine ⟨by (try simp only [cat_size]); unfold big; omega, ?_⟩
 conv => whnf
 refine ⟨by (try simp only [cat_size]); unfold big; omega, ?_⟩
 conv => whnf
 refine ⟨by (try simp only [cat_size]); unfold big; omega, ?_⟩
 conv => whnf
 refine ⟨by (try simp only [cat_size]); unfold big; omega, ?_⟩
 conv => whnf
 rw [show pktB a b c d e f g h = catB (catB (catB (catB (catB (catB (catB (catB ⟨#[]⟩ (numS a)) (textS b)) (textS c)) (textS d)) (textS e)) (textS f)) (numS g)) (numS h) from rfl, nil_cat]
 exact .mk' [] rfl rfl rfl rfl rfl rfl trivial
theorem pkey1 (w p q : ByteArray) (x : Int) (hw : w.size ≤ 65536) (hp : p.size ≤ 65536) (hq : q.size ≤ 65536) :
  Ctr Tryz.prog 41 [.str w, .agg [.str p, .str q], .int .i64 x] [] [] 0 0 (.str (joinB w [p, q, pnS x])) [] := by
 have hm := pnS_size x
 refine Ctr.shut (m := 0) (k := 2) ?_ rfl rfl
 refine Ctr.introR (T := Tryz.T) Tryz.hT Tryz.hM Tryz.hE Tryz.func41 rfl (by kernel_rfl) rfl rfl rfl rfl ?_
 conv => whnf
 refine callR [] (pnum1 x) rfl rfl rfl rfl trivial trivial ?_
 generalize pnS x = m at hm ⊢
 conv => whnf
 refine callR [1] (join1 w [p, q, m] (by omega) (fun s hs => by simp only [List.mem_cons, List.not_mem_nil, or_false] at hs; rcases hs with rfl | rfl | rfl <;> omega) (by simp)) rfl rfl rfl rfl trivial ⟨rfl, trivial⟩ ?_
 conv => whnf
 generalize hr : raceB _ _ = rb
 obtain rfl : rb = true := hr.symm.trans (by kernel_rfl)
 conv => whnf
 exact Fin.same rfl rfl (by simp)
theorem pkey2 (w p q : ByteArray) (x : Int) (hw : w.size ≤ 65536) (hp : p.size ≤ 65536) (hq : q.size ≤ 65536) :
  Ctr Tryz.prog 23 [.str w, .agg [.str p, .str q], .int .i64 x] [] [] 0 0 (.str (joinB w [p, q, pnS x])) [] := by
 have hm := pnS_size x
 refine Ctr.shut (m := 0) (k := 2) ?_ rfl rfl
 refine Ctr.introR (T := Tryz.T) Tryz.hT Tryz.hM Tryz.hE Tryz.func23 rfl (by kernel_rfl) rfl rfl rfl rfl ?_
 conv => whnf
 refine callR [] (pnum2 x) rfl rfl rfl rfl trivial trivial ?_
 generalize pnS x = m at hm ⊢
 conv => whnf
 refine callR [1] (key14 w [p, q, m] (d := some 4) hw (fun s hs => by simp only [List.mem_cons, List.not_mem_nil, or_false] at hs; rcases hs with rfl | rfl | rfl <;> omega) (by simp)) rfl rfl rfl rfl trivial ⟨rfl, trivial⟩ ?_
 conv => whnf
 generalize hr : raceB _ _ = rb
 obtain rfl : rb = true := hr.symm.trans (by kernel_rfl)
 conv => whnf
 exact Fin.same rfl rfl (by simp)
theorem carryP21N {L : List KV} {key : ByteArray} (a : Int) {b c d e f : ByteArray} (g h : Int) (hb : b.size ≤ 65536) (hc : c.size ≤ 65536) (hd : d.size ≤ 65536) (he : e.size ≤ 65536) (hf : f.size ≤ 65536) (hE : pktE a b c d e f g h ≠ 0) :
  Ctr Tryz.prog 40 [.ptr 0 0, .int .i64 21, .str key, pkV a b c d e f g h, .nils] [] [(0, cbox (.sv 2 2 0 2 none)), (2, .row 74 2 [.str (rawB L 1), .sv 3 2 0 L.length (some L.length), .str (rawB L 2), .sv 4 2 0 L.length (some L.length)] none)] 5 5 (.tup [.str ⟨#[]⟩, .int .i64 (pktE a b c d e f g h)]) [(0, cbox (.sv 2 2 0 2 none)), (2, .row 74 2 [.str (rawB L 1), .sv 3 2 0 L.length (some L.length), .str (rawB L 2), .sv 4 2 0 L.length (some L.length)] none)] := by
 refine Ctr.introR (T := Tryz.T) Tryz.hT Tryz.hM puZ_ok Tryz.func40 rfl (by kernel_rfl) rfl rfl rfl rfl ?_
 conv => whnf
 refine callR [0, 1, 2, 3, 4] (ready2 L) rfl rfl rfl rfl trivial ⟨rfl, rfl, trivial⟩ ?_
 conv => whnf
 refine callR [] (pput1N a g h hb hc hd he hf hE) rfl rfl rfl rfl trivial trivial ?_
 generalize pktE a b c d e f g h = E at hE ⊢
 conv => whnf
 rw [show decide (E = 0) = false from decide_eq_false hE]
 conv => whnf
 exact .mk' [] rfl rfl rfl rfl rfl rfl ⟨rfl, rfl, trivial⟩
theorem carryP21 {L : List KV} {key s : ByteArray} (hs : s.size ≤ 65536) (a : Int) {b c d e f : ByteArray} (g h : Int) (hb : b.size ≤ 65536) (hc : c.size ≤ 65536) (hd : d.size ≤ 65536) (he : e.size ≤ 65536) (hf : f.size ≤ 65536) (hraw : (pktB a b c d e f g h).size ≤ 65536) (hE : pktE a b c d e f g h = 0)
  (cp : Ctr Tryz.prog 32 [.ptr 0 0, .int .i64 2, .str key] [] [(0, cbox (.sv 2 2 0 2 none)), (2, .row 74 2 [.str (rawB L 1), .sv 3 2 0 L.length (some L.length), .str (rawB L 2), .sv 4 2 0 L.length (some L.length)] none), (4, rowD L (some L.length))] 5 5 (.tup [.agg [.int .i64 2, .str s], .int .i64 0]) [(0, cbox (.sv 2 2 0 2 none)), (2, .row 74 2 [.str (rawB L 1), .sv 3 2 0 L.length (some L.length), .str (rawB L 2), .sv 4 2 0 L.length (some L.length)] none), (4, rowD L (some L.length))]) :
  Ctr Tryz.prog 40 [.ptr 0 0, .int .i64 21, .str key, pkV a b c d e f g h, .nils] [] [(0, cbox (.sv 2 2 0 2 none)), (2, .row 74 2 [.str (rawB L 1), .sv 3 2 0 L.length (some L.length), .str (rawB L 2), .sv 4 2 0 L.length (some L.length)] none), (4, rowD L (some L.length))] 5 5 (.tup [.str (msgB 21 [pktB a b c d e f g h, s] [2]), .int .i64 0]) [(0, cbox (.sv 2 2 0 2 none)), (2, .row 74 2 [.str (rawB L 1), .sv 3 2 0 L.length (some L.length), .str (rawB L 2), .sv 4 2 0 L.length (some L.length)] none), (4, rowD L (some L.length))] := by
 refine Ctr.introR (T := Tryz.T) Tryz.hT Tryz.hM puZ_ok Tryz.func40 rfl (by kernel_rfl) rfl rfl ?_ rfl ?_
 ·simp [okH_all, okR, cbox, rowD, bare_ok (cellsP_bare _), okL_cons, okL_nil, okA_str, okA_ptr, okA_int, okA_nils, okA_sv]
 conv => whnf
 refine callR [0, 1, 2, 3, 4] (ready2 L) rfl rfl rfl rfl trivial ⟨rfl, rfl, trivial⟩ ?_
 conv => whnf
 refine callR [] (pput1 a g h hb hc hd he hf hE) rfl rfl rfl rfl trivial trivial ?_
 generalize pktB a b c d e f g h = raw at hraw ⊢
 conv => whnf
 refine callR [0, 1, 2, 3, 4, 6] (provedP21 hs hraw cp) (post' := [(0, cbox (.sv 2 2 0 2 none)), (2, .row 74 2 [.str (rawB L 1), .sv 3 2 0 L.length (some L.length), .str (rawB L 2), .sv 4 2 0 L.length (some L.length)] none), (4, rowD L (some L.length)), (6, rowS [raw] (some 1))]) (by simp only [renH, rowD_ren, rowS_ren]; rfl) rfl rfl rfl trivial ⟨rfl, rfl, rowD_at _ rfl, rowS_at _ rfl, trivial⟩ ?_
 conv => whnf
 refine Fin.same ?_ rfl ?_
 ·simp [okH_all, okR, cbox, rowD, bare_ok (cellsP_bare _), okL_cons, okL_nil, okA_str, okA_ptr, okA_int, okA_nils, okA_sv]
 ·intro p hp
  simp only [List.mem_cons, List.not_mem_nil, or_false] at hp
  rcases hp with rfl | rfl | rfl <;> rfl
theorem carryP22N {L : List KV} {key : ByteArray} (a : Int) {b c d e f : ByteArray} (g h : Int) (hb : b.size ≤ 65536) (hc : c.size ≤ 65536) (hd : d.size ≤ 65536) (he : e.size ≤ 65536) (hf : f.size ≤ 65536) {ack : ByteArray} (hack : ack.size ≤ 65536) (hE : pktE a b c d e f g h ≠ 0) :
  Ctr Tryz.prog 40 [.ptr 0 0, .int .i64 22, .str key, pkV a b c d e f g h, .sv 5 1 0 1 (some 1)] [] [(0, cbox (.sv 2 2 0 2 none)), (2, .row 74 2 [.str (rawB L 1), .sv 3 2 0 L.length (some L.length), .str (rawB L 2), .sv 4 2 0 L.length (some L.length)] none), (5, rowS [ack] (some 1))] 6 6 (.tup [.str ⟨#[]⟩, .int .i64 (pktE a b c d e f g h)]) [(0, cbox (.sv 2 2 0 2 none)), (2, .row 74 2 [.str (rawB L 1), .sv 3 2 0 L.length (some L.length), .str (rawB L 2), .sv 4 2 0 L.length (some L.length)] none), (5, rowS [ack] (some 1))] := by
 refine Ctr.introR (T := Tryz.T) Tryz.hT Tryz.hM puZ_ok Tryz.func40 rfl (by kernel_rfl) rfl rfl rfl rfl ?_
 conv => whnf
 refine callR [0, 1, 2, 3, 4] (ready2 L) rfl rfl rfl rfl trivial ⟨rfl, rfl, trivial⟩ ?_
 conv => whnf
 refine callR [] (pput1N a g h hb hc hd he hf hE) rfl rfl rfl rfl trivial trivial ?_
 generalize pktE a b c d e f g h = E at hE ⊢
 conv => whnf
 rw [show decide (E = 0) = false from decide_eq_false hE]
 conv => whnf
 exact .mk' [] rfl rfl rfl rfl rfl rfl ⟨rfl, rfl, rfl, trivial⟩
theorem carryP22 {L : List KV} {key s : ByteArray} (hs : s.size ≤ 65536) (a : Int) {b c d e f : ByteArray} (g h : Int) (hb : b.size ≤ 65536) (hc : c.size ≤ 65536) (hd : d.size ≤ 65536) (he : e.size ≤ 65536) (hf : f.size ≤ 65536) {ack : ByteArray} (hack : ack.size ≤ 65536) (hraw : (pktB a b c d e f g h).size ≤ 65536) (hE : pktE a b c d e f g h = 0)
  (cp : Ctr Tryz.prog 32 [.ptr 0 0, .int .i64 2, .str key] [] [(0, cbox (.sv 2 2 0 2 none)), (2, .row 74 2 [.str (rawB L 1), .sv 3 2 0 L.length (some L.length), .str (rawB L 2), .sv 4 2 0 L.length (some L.length)] none), (4, rowD L (some L.length))] 5 5 (.tup [.agg [.int .i64 2, .str s], .int .i64 0]) [(0, cbox (.sv 2 2 0 2 none)), (2, .row 74 2 [.str (rawB L 1), .sv 3 2 0 L.length (some L.length), .str (rawB L 2), .sv 4 2 0 L.length (some L.length)] none), (4, rowD L (some L.length))]) :
  Ctr Tryz.prog 40 [.ptr 0 0, .int .i64 22, .str key, pkV a b c d e f g h, .sv 5 1 0 1 (some 1)] [] [(0, cbox (.sv 2 2 0 2 none)), (2, .row 74 2 [.str (rawB L 1), .sv 3 2 0 L.length (some L.length), .str (rawB L 2), .sv 4 2 0 L.length (some L.length)] none), (4, rowD L (some L.length)), (5, rowS [ack] (some 1))] 6 6 (.tup [.str (msgB 22 [pktB a b c d e f g h, ack, s] [2]), .int .i64 0]) [(0, cbox (.sv 2 2 0 2 none)), (2, .row 74 2 [.str (rawB L 1), .sv 3 2 0 L.length (some L.length), .str (rawB L 2), .sv 4 2 0 L.length (some L.length)] none), (4, rowD L (some L.length)), (5, rowS [ack] (some 1))] := by
 refine Ctr.introR (T := Tryz.T) Tryz.hT Tryz.hM puZ_ok Tryz.func40 rfl (by kernel_rfl) rfl rfl ?_ rfl ?_
 ·simp [okH_all, okR, cbox, rowD, rowS, bare_ok (cellsP_bare _), bare_ok (strsA_bare _), okL_cons, okL_nil, okA_str, okA_ptr, okA_int, okA_nils, okA_sv]
 conv => whnf
 refine callR [0, 1, 2, 3, 4] (ready2 L) rfl rfl rfl rfl trivial ⟨rfl, rfl, trivial⟩ ?_
 conv => whnf
 refine callR [] (pput1 a g h hb hc hd he hf hE) rfl rfl rfl rfl trivial trivial ?_
 generalize pktB a b c d e f g h = raw at hraw ⊢
 conv => whnf
 refine ⟨by decide, ?_⟩
 conv => whnf
 refine callR [0, 1, 2, 3, 4, 8] (provedP22 hs hack hraw cp) (post' := [(0, cbox (.sv 2 2 0 2 none)), (2, .row 74 2 [.str (rawB L 1), .sv 3 2 0 L.length (some L.length), .str (rawB L 2), .sv 4 2 0 L.length (some L.length)] none), (4, rowD L (some L.length)), (8, .gone)]) (by simp only [renH, rowD_ren]; rfl) rfl rfl rfl trivial ⟨rfl, rfl, rowD_at _ rfl, rowS_at _ rfl, trivial⟩ ?_
 conv => whnf
 refine Fin.same ?_ rfl ?_
 ·simp [okH_all, okR, cbox, rowD, rowS, bare_ok (cellsP_bare _), bare_ok (strsA_bare _), okL_cons, okL_nil, okA_str, okA_ptr, okA_int, okA_nils, okA_sv]
 ·intro p hp
  simp only [List.mem_cons, List.not_mem_nil, or_false] at hp
  rcases hp with rfl | rfl | rfl | rfl <;> rfl
theorem carryP23N {L : List KV} {key : ByteArray} (a : Int) {b c d e f : ByteArray} (g h : Int) (hb : b.size ≤ 65536) (hc : c.size ≤ 65536) (hd : d.size ≤ 65536) (he : e.size ≤ 65536) (hf : f.size ≤ 65536) (hE : pktE a b c d e f g h ≠ 0) :
  Ctr Tryz.prog 40 [.ptr 0 0, .int .i64 23, .str key, pkV a b c d e f g h, .nils] [] [(0, cbox (.sv 2 2 0 2 none)), (2, .row 74 2 [.str (rawB L 1), .sv 3 2 0 L.length (some L.length), .str (rawB L 2), .sv 4 2 0 L.length (some L.length)] none)] 5 5 (.tup [.str ⟨#[]⟩, .int .i64 (pktE a b c d e f g h)]) [(0, cbox (.sv 2 2 0 2 none)), (2, .row 74 2 [.str (rawB L 1), .sv 3 2 0 L.length (some L.length), .str (rawB L 2), .sv 4 2 0 L.length (some L.length)] none)] := by
 refine Ctr.introR (T := Tryz.T) Tryz.hT Tryz.hM puZ_ok Tryz.func40 rfl (by kernel_rfl) rfl rfl rfl rfl ?_
 conv => whnf
 refine callR [0, 1, 2, 3, 4] (ready2 L) rfl rfl rfl rfl trivial ⟨rfl, rfl, trivial⟩ ?_
 conv => whnf
 refine callR [] (pput1N a g h hb hc hd he hf hE) rfl rfl rfl rfl trivial trivial ?_
 generalize pktE a b c d e f g h = E at hE ⊢
 conv => whnf
 rw [show decide (E = 0) = false from decide_eq_false hE]
 conv => whnf
 exact .mk' [] rfl rfl rfl rfl rfl rfl ⟨rfl, rfl, trivial⟩
theorem carryP23 {L : List KV} {key s : ByteArray} (hs : s.size ≤ 65536) (a : Int) {b c d e f : ByteArray} (g h : Int) (hb : b.size ≤ 65536) (hc : c.size ≤ 65536) (hd : d.size ≤ 65536) (he : e.size ≤ 65536) (hf : f.size ≤ 65536) (hraw : (pktB a b c d e f g h).size ≤ 65536) (hE : pktE a b c d e f g h = 0)
  (cp : Ctr Tryz.prog 32 [.ptr 0 0, .int .i64 2, .str key] [] [(0, cbox (.sv 2 2 0 2 none)), (2, .row 74 2 [.str (rawB L 1), .sv 3 2 0 L.length (some L.length), .str (rawB L 2), .sv 4 2 0 L.length (some L.length)] none), (4, rowD L (some L.length))] 5 5 (.tup [.agg [.int .i64 2, .str s], .int .i64 0]) [(0, cbox (.sv 2 2 0 2 none)), (2, .row 74 2 [.str (rawB L 1), .sv 3 2 0 L.length (some L.length), .str (rawB L 2), .sv 4 2 0 L.length (some L.length)] none), (4, rowD L (some L.length))]) :
  Ctr Tryz.prog 40 [.ptr 0 0, .int .i64 23, .str key, pkV a b c d e f g h, .nils] [] [(0, cbox (.sv 2 2 0 2 none)), (2, .row 74 2 [.str (rawB L 1), .sv 3 2 0 L.length (some L.length), .str (rawB L 2), .sv 4 2 0 L.length (some L.length)] none), (4, rowD L (some L.length))] 5 5 (.tup [.str (msgB 23 [pktB a b c d e f g h, s] [2]), .int .i64 0]) [(0, cbox (.sv 2 2 0 2 none)), (2, .row 74 2 [.str (rawB L 1), .sv 3 2 0 L.length (some L.length), .str (rawB L 2), .sv 4 2 0 L.length (some L.length)] none), (4, rowD L (some L.length))] := by
 refine Ctr.introR (T := Tryz.T) Tryz.hT Tryz.hM puZ_ok Tryz.func40 rfl (by kernel_rfl) rfl rfl ?_ rfl ?_
 ·simp [okH_all, okR, cbox, rowD, bare_ok (cellsP_bare _), okL_cons, okL_nil, okA_str, okA_ptr, okA_int, okA_nils, okA_sv]
 conv => whnf
 refine callR [0, 1, 2, 3, 4] (ready2 L) rfl rfl rfl rfl trivial ⟨rfl, rfl, trivial⟩ ?_
 conv => whnf
 refine callR [] (pput1 a g h hb hc hd he hf hE) rfl rfl rfl rfl trivial trivial ?_
 generalize pktB a b c d e f g h = raw at hraw ⊢
 conv => whnf
 refine callR [0, 1, 2, 3, 4, 6] (provedP23 hs hraw cp) (post' := [(0, cbox (.sv 2 2 0 2 none)), (2, .row 74 2 [.str (rawB L 1), .sv 3 2 0 L.length (some L.length), .str (rawB L 2), .sv 4 2 0 L.length (some L.length)] none), (4, rowD L (some L.length)), (6, rowS [raw] (some 1))]) (by simp only [renH, rowD_ren, rowS_ren]; rfl) rfl rfl rfl trivial ⟨rfl, rfl, rowD_at _ rfl, rowS_at _ rfl, trivial⟩ ?_
 conv => whnf
 refine Fin.same ?_ rfl ?_
 ·simp [okH_all, okR, cbox, rowD, bare_ok (cellsP_bare _), okL_cons, okL_nil, okA_str, okA_ptr, okA_int, okA_nils, okA_sv]
 ·intro p hp
  simp only [List.mem_cons, List.not_mem_nil, or_false] at hp
  rcases hp with rfl | rfl | rfl <;> rfl
theorem toP (a : Int) (b c d e f : ByteArray) (g h : Int) : Ctr Tryz.prog 42 [pkV a b c d e f g h] [] [] 0 0 (.agg [.str d, .str e]) [] := by
 refine Ctr.shut (m := 0) (k := 0) ?_ rfl rfl
 refine Ctr.introR (T := Tryz.T) Tryz.hT Tryz.hM Tryz.hE Tryz.func42 rfl (by kernel_rfl) rfl rfl rfl rfl ?_
 conv => whnf
 exact .mk' [] rfl rfl rfl rfl rfl rfl trivial
def comW : ByteArray := ⟨#[99, 111, 109, 109, 105, 116]⟩
def ackW : ByteArray := ⟨#[97, 99, 107]⟩
def recW : ByteArray := ⟨#[114, 101, 99, 101, 105, 112, 116]⟩
theorem rrecvN {L : List KV} (a : Int) {b c d e f : ByteArray} (g h : Int) (hb : b.size ≤ 65536) (hc : c.size ≤ 65536) (hd : d.size ≤ 65536) (he : e.size ≤ 65536) (hf : f.size ≤ 65536) (hE : pktE a b c d e f g h ≠ 0) :
  Ctr Tryz.prog 18 [.ptr 0 0, pkV a b c d e f g h] [] [(0, cbox (.sv 2 2 0 2 none)), (2, .row 74 2 [.str (rawB L 1), .sv 3 2 0 L.length (some L.length), .str (rawB L 2), .sv 4 2 0 L.length (some L.length)] none)] 5 5 (.tup [.str ⟨#[]⟩, .int .i64 (pktE a b c d e f g h)]) [(0, cbox (.sv 2 2 0 2 none)), (2, .row 74 2 [.str (rawB L 1), .sv 3 2 0 L.length (some L.length), .str (rawB L 2), .sv 4 2 0 L.length (some L.length)] none)] := by
 refine Ctr.introR (T := Tryz.T) Tryz.hT Tryz.hM puZ_ok Tryz.func18 rfl (by kernel_rfl) rfl rfl rfl rfl ?_
 conv => whnf
 refine callR [] (pkey1 comW b c a (by decide) hb hc) rfl rfl rfl rfl trivial trivial ?_
 conv => whnf
 refine callR [0, 1, 2, 3, 4] (carryP21N (L := L) a g h hb hc hd he hf hE) (post' := [(0, cbox (.sv 2 2 0 2 none)), (2, .row 74 2 [.str (rawB L 1), .sv 3 2 0 L.length (some L.length), .str (rawB L 2), .sv 4 2 0 L.length (some L.length)] none)]) (by simp only [renH]; rfl) rfl rfl rfl trivial ⟨rfl, rfl, trivial⟩ ?_
 generalize pktE a b c d e f g h = E at hE ⊢
 conv => whnf
 exact .mk' [] rfl rfl rfl rfl rfl rfl ⟨rfl, rfl, trivial⟩
theorem rrecv {L : List KV} (a : Int) {b c d e f : ByteArray} (g h : Int) (hb : b.size ≤ 65536) (hc : c.size ≤ 65536) (hd : d.size ≤ 65536) (he : e.size ≤ 65536) (hf : f.size ≤ 65536) (hraw : (pktB a b c d e f g h).size ≤ 65536) (hE : pktE a b c d e f g h = 0) {s : ByteArray} (hs : s.size ≤ 65536)
  (cp : Ctr Tryz.prog 32 [.ptr 0 0, .int .i64 2, .str (joinB comW [b, c, pnS a])] [] [(0, cbox (.sv 2 2 0 2 none)), (2, .row 74 2 [.str (rawB L 1), .sv 3 2 0 L.length (some L.length), .str (rawB L 2), .sv 4 2 0 L.length (some L.length)] none), (4, rowD L (some L.length))] 5 5 (.tup [.agg [.int .i64 2, .str s], .int .i64 0]) [(0, cbox (.sv 2 2 0 2 none)), (2, .row 74 2 [.str (rawB L 1), .sv 3 2 0 L.length (some L.length), .str (rawB L 2), .sv 4 2 0 L.length (some L.length)] none), (4, rowD L (some L.length))]) :
  Ctr Tryz.prog 18 [.ptr 0 0, pkV a b c d e f g h] [] [(0, cbox (.sv 2 2 0 2 none)), (2, .row 74 2 [.str (rawB L 1), .sv 3 2 0 L.length (some L.length), .str (rawB L 2), .sv 4 2 0 L.length (some L.length)] none), (4, rowD L (some L.length))] 5 5 (.tup [.str (msgB 21 [pktB a b c d e f g h, s] [2]), .int .i64 0]) [(0, cbox (.sv 2 2 0 2 none)), (2, .row 74 2 [.str (rawB L 1), .sv 3 2 0 L.length (some L.length), .str (rawB L 2), .sv 4 2 0 L.length (some L.length)] none), (4, rowD L (some L.length))] := by
 refine Ctr.introR (T := Tryz.T) Tryz.hT Tryz.hM puZ_ok Tryz.func18 rfl (by kernel_rfl) rfl rfl ?_ rfl ?_
 ·simp [okH_all, okR, cbox, rowD, bare_ok (cellsP_bare _), okL_cons, okL_nil, okA_str, okA_ptr, okA_int, okA_nils, okA_sv]
 conv => whnf
 refine callR [] (pkey1 comW b c a (by decide) hb hc) rfl rfl rfl rfl trivial trivial ?_
 conv => whnf
 refine callR [0, 1, 2, 3, 4] (carryP21 hs a g h hb hc hd he hf hraw hE cp) (post' := [(0, cbox (.sv 2 2 0 2 none)), (2, .row 74 2 [.str (rawB L 1), .sv 3 2 0 L.length (some L.length), .str (rawB L 2), .sv 4 2 0 L.length (some L.length)] none), (4, rowD L (some L.length))]) (by simp only [renH, rowD_ren]; rfl) rfl rfl rfl trivial ⟨rfl, rfl, rowD_at _ rfl, trivial⟩ ?_
 generalize pktB a b c d e f g h = raw at hraw ⊢
 conv => whnf
 refine Fin.same ?_ rfl ?_
 ·simp [okH_all, okR, cbox, rowD, bare_ok (cellsP_bare _), okL_cons, okL_nil, okA_str, okA_ptr, okA_int, okA_nils, okA_sv]
 ·intro p hp
  simp only [List.mem_cons, List.not_mem_nil, or_false] at hp
  rcases hp with rfl | rfl | rfl <;> rfl
theorem rackN {L : List KV} (a : Int) {b c d e f : ByteArray} (g h : Int) (hb : b.size ≤ 65536) (hc : c.size ≤ 65536) (hd : d.size ≤ 65536) (he : e.size ≤ 65536) (hf : f.size ≤ 65536) {ack : ByteArray} (hack : ack.size ≤ 65536) (hE : pktE a b c d e f g h ≠ 0) :
  Ctr Tryz.prog 19 [.ptr 0 0, .agg [.int .i64 a, .str b, .str c, .str d, .str e, .str f, .int .i64 g, .int .i64 h, .str ack]] [] [(0, cbox (.sv 2 2 0 2 none)), (2, .row 74 2 [.str (rawB L 1), .sv 3 2 0 L.length (some L.length), .str (rawB L 2), .sv 4 2 0 L.length (some L.length)] none)] 5 5 (.tup [.str ⟨#[]⟩, .int .i64 (pktE a b c d e f g h)]) [(0, cbox (.sv 2 2 0 2 none)), (2, .row 74 2 [.str (rawB L 1), .sv 3 2 0 L.length (some L.length), .str (rawB L 2), .sv 4 2 0 L.length (some L.length)] none)] := by
 refine Ctr.introR (T := Tryz.T) Tryz.hT Tryz.hM puZ_ok Tryz.func19 rfl (by kernel_rfl) rfl rfl rfl rfl ?_
 conv => whnf
 refine callR [] (toP a b c d e f g h) rfl rfl rfl rfl trivial trivial ?_
 conv => whnf
 refine callR [] (pkey1 ackW d e a (by decide) hd he) rfl rfl rfl rfl trivial trivial ?_
 conv => whnf
 refine callR [0, 1, 2, 3, 4, 6] (carryP22N (L := L) a g h hb hc hd he hf hack hE) (post' := [(0, cbox (.sv 2 2 0 2 none)), (2, .row 74 2 [.str (rawB L 1), .sv 3 2 0 L.length (some L.length), .str (rawB L 2), .sv 4 2 0 L.length (some L.length)] none), (6, rowS [ack] (some 1))]) (by simp only [renH, rowS_ren]; rfl) rfl rfl rfl trivial ⟨rfl, rfl, rowS_at _ rfl, trivial⟩ ?_
 generalize pktE a b c d e f g h = E at hE ⊢
 conv => whnf
 generalize hrc : raceB _ _ = rb
 obtain rfl : rb = true := hrc.symm.trans (by kernel_rfl)
 conv => whnf
 exact .mk' [] rfl rfl rfl rfl rfl rfl ⟨rfl, rfl, trivial⟩
theorem rack {L : List KV} (a : Int) {b c d e f : ByteArray} (g h : Int) (hb : b.size ≤ 65536) (hc : c.size ≤ 65536) (hd : d.size ≤ 65536) (he : e.size ≤ 65536) (hf : f.size ≤ 65536) {ack : ByteArray} (hack : ack.size ≤ 65536) (hraw : (pktB a b c d e f g h).size ≤ 65536) (hE : pktE a b c d e f g h = 0) {s : ByteArray} (hs : s.size ≤ 65536)
  (cp : Ctr Tryz.prog 32 [.ptr 0 0, .int .i64 2, .str (joinB ackW [d, e, pnS a])] [] [(0, cbox (.sv 2 2 0 2 none)), (2, .row 74 2 [.str (rawB L 1), .sv 3 2 0 L.length (some L.length), .str (rawB L 2), .sv 4 2 0 L.length (some L.length)] none), (4, rowD L (some L.length))] 5 5 (.tup [.agg [.int .i64 2, .str s], .int .i64 0]) [(0, cbox (.sv 2 2 0 2 none)), (2, .row 74 2 [.str (rawB L 1), .sv 3 2 0 L.length (some L.length), .str (rawB L 2), .sv 4 2 0 L.length (some L.length)] none), (4, rowD L (some L.length))]) :
  Ctr Tryz.prog 19 [.ptr 0 0, .agg [.int .i64 a, .str b, .str c, .str d, .str e, .str f, .int .i64 g, .int .i64 h, .str ack]] [] [(0, cbox (.sv 2 2 0 2 none)), (2, .row 74 2 [.str (rawB L 1), .sv 3 2 0 L.length (some L.length), .str (rawB L 2), .sv 4 2 0 L.length (some L.length)] none), (4, rowD L (some L.length))] 5 5 (.tup [.str (msgB 22 [pktB a b c d e f g h, ack, s] [2]), .int .i64 0]) [(0, cbox (.sv 2 2 0 2 none)), (2, .row 74 2 [.str (rawB L 1), .sv 3 2 0 L.length (some L.length), .str (rawB L 2), .sv 4 2 0 L.length (some L.length)] none), (4, rowD L (some L.length))] := by
 refine Ctr.introR (T := Tryz.T) Tryz.hT Tryz.hM puZ_ok Tryz.func19 rfl (by kernel_rfl) rfl rfl ?_ rfl ?_
 ·simp [okH_all, okR, cbox, rowD, bare_ok (cellsP_bare _), okL_cons, okL_nil, okA_str, okA_ptr, okA_int, okA_nils, okA_sv]
 conv => whnf
 refine callR [] (toP a b c d e f g h) rfl rfl rfl rfl trivial trivial ?_
 conv => whnf
 refine callR [] (pkey1 ackW d e a (by decide) hd he) rfl rfl rfl rfl trivial trivial ?_
 conv => whnf
 refine callR [0, 1, 2, 3, 4, 6] (carryP22 hs a g h hb hc hd he hf hack hraw hE cp) (post' := [(0, cbox (.sv 2 2 0 2 none)), (2, .row 74 2 [.str (rawB L 1), .sv 3 2 0 L.length (some L.length), .str (rawB L 2), .sv 4 2 0 L.length (some L.length)] none), (4, rowD L (some L.length)), (6, rowS [ack] (some 1))]) (by simp only [renH, rowD_ren, rowS_ren]; rfl) rfl rfl rfl trivial ⟨rfl, rfl, rowD_at _ rfl, rowS_at _ rfl, trivial⟩ ?_
 generalize pktB a b c d e f g h = raw at hraw ⊢
 conv => whnf
 generalize hrc : raceB _ _ = rb
 obtain rfl : rb = true := hrc.symm.trans (by kernel_rfl)
 conv => whnf
 refine Fin.same ?_ rfl ?_
 ·simp [okH_all, okR, cbox, rowD, bare_ok (cellsP_bare _), okL_cons, okL_nil, okA_str, okA_ptr, okA_int, okA_nils, okA_sv]
 ·intro p hp
  simp only [List.mem_cons, List.not_mem_nil, or_false] at hp
  rcases hp with rfl | rfl | rfl <;> rfl
theorem rtimeoutN {L : List KV} (a : Int) {b c d e f : ByteArray} (g h : Int) (hb : b.size ≤ 65536) (hc : c.size ≤ 65536) (hd : d.size ≤ 65536) (he : e.size ≤ 65536) (hf : f.size ≤ 65536) (hE : pktE a b c d e f g h ≠ 0) :
  Ctr Tryz.prog 20 [.ptr 0 0, pkV a b c d e f g h] [] [(0, cbox (.sv 2 2 0 2 none)), (2, .row 74 2 [.str (rawB L 1), .sv 3 2 0 L.length (some L.length), .str (rawB L 2), .sv 4 2 0 L.length (some L.length)] none)] 5 5 (.tup [.str ⟨#[]⟩, .int .i64 (pktE a b c d e f g h)]) [(0, cbox (.sv 2 2 0 2 none)), (2, .row 74 2 [.str (rawB L 1), .sv 3 2 0 L.length (some L.length), .str (rawB L 2), .sv 4 2 0 L.length (some L.length)] none)] := by
 refine Ctr.introR (T := Tryz.T) Tryz.hT Tryz.hM puZ_ok Tryz.func20 rfl (by kernel_rfl) rfl rfl rfl rfl ?_
 conv => whnf
 refine callR [] (toP a b c d e f g h) rfl rfl rfl rfl trivial trivial ?_
 conv => whnf
 refine callR [] (pkey1 recW d e a (by decide) hd he) rfl rfl rfl rfl trivial trivial ?_
 conv => whnf
 refine callR [0, 1, 2, 3, 4] (carryP23N (L := L) a g h hb hc hd he hf hE) (post' := [(0, cbox (.sv 2 2 0 2 none)), (2, .row 74 2 [.str (rawB L 1), .sv 3 2 0 L.length (some L.length), .str (rawB L 2), .sv 4 2 0 L.length (some L.length)] none)]) (by simp only [renH]; rfl) rfl rfl rfl trivial ⟨rfl, rfl, trivial⟩ ?_
 generalize pktE a b c d e f g h = E at hE ⊢
 conv => whnf
 exact .mk' [] rfl rfl rfl rfl rfl rfl ⟨rfl, rfl, trivial⟩
theorem rtimeout {L : List KV} (a : Int) {b c d e f : ByteArray} (g h : Int) (hb : b.size ≤ 65536) (hc : c.size ≤ 65536) (hd : d.size ≤ 65536) (he : e.size ≤ 65536) (hf : f.size ≤ 65536) (hraw : (pktB a b c d e f g h).size ≤ 65536) (hE : pktE a b c d e f g h = 0) {s : ByteArray} (hs : s.size ≤ 65536)
  (cp : Ctr Tryz.prog 32 [.ptr 0 0, .int .i64 2, .str (joinB recW [d, e, pnS a])] [] [(0, cbox (.sv 2 2 0 2 none)), (2, .row 74 2 [.str (rawB L 1), .sv 3 2 0 L.length (some L.length), .str (rawB L 2), .sv 4 2 0 L.length (some L.length)] none), (4, rowD L (some L.length))] 5 5 (.tup [.agg [.int .i64 2, .str s], .int .i64 0]) [(0, cbox (.sv 2 2 0 2 none)), (2, .row 74 2 [.str (rawB L 1), .sv 3 2 0 L.length (some L.length), .str (rawB L 2), .sv 4 2 0 L.length (some L.length)] none), (4, rowD L (some L.length))]) :
  Ctr Tryz.prog 20 [.ptr 0 0, pkV a b c d e f g h] [] [(0, cbox (.sv 2 2 0 2 none)), (2, .row 74 2 [.str (rawB L 1), .sv 3 2 0 L.length (some L.length), .str (rawB L 2), .sv 4 2 0 L.length (some L.length)] none), (4, rowD L (some L.length))] 5 5 (.tup [.str (msgB 23 [pktB a b c d e f g h, s] [2]), .int .i64 0]) [(0, cbox (.sv 2 2 0 2 none)), (2, .row 74 2 [.str (rawB L 1), .sv 3 2 0 L.length (some L.length), .str (rawB L 2), .sv 4 2 0 L.length (some L.length)] none), (4, rowD L (some L.length))] := by
 refine Ctr.introR (T := Tryz.T) Tryz.hT Tryz.hM puZ_ok Tryz.func20 rfl (by kernel_rfl) rfl rfl ?_ rfl ?_
 ·simp [okH_all, okR, cbox, rowD, bare_ok (cellsP_bare _), okL_cons, okL_nil, okA_str, okA_ptr, okA_int, okA_nils, okA_sv]
 conv => whnf
 refine callR [] (toP a b c d e f g h) rfl rfl rfl rfl trivial trivial ?_
 conv => whnf
 refine callR [] (pkey1 recW d e a (by decide) hd he) rfl rfl rfl rfl trivial trivial ?_
 conv => whnf
 refine callR [0, 1, 2, 3, 4] (carryP23 hs a g h hb hc hd he hf hraw hE cp) (post' := [(0, cbox (.sv 2 2 0 2 none)), (2, .row 74 2 [.str (rawB L 1), .sv 3 2 0 L.length (some L.length), .str (rawB L 2), .sv 4 2 0 L.length (some L.length)] none), (4, rowD L (some L.length))]) (by simp only [renH, rowD_ren]; rfl) rfl rfl rfl trivial ⟨rfl, rfl, rowD_at _ rfl, trivial⟩ ?_
 generalize pktB a b c d e f g h = raw at hraw ⊢
 conv => whnf
 refine Fin.same ?_ rfl ?_
 ·simp [okH_all, okR, cbox, rowD, bare_ok (cellsP_bare _), okL_cons, okL_nil, okA_str, okA_ptr, okA_int, okA_nils, okA_sv]
 ·intro p hp
  simp only [List.mem_cons, List.not_mem_nil, or_false] at hp
  rcases hp with rfl | rfl | rfl <;> rfl
theorem setL_mem {L : List KV} {k v : ByteArray} {p : KV} (h : p ∈ setL L k v) : p ∈ L ∨ p = (k, v) := by
 cases hh : hasL L k with
 | true =>
  rw [setL_has hh] at h
  rcases List.mem_or_eq_of_mem_set h with h | h
  ·exact .inl h
  ·exact .inr h
 | false =>
  rw [setL_new hh] at h
  rcases List.mem_append.1 h with h | h
  ·exact .inl (List.mem_of_mem_take h)
  ·rcases List.mem_cons.1 h with h | h
   ·exact .inr h
   ·exact .inl (List.mem_of_mem_drop h)
def smB (L : List KV) : Bool := L.all fun p => Nat.ble p.1.size 1000 && Nat.ble p.2.size 1000
theorem sm_of {L : List KV} (h : ∀ p ∈ L, p.1.size ≤ 1000 ∧ p.2.size ≤ 1000) : smallK L := fun i hi => h _ (List.getElem_mem hi)
theorem chain_small : ∀ p ∈ chainL betW rooW, p.1.size ≤ 1000 ∧ p.2.size ≤ 1000 := by
 intro p hp
 have h : smB (chainL betW rooW) = true := by kernel_rfl
 have := List.all_eq_true.1 h p hp
 rw [Bool.and_eq_true] at this
 exact ⟨Nat.le_of_ble_eq_true this.1, Nat.le_of_ble_eq_true this.2⟩
theorem LL_small {cl : Nat → Nat → AV} : ∀ i, (∀ j, j < i → (strV (cl j 0)).size ≤ 200 ∧ (strV (cl j 1)).size ≤ 500) → ∀ p ∈ LL cl i, p.1.size ≤ 1000 ∧ p.2.size ≤ 1000
 | 0, _ => chain_small
 | i + 1, h => by
  intro p hp
  have h1 := h i (by omega)
  change p ∈ addL (LL cl i) (strV (cl i 0)) (strV (cl i 1)) at hp
  unfold addL at hp
  split at hp
  ·rcases setL_mem hp with hp | rfl
   ·exact LL_small i (fun j hj => h j (by omega)) p hp
   ·exact ⟨by dsimp only; omega, by dsimp only; omega⟩
  ·exact LL_small i (fun j hj => h j (by omega)) p hp
theorem LL_three (cl : Nat → Nat → AV) : ∀ i, 3 ≤ (LL cl i).length
 | 0 => by
  have : (chainL betW rooW).length = 3 := by kernel_rfl
  show 3 ≤ (chainL betW rooW).length
  omega
 | i + 1 => by
  have := (addL_le (LL cl i) (strV (cl i 0)) (strV (cl i 1))).2
  have := LL_three cl i
  unfold LL; omega
theorem pktB_size (a : Int) {b c d e f : ByteArray} (g h : Int) (hb : b.size ≤ 100) (hc : c.size ≤ 100) (hd : d.size ≤ 100) (he : e.size ≤ 100) (hf : f.size ≤ 2000) : (pktB a b c d e f g h).size ≤ 5000 := by
 have := numS_size a; have := numS_size g; have := numS_size h
 have := textS_small b; have := textS_small c; have := textS_small d; have := textS_small e; have := textS_small f
 unfold pktB
 simp only [cat_size, nil_size]
 omega
theorem fromR (a : Int) (b c d e f : ByteArray) (g h : Int) : Ctr Tryz.prog 21 [pkV a b c d e f g h] [] [] 0 0 (.agg [.str b, .str c]) [] := by
 refine Ctr.shut (m := 0) (k := 0) ?_ rfl rfl
 refine Ctr.introR (T := Tryz.T) Tryz.hT Tryz.hM Tryz.hE Tryz.func21 rfl (by kernel_rfl) rfl rfl rfl rfl ?_
 conv => whnf
 exact .mk' [] rfl rfl rfl rfl rfl rfl trivial
theorem toR (a : Int) (b c d e f : ByteArray) (g h : Int) : Ctr Tryz.prog 22 [pkV a b c d e f g h] [] [] 0 0 (.agg [.str d, .str e]) [] := by
 refine Ctr.shut (m := 0) (k := 0) ?_ rfl rfl
 refine Ctr.introR (T := Tryz.T) Tryz.hT Tryz.hM Tryz.hE Tryz.func22 rfl (by kernel_rfl) rfl rfl rfl rfl ?_
 conv => whnf
 exact .mk' [] rfl rfl rfl rfl rfl rfl trivial
theorem join_no (w p q r : ByteArray) : eqB (joinB w [p, q, r]) ⟨#[]⟩ = false := by
 rw [eqB_eq]
 apply decide_eq_false
 intro e
 have := congrArg ByteArray.size e
 rw [show [p, q, r] = [p, q] ++ [r] from rfl, joinB_snoc, cat_size, cat_size] at this
 have h0 : (ByteArray.mk #[]).size = 0 := rfl
 have h1 : (ByteArray.mk #[47]).size = 1 := rfl
 omega
set_option maxHeartbeats 2000000 in
theorem packets1 (aw : Ctr Tryz.prog 6 [] [] [] 0 0 (.bool true) []) {cl : Nat → Nat → AV} {len : Nat} (hl : isKV cl len) (a : Int) (b c d e f : ByteArray) (g h : Int) (ack : ByteArray) :
  Ctr Tryz.prog 5 [.sl 0 len, pkV a b c d e f g h, .str ack] [(0, lstC cl len)] [] 1 1 (.bool true) [] := by
 refine Ctr.introR (T := Tryz.T) Tryz.hT Tryz.hM puZ_ok Tryz.func5 rfl (by kernel_rfl) rfl rfl rfl rfl ?_
 conv => whnf
 by_cases h0 : len ≤ 8
 case' neg =>
  rw [show decide ((8 : Int) < (len : Int)) = true from decide_eq_true (by omega)]
  conv => whnf
  refine callR [] aw rfl rfl rfl rfl trivial trivial ?_
  conv => whnf
  exact .mk' [] rfl rfl rfl rfl rfl rfl trivial
 rw [show decide ((8 : Int) < (len : Int)) = false from decide_eq_false (by omega)]
 conv => whnf
 by_cases h1 : ack.size ≤ 500
 case' neg =>
  rw [show decide ((500 : Int) < (ack.size : Int)) = true from decide_eq_true (by omega)]
  conv => whnf
  refine callR [] aw rfl rfl rfl rfl trivial trivial ?_
  conv => whnf
  exact .mk' [] rfl rfl rfl rfl rfl rfl trivial
 rw [show decide ((500 : Int) < (ack.size : Int)) = false from decide_eq_false (by omega)]
 conv => whnf
 by_cases h2 : f.size ≤ 2000
 case' neg =>
  rw [show decide ((2000 : Int) < (f.size : Int)) = true from decide_eq_true (by omega)]
  conv => whnf
  refine callR [] aw rfl rfl rfl rfl trivial trivial ?_
  conv => whnf
  exact .mk' [] rfl rfl rfl rfl rfl rfl trivial
 rw [show decide ((2000 : Int) < (f.size : Int)) = false from decide_eq_false (by omega)]
 conv => whnf
 by_cases h3 : b.size ≤ 100
 case' neg =>
  rw [show decide ((100 : Int) < (b.size : Int)) = true from decide_eq_true (by omega)]
  conv => whnf
  refine callR [] aw rfl rfl rfl rfl trivial trivial ?_
  conv => whnf
  exact .mk' [] rfl rfl rfl rfl rfl rfl trivial
 rw [show decide ((100 : Int) < (b.size : Int)) = false from decide_eq_false (by omega)]
 conv => whnf
 by_cases h4 : c.size ≤ 100
 case' neg =>
  rw [show decide ((100 : Int) < (c.size : Int)) = true from decide_eq_true (by omega)]
  conv => whnf
  refine callR [] aw rfl rfl rfl rfl trivial trivial ?_
  conv => whnf
  exact .mk' [] rfl rfl rfl rfl rfl rfl trivial
 rw [show decide ((100 : Int) < (c.size : Int)) = false from decide_eq_false (by omega)]
 conv => whnf
 by_cases h5 : d.size ≤ 100
 case' neg =>
  rw [show decide ((100 : Int) < (d.size : Int)) = true from decide_eq_true (by omega)]
  conv => whnf
  refine callR [] aw rfl rfl rfl rfl trivial trivial ?_
  conv => whnf
  exact .mk' [] rfl rfl rfl rfl rfl rfl trivial
 rw [show decide ((100 : Int) < (d.size : Int)) = false from decide_eq_false (by omega)]
 conv => whnf
 by_cases h6 : e.size ≤ 100
 case' neg =>
  rw [show decide ((100 : Int) < (e.size : Int)) = true from decide_eq_true (by omega)]
  conv => whnf
  refine callR [] aw rfl rfl rfl rfl trivial trivial ?_
  conv => whnf
  exact .mk' [] rfl rfl rfl rfl rfl rfl trivial
 rw [show decide ((100 : Int) < (e.size : Int)) = false from decide_eq_false (by omega)]
 conv => whnf
 refine loopR Tryz.hT Tryz.hM puZ_ok (α := {i : Nat // i ≤ len ∧ ∀ j, j < i → (strV (cl j 0)).size ≤ 200 ∧ (strV (cl j 1)).size ≤ 500})
  (fun i => ([(0, .sl 0 len), (2, .str ack), (4, .ptr 1 0), (7, .int .i64 (i.1 : Int))], [(0, lstC cl len), (1, .box 47 [.int .i64 a, .str b, .str c, .str d, .str e, .str f, .int .i64 g, .int .i64 h])]))
  (fun i => len - i.1) 2 ⟨0, Nat.zero_le _, fun j hj => absurd hj (Nat.not_lt_zero _)⟩ [] ?_ ?_
 ·exact ⟨⟨rfl, rfl, rfl, rfl, trivial⟩, ⟨rfl, rfl, trivial⟩, rfl, rfl⟩
 rintro ⟨i, hi, hsm⟩
 dsimp only at hi hsm ⊢
 conv => whnf
 by_cases hlt : i < len
 ·rw [show decide (((i : Nat) : Int) < ((len : Nat) : Int)) = true from decide_eq_true (by omega)]
  obtain ⟨ky, v, q0, q1⟩ := hl i hlt
  conv => whnf
  simp only [Int.toNat_natCast]
  refine ⟨by omega, ?_⟩
  conv => whnf
  refine ⟨hlt, ?_⟩
  rw [show readEl false 1 ((lst none len 2 cl).cell i) (0 + 0) = .str ky from q0]
  conv => whnf
  by_cases hk : ky.size ≤ 200
  case' neg =>
   rw [show decide ((200 : Int) < (ky.size : Int)) = true from decide_eq_true (by omega)]
   conv => whnf
   refine callR [] aw rfl rfl rfl rfl trivial trivial ?_
   conv => whnf
   exact .mk' [] rfl rfl rfl rfl rfl rfl trivial
  rw [show decide ((200 : Int) < (ky.size : Int)) = false from decide_eq_false (by omega)]
  conv => whnf
  simp only [Int.toNat_natCast]
  refine ⟨by omega, ?_⟩
  conv => whnf
  refine ⟨hlt, ?_⟩
  rw [show readEl false 1 ((lst none len 2 cl).cell i) (0 + 1) = .str v from q1]
  conv => whnf
  by_cases hv : v.size ≤ 500
  case' neg =>
   rw [show decide ((500 : Int) < (v.size : Int)) = true from decide_eq_true (by omega)]
   conv => whnf
   refine callR [] aw rfl rfl rfl rfl trivial trivial ?_
   conv => whnf
   exact .mk' [] rfl rfl rfl rfl rfl rfl trivial
  rw [show decide ((500 : Int) < (v.size : Int)) = false from decide_eq_false (by omega)]
  conv => whnf
  have hw : IntKind.i64.wrap ((i : Int) + 1) = ((i + 1 : Nat) : Int) := by rw [wrap_small] <;> omega
  rw [hw]
  refine ⟨⟨i + 1, hlt, fun j hj => ?_⟩, [], by dsimp only; omega, ⟨⟨rfl, rfl, rfl, rfl, trivial⟩, ⟨rfl, rfl, trivial⟩, rfl, rfl⟩⟩
  rcases Nat.lt_or_ge j i with h' | h'
  ·exact hsm j h'
  ·obtain rfl : j = i := by omega
   rw [q0, q1]; exact ⟨hk, hv⟩
 rw [show decide (((i : Nat) : Int) < ((len : Nat) : Int)) = false from decide_eq_false (by omega)]
 have hil : i = len := by omega
 rw [hil] at hsm
 conv => whnf
 have hll := LL_le cl len
 have hsK : smallK (LL cl len) := sm_of (LL_small len hsm)
 have hL3 := LL_three cl len
 have hb6 : b.size ≤ 65536 := by omega
 have hc6 : c.size ≤ 65536 := by omega
 have hd6 : d.size ≤ 65536 := by omega
 have he6 : e.size ≤ 65536 := by omega
 have hf6 : f.size ≤ 65536 := by omega
 have hk6 : ack.size ≤ 65536 := by omega
 refine callR [0] (begin2 hl h0) (post' := [(2, .box 81 [.str alW, .ptr 3 0, .sv 4 2 0 2 none, .int .i64 0, .nils, .nils]), (3, jour (LL cl len)), (4, .row 74 2 [.str (rawB (LL cl len) 1), .sv 5 2 0 (LL cl len).length (some (LL cl len).length), .str (rawB (LL cl len) 2), .sv 6 2 0 (LL cl len).length (some (LL cl len).length)] none), (5, rowD (LL cl len) (some (LL cl len).length)), (6, rowD (LL cl len) (some (LL cl len).length))]) (by simp only [renH, rowD_ren]; rfl) rfl rfl rfl ⟨rfl, trivial⟩ trivial ?_
 conv => whnf
 obtain ⟨E, hEd⟩ : ∃ E, pktE a b c d e f g h = E := ⟨_, rfl⟩
 obtain ⟨raw, hrd⟩ : ∃ raw, pktB a b c d e f g h = raw := ⟨_, rfl⟩
 by_cases hE : E = 0
 case' neg =>
  have hE2 : pktE a b c d e f g h ≠ 0 := by rw [hEd]; exact hE
  have c0 := pput2N a g h hb6 hc6 hd6 he6 hf6 hE2
  have c1 := rrecvN (L := LL cl len) a g h hb6 hc6 hd6 he6 hf6 hE2
  have c2 := rackN (L := LL cl len) a g h hb6 hc6 hd6 he6 hf6 hk6 hE2
  have c3 := rtimeoutN (L := LL cl len) a g h hb6 hc6 hd6 he6 hf6 hE2
  rw [hEd] at c0 c1 c2 c3
  refine callR [] c0 rfl rfl rfl rfl trivial trivial ?_
  conv => whnf
  refine callR [2, 3, 4, 5, 6] c1 rfl rfl rfl rfl trivial ⟨rfl, rfl, trivial⟩ ?_
  conv => whnf
  refine callR [2, 3, 4, 5, 6] c2 rfl rfl rfl rfl trivial ⟨rfl, rfl, trivial⟩ ?_
  conv => whnf
  refine callR [2, 3, 4, 5, 6] c3 rfl rfl rfl rfl trivial ⟨rfl, rfl, trivial⟩ ?_
  conv => whnf
  conv =>
   arg 2
   rw [show decide (E = 0) = false from decide_eq_false hE]
  conv => whnf
  conv =>
   arg 2
   rw [show decide (E = E) = true from decide_eq_true rfl]
  conv => whnf
  conv =>
   arg 2
   rw [show decide (E = E) = true from decide_eq_true rfl]
  conv => whnf
  conv =>
   arg 2
   rw [show decide (E = E) = true from decide_eq_true rfl]
  conv => whnf
  refine ⟨by decide, ?_⟩
  conv => whnf
  refine ⟨by decide, ?_⟩
  conv => whnf
  refine callR [] aw rfl rfl rfl rfl trivial trivial ?_
  conv => whnf
  exact .mk' [] rfl rfl rfl rfl rfl rfl trivial
 have hE2 : pktE a b c d e f g h = 0 := by rw [hEd]; exact hE
 obtain ⟨s1, z1, cp1⟩ := prove2 (LL_srt cl len) hL3 (by omega) hsK (joinB comW [b, c, pnS a])
 obtain ⟨s2, z2, cp2⟩ := prove2 (LL_srt cl len) hL3 (by omega) hsK (joinB ackW [d, e, pnS a])
 obtain ⟨s3, z3, cp3⟩ := prove2 (LL_srt cl len) hL3 (by omega) hsK (joinB recW [d, e, pnS a])
 have hraw := pktB_size a g h h3 h4 h5 h6 h2
 have c0 := pput2 a g h hb6 hc6 hd6 he6 hf6 hE2
 have c1 := rrecv a g h hb6 hc6 hd6 he6 hf6 (by omega) hE2 (by omega) cp1
 have c2 := rack a g h hb6 hc6 hd6 he6 hf6 hk6 (by omega) hE2 (by omega) cp2
 have c3 := rtimeout a g h hb6 hc6 hd6 he6 hf6 (by omega) hE2 (by omega) cp3
 rw [hrd] at c0 c1 c2 c3 hraw
 refine callR [] c0 rfl rfl rfl rfl trivial trivial ?_
 conv => whnf
 refine callR [2, 3, 4, 5, 6] c1 (post' := [(2, .box 81 [.str alW, .ptr 3 0, .sv 4 2 0 2 none, .int .i64 0, .nils, .nils]), (4, .row 74 2 [.str (rawB (LL cl len) 1), .sv 5 2 0 (LL cl len).length (some (LL cl len).length), .str (rawB (LL cl len) 2), .sv 6 2 0 (LL cl len).length (some (LL cl len).length)] none), (6, rowD (LL cl len) (some (LL cl len).length))]) (by simp only [renH, rowD_ren]; rfl) rfl rfl rfl trivial ⟨rfl, rfl, rowD_at _ rfl, trivial⟩ ?_
 conv => whnf
 refine callR [2, 3, 4, 5, 6] c2 (post' := [(2, .box 81 [.str alW, .ptr 3 0, .sv 4 2 0 2 none, .int .i64 0, .nils, .nils]), (4, .row 74 2 [.str (rawB (LL cl len) 1), .sv 5 2 0 (LL cl len).length (some (LL cl len).length), .str (rawB (LL cl len) 2), .sv 6 2 0 (LL cl len).length (some (LL cl len).length)] none), (6, rowD (LL cl len) (some (LL cl len).length))]) (by simp only [renH, rowD_ren]; rfl) rfl rfl rfl trivial ⟨rfl, rfl, rowD_at _ rfl, trivial⟩ ?_
 conv => whnf
 refine callR [2, 3, 4, 5, 6] c3 (post' := [(2, .box 81 [.str alW, .ptr 3 0, .sv 4 2 0 2 none, .int .i64 0, .nils, .nils]), (4, .row 74 2 [.str (rawB (LL cl len) 1), .sv 5 2 0 (LL cl len).length (some (LL cl len).length), .str (rawB (LL cl len) 2), .sv 6 2 0 (LL cl len).length (some (LL cl len).length)] none), (6, rowD (LL cl len) (some (LL cl len).length))]) (by simp only [renH, rowD_ren]; rfl) rfl rfl rfl trivial ⟨rfl, rfl, rowD_at _ rfl, trivial⟩ ?_
 conv => whnf
 refine callR [] (fromR a b c d e f g h) rfl rfl rfl rfl trivial trivial ?_
 conv => whnf
 refine callR [] (toR a b c d e f g h) rfl rfl rfl rfl trivial trivial ?_
 conv => whnf
 conv =>
  arg 2
  tactic' => exact (show _ = true by kernel_rfl)
 conv => whnf
 refine callR [] (pkey2 comW b c a (by decide) hb6 hc6) rfl rfl rfl rfl trivial trivial ?_
 conv => whnf
 refine callR [2, 3, 4, 5, 6, 9] (wantP21 (join_no _ _ _ _) (by omega) (by omega) cp1) (post' := [(2, .box 81 [.str alW, .ptr 3 0, .sv 4 2 0 2 none, .int .i64 0, .nils, .nils]), (4, .row 74 2 [.str (rawB (LL cl len) 1), .sv 5 2 0 (LL cl len).length (some (LL cl len).length), .str (rawB (LL cl len) 2), .sv 6 2 0 (LL cl len).length (some (LL cl len).length)] none), (6, rowD (LL cl len) (some (LL cl len).length)), (9, rowS [raw] (some 1))]) (by simp only [renH, rowD_ren, rowS_ren]; rfl) rfl rfl rfl trivial ⟨rfl, rfl, rowD_at _ rfl, rowS_at _ rfl, trivial⟩ ?_
 conv => whnf
 refine callR [] (pkey2 ackW d e a (by decide) hd6 he6) rfl rfl rfl rfl trivial trivial ?_
 conv => whnf
 refine callR [2, 3, 4, 5, 6, 10] (wantP22 (join_no _ _ _ _) (by omega) hk6 (by omega) cp2) (post' := [(2, .box 81 [.str alW, .ptr 3 0, .sv 4 2 0 2 none, .int .i64 0, .nils, .nils]), (4, .row 74 2 [.str (rawB (LL cl len) 1), .sv 5 2 0 (LL cl len).length (some (LL cl len).length), .str (rawB (LL cl len) 2), .sv 6 2 0 (LL cl len).length (some (LL cl len).length)] none), (6, rowD (LL cl len) (some (LL cl len).length)), (10, rowS [raw, ack] (some 2))]) (by simp only [renH, rowD_ren, rowS_ren]; rfl) rfl rfl rfl trivial ⟨rfl, rfl, rowD_at _ rfl, rowS_at _ rfl, trivial⟩ ?_
 conv => whnf
 refine callR [] (pkey2 recW d e a (by decide) hd6 he6) rfl rfl rfl rfl trivial trivial ?_
 conv => whnf
 refine callR [2, 3, 4, 5, 6, 11] (wantP23 (join_no _ _ _ _) (by omega) (by omega) cp3) (post' := [(2, .box 81 [.str alW, .ptr 3 0, .sv 4 2 0 2 none, .int .i64 0, .nils, .nils]), (4, .row 74 2 [.str (rawB (LL cl len) 1), .sv 5 2 0 (LL cl len).length (some (LL cl len).length), .str (rawB (LL cl len) 2), .sv 6 2 0 (LL cl len).length (some (LL cl len).length)] none), (6, rowD (LL cl len) (some (LL cl len).length)), (11, rowS [raw] (some 1))]) (by simp only [renH, rowD_ren, rowS_ren]; rfl) rfl rfl rfl trivial ⟨rfl, rfl, rowD_at _ rfl, rowS_at _ rfl, trivial⟩ ?_
 conv => whnf
 conv =>
  arg 2
  rw [show eqB (msgB 21 [raw, s1] [2]) (msgB 21 [raw, s1] [2]) = true by simp [eqB_eq]]
 conv => whnf
 conv =>
  arg 2
  rw [show eqB (msgB 22 [raw, ack, s2] [2]) (msgB 22 [raw, ack, s2] [2]) = true by simp [eqB_eq]]
 conv => whnf
 conv =>
  arg 2
  rw [show eqB (msgB 23 [raw, s3] [2]) (msgB 23 [raw, s3] [2]) = true by simp [eqB_eq]]
 conv => whnf
 refine callR [] aw rfl rfl rfl rfl trivial trivial ?_
 conv => whnf
 exact .mk' [] rfl rfl rfl rfl rfl rfl trivial
theorem relayPackets_law (aw : Ctr Tryz.prog 6 [] [] [] 0 0 (.bool true) []) : ∀ vs R n, ArgsL [.s [.str, .str], .p (.agg [.i .i64, .s, .s, .s, .s, .s, .i .i64, .i .i64]), .p (.one .s)] 0 vs R n → ∃ n', Ctr Tryz.prog 5 vs R [] n n' (.bool true) [] := by
 rintro vs R n ⟨len, cl, vs1, R1, rfl, rfl, _, h1, v, vs2, rfl, ⟨fs, rfl, h2⟩, _, w, vs3, rfl, ⟨ack, rfl, _⟩, _, rfl, rfl, rfl⟩
 obtain ⟨a, _, rfl, _, e1⟩ := okL2_i h2
 obtain ⟨b, _, rfl, _, e2⟩ := okL2_s e1
 obtain ⟨c, _, rfl, _, e3⟩ := okL2_s e2
 obtain ⟨d, _, rfl, _, e4⟩ := okL2_s e3
 obtain ⟨e, _, rfl, _, e5⟩ := okL2_s e4
 obtain ⟨f, _, rfl, _, e6⟩ := okL2_s e5
 obtain ⟨g, _, rfl, _, e7⟩ := okL2_i e6
 obtain ⟨h, _, rfl, _, e8⟩ := okL2_i e7
 obtain rfl := okL2_nil e8
 exact ⟨1, packets1 aw (kv_of h1) a b c d e f g h ack⟩
end Go.Proofs.YtglkoaajgekonaaGreatDoor
-- SQUEEZED
