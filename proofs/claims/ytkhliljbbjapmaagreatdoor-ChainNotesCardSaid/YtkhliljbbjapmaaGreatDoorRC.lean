/- The document's new client, and its chain at its beginning. -/
import Derived.Test.YtkhliljbbjapmaaGreatDoorKY
import Derived.Test.YtkhliljbbjapmaaGreatDoorRT
import Derived.Test.YtkhliljbbjapmaaGreatDoorCH
namespace Go.Proofs.YtkhliljbbjapmaaGreatDoor
open Go.SX
theorem count0 (key : ByteArray) : Ctr Tryz.prog 112 [.nils, .str key] [] [] 0 0 (.int .i64 (.ofNat 0)) [] :=
  (Tryz.ev_ok 80 (show Tryz.ev 80 112 [.nils, .hd 0] [] [] 1 = .ok (.int .i64 (.ofNat 0), [], 5) by kernel_rfl)).fill [.str key] rfl rfl rfl rfl 0
theorem mk0R : Ctr Tryz.prog 113 [.int .i64 3, .int .i64 0] [] [] 0 0 (.tup [.str client0, .int .i64 0]) [] := Ctr.shut (m := 0) (k := 1) (Tryz.ev_ok 80 (show Tryz.ev 80 113 [.int .i64 3, .int .i64 0] [] [] 0 = .ok (.tup [.str client0, .int .i64 0], [], 1) by kernel_rfl)) rfl rfl
theorem fresh0 (key : ByteArray) : Ctr Tryz.prog 83 [.nils, .str key, .int .i64 3] [] [] 0 1 (.tup [.sv 0 2 0 1 none, .str client0]) [(0, rowP [(key, numS 1)])] := by
  refine Ctr.introR (T := Tryz.T) Tryz.hT Tryz.hM puZ_ok Tryz.func83 rfl (by kernel_rfl) rfl rfl rfl rfl ?_
  conv => whnf
  refine callR [] (count0 key) rfl rfl rfl rfl trivial trivial ?_
  conv => whnf
  refine callR [] mk0R rfl rfl rfl rfl trivial trivial ?_
  conv => whnf
  refine callR [] (putR0 key (numS 1)) (post' := [(0, rowP [(key, numS 1)])]) (by simp only [renH, rowP_ren]; rfl) rfl rfl rfl trivial trivial ?_
  conv => whnf
  exact .mk' [0] rfl rfl rfl rfl rfl rfl ⟨rowP_at _ rfl, trivial⟩
theorem valueR (chain key : ByteArray) (h : Int) : Ctr Tryz.prog 86 [.agg [.str chain, .str key, .int .i64 h, .bool false]] [] [] 0 0 (.str (clientV chain key h 0)) [] := by
  have h1 := textS_size chain; have h2 := textS_size key; have h3 := numS_size h; have h4 := numS_size 0
  refine Ctr.shut (m := 0) (k := 1) ?_ rfl rfl
  refine Ctr.introR (T := Tryz.T) Tryz.hT Tryz.hM puZ_ok Tryz.func86 rfl (by kernel_rfl) rfl rfl rfl rfl ?_
  conv => whnf
  refine ⟨by unfold big; omega, ?_⟩
  conv => whnf
  refine ⟨by rw [cat_size]; unfold big; omega, ?_⟩
  conv => whnf
  refine ⟨by rw [cat_size, cat_size]; unfold big; omega, ?_⟩
  conv => whnf
  exact .mk' [0] rfl rfl rfl rfl rfl rfl trivial
noncomputable def puV_0 : Pure := fun g vs => match Nat.beq g 86, vs with
  | true, [.agg [.str chain, .str key, .int .i64 h, .bool false]] => some (.str (clientV chain key h 0))
  | _, _ => none
theorem puV_0_ok : PureOK Tryz.prog puV_0 := by
  intro g vs v h
  unfold puV_0 at h
  split at h
  · rename_i chain key h hg
    cases h
    have hg := Nat.eq_of_beq_eq_true hg
    subst hg
    exact .inl fun n0 => (valueR chain key h).anyO rfl rfl n0
  · cases h
noncomputable def puV : Pure := (orP puV_0 puZ)
theorem puV_ok : PureOK Tryz.prog puV := (orP_ok puV_0_ok puZ_ok)
theorem newR {chain key : ByteArray} (hc : plainB chain = true) (hk : key.size ≤ 100) : Ctr Tryz.prog 47 [.nils, .str chain, .str key] [] [] 0 1 (.tup [.sv 0 2 0 2 none, .str client0, .int .i64 0]) [(0, rowP (setL (setL [] (joinB nextW [clientW]) (numS 1)) (joinB clientW [client0]) (clientV chain key 0 0)))] := by
  have hsz := plain_sz hc
  refine Ctr.introR (T := Tryz.T) Tryz.hT Tryz.hM puV_ok Tryz.func47 rfl (by kernel_rfl) rfl rfl rfl rfl ?_
  conv => whnf
  refine callR [] (check2 chain (by omega)) rfl rfl rfl rfl trivial trivial ?_
  rw [name_ok hc]
  conv => whnf
  rw [show decide ((65536 : Int) < (key.size : Int)) = false by simp; omega]
  conv => whnf
  refine callR [0] key1 rfl rfl rfl rfl trivial ⟨rfl, trivial⟩ ?_
  conv => whnf
  refine callR [] (fresh0 (joinB nextW [clientW])) (post' := [(21, rowP [(joinB nextW [clientW], numS 1)])]) (by simp only [renH, rowP_ren]; rfl) rfl rfl rfl trivial trivial ?_
  conv => whnf
  refine callR [22] key2 rfl rfl rfl rfl trivial ⟨rfl, trivial⟩ ?_
  conv => whnf
  refine callR [21] (putR (L := [(joinB nextW [clientW], numS 1)]) (by decide) (joinB clientW [client0]) (clientV chain key 0 0)) (post' := [(21, rowP [(joinB nextW [clientW], numS 1)]), (51, rowP (setL [(joinB nextW [clientW], numS 1)] (joinB clientW [client0]) (clientV chain key 0 0)))]) (by simp only [renH, rowP_ren]; rfl) rfl rfl rfl trivial ⟨rowP_at _ rfl, trivial⟩ ?_
  conv => whnf
  have hn : (setL [(joinB nextW [clientW], numS 1)] (joinB clientW [client0]) (clientV chain key 0 0)).length = 2 := by
    rw [setL_length, show hasL [(joinB nextW [clientW], numS 1)] (joinB clientW [client0]) = false by unfold hasL posL posL; rfl]; rfl
  exact .mk' [51] rfl rfl rfl (by simp [okH_all, rowP_ok]) rfl (by rw [hn]; rfl) ⟨rowP_at _ rfl, trivial⟩
theorem setadmR {L : List KV} (hr : (L.length + 1) * 2 ≤ room) {who : ByteArray} (hw : plainB who = true) : Ctr Tryz.prog 49 [.sv 0 2 0 L.length none, .str who] [] [(0, rowP L)] 1 2 (.tup [.sv 1 2 0 (setL L adminW who).length none, .int .i64 0]) [(0, rowP L), (1, rowP (setL L adminW who))] := by
  have hsz := plain_sz hw
  refine Ctr.introR (T := Tryz.T) Tryz.hT Tryz.hM puV_ok Tryz.func49 rfl (by kernel_rfl) rfl rfl (by simp [okH_all, rowP_ok]) rfl ?_
  conv => whnf
  refine callR [] (check2 who (by omega)) rfl rfl rfl rfl trivial trivial ?_
  rw [name_ok hw]
  conv => whnf
  refine callR [0] (putR hr adminW who) (post' := [(0, rowP L), (1, rowP (setL L adminW who))]) (by simp only [renH, rowP_ren]; rfl) rfl rfl rfl trivial ⟨rowP_at _ rfl, trivial⟩ ?_
  conv => whnf
  exact .mk' [1] rfl rfl rfl (by simp [okH_all, rowP_ok]) rfl rfl ⟨rowP_at _ rfl, rowP_at _ rfl, trivial⟩
theorem keyofR (s : ByteArray) (h : s.size ≤ 1000) : Ctr Tryz.prog 48 [.str s] [] [] 0 0 (.str (catB keyofW s)) [] := by
  refine Ctr.introR (T := Tryz.T) Tryz.hT Tryz.hM puV_ok Tryz.func48 rfl (by kernel_rfl) rfl rfl rfl rfl ?_
  conv => whnf
  refine ⟨by unfold big; have : keyofW.size = 7 := rfl; show 7 + s.size ≤ _; omega, ?_⟩
  conv => whnf
  exact Fin.same rfl rfl (by simp)
theorem new38 {other admin : ByteArray} (h1 : plainB other = true) (h2 : plainB admin = true) : Ctr Tryz.prog 25 [.str other, .str admin] [] [] 0 1 (.sv 0 2 0 (chainL other admin).length none) [(0, rowP (chainL other admin))] := by
  have hsz := plain_sz h1
  refine Ctr.introR (T := Tryz.T) Tryz.hT Tryz.hM puV_ok Tryz.func25 rfl (by kernel_rfl) rfl rfl rfl rfl ?_
  conv => whnf
  refine callR [] (keyofR other (by omega)) rfl rfl rfl rfl trivial trivial ?_
  conv => whnf
  have hsk : (catB keyofW other).size ≤ 100 := by rw [cat_size]; have : keyofW.size = 7 := rfl; omega
  refine callR [] (newR h1 hsk) (post' := [(0, rowP (setL (setL [] (joinB nextW [clientW]) (numS 1)) (joinB clientW [client0]) (clientV other (catB keyofW other) 0 0)))]) (by simp only [renH, rowP_ren]; rfl) rfl rfl rfl trivial trivial ?_
  conv => whnf
  have hn : (setL (setL [] (joinB nextW [clientW]) (numS 1)) (joinB clientW [client0]) (clientV other (catB keyofW other) 0 0)).length = 2 := by
    show (setL [(joinB nextW [clientW], numS 1)] (joinB clientW [client0]) (clientV other (catB keyofW other) 0 0)).length = 2
    rw [setL_length, show hasL [(joinB nextW [clientW], numS 1)] (joinB clientW [client0]) = false by unfold hasL posL posL; rfl]; rfl
  have sa := setadmR (L := setL (setL [] (joinB nextW [clientW]) (numS 1)) (joinB clientW [client0]) (clientV other (catB keyofW other) 0 0)) (by rw [hn]; decide) h2
  rw [hn] at sa
  refine callR [0] sa (post' := [(0, rowP (setL (setL [] (joinB nextW [clientW]) (numS 1)) (joinB clientW [client0]) (clientV other (catB keyofW other) 0 0))), (1, rowP (chainL other admin))]) (by simp only [renH, rowP_ren]; rfl) rfl rfl rfl trivial ⟨rowP_at _ rfl, trivial⟩ ?_
  conv => whnf
  exact .mk' [1] rfl rfl rfl (by simp [okH_all, rowP_ok]) rfl rfl ⟨rowP_at _ rfl, trivial⟩
end Go.Proofs.YtkhliljbbjapmaaGreatDoor
