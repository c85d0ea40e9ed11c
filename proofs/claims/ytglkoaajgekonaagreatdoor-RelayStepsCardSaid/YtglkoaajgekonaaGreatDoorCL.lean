/- A client in a journal: New, and what it calls. -/
import Derived.Test.YtglkoaajgekonaaGreatDoorLS
import Derived.Test.YtglkoaajgekonaaGreatDoorNA
import Derived.Test.YtglkoaajgekonaaGreatDoorTxt
import Derived.Test.YtglkoaajgekonaaGreatDoorRep
namespace Go.Proofs.YtglkoaajgekonaaGreatDoor
open Go.SX
theorem cnum (x : Int) : Ctr Tryz.prog 79 [.int .i64 x] [] [] 0 0 (.str (numS x)) [] := by
  refine Ctr.introR (T := Tryz.T) Tryz.hT Tryz.hM puZ_ok Tryz.func79 rfl (by kernel_rfl) rfl rfl rfl rfl ?_
  conv => whnf
  exact Fin.same rfl rfl (by simp)
theorem ctext (s : ByteArray) : Ctr Tryz.prog 120 [.str s] [] [] 0 0 (.str (textS s)) [] := by
  refine Ctr.introR (T := Tryz.T) Tryz.hT Tryz.hM puZ_ok Tryz.func120 rfl (by kernel_rfl) rfl rfl rfl rfl ?_
  conv => whnf
  exact Fin.same rfl rfl (by simp)
noncomputable def puCl_0 : Pure := fun g vs => match Nat.beq g 79, vs with
  | true, [.int .i64 x] => some (.str (numS x))
  | _, _ => none
theorem puCl_0_ok : PureOK Tryz.prog puCl_0 := by
  intro g vs v h
  unfold puCl_0 at h
  split at h
  · rename_i x hg
    cases h
    have hg := Nat.eq_of_beq_eq_true hg
    subst hg
    exact .inl fun n0 => (cnum x).anyO rfl rfl n0
  · cases h
noncomputable def puCl_1 : Pure := fun g vs => match Nat.beq g 120, vs with
  | true, [.str s] => some (.str (textS s))
  | _, _ => none
theorem puCl_1_ok : PureOK Tryz.prog puCl_1 := by
  intro g vs v h
  unfold puCl_1 at h
  split at h
  · rename_i s hg
    cases h
    have hg := Nat.eq_of_beq_eq_true hg
    subst hg
    exact .inl fun n0 => (ctext s).anyO rfl rfl n0
  · cases h
noncomputable def puCl : Pure := (orP puCl_1 (orP puCl_0 puZ))
theorem puCl_ok : PureOK Tryz.prog puCl := (orP_ok puCl_1_ok (orP_ok puCl_0_ok puZ_ok))
def clientW : ByteArray := ⟨#[99, 108, 105, 101, 110, 116]⟩
def nextW : ByteArray := ⟨#[110, 101, 120, 116]⟩
theorem ckey (id : ByteArray) (h : id.size ≤ 140737488355328) : Ctr Tryz.prog 119 [.str id] [] [] 0 0 (.str (joinB clientW [id])) [] := by
  refine Ctr.shut (m := 0) (k := 1) ?_ rfl rfl
  refine Ctr.introR (T := Tryz.T) Tryz.hT Tryz.hM puCl_ok Tryz.func119 rfl (by kernel_rfl) rfl rfl rfl rfl ?_
  conv => whnf
  refine callR [0] (join1 clientW [id] (by decide) (fun s hs => by simp only [List.mem_cons, List.not_mem_nil, or_false] at hs; subst hs; exact h) (by simp)) rfl rfl rfl rfl trivial ⟨rfl, trivial⟩ ?_
  conv => whnf
  exact Fin.same rfl rfl (by simp)
def clientV (chain key : ByteArray) (h : Int) (frozen : Int) : ByteArray := catB (catB (catB (textS chain) (textS key)) (numS h)) (numS frozen)
theorem clientV_le (chain key : ByteArray) (h f : Int) : (clientV chain key h f).size ≤ 131200 := by
  have := textS_size chain; have := textS_size key; have := numS_size h; have := numS_size f
  unfold clientV; rw [cat_size, cat_size, cat_size]; omega
theorem cput {L : List KV} (hs : Srt L) (hr : (L.length + 1) * 2 ≤ room) (id chain key : ByteArray) (h : Int) (hid : id.size ≤ 140737488355328) (hk : (joinB clientW [id]).size ≤ 65536) (hv : (clientV chain key h 0).size ≤ 65536) :
    Ctr Tryz.prog 80 [.ptr 0 0, .str id, .agg [.str chain, .str key, .int .i64 h, .bool false]] [] [(0, jour L)] 1 1 (.tup []) [(0, jour (setL L (joinB clientW [id]) (clientV chain key h 0)))] := by
  have h1 := textS_size chain; have h2 := textS_size key; have h3 := numS_size h; have h4 := numS_size 0
  refine Ctr.introR (T := Tryz.T) Tryz.hT Tryz.hM puCl_ok Tryz.func80 rfl (by kernel_rfl) rfl rfl rfl rfl ?_
  conv => whnf
  refine callR [] (ckey id hid) rfl rfl rfl rfl trivial trivial ?_
  conv => whnf
  refine ⟨by unfold big; omega, ?_⟩
  conv => whnf
  refine ⟨by rw [cat_size]; unfold big; omega, ?_⟩
  conv => whnf
  refine ⟨by rw [cat_size, cat_size]; unfold big; omega, ?_⟩
  conv => whnf
  refine callR [0] (jsetP hs (joinB clientW [id]) (clientV chain key h 0) hr hk hv) rfl rfl rfl rfl trivial ⟨rfl, trivial⟩ ?_
  conv => whnf
  exact .mk' [] rfl rfl rfl rfl rfl rfl ⟨rfl, trivial⟩
theorem rdNew : Ctr Tryz.prog 75 [.str ⟨#[]⟩] [] [] 0 1 (.ptr 0 0) [(0, .box 174 [.str ⟨⟨[]⟩⟩, .int .i64 (.ofNat 0)])] :=
  Tryz.ev_ok 80 (show Tryz.ev 80 75 [.str ⟨#[]⟩] [] [] 0 = .ok (.ptr 0 0, [(0, .box 174 [.str ⟨⟨[]⟩⟩, .int .i64 (.ofNat 0)])], 1) by kernel_rfl)
theorem rdNum : Ctr Tryz.prog 76 [.ptr 0 0] [] [(0, .box 174 [.str ⟨⟨[]⟩⟩, .int .i64 (.ofNat 0)])] 1 1 (.int .i64 (.ofNat 0)) [(0, .box 174 [.str ⟨⟨[]⟩⟩, .int .i64 (.ofNat 5)])] :=
  Tryz.ev_ok 80 (show Tryz.ev 80 76 [.ptr 0 0] [(0, .box 174 [.str ⟨⟨[]⟩⟩, .int .i64 (.ofNat 0)])] [] 1 = .ok (.int .i64 (.ofNat 0), [(0, .box 174 [.str ⟨⟨[]⟩⟩, .int .i64 (.ofNat 5)])], 1) by kernel_rfl)
theorem rdDone : Ctr Tryz.prog 77 [.ptr 0 0] [] [(0, .box 174 [.str ⟨⟨[]⟩⟩, .int .i64 (.ofNat 5)])] 1 1 (.int .i64 (.ofNat 5)) [(0, .box 174 [.str ⟨⟨[]⟩⟩, .int .i64 (.ofNat 5)])] :=
  Tryz.ev_ok 80 (show Tryz.ev 80 77 [.ptr 0 0] [(0, .box 174 [.str ⟨⟨[]⟩⟩, .int .i64 (.ofNat 5)])] [] 1 = .ok (.int .i64 (.ofNat 5), [(0, .box 174 [.str ⟨⟨[]⟩⟩, .int .i64 (.ofNat 5)])], 1) by kernel_rfl)
def client0 : ByteArray := ⟨#[99, 108, 105, 101, 110, 116, 45, 48]⟩
theorem mk0 : Ctr Tryz.prog 78 [.int .i64 3, .int .i64 0] [] [] 0 0 (.tup [.str client0, .int .i64 0]) [] := Ctr.shut (m := 0) (k := 1) (Tryz.ev_ok 80 (show Tryz.ev 80 78 [.int .i64 3, .int .i64 0] [] [] 0 = .ok (.tup [.str client0, .int .i64 0], [], 1) by kernel_rfl)) rfl rfl
/-- A new client in a journal that has nothing. -/
theorem cnew {chain key : ByteArray} (hc : plainB chain = true) (hk : key.size ≤ 100) (hv : (clientV chain key 0 0).size ≤ 65536) :
    Ctr Tryz.prog 47 [.ptr 0 0, .str chain, .str key] [] [(0, jour [])] 1 1 (.tup [.str client0, .int .i64 0]) [(0, jour (setL (setL [] (joinB nextW [clientW]) (numS 1)) (joinB clientW [client0]) (clientV chain key 0 0)))] := by
  have hsz : chain.size ≤ 64 := by
    unfold plainB at hc
    simp only [Bool.and_eq_true, decide_eq_true_eq] at hc
    exact hc.1.2
  refine Ctr.introR (T := Tryz.T) Tryz.hT Tryz.hM puCl_ok Tryz.func47 rfl (by kernel_rfl) rfl rfl rfl rfl ?_
  conv => whnf
  refine callR [] (check1 chain (by omega)) rfl rfl rfl rfl trivial trivial ?_
  rw [show nameE chain = 0 by simp [nameE, hc]]
  conv => whnf
  rw [show decide ((65536 : Int) < (key.size : Int)) = false by simp; omega]
  conv => whnf
  refine callR [1] (join1 nextW [clientW] (by decide) (fun s hs => by simp only [List.mem_cons, List.not_mem_nil, or_false] at hs; subst hs; decide) (by simp)) rfl rfl rfl rfl trivial ⟨rfl, trivial⟩ ?_
  conv => whnf
  refine callR [0] (jgetP srt_nil (joinB nextW [clientW]) (by decide)) rfl rfl rfl rfl trivial ⟨rfl, trivial⟩ ?_
  rw [show getL [] (joinB nextW [clientW]) = ⟨#[]⟩ from rfl]
  conv => whnf
  refine callR [] rdNew rfl rfl rfl rfl trivial trivial ?_
  conv => whnf
  refine callR [2] rdNum rfl rfl rfl rfl trivial ⟨rfl, trivial⟩ ?_
  conv => whnf
  refine callR [2] rdDone rfl rfl rfl rfl trivial ⟨rfl, trivial⟩ ?_
  conv => whnf
  refine callR [] mk0 rfl rfl rfl rfl trivial trivial ?_
  conv => whnf
  refine callR [0] (jsetP srt_nil (joinB nextW [clientW]) (numS 1) (by decide) (by decide) (by have := numS_size 1; omega)) rfl rfl rfl rfl trivial ⟨rfl, trivial⟩ ?_
  conv => whnf
  refine callR [0] (cput (setL_srt srt_nil _ _) (by decide) client0 chain key 0 (by decide) (by decide) hv) rfl rfl rfl rfl trivial ⟨rfl, trivial⟩ ?_
  conv => whnf
  exact .mk' [] rfl rfl rfl rfl rfl rfl ⟨rfl, trivial⟩
def adminW : ByteArray := ⟨#[97, 100, 109, 105, 110]⟩
theorem plain_sz {s : ByteArray} (hc : plainB s = true) : s.size ≤ 64 := by
  unfold plainB at hc
  simp only [Bool.and_eq_true, decide_eq_true_eq] at hc
  exact hc.1.2
theorem name_ok {s : ByteArray} (hc : plainB s = true) : nameE s = 0 := by simp [nameE, hc]
theorem name_no {s : ByteArray} (hc : plainB s = false) : nameE s = 7 := by simp [nameE, hc]
theorem setadm {L : List KV} (hs : Srt L) (hr : (L.length + 1) * 2 ≤ room) {who : ByteArray} (hw : plainB who = true) : Ctr Tryz.prog 48 [.ptr 0 0, .str who] [] [(0, jour L)] 1 1 (.int .i64 0) [(0, jour (setL L adminW who))] := by
  have hsz := plain_sz hw
  refine Ctr.introR (T := Tryz.T) Tryz.hT Tryz.hM puCl_ok Tryz.func48 rfl (by kernel_rfl) rfl rfl rfl rfl ?_
  conv => whnf
  refine callR [] (check1 who (by omega)) rfl rfl rfl rfl trivial trivial ?_
  rw [name_ok hw]
  conv => whnf
  refine callR [0] (jsetP hs adminW who hr (by decide) (by omega)) rfl rfl rfl rfl trivial ⟨rfl, trivial⟩ ?_
  conv => whnf
  exact .mk' [] rfl rfl rfl rfl rfl rfl ⟨rfl, trivial⟩
end Go.Proofs.YtglkoaajgekonaaGreatDoor
