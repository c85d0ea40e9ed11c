/- strings.Builder with room, as contracts. -/
import Derived.Test.YtglkoaajgekonaaGreatDoorBld
import Derived.Test.YtglkoaajgekonaaGreatDoorSXBF
namespace Go.Proofs.YtglkoaajgekonaaGreatDoor
open Go.SX
set_option maxRecDepth 20000 in
theorem ws_row (a t : ByteArray) (ys : List UInt8) (L : Nat) (hL : L = a.size) (hroom : L + t.size ≤ a.size + ys.length) :
  Ctr Tryz.prog 129 [.ptr 0 0, .str t] [] [(1, rowY 5 a ys), (0, .box 154 [.ptr 0 0, .sv 1 1 0 L none])] 2 2 (.tup [.int .i64 t.size, .nili])
   [(1, rowY 5 (a ++ t) (ys.drop t.size)), (0, .box 154 [.ptr 0 0, .sv 1 1 0 (L + t.size) none])] := by
 refine Ctr.introR (T := Tryz.T) Tryz.hT Tryz.hM Tryz.hE Tryz.func129 rfl (by kernel_rfl) rfl rfl ?_ rfl ?_
 ·have h1 := rowY_ok 5 a ys 2
  have h2 : okR 2 (.box 154 [.ptr 0 0, .sv 1 1 0 L none]) = true := by simp [okR, okL_cons, okL_nil, okA_ptr, okA_sv]
  simp [okH_all, h1, h2]
 conv => whnf
 refine callR [0, 1] (cc_used' (h := 0) (n := 2) (e := 154) (buf := .sv 1 1 0 L none) (rest := []) rfl (by simp [okL_cons, okL_nil, okA_sv])) rfl rfl rfl rfl trivial ⟨rfl, trivial⟩ ?_
 conv => whnf
 have e1 : List.take t.size (bytesA t) = u8A t.data.toList := by rw [bytesA_u8]; exact List.take_of_length_le (by rw [u8A_len]; exact Nat.le_refl _)
 have e2 : (u8A t.data.toList).all leafA = true := bare_leaf (u8A_bare _)
 rw [e1, e2]
 cases hk : Nat.beq t.size 0 with
 | true =>
  have hk0 := Nat.eq_of_beq_eq_true hk
  have ht : t = ⟨#[]⟩ := by
   cases t with
   | mk d => cases d with
    | mk l => cases l with
     | nil => rfl
     | cons x l => simp [ByteArray.size] at hk0
  conv => whnf
  rw [hk]
  conv => whnf
  subst ht
  have e3 : a ++ ⟨#[]⟩ = a := by
   apply ByteArray.ext
   rw [ByteArray.data_append]
   simp
  rw [e3]
  refine Fin.same ?_ rfl ?_
  ·have h1 := rowY_ok 5 a (ys.drop (ByteArray.mk #[]).size) 2
   have h2 : okR 2 (.box 154 [.ptr 0 0, .sv 1 1 0 (L + (ByteArray.mk #[]).size) none]) = true := by simp [okR, okL_cons, okL_nil, okA_ptr, okA_sv]
   simp [okH_all, h1, h2]
  ·intro p hp
   simp only [List.mem_cons, List.not_mem_nil, or_false] at hp
   rcases hp with rfl | rfl <;> rfl
 | false =>
  have hk0 : t.size ≠ 0 := by intro e; rw [e] at hk; cases hk
  conv => whnf
  rw [hk]
  conv => whnf
  have h3 : ((0 + L) * 1).ble (u8A (a.data.toList ++ ys)).length = true := Nat.ble_eq_true_of_le (by rw [u8A_len, List.length_append, size_data]; omega)
  rw [h3]
  conv => whnf
  refine bcase_intro (fun hb => ?_) (fun hb => ?_)
  ·conv => whnf
   have e5 : splice (u8A (a.data.toList ++ ys)) ((0 + L) * 1) (u8A t.data.toList) = u8A ((a ++ t).data.toList ++ ys.drop t.size) := by
    rw [u8A_app, splice_mid (by rw [u8A_len, size_data]; omega), u8A_len, size_data]
    rw [ByteArray.data_append, Array.toList_append]
    simp [u8A]
   rw [e5, spine_rec]
   conv => whnf
   refine Fin.same ?_ rfl ?_
   ·have h1 := rowY_ok 5 (a ++ t) (ys.drop t.size) 2
    have h2 : okR 2 (.box 154 [.ptr 0 0, .sv 1 1 0 (L + t.size) none]) = true := by simp [okR, okL_cons, okL_nil, okA_ptr, okA_sv]
    simp [okH_all, h1, h2]
   ·intro p hp
    simp only [List.mem_cons, List.not_mem_nil, or_false] at hp
    rcases hp with rfl | rfl
    ·rfl
    ·rfl
  ·exfalso
   have h4 : Nat.ble ((0 + L + t.size) * 1) (u8A (a.data.toList ++ ys)).length = true := Nat.ble_eq_true_of_le (by rw [u8A_len, List.length_append, size_data]; omega)
   rw [h4] at hb; cases hb
theorem ws_buf (a t b : ByteArray) (N : Nat) (hb : a ++ t = b) (hN : b.size ≤ N) :
  Ctr Tryz.prog 129 [.ptr 0 0, .str t] [] [(1, bufR 5 a N), (0, .box 154 [.ptr 0 0, .sv 1 1 0 a.size none])] 2 2 (.tup [.int .i64 t.size, .nili])
   [(1, bufR 5 b N), (0, .box 154 [.ptr 0 0, .sv 1 1 0 b.size none])] := by
 have hsz : b.size = a.size + t.size := by rw [← hb, ByteArray.size_append]
 refine Ctr.buf fun ys hy => ?_
 rw [hsz]
 refine (ws_row a t ys a.size rfl (by omega)).relax (.cons ?_ (CastH.refl _))
 rw [← hb]
 exact Casts.buf (by rw [ByteArray.size_append, List.length_drop]; omega)
theorem st_buf (a : ByteArray) (N : Nat) (h0 : 0 < a.size) (h63 : a.size ≤ 9223372036854775807) :
  Ctr Tryz.prog 97 [.ptr 0 0] [] [(1, bufR 5 a N), (0, .box 154 [.ptr 0 0, .sv 1 1 0 a.size none])] 2 2 (.str a)
   [(0, .box 154 [.ptr 0 0, .sv 1 1 0 a.size none]), (1, .gone)] := by
 refine Ctr.buf fun ys hy => ?_
 have c := (st_row (e := 154) (i := 0) (k := a.size) (rc := none) (rest := []) (cs := u8A (a.data.toList ++ ys)) (s := a) rfl (u8A_bare _) rfl h0 h63 (by
  rw [List.drop_zero, u8A_app, List.take_left' (by rw [u8A_len, size_data]), bytesA_u8])).lift (N := 2) (R' := []) (pre' := [(1, rowY 5 a ys), (0, .box 154 [.ptr 0 0, .sv 1 1 0 a.size none])]) [0, 1] rfl rfl rfl
   (by
    intro k x hk
    have e : renH (sg [0, 1] 2) [(0, Res.box 154 [.ptr 0 0, .sv 1 1 0 a.size none]), (1, Res.row 5 1 (u8A (a.data.toList ++ ys)) none)] = [(0, .box 154 [.ptr 0 0, .sv 1 1 0 a.size none]), (1, rowY 5 a ys)] := by
     show [(0, _), (1, Res.row 5 1 (renL _ (u8A (a.data.toList ++ ys))) none)] = _
     rw [bare_ren (u8A_bare _)]; rfl
    rw [e] at hk
    simp only [look_cons, lookN] at hk ⊢
    split at hk
    ·rename_i e0; subst e0; cases hk; rfl
    ·split at hk
     ·rename_i e1; subst e1; cases hk; rfl
     ·cases hk) rfl
 exact c
set_option maxRecDepth 20000 in
theorem gr_buf {e k : Nat} {rest : List AV} (hr : rest.all bareA = true) (hk : k ≤ 281474976710656) :
  Ctr Tryz.prog 163 [.ptr 0 0, .int .i64 k] [] [(0, .box e (.ptr 0 0 :: .nils :: rest))] 1 2 (.tup []) [(0, .box e (.ptr 0 0 :: .sv 1 1 0 0 none :: rest)), (1, bufR 5 ⟨#[]⟩ k)] := by
 refine Ctr.introR (T := Tryz.T) Tryz.hT Tryz.hM Tryz.hE Tryz.func163 rfl (by kernel_rfl) rfl rfl ?_ rfl ?_
 ·simp [okH_all, okR, okL_cons, okA_nils, okA_ptr, bare_ok hr]
 ·conv => whnf
  have hw : IntKind.i64.wrap (IntKind.i64.wrap (2 * 0) + (k : Int)) = (k : Int) := by
   have h0 : IntKind.i64.wrap (2 * 0) = 0 := rfl
   rw [h0, Int.zero_add, wrap_small] <;> omega
  simp only [hw]
  refine call0 fun hcall => ?_
  have hc2 : IsCall _ _ 168 [.int .i64 (k : Int)] := hcall
  have tr := @triple_makeBuf _ _ _ 1 168 120 5 k _ nz hc2 hk
  refine stop0 tr (Nat.le_succ 1) sub_nil sub_nil rfl ?_
  clear tr hcall
  conv => whnf
  refine ⟨by simp [capE], ?_⟩
  conv => whnf
  clear hc2
  simp only [spine_rec]
  conv => whnf
  refine Fin.same ?_ rfl ?_
  ·have h2 := bufR_ok 5 ⟨#[]⟩ k 2
   have h1 : okR 2 (.box e (.ptr 0 0 :: .sv 1 1 0 0 none :: rest)) = true := by simp [okR, okL_cons, okL_nil, okA_sv, okA_ptr, bare_ok hr]
   simp [okH_all, h2, h1]
  ·intro p hp
   simp only [List.mem_cons, List.not_mem_nil, or_false] at hp
   rcases hp with rfl | rfl
   ·simp [look_cons, cellsOf]
   ·rfl
set_option maxRecDepth 20000 in
theorem Grow_buf {k : Nat} (h0 : 0 < k) (hk : k ≤ 281474976710656) :
  Ctr Tryz.prog 146 [.ptr 0 0, .int .i64 k] [] [(0, .box 154 [.nilp, .nils])] 1 2 (.tup []) [(0, .box 154 [.ptr 0 0, .sv 1 1 0 0 none]), (1, bufR 5 ⟨#[]⟩ k)] := by
 refine Ctr.introR (T := Tryz.T) Tryz.hT Tryz.hM Tryz.hE Tryz.func146 rfl (by kernel_rfl) rfl rfl rfl rfl ?_
 conv => whnf
 refine callR [0] (bld.fresh (e := 154) (rest := []) rfl (by simp)) rfl rfl rfl rfl trivial ⟨rfl, trivial⟩ ?_
 conv => whnf
 refine bcase_intro (fun h => ?_) (fun h => ?_)
 ·conv => whnf
  refine callR [0] (gr_buf (e := 154) (rest := []) rfl hk) rfl rfl rfl rfl trivial ⟨rfl, trivial⟩ ?_
  conv => whnf
  refine Fin.same ?_ rfl ?_
  ·have h2 := bufR_ok 5 ⟨#[]⟩ k 2
   have h1 : okR 2 (.box 154 [.ptr 0 0, .sv 1 1 0 0 none]) = true := by simp [okR, okL_cons, okL_nil, okA_sv, okA_ptr]
   simp [okH_all, h2, h1]
  ·intro p hp
   simp only [List.mem_cons, List.not_mem_nil, or_false] at hp
   rcases hp with rfl | rfl <;> rfl
 ·exfalso
  have e : IntKind.i64.wrap 0 = 0 := rfl
  simp [e] at h
  omega
set_option maxRecDepth 20000 in
theorem count1 (s : ByteArray) (c : UInt8) : Ctr Tryz.prog 145 [.str s, .str ⟨⟨[c]⟩⟩] [] [] 0 0 (.int .i64 (cntA s.data.toList c.toNat 0)) [] := by
 refine Ctr.introR (T := Tryz.T) Tryz.hT Tryz.hM Tryz.hE Tryz.func145 rfl (by kernel_rfl) rfl rfl rfl rfl ?_
 conv => whnf
 refine ⟨by have e : (ByteArray.mk ⟨[c]⟩).size = 1 := rfl; rw [e]; decide, ?_⟩
 conv => whnf
 have e : (byteAt { data := { toList := [c] } } 0).toNat % 256 = c.toNat := by
  have h : byteAt { data := { toList := [c] } } 0 = (c.toNat : Int) := rfl
  rw [h, Int.toNat_natCast]
  exact Nat.mod_eq_of_lt c.toNat_lt
 rw [e]
 exact Fin.same rfl rfl (by simp)
set_option maxRecDepth 20000 in
theorem indexB1 (s : ByteArray) (c : UInt8) : Ctr Tryz.prog 169 [.str s, .int .u8 c.toNat] [] [] 0 0 (.int .i64 (idxA s.data.toList c.toNat 0)) [] := by
 refine Ctr.introR (T := Tryz.T) Tryz.hT Tryz.hM Tryz.hE Tryz.func169 rfl (by kernel_rfl) rfl rfl rfl rfl ?_
 conv => whnf
 have e : ((c.toNat : Int).toNat) % 256 = c.toNat := by rw [Int.toNat_natCast]; exact Nat.mod_eq_of_lt c.toNat_lt
 rw [e]
 exact Fin.same rfl rfl (by simp)
set_option maxRecDepth 20000 in
theorem index0 (s : ByteArray) (c : UInt8) : Ctr Tryz.prog 164 [.str s, .str ⟨⟨[c]⟩⟩] [] [] 0 0 (.int .i64 (idxA s.data.toList c.toNat 0)) [] := by
 refine Ctr.introR (T := Tryz.T) Tryz.hT Tryz.hM Tryz.hE Tryz.func164 rfl (by kernel_rfl) rfl rfl rfl rfl ?_
 conv => whnf
 cases he : eqB { data := { toList := [c] } } s with
 | true =>
  conv => whnf
  have hs : s = ⟨⟨[c]⟩⟩ := by
   rw [eqB_eq] at he
   exact (of_decide_eq_true he).symm
  have e : idxA s.data.toList c.toNat 0 = 0 := by
   rw [hs]
   show (match Nat.beq c.toNat c.toNat with | true => Int.ofNat 0 | false => _) = _
   rw [Nat.beq_refl]; rfl
  rw [e]
  exact Fin.same rfl rfl (by simp)
 | false =>
  conv => whnf
  refine ⟨by have e : (ByteArray.mk ⟨[c]⟩).size = 1 := rfl; rw [e]; decide, ?_⟩
  conv => whnf
  refine callR [] (indexB1 s c) rfl rfl rfl rfl trivial trivial ?_
  conv => whnf
  exact Fin.same rfl rfl (by simp)
set_option maxRecDepth 20000 in
theorem index1 (s : ByteArray) (c : UInt8) : Ctr Tryz.prog 147 [.str s, .str ⟨⟨[c]⟩⟩] [] [] 0 0 (.int .i64 (idxA s.data.toList c.toNat 0)) [] := by
 refine Ctr.introR (T := Tryz.T) Tryz.hT Tryz.hM Tryz.hE Tryz.func147 rfl (by kernel_rfl) rfl rfl rfl rfl ?_
 conv => whnf
 refine callR [] (index0 s c) rfl rfl rfl rfl trivial trivial ?_
 conv => whnf
 exact Fin.same rfl rfl (by simp)
set_option maxRecDepth 20000 in
theorem replace1 (s : ByteArray) (c y : UInt8) (hN : s.size + s.data.toList.count c ≤ 281474976710656) (hm : s.size ≤ 9223372036854775807) :
  Ctr Tryz.prog 128 [.str s, .str ⟨⟨[c]⟩⟩, .str ⟨⟨[37, y]⟩⟩, .int .i64 (-1)] [] [] 0 0 (.str (ofL (repl c y s.data.toList))) [] := by
 refine Ctr.introR (T := Tryz.T) Tryz.hT Tryz.hM Tryz.hE Tryz.func128 rfl (by kernel_rfl) rfl rfl rfl rfl ?_
 conv => whnf
 cases he : eqB { data := { toList := [c] } } { data := { toList := [37, y] } } with
 | true =>
  exfalso
  rw [eqB_eq] at he
  have := congrArg ByteArray.size (of_decide_eq_true he)
  cases this
 | false =>
 conv => whnf
 refine callR [] (count1 s c) rfl rfl rfl rfl trivial trivial ?_
 rw [cntA_eq]
 conv => whnf
 cases hz : decide (((List.count c s.data.toList : Nat) : Int) = 0) with
 | true =>
  conv => whnf
  have hz0 : List.count c s.data.toList = 0 := by simpa using hz
  have e : ofL (repl c y s.data.toList) = s := by rw [repl_no (List.count_eq_zero.1 hz0)]; rfl
  rw [e]
  exact Fin.same rfl rfl (by simp)
 | false =>
 have hn0 : 0 < List.count c s.data.toList := by
  have : ¬ ((List.count c s.data.toList : Nat) : Int) = 0 := by simpa using hz
  omega
 have hcl : List.count c s.data.toList ≤ s.size := List.count_le_length
 conv => whnf
 have ew : IntKind.i64.wrap ((s.size : Int) + IntKind.i64.wrap (((List.count c s.data.toList : Nat) : Int) * IntKind.i64.wrap (((ByteArray.mk ⟨[37, y]⟩).size : Int) - ((ByteArray.mk ⟨[c]⟩).size : Int)))) = ((s.size + List.count c s.data.toList : Nat) : Int) := by
  have e1 : IntKind.i64.wrap (((ByteArray.mk ⟨[37, y]⟩).size : Int) - ((ByteArray.mk ⟨[c]⟩).size : Int)) = 1 := rfl
  rw [e1, Int.mul_one, wrap_nat (by omega), ← Int.natCast_add, wrap_nat (by omega)]
 simp only [ew]
 refine callR [0] (Grow_buf (k := s.size + List.count c s.data.toList) (by omega) hN) rfl rfl rfl rfl trivial ⟨rfl, trivial⟩ ?_
 conv => whnf
 have hdata : s.data.toList.length = s.size := rfl
 have szR : ∀ p, p ≤ s.size → (ofL (repl c y (s.data.toList.take p))).size = p + List.count c (s.data.toList.take p) := fun p hp => by
  rw [ofL_size, repl_len, List.length_take, hdata, Nat.min_eq_left hp]
 have cle : ∀ p, List.count c (s.data.toList.take p) ≤ List.count c s.data.toList := fun p => (List.take_sublist p _).count_le c
 refine loopR Tryz.hT Tryz.hM Tryz.hE (α := {p : Nat // p ≤ s.size})
  (fun p => ([(0, .str s), (1, .str ⟨⟨[c]⟩⟩), (2, .str ⟨⟨[37, y]⟩⟩), (10, .ptr 0 0), (11, .int .i64 (p.1 : Int)), (52, .int .i64 ((List.count c s.data.toList : Nat) : Int)), (53, .int .i64 ((List.count c (s.data.toList.take p.1) : Nat) : Int))],
   [(1, bufR 5 (ofL (repl c y (s.data.toList.take p.1))) (s.size + List.count c s.data.toList)), (0, .box 154 [.ptr 0 0, .sv 1 1 0 (ofL (repl c y (s.data.toList.take p.1))).size none])]))
  (fun p => s.size - p.1) 2 ⟨0, Nat.zero_le _⟩ [] ?_ ?_
 ·refine Incl.same ?_ ?_ rfl ?_ rfl (Nat.zero_le _) rfl
  ·intro p hp
   simp only [List.mem_cons, List.not_mem_nil, or_false] at hp
   rcases hp with rfl | rfl | rfl | rfl | rfl | rfl | rfl <;> rfl
  ·intro p hp
   simp only [List.mem_cons, List.not_mem_nil, or_false] at hp
   rcases hp with rfl | rfl <;> rfl
  ·have h1 := bufR_ok 5 (ofL (repl c y (s.data.toList.take 0))) (s.size + List.count c s.data.toList) 2
   have h2 : okR 2 (.box 154 [.ptr 0 0, .sv 1 1 0 (ofL (repl c y (s.data.toList.take 0))).size none]) = true := by simp [okR, okL_cons, okL_nil, okA_ptr, okA_sv]
   rw [okH_all]; simp only [List.all_cons, List.all_nil, Bool.and_true, h1, h2]; rfl
 ·rintro ⟨p, hp⟩
  dsimp only
  conv => whnf
  refine bcase_intro (fun h => ?_) (fun h => ?_)
  ·have hlt : List.count c (s.data.toList.take p) < List.count c s.data.toList := by have := of_decide_eq_true h; omega
   have hsplit : List.count c (s.data.toList.take p) + List.count c (s.data.toList.drop p) = List.count c s.data.toList := by rw [← List.count_append, List.take_append_drop]
   obtain ⟨k, hk1, hk2, hk3, hk4⟩ := idxA_eq c (s.data.toList.drop p) 0 (by omega)
   rw [Nat.zero_add] at hk1
   have hk2' : p + k < s.size := by rw [List.length_drop, hdata] at hk2; omega
   have hsub : (subB s p s.size).data.toList = s.data.toList.drop p := by
    show (s.data.toList.drop p).take (s.size - p) = _
    exact List.take_of_length_le (by rw [List.length_drop, hdata]; exact Nat.le_refl _)
   conv => whnf
   refine ⟨⟨by omega, by exact_mod_cast hp⟩, ?_⟩
   simp only [Int.toNat_natCast]
   conv => whnf
   refine callR (r' := .int .i64 ((k : Nat) : Int)) [] (index1 (subB s p s.size) c) rfl (by show AV.int _ _ = _; rw [hsub, hk1]) rfl rfl trivial trivial ?_
   conv => whnf
   have ej : IntKind.i64.wrap ((p : Int) + (k : Int)) = ((p + k : Nat) : Int) := by rw [← Int.natCast_add, wrap_nat (by omega)]
   simp only [ej]
   refine ⟨⟨by omega, by omega, by exact_mod_cast (by omega : p + k ≤ s.size)⟩, ?_⟩
   simp only [Int.toNat_natCast]
   conv => whnf
   have hs1 : subB s p (p + k) = ofL ((s.data.toList.drop p).take k) := by rw [subB_ofL]; congr 2; omega
   have hcat1 : ofL (repl c y (s.data.toList.take p)) ++ ofL ((s.data.toList.drop p).take k) = ofL (repl c y (s.data.toList.take (p + k))) := by
    rw [ofL_app, List.take_add, repl_app, repl_no hk4]
   have htk : s.data.toList.take (p + k + 1) = s.data.toList.take (p + k) ++ [c] := by
    rw [Nat.add_assoc, List.take_add, hk3, ← List.append_assoc, ← List.take_add]
   have hcat2 : ofL (repl c y (s.data.toList.take (p + k))) ++ ofL [37, y] = ofL (repl c y (s.data.toList.take (p + k + 1))) := by
    rw [ofL_app, htk, repl_app, repl_one]
   have hc1 : List.count c (s.data.toList.take (p + k)) = List.count c (s.data.toList.take p) := by
    rw [List.take_add, List.count_append, List.count_eq_zero.2 hk4, Nat.add_zero]
   have hc2 : List.count c (s.data.toList.take (p + k + 1)) = List.count c (s.data.toList.take p) + 1 := by
    rw [htk, List.count_append, hc1]; simp
   simp only [hs1]
   refine callR [0, 1] (ws_buf _ _ _ (s.size + List.count c s.data.toList) hcat1 (by rw [szR _ (by omega)]; have := cle (p + k); omega)) rfl rfl rfl rfl trivial ⟨rfl, rfl, trivial⟩ ?_
   conv => whnf
   refine callR [0, 1] (ws_buf _ _ _ (s.size + List.count c s.data.toList) hcat2 (by rw [szR _ (by omega)]; have := cle (p + k + 1); omega)) rfl rfl rfl rfl trivial ⟨rfl, rfl, trivial⟩ ?_
   conv => whnf
   have e72 : IntKind.i64.wrap (((p + k : Nat) : Int) + ((ByteArray.mk ⟨[c]⟩).size : Int)) = ((p + k + 1 : Nat) : Int) := by
    show IntKind.i64.wrap (((p + k : Nat) : Int) + ((1 : Nat) : Int)) = _
    rw [← Int.natCast_add, wrap_nat (by omega)]
   have e73 : IntKind.i64.wrap (((List.count c (s.data.toList.take p) : Nat) : Int) + 1) = ((List.count c (s.data.toList.take (p + k + 1)) : Nat) : Int) := by
    rw [hc2]
    show IntKind.i64.wrap (((List.count c (s.data.toList.take p) : Nat) : Int) + ((1 : Nat) : Int)) = _
    rw [← Int.natCast_add, wrap_nat (by omega)]
   simp only [e72, e73]
   refine ⟨⟨p + k + 1, by omega⟩, [], by show s.size - (p + k + 1) < s.size - p; omega, Incl.same ?_ ?_ rfl ?_ rfl (Nat.zero_le _) rfl⟩
   ·intro q hq
    simp only [List.mem_cons, List.not_mem_nil, or_false] at hq
    rcases hq with rfl | rfl | rfl | rfl | rfl | rfl | rfl <;> rfl
   ·intro q hq
    simp only [List.mem_cons, List.not_mem_nil, or_false] at hq
    rcases hq with rfl | rfl <;> rfl
   ·have h1 := bufR_ok 5 (ofL (repl c y (s.data.toList.take (p + k + 1)))) (s.size + List.count c s.data.toList) 2
    have h2 : okR 2 (.box 154 [.ptr 0 0, .sv 1 1 0 (ofL (repl c y (s.data.toList.take (p + k + 1)))).size none]) = true := by simp [okR, okL_cons, okL_nil, okA_ptr, okA_sv]
    rw [okH_all]; simp only [List.all_cons, List.all_nil, Bool.and_true, h1, h2]; rfl
  ·have hge : List.count c s.data.toList ≤ List.count c (s.data.toList.take p) := by have := of_decide_eq_false h; omega
   have hsplit : List.count c (s.data.toList.take p) + List.count c (s.data.toList.drop p) = List.count c s.data.toList := by rw [← List.count_append, List.take_append_drop]
   have hno : c ∉ s.data.toList.drop p := List.count_eq_zero.1 (by omega)
   have hs2 : subB s p s.size = ofL (s.data.toList.drop p) := by
    rw [subB_ofL, List.take_of_length_le (by rw [List.length_drop, hdata]; exact Nat.le_refl _)]
   have hcat : ofL (repl c y (s.data.toList.take p)) ++ ofL (s.data.toList.drop p) = ofL (repl c y s.data.toList) := by
    rw [ofL_app]
    conv => rhs; rw [← List.take_append_drop p s.data.toList, repl_app, repl_no hno]
   have hszF : (ofL (repl c y s.data.toList)).size = s.size + List.count c s.data.toList := by rw [ofL_size, repl_len, hdata]
   conv => whnf
   refine ⟨⟨by omega, by exact_mod_cast hp⟩, ?_⟩
   simp only [Int.toNat_natCast, hs2]
   conv => whnf
   refine callR [0, 1] (ws_buf _ _ _ (s.size + List.count c s.data.toList) hcat (by rw [hszF]; exact Nat.le_refl _)) rfl rfl rfl rfl trivial ⟨rfl, rfl, trivial⟩ ?_
   conv => whnf
   refine callR [0, 1] (st_buf _ _ (by rw [hszF]; omega) (by rw [hszF]; omega)) rfl rfl rfl rfl trivial ⟨rfl, rfl, trivial⟩ ?_
   conv => whnf
   exact Fin.same rfl rfl (by simp)
set_option maxRecDepth 20000 in
theorem replaceAll1 (s : ByteArray) (c y : UInt8) (hN : s.size + s.data.toList.count c ≤ 281474976710656) (hm : s.size ≤ 9223372036854775807) :
  Ctr Tryz.prog 93 [.str s, .str ⟨⟨[c]⟩⟩, .str ⟨⟨[37, y]⟩⟩] [] [] 0 0 (.str (ofL (repl c y s.data.toList))) [] := by
 refine Ctr.introR (T := Tryz.T) Tryz.hT Tryz.hM Tryz.hE Tryz.func93 rfl (by kernel_rfl) rfl rfl rfl rfl ?_
 conv => whnf
 refine callR [] (replace1 s c y hN hm) rfl rfl rfl rfl trivial trivial ?_
 conv => whnf
 exact Fin.same rfl rfl (by simp)
set_option maxRecDepth 20000 in
theorem hidden1 (s : ByteArray) (hm : s.size ≤ 140737488355328) : Ctr Tryz.prog 57 [.str s] [] [] 0 0 (.str (hid s)) [] := by
 have hc := count_two (c := 37) (d := 47) (by decide) s.data.toList
 have hd : s.data.toList.length = s.size := rfl
 refine Ctr.introR (T := Tryz.T) Tryz.hT Tryz.hM Tryz.hE Tryz.func57 rfl (by kernel_rfl) rfl rfl rfl rfl ?_
 conv => whnf
 refine callR [] (replaceAll1 s 37 112 (by omega) (by omega)) rfl rfl rfl rfl trivial trivial ?_
 conv => whnf
 refine callR [] (replaceAll1 (ofL (repl 37 112 s.data.toList)) 47 115 ?_ ?_) rfl rfl rfl rfl trivial trivial ?_
 ·show (ofL (repl 37 112 s.data.toList)).size + List.count 47 (repl 37 112 s.data.toList) ≤ _
  rw [ofL_size, repl_len, repl_count (by decide) (by decide) (by decide)]; omega
 ·rw [ofL_size, repl_len]; omega
 conv => whnf
 exact Fin.same rfl rfl (by simp)
set_option maxRecDepth 20000 in
theorem join1 (w : ByteArray) (l : List ByteArray) (hw : w.size ≤ 140737488355328) (hl : ∀ p ∈ l, p.size ≤ 140737488355328) (hn : l.length ≤ 1000) :
  Ctr Tryz.prog 31 [.str w, .sv 0 1 0 l.length (some l.length)] [] [(0, .row 9 1 (strsA l) (some l.length))] 1 1 (.str (joinB w l)) [(0, .row 9 1 (strsA l) (some l.length))] := by
 refine Ctr.introR (T := Tryz.T) Tryz.hT Tryz.hM Tryz.hE Tryz.func31 rfl (by kernel_rfl) rfl rfl ?_ rfl ?_
 ·simp [okH_all, okR, bare_ok (strsA_bare l)]
 conv => whnf
 refine callR [] (hidden1 w hw) rfl rfl rfl rfl trivial trivial ?_
 conv => whnf
 have hjs : ∀ i, i ≤ l.length → (joinB w (l.take i)).size ≤ (i + 1) * 281474976710657 := by
  intro i
  induction i with
  | zero => intro _; have := hid_le w; simp only [List.take_zero, joinB, List.foldl_nil]; omega
  | succ i ih =>
   intro hi
   have h1 := ih (by omega)
   have h2 := hl l[i] (List.getElem_mem (by omega))
   have h3 := hid_le l[i]
   rw [List.take_succ_eq_append_getElem (by omega), joinB_snoc, catB_eq, catB_eq, ByteArray.size_append, ByteArray.size_append]
   have e : (ByteArray.mk #[47]).size = 1 := rfl
   rw [e]; omega
 refine loopR Tryz.hT Tryz.hM Tryz.hE (α := {i : Nat // i ≤ l.length})
  (fun i => ([(5, .str (joinB w (l.take i.1))), (10, .sv 0 1 0 l.length (some l.length)), (11, .int .i64 ((l.length : Nat) : Int)), (12, .int .i64 (i.1 : Int))], [(0, .row 9 1 (strsA l) (some l.length))]))
  (fun i => l.length - i.1) 1 ⟨0, Nat.zero_le _⟩ [] ?_ ?_
 ·refine Incl.same ?_ ?_ rfl ?_ rfl (Nat.le_refl _) rfl
  ·intro p hp
   simp only [List.mem_cons, List.not_mem_nil, or_false] at hp
   rcases hp with rfl | rfl | rfl | rfl <;> rfl
  ·intro p hp
   simp only [List.mem_cons, List.not_mem_nil, or_false] at hp
   rcases hp with rfl <;> rfl
  ·simp [okH_all, okR, bare_ok (strsA_bare l)]
 ·rintro ⟨i, hi⟩
  dsimp only
  conv => whnf
  refine bcase_intro (fun h => ?_) (fun h => ?_)
  ·have hlt : i < l.length := by have := of_decide_eq_true h; omega
   have hr : readA false 1 (strsA l) ((0 + i) * 1 + 0) = some (.str l[i]) := by
    show nth (strsA l) _ = _
    rw [nth_eq, show (0 + i) * 1 + 0 = i by omega, strsA, List.getElem?_map, List.getElem?_eq_getElem hlt]; rfl
   have hsn : joinB w (l.take (i + 1)) = catB (joinB w (l.take i)) (catB ⟨#[47]⟩ (hid l[i])) := by rw [List.take_succ_eq_append_getElem hlt, joinB_snoc]
   have h2 := hl l[i] (List.getElem_mem hlt)
   have h3 := hid_le l[i]
   have h4 := hjs i hi
   have e47 : (ByteArray.mk #[47]).size = 1 := rfl
   have hb : (joinB w (l.take i)).size ≤ 1001 * 281474976710657 := Nat.le_trans h4 (Nat.mul_le_mul_right _ (by omega))
   conv => whnf
   refine ⟨⟨by omega, by exact_mod_cast hlt⟩, ?_⟩
   simp only [Int.toNat_natCast]
   conv => whnf
   rw [hr]
   conv => whnf
   refine callR [] (hidden1 l[i] h2) rfl rfl rfl rfl trivial trivial ?_
   conv => whnf
   refine ⟨by rw [e47]; unfold big; omega, ?_⟩
   conv => whnf
   have hcs : (catB ⟨#[47]⟩ (hid l[i])).size = 1 + (hid l[i]).size := by rw [catB_eq, ByteArray.size_append, e47]
   refine ⟨by rw [hcs]; unfold big; omega, ?_⟩
   conv => whnf
   have e73 : IntKind.i64.wrap ((i : Int) + 1) = ((i + 1 : Nat) : Int) := by
    show IntKind.i64.wrap ((i : Int) + ((1 : Nat) : Int)) = _
    rw [← Int.natCast_add, wrap_nat (by omega)]
   simp only [e73, ← hsn]
   refine ⟨⟨i + 1, by omega⟩, [], by show l.length - (i + 1) < l.length - i; omega, Incl.same ?_ ?_ rfl ?_ rfl (Nat.le_refl _) rfl⟩
   ·intro q hq
    simp only [List.mem_cons, List.not_mem_nil, or_false] at hq
    rcases hq with rfl | rfl | rfl | rfl <;> rfl
   ·intro q hq
    simp only [List.mem_cons, List.not_mem_nil, or_false] at hq
    rcases hq with rfl <;> rfl
   ·simp [okH_all, okR, bare_ok (strsA_bare l)]
  ·have hil : i = l.length := by have := of_decide_eq_false h; omega
   conv => whnf
   subst hil
   rw [List.take_length]
   refine Fin.same ?_ rfl ?_
   ·simp [okH_all, okR, bare_ok (strsA_bare l)]
   ·intro p hp
    simp only [List.mem_cons, List.not_mem_nil, or_false] at hp
    rcases hp with rfl <;> rfl
end Go.Proofs.YtglkoaajgekonaaGreatDoor
-- SQUEEZED
