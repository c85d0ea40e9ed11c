import Derived.Test.YtglkoaajgekonaaGreatDoorTab
import Derived.Test.YtglkoaajgekonaaGreatDoorSXS
namespace Go.Proofs.YtglkoaajgekonaaGreatDoor
open Go.SX
theorem ins_end {cs : List AV} {L e : Nat} {k v : ByteArray} (hb : cs.all bareA = true) (hl : cs.length = L * 2) (hroom : (L + 1) * 2 ≤ room) :
  Ctr Tryz.prog 83 [.sv 0 2 0 L none, .int .i64 L, .sv 1 2 0 1 (some 1)] [] [(0, .row 26 2 cs none), (1, .row e 2 [.str k, .str v] (some 1))] 2 3 (.sv 2 2 0 (L + 1) none) [(0, .gone), (1, .row e 2 [.str k, .str v] (some 1)), (2, .row 26 2 (cs ++ [.str k, .str v]) none)] := by
 refine Ctr.introR (T := Tryz.T) Tryz.hT Tryz.hM Tryz.hE Tryz.func83 rfl (by kernel_rfl) rfl rfl ?_ rfl ?_
 ·simp [okH_all, okR, bare_ok hb, okL_cons, okL_nil, okA_str]
 ·have h1 : Nat.ble ((0 + L) * 2) cs.length = true := Nat.ble_eq_true_of_le (by omega)
  have h2 : Nat.ble ((0 + L + 1) * 2) cs.length = false := by rw [bleD]; simp; omega
  conv => whnf
  refine ⟨by simp [capE], ?_⟩
  conv => whnf
  refine bcase_intro (fun h => ?_) (fun h => ?_)
  ·conv => whnf
   rw [h1]
   conv => whnf
   rw [h2]
   conv => whnf
   refine ⟨by simpa using hroom, ?_⟩
   rw [spine_eq, show (List.take (L * 2) (List.drop (0 * 2) cs)) ++ (List.take (1 * 2) (List.drop (0 * 2) [AV.str k, AV.str v])) = cs ++ [.str k, .str v] by simp [← hl]]
   conv => whnf
   refine .mk' [2] rfl rfl rfl ?_ rfl rfl ⟨rfl, rfl, ?_, trivial⟩
   ·simp [okH_all, okR, bare_ok hb, okL_cons, okL_nil, okA_str, okL_app]
   ·simp [renR, renL_app, bare_ren hb, renL, renA]; rfl
  ·simp at h
theorem ins_grow {cs : List AV} {L e i C : Nat} {k v : ByteArray} (hb : cs.all bareA = true) (hl : cs.length = L * 2) (hi : i < L) (hroom : (L + 1) * 2 ≤ room) (hC : C < L + 1) (hC' : L ≤ C) :
  Ctr Tryz.prog 83 [.sv 0 2 0 L (some C), .int .i64 i, .sv 1 2 0 1 (some 1)] [] [(0, .row 26 2 cs (some C)), (1, .row e 2 [.str k, .str v] (some 1))] 2 3 (.sv 2 2 0 (L + 1) none) [(0, .row 26 2 cs (some C)), (1, .row e 2 [.str k, .str v] (some 1)), (2, .row 26 2 (cs.take (i * 2) ++ [.str k, .str v] ++ cs.drop (i * 2)) none)] := by
 refine Ctr.introR (T := Tryz.T) Tryz.hT Tryz.hM Tryz.hE Tryz.func83 rfl (by kernel_rfl) rfl rfl ?_ rfl ?_
 ·simp [okH_all, okR, bare_ok hb, okL_cons, okL_nil, okA_str]
 ·conv => whnf
  refine ⟨by simp [capE]; omega, ?_⟩
  conv => whnf
  refine bcase_intro (fun h => ?_) (fun h => ?_)
  ·simp at h; omega
  ·conv => whnf
   have hw : IntKind.i64.wrap ((L : Int) + ((1 : Nat) : Int)) = (L : Int) + 1 := wrap_small (by omega) (by unfold room at hroom; omega)
   rw [hw]
   refine bcase_intro (fun h => ?_) (fun h => ?_)
   ·conv => whnf
    refine ⟨by simp [capE]; omega, ?_⟩
    conv => whnf
    simp only [Int.toNat_natCast, Nat.zero_add, Nat.sub_zero, hw]
    rw [show IntKind.i64.wrap ((L : Int) + 1 - i) = ((L + 1 - i : Nat) : Int) by rw [wrap_small] <;> (unfold room at hroom; omega)]
    refine stop0 (triple_app_make (k := L + 1 - i) Tryz.hT rfl rfl rfl rfl rfl rfl rfl (R := [(0, .row 26 2 cs (some C))]) rfl (by omega) (by omega) (by omega) (by omega) (by omega)) (by omega) (sub_one rfl) sub_nil rfl ?_
    conv => whnf
    simp only [show i + (L + 1 - i) = L + 1 by omega]
    refine ⟨by simp [capE]; omega, ?_⟩
    conv => whnf
    simp only [Int.toNat_natCast, Nat.zero_add, show min 1 (L + 1 - i) = 1 by omega]
    have e1 : (List.take (i * 2) (List.drop (0 * 2) cs) ++ repA (L + 1 - i) 2 [AV.str { data := #[] }, AV.str { data := #[] }]) = cs.take (i * 2) ++ repA (L + 1 - i) 2 [AV.str { data := #[] }, AV.str { data := #[] }] := by simp
    rw [e1]
    have er : (repA (L + 1 - i) 2 [AV.str { data := #[] }, AV.str { data := #[] }]).length = (L + 1 - i) * 2 := by simp [repA]
    generalize repA (L + 1 - i) 2 [AV.str { data := #[] }, AV.str { data := #[] }] = M at er
    have e2 : (cs.take (i * 2) ++ M).length = (L + 1) * 2 := by simp only [List.length_append, List.length_take, er]; clear hw; omega
    have e3 : Nat.ble (i * 2) (cs.take (i * 2) ++ M).length = true := Nat.ble_eq_true_of_le (by omega)
    conv => whnf
    rw [e3]
    conv => whnf
    rw [spine_rec, show List.take (1 * 2) (List.drop (0 * 2) [AV.str k, AV.str v]) = [AV.str k, AV.str v] from rfl, splice_mid (by simp; omega)]
    conv => whnf
    have hwi : IntKind.i64.wrap ((i : Int) + ((1 : Nat) : Int)) = ((i + 1 : Nat) : Int) := by rw [wrap_small] <;> (unfold room at hroom; omega)
    simp only [hwi, Int.toNat_natCast, Nat.zero_add]
    refine ⟨by simp [capE]; omega, ?_⟩
    conv => whnf
    refine ⟨by simp [capE]; omega, ?_⟩
    conv => whnf
    simp only [Int.toNat_natCast, Nat.zero_add]
    rw [show min (L - i) (L + 1 - (i + 1)) = L - i by omega]
    rw [readsA_row (by clear hw hwi; omega)]
    have e6 : (List.take ((L - i) * 2) (List.drop (i * 2) cs)).all leafA = true := bare_leaf (bare_take _ (bare_drop _ hb))
    have e7 : Nat.beq (L - i) 0 = false := by rw [beqD]; simp; omega
    conv => whnf
    rw [e6]
    conv => whnf
    rw [e7]
    conv => whnf
    have e8 : (cs.take (i * 2) ++ ([AV.str k, AV.str v] ++ M.drop 2)).length = (L + 1) * 2 := by simp only [List.length_append, List.length_take, List.length_drop, er, List.length_cons, List.length_nil]; clear hw hwi; omega
    have e9 : Nat.ble ((i + 1) * 2) (cs.take (i * 2) ++ ([AV.str k, AV.str v] ++ M.drop 2)).length = true := Nat.ble_eq_true_of_le (by omega)
    have e10 : Nat.blt 0 (L - i) = true := Nat.ble_eq_true_of_le (by omega)
    rw [show ([AV.str k, AV.str v] : List AV).length = 2 from rfl, e9, e10]
    conv => whnf
    have e11 : List.take ((L - i) * 2) (List.drop (i * 2) cs) = cs.drop (i * 2) := List.take_of_length_le (by rw [List.length_drop]; clear hw hwi; omega)
    have e12 : List.drop (cs.drop (i * 2)).length (List.drop 2 M) = [] := List.drop_eq_nil_of_le (by rw [List.length_drop, List.length_drop]; clear hw hwi; omega)
    rw [spine_rec, e11, ← List.append_assoc, splice_mid (by simp; clear hw hwi; omega), e12, List.append_nil]
    conv => whnf
    refine .mk' [2] rfl rfl rfl ?_ rfl rfl ⟨?_, rfl, ?_, trivial⟩
    ·simp [okH_all, okR, bare_ok hb, okL_cons, okL_nil, okA_str, okL_app, bare_ok (bare_take _ hb), bare_ok (bare_drop _ hb)]
    ·simp [renR, bare_ren hb]; rfl
    ·simp [renR, renL_app, bare_ren (bare_take _ hb), bare_ren (bare_drop _ hb), renL, renA]; rfl
   ·simp at h; omega
theorem overl : OverFn Tryz.prog 122 27 4 := ⟨Tryz.f122, Tryz.func122, by kernel_rfl, by kernel_rfl, by kernel_rfl, by kernel_rfl⟩
set_option maxRecDepth 20000 in
theorem ins_in {cs : List AV} {L e i C : Nat} {k v : ByteArray} (hb : cs.all bareA = true) (hl : cs.length = L * 2) (hi : i < L) (hroom : (L + 1) * 2 ≤ room) (hC : L + 1 ≤ C) :
  Ctr Tryz.prog 83 [.sv 0 2 0 L (some C), .int .i64 i, .sv 1 2 0 1 (some 1)] [] [(0, .row 26 2 cs (some C)), (1, .row e 2 [.str k, .str v] (some 1))] 2 2 (.sv 0 2 0 (L + 1) (some C)) [(0, .row 26 2 (cs.take (i * 2) ++ [.str k, .str v] ++ cs.drop (i * 2)) (some C)), (1, .row e 2 [.str k, .str v] (some 1))] := by
 refine Ctr.introR (T := Tryz.T) Tryz.hT Tryz.hM Tryz.hE Tryz.func83 rfl (by kernel_rfl) rfl rfl ?_ rfl ?_
 ·simp [okH_all, okR, bare_ok hb, okL_cons, okL_nil, okA_str]
 ·conv => whnf
  refine ⟨by simp [capE]; omega, ?_⟩
  conv => whnf
  refine bcase_intro (fun h => ?_) (fun h => ?_)
  ·simp at h; omega
  ·conv => whnf
   have hw : IntKind.i64.wrap ((L : Int) + ((1 : Nat) : Int)) = ((L + 1 : Nat) : Int) := wrap_small (by omega) (by unfold room at hroom; omega)
   have hwi : IntKind.i64.wrap ((i : Int) + ((1 : Nat) : Int)) = ((i + 1 : Nat) : Int) := by rw [wrap_small] <;> (unfold room at hroom; omega)
   rw [hw]
   refine bcase_intro (fun h => ?_) (fun h => ?_)
   ·simp at h; omega
   ·conv => whnf
    simp only [hw, hwi, Int.toNat_natCast, Nat.zero_add]
    refine ⟨by simp [capE]; omega, ?_⟩
    conv => whnf
    simp only [hw, hwi, Int.toNat_natCast, Nat.zero_add, Int.toNat_zero, Nat.sub_zero]
    refine ⟨by simp [capE]; omega, ?_⟩
    conv => whnf
    have p1 : 0 < L + 1 - (i + 1) := by omega
    refine call0 fun hcall => ?_
    have kk : kindOf Tryz.T 27 = .slice 26 := rfl
    have k2 : Tryz.T 26 = some ⟨true, 2, [.str ⟨#[]⟩, .str ⟨#[]⟩], .struct [(0, 1), (1, 1)] [.str, .str] [false, false]⟩ := rfl
    have tr := triple_overlaps (n := 2) (R := [(1, .row e 2 [.str k, .str v] (some 1)), (0, .row 26 2 cs (some C))]) Tryz.hT overl kk k2 (Nat.lt_succ_self 1) hcall Nat.one_ne_zero rfl rfl Nat.one_pos p1
    refine stop0 tr (Nat.le_refl _) (sub_two rfl rfl) sub_nil rfl ?_
    clear tr hcall
    conv => whnf
    simp only [hwi, Int.toNat_natCast, Nat.zero_add, Nat.sub_zero]
    refine ⟨by simp [capE]; omega, ?_⟩
    conv => whnf
    refine ⟨by simp [capE]; omega, ?_⟩
    conv => whnf
    simp only [hwi, Int.toNat_natCast, Nat.zero_add, Nat.sub_zero]
    rw [show min (L + 1 - i) (L + 1 - (i + 1)) = L - i by omega, readsA_row (by clear hw hwi; omega)]
    have e6 : (List.take ((L - i) * 2) (List.drop (i * 2) cs)).all leafA = true := bare_leaf (bare_take _ (bare_drop _ hb))
    have e7 : Nat.beq (L - i) 0 = false := by rw [beqD]; simp; omega
    have e9 : Nat.ble ((i + 1) * 2) cs.length = true := Nat.ble_eq_true_of_le (by omega)
    have e10 : Nat.blt 0 (L - i) = true := Nat.ble_eq_true_of_le (by omega)
    have e11 : List.take ((L - i) * 2) (List.drop (i * 2) cs) = cs.drop (i * 2) := List.take_of_length_le (by rw [List.length_drop]; clear hw hwi; omega)
    conv => whnf
    rw [e6]
    conv => whnf
    rw [e7]
    conv => whnf
    rw [e9, e10]
    conv => whnf
    have e12 : splice cs ((i + 1) * 2) (cs.drop (i * 2)) = cs.take ((i + 1) * 2) ++ cs.drop (i * 2) := by
     have e0 : List.drop ((i + 1) * 2 + (List.drop (i * 2) cs).length) cs = [] := List.drop_eq_nil_of_le (by rw [List.length_drop]; clear hw hwi; omega)
     rw [splice_def, e0, List.append_nil]
    rw [spine_rec, e11, e12]
    conv => whnf
    refine ⟨by simp [capE]; omega, ?_⟩
    conv => whnf
    simp only [Int.toNat_natCast, Nat.zero_add, Nat.sub_zero]
    rw [show min 1 (L + 1 - i) = 1 by omega]
    have e13 : Nat.ble (i * 2) (cs.take ((i + 1) * 2) ++ cs.drop (i * 2)).length = true := Nat.ble_eq_true_of_le (by simp only [List.length_append, List.length_take, List.length_drop]; clear hw hwi; omega)
    conv => whnf
    rw [e13]
    conv => whnf
    have e14 : splice (cs.take ((i + 1) * 2) ++ cs.drop (i * 2)) (i * 2) [AV.str k, AV.str v] = cs.take (i * 2) ++ [AV.str k, AV.str v] ++ cs.drop (i * 2) := by
     have : cs.take ((i + 1) * 2) = cs.take (i * 2) ++ (cs.drop (i * 2)).take 2 := by rw [show (i + 1) * 2 = i * 2 + 2 by omega, List.take_add]
     rw [this, List.append_assoc, splice_mid (by simp; clear hw hwi; omega), List.append_assoc]
     congr 2
     rw [List.drop_append, List.drop_eq_nil_of_le (by simp; clear hw hwi; omega)]
     simp only [List.length_take, List.length_drop, hl, List.length_cons, List.length_nil, List.nil_append]
     rw [show 0 + 1 + 1 - min 2 (L * 2 - i * 2) = 0 by clear hw hwi; omega]; rfl
    rw [spine_rec, show List.take (1 * 2) (List.drop (0 * 2) [AV.str k, AV.str v]) = [AV.str k, AV.str v] from rfl, e14]
    conv => whnf
    refine .mk' [] rfl rfl rfl ?_ rfl rfl ⟨?_, rfl, trivial⟩
    ·simp [okH_all, okR, okL_cons, okL_nil, okA_str, okL_app, bare_ok (bare_take _ hb), bare_ok (bare_drop _ hb)]
    ·simp [renR, renL_app, bare_ren (bare_take _ hb), bare_ren (bare_drop _ hb), renL, renA]; rfl
theorem ins_mid {cs : List AV} {L e i : Nat} {k v : ByteArray} (hb : cs.all bareA = true) (hl : cs.length = L * 2) (hi : i < L) (hroom : (L + 1) * 2 ≤ room) :
  Ctr Tryz.prog 83 [.sv 0 2 0 L none, .int .i64 i, .sv 1 2 0 1 (some 1)] [] [(0, .row 26 2 cs none), (1, .row e 2 [.str k, .str v] (some 1))] 2 3 (.sv 2 2 0 (L + 1) none) [(0, .gone), (2, .row 26 2 (cs.take (i * 2) ++ [.str k, .str v] ++ cs.drop (i * 2)) none), (1, .row e 2 [.str k, .str v] (some 1))] := by
 refine Ctr.any_cap (fun C h1 h2 => ?_) (by omega)
 rcases Nat.lt_or_ge C (L + 1) with hC | hC
 ·exact (ins_grow hb hl hi hroom hC h1).weakL (.drop rfl (.keep rfl (.keep rfl trivial))) rfl
 ·refine (ins_in hb hl hi hroom hC).rebase (h := 0) (post' := [(1, .row e 2 [.str k, .str v] (some 1))]) rfl ⟨[], by simp⟩ ?_ rfl
  intro k r hl _
  exact ((Weaker.keep (l := []) rfl trivial).get k r hl).elim id fun h => by
   simp only [look_cons, lookN] at hl
   split at hl
   ·rw [h.1] at hl; simp at hl
   ·cases hl
theorem ins {cs : List AV} {L e i : Nat} {k v : ByteArray} (hb : cs.all bareA = true) (hl : cs.length = L * 2) (hi : i ≤ L) (hroom : (L + 1) * 2 ≤ room) :
  Ctr Tryz.prog 83 [.sv 0 2 0 L none, .int .i64 i, .sv 1 2 0 1 (some 1)] [] [(0, .row 26 2 cs none), (1, .row e 2 [.str k, .str v] (some 1))] 2 3 (.sv 2 2 0 (L + 1) none) [(0, .gone), (2, .row 26 2 (cs.take (i * 2) ++ [.str k, .str v] ++ cs.drop (i * 2)) none), (1, .row e 2 [.str k, .str v] (some 1))] := by
 rcases Nat.lt_or_ge i L with h | h
 ·exact ins_mid hb hl h hroom
 ·have : i = L := by omega
  subst this
  rw [List.take_of_length_le (by omega), List.drop_eq_nil_of_le (by omega), List.append_nil]
  exact (ins_end hb hl hroom).weakL (.keep rfl (.keep rfl (.keep rfl trivial))) rfl
noncomputable def Tryz.ov : Ov := insOv 83 26
theorem Tryz.ov_ok : OvOK Tryz.prog Tryz.ov := insOv_ok fun h1 h2 h3 h4 => ins h1 h2 h3 h4
end Go.Proofs.YtglkoaajgekonaaGreatDoor
-- SQUEEZED
