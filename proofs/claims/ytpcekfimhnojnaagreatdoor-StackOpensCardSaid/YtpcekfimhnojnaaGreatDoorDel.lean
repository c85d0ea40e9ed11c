import Derived.Test.YtpcekfimhnojnaaGreatDoorTab
import Derived.Test.YtpcekfimhnojnaaGreatDoorSXS
import Derived.Test.YtpcekfimhnojnaaGreatDoorIns
namespace Go.Proofs.YtpcekfimhnojnaaGreatDoor
open Go.SX

set_option maxRecDepth 20000 in
theorem del_c {cs : List AV} {L i C : Nat} (hb : cs.all bareA = true) (hl : cs.length = L * 2) (hi : i < L) (hroom : L * 2 ≤ room) (hC : L ≤ C) :
    Ctr Tryz.prog 268 [.sv 0 2 0 L (some C), .int .i64 i, .int .i64 ((i + 1 : Nat) : Int)] [] [(0, .row 190 2 cs (some C))] 1 1 (.sv 0 2 0 (L - 1) (some C)) [(0, .row 190 2 (cs.take (i * 2) ++ cs.drop ((i + 1) * 2) ++ [.str ⟨#[]⟩, .str ⟨#[]⟩]) (some C))] := by
  refine Ctr.introR (T := Tryz.T) Tryz.hT Tryz.hM Tryz.hE Tryz.func268 rfl (by kernel_rfl) rfl rfl ?_ rfl ?_
  · simp [okH_all, okR, bare_ok hb]
  · conv => whnf
    refine ⟨by simp [capE]; omega, ?_⟩
    conv => whnf
    refine bcase_intro (fun h => ?_) (fun h => ?_)
    · simp at h; omega
    · conv => whnf
      refine ⟨by simp [capE]; omega, ?_⟩
      conv => whnf
      refine ⟨by simp [capE]; omega, ?_⟩
      conv => whnf
      simp only [Int.toNat_natCast, Nat.zero_add, Nat.sub_zero]
      rw [readsA_row (by omega)]
      have e1 : List.take ((L - (i + 1)) * 2) (List.drop ((i + 1) * 2) cs) = cs.drop ((i + 1) * 2) := List.take_of_length_le (by rw [List.length_drop]; omega)
      rw [e1]
      have e2 : (cs.drop ((i + 1) * 2)).all leafA = true := bare_leaf (bare_drop _ hb)
      conv => whnf
      rw [e2]
      conv => whnf
      have fin : ∀ cs' : List AV, cs'.all bareA = true → cs' = cs.take (i * 2) ++ cs.drop ((i + 1) * 2) ++ [.str ⟨#[]⟩, .str ⟨#[]⟩] → okH 1 [(0, Res.row 190 2 (cs.take (i * 2) ++ cs.drop ((i + 1) * 2) ++ [.str ⟨#[]⟩, .str ⟨#[]⟩]) (some C))] = true := by
        intro cs' h1 h2
        rw [← h2]
        simp [okH_all, okR, bare_ok h1]
      rcases Nat.lt_or_ge (i + 1) L with h2 | h2
      · have e3 : Nat.beq (L - (i + 1)) 0 = false := by rw [beqD]; simp; omega
        have e4 : Nat.ble (i * 2) cs.length = true := Nat.ble_eq_true_of_le (by omega)
        have e5 : Nat.ble (i + (L - (i + 1))) C = true := Nat.ble_eq_true_of_le (by omega)
        rw [e3]
        conv => whnf
        try simp only [Nat.zero_add]
        rw [e4]
        conv => whnf
        rw [e5]
        conv => whnf
        try simp only [Nat.zero_add]
        rw [spine_rec, splice_def, show i + (L - (i + 1)) = L - 1 by omega]
        generalize hZ : List.drop (i * 2 + (cs.drop ((i + 1) * 2)).length) cs = Z
        have hZl : Z.length = 2 := by rw [← hZ]; simp only [List.length_drop]; omega
        conv => whnf
        refine ⟨by simp [capE]; omega, ?_⟩
        conv => whnf
        simp only [Int.toNat_natCast, Nat.zero_add, Nat.sub_zero]
        rw [show L - (L - 1) = 1 by omega]
        conv => whnf
        have e6 : Nat.ble ((L - 1) * 2) (cs.take (i * 2) ++ (cs.drop ((i + 1) * 2) ++ Z)).length = true := Nat.ble_eq_true_of_le (by simp only [List.length_append, List.length_take, List.length_drop, hZl]; omega)
        rw [e6]
        conv => whnf
        have ez : Z.drop (repA 1 2 [AV.str { data := #[] }, AV.str { data := #[] }]).length = [] := List.drop_eq_nil_of_le (by rw [hZl]; decide)
        have er : repA 1 2 [AV.str { data := #[] }, AV.str { data := #[] }] = [.str ⟨#[]⟩, .str ⟨#[]⟩] := rfl
        rw [spine_rec, ← List.append_assoc, splice_mid (by simp only [List.length_append, List.length_take, List.length_drop]; omega), ez, er, List.append_nil]
        conv => whnf
        refine .mk' [] rfl rfl rfl ?_ rfl rfl ⟨?_, trivial⟩
        · simp [okH_all, okR, okL_cons, okL_nil, okA_str, okL_app, bare_ok (bare_take _ hb), bare_ok (bare_drop _ hb)]
        · simp [renR, renL_app, bare_ren (bare_take _ hb), bare_ren (bare_drop _ hb), renL, renA]; rfl
      · have e3 : Nat.beq (L - (i + 1)) 0 = true := by rw [beqD]; simp; omega
        rw [e3]
        conv => whnf
        try simp only [Nat.zero_add]
        refine ⟨by simp [capE]; omega, ?_⟩
        conv => whnf
        simp only [Int.toNat_natCast, Nat.zero_add, Nat.sub_zero]
        rw [show L - i = 1 by omega]
        conv => whnf
        have e6 : Nat.ble (i * 2) cs.length = true := Nat.ble_eq_true_of_le (by omega)
        rw [e6]
        conv => whnf
        have e7 : cs.drop (i * 2 + 2) = [] := List.drop_eq_nil_of_le (by omega)
        have e8 : cs.drop ((i + 1) * 2) = [] := List.drop_eq_nil_of_le (by omega)
        have er : repA 1 2 [AV.str { data := #[] }, AV.str { data := #[] }] = [.str ⟨#[]⟩, .str ⟨#[]⟩] := rfl
        rw [spine_rec, er, splice_def, show ([.str ⟨#[]⟩, .str ⟨#[]⟩] : List AV).length = 2 from rfl, e7, e8, List.append_nil, List.append_nil, show L - 1 = i by omega]
        conv => whnf
        refine .mk' [] rfl rfl rfl ?_ rfl rfl ⟨?_, trivial⟩
        · simp [okH_all, okR, okL_cons, okL_nil, okA_str, okL_app, bare_ok (bare_take _ hb), bare_ok (bare_drop _ hb)]
        · simp [renR, renL_app, bare_ren (bare_take _ hb), bare_ren (bare_drop _ hb), renL, renA]; rfl

theorem del {cs : List AV} {L i : Nat} (hb : cs.all bareA = true) (hl : cs.length = L * 2) (hi : i < L) (hroom : L * 2 ≤ room) :
    Ctr Tryz.prog 268 [.sv 0 2 0 L none, .int .i64 i, .int .i64 ((i + 1 : Nat) : Int)] [] [(0, .row 190 2 cs none)] 1 2 (.sv 1 2 0 (L - 1) none) [(0, .gone), (1, .row 190 2 (cs.take (i * 2) ++ cs.drop ((i + 1) * 2)) none)] := by
  refine Ctr.any_cap (fun C h1 h2 => ?_) (by omega)
  exact (del_c hb hl hi hroom h1).rebase (h := 0) (post' := []) rfl ⟨_, rfl⟩ (fun k r hl => by simp [lookN] at hl) rfl

noncomputable def Tryz.ov2 : Ov := orOv Tryz.ov (delOv 268 190)
theorem Tryz.ov2_ok : OvOK Tryz.prog Tryz.ov2 := orOv_ok Tryz.ov_ok (delOv_ok fun h1 h2 h3 h4 => del h1 h2 h3 h4)
end Go.Proofs.YtpcekfimhnojnaaGreatDoor
