import Derived.Test.YtglkoaajgekonaaGreatDoorTab
import Derived.Test.YtglkoaajgekonaaGreatDoorSXU
namespace Go.Proofs.YtglkoaajgekonaaGreatDoor
open Go.SX
def dgo : Nat → Nat → List UInt8 → List UInt8
 | 0, _, l => l
 | k + 1, m, l => if m = 0 then l else dgo k (m / 256) (UInt8.ofNat (m % 256) :: l)
def mkB (l : List UInt8) : List AV := l.map fun x => AV.int .u8 (x.toNat : Int)
def okN (x : Int) : Bool := !decide (x < 0) && !decide (9007199254740992 < x)
def digB (x : Int) : List UInt8 := dgo 7 x.toNat []
def numB (x : Int) : ByteArray := ⟨⟨UInt8.ofNat (digB x).length :: digB x⟩⟩
def numS (x : Int) : ByteArray := if okN x then numB x else ⟨#[]⟩
def numE (x : Int) : Int := if okN x then 0 else 3
theorem mkB_len (l : List UInt8) : (mkB l).length = l.length := by simp [mkB]
theorem mkB_bare (l : List UInt8) : (mkB l).all bareA = true := by simp [mkB, bareA]
theorem splice_mkB {k : Nat} {l : List UInt8} {x : UInt8} : splice (mkB (List.replicate (k + 1) 0 ++ l)) k [.int .u8 (x.toNat : Int)] = mkB (List.replicate k 0 ++ x :: l) := by
 rw [splice_def]
 simp only [mkB, List.map_append, List.map_replicate, List.map_cons]
 rw [List.take_append_of_le_length (by simp), List.take_replicate]
 rw [List.drop_append, List.length_replicate]
 simp
theorem u8_wrap (m : Nat) : IntKind.u8.wrap (m : Int) = ((UInt8.ofNat (m % 256)).toNat : Int) := by
 have := wrapN_eq .u8 m
 rw [show (m : Int) = Int.ofNat m from rfl, ← this]
 show Int.ofNat (m % 256) = _
 simp
theorem intsL_mkB : ∀ (l : List UInt8), intsL (mkB l) l.length = some (l.map fun b => (b.toNat : Int))
 | [] => rfl
 | x :: l => by
  show (match intsL (mkB l) l.length with | some r => some ((x.toNat : Int) :: r) | none => none) = _
  rw [intsL_mkB l]; rfl
theorem intsL_off (l : List UInt8) (h : l.length ≤ 7) : intsL (List.drop (offA 8 (((8 - l.length : Nat) : Int)).toNat 0 1) (mkB (List.replicate (8 - l.length) 0 ++ l))) l.length = some (l.map fun b => (b.toNat : Int)) := by
 cases l with
 | nil => cases (List.drop (offA 8 (((8 - ([] : List UInt8).length : Nat) : Int)).toNat 0 1) (mkB (List.replicate (8 - ([] : List UInt8).length) 0 ++ []))) <;> rfl
 | cons x l =>
  have e : offA 8 (((8 - (x :: l).length : Nat) : Int)).toNat 0 1 = 8 - (x :: l).length := by
   have hb : Nat.beq 8 (((8 - (x :: l).length : Nat) : Int)).toNat = false := by
    cases hb : Nat.beq 8 (((8 - (x :: l).length : Nat) : Int)).toNat with
    | false => rfl
    | true => have := Nat.eq_of_beq_eq_true hb; simp at this h; omega
   unfold offA
   rw [hb]
   simp
  rw [e]
  have e2 : mkB (List.replicate (8 - (x :: l).length) 0 ++ x :: l) = mkB (List.replicate (8 - (x :: l).length) 0) ++ mkB (x :: l) := by simp [mkB]
  rw [e2, List.drop_left' (by rw [mkB_len]; simp)]
  exact intsL_mkB _
theorem sn_map (l : List UInt8) : strOfNums (l.map fun b => (b.toNat : Int)) = ⟨⟨l⟩⟩ := by
 unfold strOfNums
 rw [List.map_map]
 have : (fun n : Int => UInt8.ofNat n.toNat) ∘ (fun b : UInt8 => (b.toNat : Int)) = id := by funext b; simp
 rw [this, List.map_id]
theorem sn_one (l : List UInt8) (h : l.length ≤ 7) : strOfNums [IntKind.u8.wrap ((l.length : Nat) : Int)] = ⟨⟨[UInt8.ofNat l.length]⟩⟩ := by
 have e : (((UInt8.ofNat (l.length % 256)).toNat : Nat) : Int).toNat = l.length := by
  rw [Int.toNat_natCast]; simp; omega
 rw [u8_wrap]
 unfold strOfNums
 simp only [List.map_cons, List.map_nil, e]
theorem num1 (x : Int) : Ctr Tryz.prog 95 [.int .i64 x] [] [] 0 0 (.tup [.str (numS x), .int .i64 (numE x)]) [] := by
 refine Ctr.introR (T := Tryz.T) Tryz.hT Tryz.hM Tryz.hE Tryz.func95 rfl (by kernel_rfl) rfl rfl rfl rfl ?_
 conv => whnf
 refine bcase_intro (fun h1 => ?_) (fun h1 => ?_)
 ·conv => whnf
  rw [show numS x = ⟨#[]⟩ by simp [numS, okN, h1], show numE x = 3 by simp [numE, okN, h1]]
  exact Fin.same rfl rfl (by simp)
 ·conv => whnf
  refine bcase_intro (fun h2 => ?_) (fun h2 => ?_)
  ·conv => whnf
   rw [show numS x = ⟨#[]⟩ by simp [numS, okN, h2], show numE x = 3 by simp [numE, okN, h2]]
   exact Fin.same rfl rfl (by simp)
  ·conv => whnf
   rw [show numS x = numB x by simp [numS, okN, h1, h2], show numE x = 0 by simp [numE, okN, h1, h2]]
   obtain ⟨n, rfl⟩ : ∃ n : Nat, x = n := ⟨x.toNat, by simp at h1; omega⟩
   have hn : n ≤ 9007199254740992 := by simp at h2; omega
   refine loopR Tryz.hT Tryz.hM Tryz.hE (α := {p : Nat × List UInt8 // p.2.length ≤ 7 ∧ p.1 < 256 ^ (7 - p.2.length) ∧ dgo (7 - p.2.length) p.1 p.2 = digB n})
    (fun p => ([(0, .int .i64 (p.1.1 : Int)), (4, .ptr 0 0), (5, .int .i64 ((8 - p.1.2.length : Nat) : Int))], [(0, .box 189 (mkB (List.replicate (8 - p.1.2.length) 0 ++ p.1.2)))]))
    (fun p => p.1.1) 1 ⟨(n, []), by simp, by simp; omega, rfl⟩ [] ?_ ?_
   ·refine Incl.same ?_ ?_ rfl ?_ rfl (Nat.zero_le _) rfl
    ·intro p hp
     simp only [List.mem_cons, List.not_mem_nil, or_false] at hp
     rcases hp with rfl | rfl | rfl <;> rfl
    ·intro p hp
     simp only [List.mem_cons, List.not_mem_nil, or_false] at hp
     rcases hp with rfl <;> rfl
    ·simp [okH_all, okR, bare_ok (mkB_bare _)]
   ·rintro ⟨⟨m, l⟩, hl, hm, hd⟩
    dsimp only at hl hm hd ⊢
    conv => whnf
    refine bcase_intro (fun h => ?_) (fun h => ?_)
    ·have h : 0 < m := by simpa using h
     have hk : ∃ k, 7 - l.length = k + 1 := by
      cases hk : 7 - l.length with
      | zero => simp only [hk] at hm; simp at hm; omega
      | succ k => exact ⟨k, rfl⟩
     obtain ⟨k, hk⟩ := hk
     have e0 : 8 - l.length = k + 2 := by omega
     have e1 : IntKind.i64.wrap (((8 - l.length : Nat) : Int) - 1) = ((k + 1 : Nat) : Int) := by
      rw [e0, wrap_small] <;> omega
     have e2 := u8_wrap m
     have e3 : shrI .i64 (m : Int) 8 = ((m / 256 : Nat) : Int) := (Int.ofNat_fdiv m 256).symm
     conv => whnf
     simp only [e1, Int.toNat_natCast, Nat.zero_add, Nat.mul_one]
     refine ⟨by omega, ?_⟩
     conv => whnf
     have hb : Nat.ble (k + 1 + 1) (mkB (List.replicate (k + 2) 0 ++ l)).length = true := Nat.ble_eq_true_of_le (by rw [mkB_len]; simp)
     simp only [e2, e0, cellsOf, spine_eq, splice_mkB, hb]
     conv => whnf
     simp only [e3]
     have e5 : 8 - (UInt8.ofNat (m % 256) :: l).length = k + 1 := by simp; omega
     have e6 : 7 - (UInt8.ofNat (m % 256) :: l).length = k := by simp; omega
     refine ⟨⟨(m / 256, UInt8.ofNat (m % 256) :: l), ?_, ?_, ?_⟩, [], ?_, Incl.same ?_ ?_ rfl ?_ rfl (Nat.zero_le _) rfl⟩
     ·simp; omega
     ·show m / 256 < 256 ^ (7 - (UInt8.ofNat (m % 256) :: l).length)
      rw [e6]
      rw [hk, Nat.pow_succ, Nat.mul_comm] at hm
      exact Nat.div_lt_of_lt_mul hm
     ·show dgo (7 - (UInt8.ofNat (m % 256) :: l).length) (m / 256) (UInt8.ofNat (m % 256) :: l) = _
      rw [e6, ← hd, hk, dgo, if_neg (by omega)]
     ·exact Nat.div_lt_self h (by decide)
     ·intro p hp
      simp only [List.mem_cons, List.not_mem_nil, or_false, e5] at hp
      rcases hp with rfl | rfl | rfl <;> rfl
     ·intro p hp
      simp only [List.mem_cons, List.not_mem_nil, or_false, e5] at hp
      rcases hp with rfl <;> rfl
     ·simp [okH_all, okR, bare_ok (mkB_bare _)]
    ·have h : m = 0 := by simp at h; omega
     have hfin : digB n = l := by rw [← hd, h]; cases (7 - l.length) <;> simp [dgo]
     conv => whnf
     have e7 : IntKind.i64.wrap (8 - ((8 - l.length : Nat) : Int)) = ((l.length : Nat) : Int) := by rw [wrap_small] <;> omega
     have e8 : ((8 : Nat) : Int).toNat - (((8 - l.length : Nat) : Int)).toNat = l.length := by omega
     have e9 : 8 - (((8 - l.length : Nat) : Int)).toNat = l.length := by omega
     refine ⟨by omega, ?_⟩
     simp only [e7, e8, e9]
     conv => whnf
     rw [intsL_off l hl]
     conv => whnf
     simp only [sn_map, sn_one l hl]
     conv => whnf
     refine ⟨?_, ?_⟩
     ·show 1 + l.length ≤ big
      unfold big; omega
     conv => whnf
     rw [show numB n = catB ⟨⟨[UInt8.ofNat l.length]⟩⟩ ⟨⟨l⟩⟩ by unfold numB; rw [hfin]; rfl]
     exact Fin.same rfl rfl (by simp)
theorem rem256 (m : Nat) : IntKind.u8.wrap ((m : Int).tmod 256) = ((UInt8.ofNat (m % 256)).toNat : Int) := by
 rw [show (m : Int).tmod 256 = ((m % 256 : Nat) : Int) from rfl, u8_wrap, Nat.mod_mod]
theorem sn_x (m : Nat) : strOfNums [((UInt8.ofNat (m % 256)).toNat : Int)] = ⟨⟨[UInt8.ofNat (m % 256)]⟩⟩ := by
 unfold strOfNums
 simp only [List.map_cons, List.map_nil, Int.toNat_natCast]
 simp
theorem num2 (x : Int) : Ctr Tryz.prog 64 [.int .i64 x] [] [] 0 0 (.tup [.str (numS x), .int .i64 (numE x)]) [] := by
 refine Ctr.introR (T := Tryz.T) Tryz.hT Tryz.hM Tryz.hE Tryz.func64 rfl (by kernel_rfl) rfl rfl rfl rfl ?_
 conv => whnf
 refine bcase_intro (fun h1 => ?_) (fun h1 => ?_)
 ·conv => whnf
  rw [show numS x = ⟨#[]⟩ by simp [numS, okN, h1], show numE x = 3 by simp [numE, okN, h1]]
  exact Fin.same rfl rfl (by simp)
 ·conv => whnf
  refine bcase_intro (fun h2 => ?_) (fun h2 => ?_)
  ·conv => whnf
   rw [show numS x = ⟨#[]⟩ by simp [numS, okN, h2], show numE x = 3 by simp [numE, okN, h2]]
   exact Fin.same rfl rfl (by simp)
  ·conv => whnf
   rw [show numS x = numB x by simp [numS, okN, h1, h2], show numE x = 0 by simp [numE, okN, h1, h2]]
   obtain ⟨n, rfl⟩ : ∃ n : Nat, x = n := ⟨x.toNat, by simp at h1; omega⟩
   have hn : n ≤ 9007199254740992 := by simp at h2; omega
   refine loopR Tryz.hT Tryz.hM Tryz.hE (α := {p : Nat × List UInt8 // p.2.length ≤ 7 ∧ p.1 < 256 ^ (7 - p.2.length) ∧ dgo (7 - p.2.length) p.1 p.2 = digB n})
    (fun p => ([(0, .int .i64 (p.1.1 : Int)), (4, .str ⟨⟨p.1.2⟩⟩)], []))
    (fun p => p.1.1) 0 ⟨(n, []), by simp, by simp; omega, rfl⟩ [] ?_ ?_
   ·refine Incl.same ?_ ?_ rfl rfl rfl (Nat.zero_le _) rfl
    ·intro p hp
     simp only [List.mem_cons, List.not_mem_nil, or_false] at hp
     rcases hp with rfl | rfl <;> rfl
    ·intro p hp; cases hp
   ·rintro ⟨⟨m, l⟩, hl, hm, hd⟩
    dsimp only at hl hm hd ⊢
    conv => whnf
    refine bcase_intro (fun h => ?_) (fun h => ?_)
    ·have h : 0 < m := by simpa using h
     have hk : ∃ k, 7 - l.length = k + 1 := by
      cases hk : 7 - l.length with
      | zero => simp only [hk] at hm; simp at hm; omega
      | succ k => exact ⟨k, rfl⟩
     obtain ⟨k, hk⟩ := hk
     conv => whnf
     simp only [rem256, sn_x]
     refine ⟨?_, ?_⟩
     ·show 1 + l.length ≤ big
      unfold big; omega
     conv => whnf
     have e3 : IntKind.i64.wrap ((m : Int).tdiv 256) = ((m / 256 : Nat) : Int) := by
      rw [show (m : Int).tdiv 256 = ((m / 256 : Nat) : Int) from rfl, wrap_small] <;> (have := Nat.pow_le_pow_right (n := 256) (by decide) (show 7 - l.length ≤ 7 by omega); omega)
     simp only [e3]
     have e6 : 7 - (UInt8.ofNat (m % 256) :: l).length = k := by simp; omega
     refine ⟨⟨(m / 256, UInt8.ofNat (m % 256) :: l), ?_, ?_, ?_⟩, [], ?_, Incl.same ?_ ?_ rfl rfl rfl (Nat.zero_le _) rfl⟩
     ·simp; omega
     ·show m / 256 < 256 ^ (7 - (UInt8.ofNat (m % 256) :: l).length)
      rw [e6]
      rw [hk, Nat.pow_succ, Nat.mul_comm] at hm
      exact Nat.div_lt_of_lt_mul hm
     ·show dgo (7 - (UInt8.ofNat (m % 256) :: l).length) (m / 256) (UInt8.ofNat (m % 256) :: l) = _
      rw [e6, ← hd, hk, dgo, if_neg (by omega)]
     ·exact Nat.div_lt_self h (by decide)
     ·intro p hp
      simp only [List.mem_cons, List.not_mem_nil, or_false] at hp
      rcases hp with rfl | rfl <;> rfl
     ·intro p hp; cases hp
    ·have h : m = 0 := by simp at h; omega
     have hfin : digB n = l := by rw [← hd, h]; cases (7 - l.length) <;> simp [dgo]
     conv => whnf
     have e7 : ((ByteArray.size ⟨⟨l⟩⟩ : Nat) : Int) = ((l.length : Nat) : Int) := rfl
     simp only [e7, sn_one l hl]
     refine ⟨?_, ?_⟩
     ·show 1 + l.length ≤ big
      unfold big; omega
     conv => whnf
     rw [show numB n = catB ⟨⟨[UInt8.ofNat l.length]⟩⟩ ⟨⟨l⟩⟩ by unfold numB; rw [hfin]; rfl]
     exact Fin.same rfl rfl (by simp)
end Go.Proofs.YtglkoaajgekonaaGreatDoor
-- SQUEEZED
