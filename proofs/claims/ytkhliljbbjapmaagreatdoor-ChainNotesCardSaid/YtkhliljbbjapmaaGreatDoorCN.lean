/- Packets and answers that a chain notes. -/
import Derived.Test.YtkhliljbbjapmaaGreatDoorCM
import Derived.Test.YtkhliljbbjapmaaGreatDoorSXSL
namespace Go.Proofs.YtkhliljbbjapmaaGreatDoor
open Go.SX
def alphaW : ByteArray := ⟨#[97, 108, 112, 104, 97]⟩
def betaW : ByteArray := ⟨#[98, 101, 116, 97]⟩
def rootW : ByteArray := ⟨#[114, 111, 111, 116]⟩
/-- A chain's slices: none yet, or so many behind a handle. -/
def xv (h z : Nat) : Option Nat → AV
  | none => .nils
  | some k => .sv h z 0 k none
noncomputable def chX (B X Y : AV) : Res := .box 69 [.str alphaW, .ptr 1 0, B, .int .i64 0, X, Y]
def pkA (a : Int) (b c d e f : ByteArray) (g h : Int) : List AV := [.int .i64 a, .str b, .str c, .str d, .str e, .str f, .int .i64 g, .int .i64 h]
def wrA (a : Int) (b c d e f : ByteArray) (g h : Int) (i : ByteArray) : List AV := [.int .i64 a, .str b, .str c, .str d, .str e, .str f, .int .i64 g, .int .i64 h, .str i]
theorem row_lk {l : List AV} {t z : Nat} {c : Option Nat} {H : Heap} {k : Nat} {π : Nat → Nat} (hb : l.all bareA = true) (h : SX.look H (π k) = some (.row t z l c)) : SX.look H (π k) = some (renR π (.row t z l c)) := by simp only [renR, bare_ren hb]; exact h
theorem note0 (y : Option Nat) (a : Int) (b c d e f : ByteArray) (g h : Int) : Ctr Tryz.prog 7 [.ptr 0 0, .agg (pkA a b c d e f g h)] [] [(0, chX .nils .nils (xv 3 9 y))] 4 5 (.tup [])
    [(0, chX .nils (.sv 4 8 0 1 none) (xv 3 9 y)), (4, .row 31 8 (pkA a b c d e f g h) none)] := by
  cases y <;>
  · refine Ctr.introR (T := Tryz.T) Tryz.hT Tryz.hM Tryz.hE Tryz.func7 rfl (by kernel_rfl) rfl rfl rfl rfl ?_
    conv => whnf
    refine ⟨by decide, ?_⟩
    conv => whnf
    exact .mk' [6] rfl rfl rfl rfl rfl rfl ⟨rfl, rfl, trivial⟩
theorem answered0 (x : Option Nat) (a : Int) (b c d e f : ByteArray) (g h : Int) (i : ByteArray) : Ctr Tryz.prog 8 [.ptr 0 0, .agg (wrA a b c d e f g h i)] [] [(0, chX .nils (xv 2 8 x) .nils)] 4 5 (.tup [])
    [(0, chX .nils (xv 2 8 x) (.sv 4 9 0 1 none)), (4, .row 34 9 (wrA a b c d e f g h i) none)] := by
  cases x <;>
  · refine Ctr.introR (T := Tryz.T) Tryz.hT Tryz.hM Tryz.hE Tryz.func8 rfl (by kernel_rfl) rfl rfl rfl rfl ?_
    conv => whnf
    refine ⟨by decide, ?_⟩
    conv => whnf
    exact .mk' [6] rfl rfl rfl rfl rfl rfl ⟨rfl, rfl, trivial⟩
theorem note1 (y : Option Nat) {S : List AV} {k : Nat} (hS : S.all bareA = true) (hk : S.length = k * 8) (hr : (k + 1) * 8 ≤ room) (a : Int) (b c d e f : ByteArray) (g h : Int) :
    Ctr Tryz.prog 7 [.ptr 0 0, .agg (pkA a b c d e f g h)] [] [(0, chX .nils (.sv 2 8 0 k none) (xv 3 9 y)), (2, .row 31 8 S none)] 4 5 (.tup [])
    [(0, chX .nils (.sv 4 8 0 (k + 1) none) (xv 3 9 y)), (2, .gone), (4, .row 31 8 (S ++ pkA a b c d e f g h) none)] := by
  cases y <;>
  · refine Ctr.introR (T := Tryz.T) Tryz.hT Tryz.hM Tryz.hE Tryz.func7 rfl (by kernel_rfl) rfl rfl ?_ rfl ?_
    · simp [okH_all, okR, chX, xv, okL_cons, okL_nil, okA_str, okA_ptr, okA_int, okA_nils, okA_sv, bare_ok hS]
    conv => whnf
    rw [show ((0 + k) * 8).ble S.length = true from Nat.ble_eq_true_of_le (by omega)]
    conv => whnf
    refine bcase_intro (fun h => ?_) (fun _ => ?_)
    · exact absurd (Nat.le_of_ble_eq_true h) (by omega)
    conv => whnf
    refine ⟨hr, ?_⟩
    rw [spine_eq, show List.take (k * 8) (List.drop (0 * 8) S) = S by rw [Nat.zero_mul, List.drop_zero, List.take_of_length_le (by omega)]]
    conv => whnf
    have hb : (S ++ pkA a b c d e f g h).all bareA = true := by rw [List.all_append, hS]; rfl
    refine .mk' [6] rfl rfl rfl ?_ rfl rfl ⟨rfl, rfl, row_lk hb rfl, trivial⟩
    simp [okH_all, okR, chX, xv, okL_cons, okL_nil, okA_str, okA_ptr, okA_int, okA_nils, okA_sv, okL_app, bare_ok hS, pkA]
theorem answered1 (y : Option Nat) {S : List AV} {k : Nat} (hS : S.all bareA = true) (hk : S.length = k * 9) (hr : (k + 1) * 9 ≤ room) (a : Int) (b c d e f : ByteArray) (g h : Int) (i : ByteArray) :
    Ctr Tryz.prog 8 [.ptr 0 0, .agg (wrA a b c d e f g h i)] [] [(0, chX .nils (xv 2 8 y) (.sv 3 9 0 k none)), (3, .row 34 9 S none)] 4 5 (.tup [])
    [(0, chX .nils (xv 2 8 y) (.sv 4 9 0 (k + 1) none)), (3, .gone), (4, .row 34 9 (S ++ wrA a b c d e f g h i) none)] := by
  cases y <;>
  · refine Ctr.introR (T := Tryz.T) Tryz.hT Tryz.hM Tryz.hE Tryz.func8 rfl (by kernel_rfl) rfl rfl ?_ rfl ?_
    · simp [okH_all, okR, chX, xv, okL_cons, okL_nil, okA_str, okA_ptr, okA_int, okA_nils, okA_sv, bare_ok hS]
    conv => whnf
    rw [show ((0 + k) * 9).ble S.length = true from Nat.ble_eq_true_of_le (by omega)]
    conv => whnf
    refine bcase_intro (fun h => ?_) (fun _ => ?_)
    · exact absurd (Nat.le_of_ble_eq_true h) (by omega)
    conv => whnf
    refine ⟨hr, ?_⟩
    rw [spine_eq, show List.take (k * 9) (List.drop (0 * 9) S) = S by rw [Nat.zero_mul, List.drop_zero, List.take_of_length_le (by omega)]]
    conv => whnf
    have hb : (S ++ wrA a b c d e f g h i).all bareA = true := by rw [List.all_append, hS]; rfl
    refine .mk' [6] rfl rfl rfl ?_ rfl rfl ⟨rfl, rfl, row_lk hb rfl, trivial⟩
    simp [okH_all, okR, chX, xv, okL_cons, okL_nil, okA_str, okA_ptr, okA_int, okA_nils, okA_sv, okL_app, bare_ok hS, wrA]
theorem cloneP {S : List AV} {k : Nat} (hS : S.all bareA = true) (hk : S.length = k * 8) (hr : k * 8 ≤ room) (h0 : 0 < k) : Ctr Tryz.prog 38 [.sv 0 8 0 k none] [] [(0, .row 31 8 S none)] 1 2 (.sv 1 8 0 k none) [(0, .row 31 8 S none), (1, .row 31 8 S none)] := by
  refine Ctr.introR (T := Tryz.T) Tryz.hT Tryz.hM Tryz.hE Tryz.func38 rfl (by kernel_rfl) rfl rfl ?_ rfl ?_
  · simp [okH_all, okR, bare_ok hS]
  conv => whnf
  dsimp only
  rw [readsA_row (by rw [hk, Nat.zero_mul, Nat.zero_add]; exact Nat.le_refl _)]
  have e1 : (List.take (k * 8) (List.drop (0 * 8) S)) = S := by rw [Nat.zero_mul, List.drop_zero, List.take_of_length_le (by omega)]
  rw [e1]
  have e2 : S.all leafA = true := bare_leaf hS
  conv => whnf
  rw [e2]
  conv => whnf
  have e3 : Nat.beq k 0 = false := by
    cases k with
    | zero => omega
    | succ k => rfl
  rw [e3]
  conv => whnf
  have e4 : (0 + k).ble 0 = false := by
    rw [Nat.zero_add]
    cases k with
    | zero => omega
    | succ k => rfl
  rw [e4]
  conv => whnf
  refine ⟨by simpa using hr, ?_⟩
  conv => whnf
  rw [spine_rec, show (List.take (0 * 8) (List.drop (0 * 8) ([] : List AV)) ++ S) = S from rfl]
  conv => whnf
  simp only [Nat.zero_add]
  refine .mk' [2] rfl rfl rfl ?_ rfl rfl ⟨row_lk hS rfl, row_lk hS rfl, trivial⟩
  simp [okH_all, okR, bare_ok hS]
theorem cloneW {S : List AV} {k : Nat} (hS : S.all bareA = true) (hk : S.length = k * 9) (hr : k * 9 ≤ room) (h0 : 0 < k) : Ctr Tryz.prog 39 [.sv 0 9 0 k none] [] [(0, .row 34 9 S none)] 1 2 (.sv 1 9 0 k none) [(0, .row 34 9 S none), (1, .row 34 9 S none)] := by
  refine Ctr.introR (T := Tryz.T) Tryz.hT Tryz.hM Tryz.hE Tryz.func39 rfl (by kernel_rfl) rfl rfl ?_ rfl ?_
  · simp [okH_all, okR, bare_ok hS]
  conv => whnf
  dsimp only
  rw [readsA_row (by rw [hk, Nat.zero_mul, Nat.zero_add]; exact Nat.le_refl _)]
  have e1 : (List.take (k * 9) (List.drop (0 * 9) S)) = S := by rw [Nat.zero_mul, List.drop_zero, List.take_of_length_le (by omega)]
  rw [e1]
  have e2 : S.all leafA = true := bare_leaf hS
  conv => whnf
  rw [e2]
  conv => whnf
  have e3 : Nat.beq k 0 = false := by
    cases k with
    | zero => omega
    | succ k => rfl
  rw [e3]
  conv => whnf
  have e4 : (0 + k).ble 0 = false := by
    rw [Nat.zero_add]
    cases k with
    | zero => omega
    | succ k => rfl
  rw [e4]
  conv => whnf
  refine ⟨by simpa using hr, ?_⟩
  conv => whnf
  rw [spine_rec, show (List.take (0 * 9) (List.drop (0 * 9) ([] : List AV)) ++ S) = S from rfl]
  conv => whnf
  simp only [Nat.zero_add]
  refine .mk' [2] rfl rfl rfl ?_ rfl rfl ⟨row_lk hS rfl, row_lk hS rfl, trivial⟩
  simp [okH_all, okR, bare_ok hS]
/-- What the chain's box holds is what it was. -/
def posO : Option Nat → Prop
  | none => True
  | some m => 0 < m
theorem xv_det {h z : Nat} {o : Option Nat} (ho : posO o) : detA 20 (xv h z o) = true := by
  cases o with
  | none => rfl
  | some m => simpa [xv, detA, posO] using ho
theorem chX_det {B X Y : AV} (hB : detA 20 B = true) (hX : detA 20 X = true) (hY : detA 20 Y = true) : ∃ e cs, chX B X Y = .box e cs ∧ cs.all (detA 20) = true := ⟨_, _, rfl, by simp only [List.all_cons, hB, hX, hY]; rfl⟩
theorem keep0 {P : Program} {g : FuncId} {args : List AV} {q : Res} {l m : Heap} {n n' : Nat} {r : AV} (spec : Ctr P g args [] ((0, q) :: l) n n' r ((0, q) :: m)) (hq : ∃ e cs, q = .box e cs ∧ cs.all (detA 20) = true)
    (hl : SX.look l 0 = none) (hm : SX.look m 0 = none) (hd : domB l m = true) : Ctr P g args [(0, q)] l n n' r m := by
  have key : ∀ {t : Heap} {h : Nat} {x : Res}, SX.look t 0 = none → SX.look t h = some x → SX.look ((0, q) :: t) h = some x := by
    intro t h x h0 hx
    rw [look_cons, if_neg (by rintro rfl; rw [h0] at hx; cases hx)]; exact hx
  refine spec.split (kept := [(0, q)]) ?_ (fun h x hx => key hl hx) ?_ (fun h x hx => key hm hx) (fun h x x' _ hx => by simp [lookN] at hx) hd
  · intro h x hx
    rw [look_cons] at hx ⊢
    split at hx
    · rename_i e; rw [if_pos e]; exact .inr hx
    · exact .inl hx
  · intro h x hx
    rw [look_cons] at hx
    split at hx
    · rename_i e
      subst e; cases hx
      exact ⟨by simp [lookC], hl, hm, by simp [lookC], hq⟩
    · simp [lookN] at hx
theorem cloneP0 : Ctr Tryz.prog 38 [.nils] [] [] 0 0 .nils [] := Tryz.ev_ok 80 (show Tryz.ev 80 38 [.nils] [] [] 0 = .ok (.nils, [], 0) by kernel_rfl)
theorem cloneW0 : Ctr Tryz.prog 39 [.nils] [] [] 0 0 .nils [] := Tryz.ev_ok 80 (show Tryz.ev 80 39 [.nils] [] [] 0 = .ok (.nils, [], 0) by kernel_rfl)
theorem cloneB0 : Ctr Tryz.prog 31 [.nils] [] [] 0 0 .nils [] := Tryz.ev_ok 80 (show Tryz.ev 80 31 [.nils] [] [] 0 = .ok (.nils, [], 0) by kernel_rfl)
theorem sent1 (b y : Option Nat) {S : List AV} {k : Nat} (hS : S.all bareA = true) (hk : S.length = k * 8) (hr : k * 8 ≤ room) (h0 : 0 < k) (hb : posO b) (hy : posO y) :
    Ctr Tryz.prog 13 [.ptr 0 0] [(0, chX (xv 4 2 b) (.sv 2 8 0 k none) (xv 3 9 y))] [(2, .row 31 8 S none)] 5 6 (.sv 5 8 0 k none) [(2, .row 31 8 S none), (5, .row 31 8 S none)] := by
  refine keep0 ?_ (chX_det (xv_det hb) (xv_det (o := some k) h0) (xv_det hy)) rfl rfl rfl
  cases b <;> cases y <;>
  · refine Ctr.introR (T := Tryz.T) Tryz.hT Tryz.hM Tryz.hE Tryz.func13 rfl (by kernel_rfl) rfl rfl ?_ rfl ?_
    · simp [okH_all, okR, chX, xv, okL_cons, okL_nil, okA_str, okA_ptr, okA_int, okA_nils, okA_sv, bare_ok hS]
    conv => whnf
    refine callR [2] (cloneP hS hk hr h0) (post' := [(2, .row 31 8 S none), (5, .row 31 8 S none)]) (by simp only [renH, renR, bare_ren hS]; rfl) rfl rfl rfl trivial ⟨row_lk hS rfl, trivial⟩ ?_
    conv => whnf
    refine .mk' [5] rfl rfl rfl ?_ rfl rfl ⟨rfl, row_lk hS rfl, row_lk hS rfl, trivial⟩
    simp [okH_all, okR, chX, xv, okL_cons, okL_nil, okA_str, okA_ptr, okA_int, okA_nils, okA_sv, bare_ok hS]
theorem sent0 (b y : Option Nat) (hb : posO b) (hy : posO y) : Ctr Tryz.prog 13 [.ptr 0 0] [(0, chX (xv 4 2 b) .nils (xv 3 9 y))] [] 5 5 .nils [] := by
  refine keep0 ?_ (chX_det (xv_det hb) rfl (xv_det hy)) rfl rfl rfl
  cases b <;> cases y <;>
  · refine Ctr.introR (T := Tryz.T) Tryz.hT Tryz.hM Tryz.hE Tryz.func13 rfl (by kernel_rfl) rfl rfl rfl rfl ?_
    conv => whnf
    refine callR [] cloneP0 rfl rfl rfl rfl trivial trivial ?_
    conv => whnf
    exact .mk' [] rfl rfl rfl rfl rfl rfl ⟨rfl, trivial⟩
theorem written1 (b y : Option Nat) {S : List AV} {k : Nat} (hS : S.all bareA = true) (hk : S.length = k * 9) (hr : k * 9 ≤ room) (h0 : 0 < k) (hb : posO b) (hy : posO y) :
    Ctr Tryz.prog 14 [.ptr 0 0] [(0, chX (xv 4 2 b) (xv 2 8 y) (.sv 3 9 0 k none))] [(3, .row 34 9 S none)] 5 6 (.sv 5 9 0 k none) [(3, .row 34 9 S none), (5, .row 34 9 S none)] := by
  refine keep0 ?_ (chX_det (xv_det hb) (xv_det hy) (xv_det (o := some k) h0)) rfl rfl rfl
  cases b <;> cases y <;>
  · refine Ctr.introR (T := Tryz.T) Tryz.hT Tryz.hM Tryz.hE Tryz.func14 rfl (by kernel_rfl) rfl rfl ?_ rfl ?_
    · simp [okH_all, okR, chX, xv, okL_cons, okL_nil, okA_str, okA_ptr, okA_int, okA_nils, okA_sv, bare_ok hS]
    conv => whnf
    refine callR [3] (cloneW hS hk hr h0) (post' := [(3, .row 34 9 S none), (5, .row 34 9 S none)]) (by simp only [renH, renR, bare_ren hS]; rfl) rfl rfl rfl trivial ⟨row_lk hS rfl, trivial⟩ ?_
    conv => whnf
    refine .mk' [5] rfl rfl rfl ?_ rfl rfl ⟨rfl, row_lk hS rfl, row_lk hS rfl, trivial⟩
    simp [okH_all, okR, chX, xv, okL_cons, okL_nil, okA_str, okA_ptr, okA_int, okA_nils, okA_sv, bare_ok hS]
theorem written0 (b y : Option Nat) (hb : posO b) (hy : posO y) : Ctr Tryz.prog 14 [.ptr 0 0] [(0, chX (xv 4 2 b) (xv 2 8 y) .nils)] [] 5 5 .nils [] := by
  refine keep0 ?_ (chX_det (xv_det hb) (xv_det hy) rfl) rfl rfl rfl
  cases b <;> cases y <;>
  · refine Ctr.introR (T := Tryz.T) Tryz.hT Tryz.hM Tryz.hE Tryz.func14 rfl (by kernel_rfl) rfl rfl rfl rfl ?_
    conv => whnf
    refine callR [] cloneW0 rfl rfl rfl rfl trivial trivial ?_
    conv => whnf
    exact .mk' [] rfl rfl rfl rfl rfl rfl ⟨rfl, trivial⟩
end Go.Proofs.YtkhliljbbjapmaaGreatDoor
