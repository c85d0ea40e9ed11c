/- RA: what relaySteps_law needs of PM, MK, HD, BL, BG, RU, PF, PB, PP, PQ, PR. -/
import Derived.Test.YtglkoaajgekonaaGreatDoorRep
import Derived.Test.YtglkoaajgekonaaGreatDoorOv
import Derived.Test.YtglkoaajgekonaaGreatDoorTxt
import Derived.Test.YtglkoaajgekonaaGreatDoorSXSL
import Derived.Test.YtglkoaajgekonaaGreatDoorSXU
import Derived.Test.YtglkoaajgekonaaGreatDoorSM
import Derived.Test.YtglkoaajgekonaaGreatDoorPS
import Derived.Test.YtglkoaajgekonaaGreatDoorLS
import Derived.Test.YtglkoaajgekonaaGreatDoorCH
import Derived.Test.YtglkoaajgekonaaGreatDoorPW
namespace Go.Proofs.YtglkoaajgekonaaGreatDoor
open Go.SX
def valO : G → Option AV
  | .ok (v, [], _) => some v
  | _ => none
def joinT (n : Int) (l : List ByteArray) : ByteArray := l.foldl (fun o s => catB o (textS s)) (numS n)
def joinS (l : List ByteArray) : ByteArray := joinT (l.length : Int) l
theorem joinT_snoc (n : Int) (l : List ByteArray) (s : ByteArray) : joinT n (l ++ [s]) = catB (joinT n l) (textS s) := by simp [joinT]
theorem joinT_size (n : Int) : ∀ l : List ByteArray, (joinT n l).size ≤ 8 + 65544 * l.length := by
  have : ∀ (l : List ByteArray) (o : ByteArray), (l.foldl (fun o s => catB o (textS s)) o).size ≤ o.size + 65544 * l.length := by
    intro l
    induction l with
    | nil => intro o; simp
    | cons x l ih =>
      intro o
      have h := ih (catB o (textS x))
      rw [cat_size] at h
      have := textS_size x
      simp only [List.foldl_cons, List.length_cons]
      omega
  intro l
  have h := this l (numS n)
  have := numS_size n
  unfold joinT; omega
def shortL (l : List ByteArray) : Prop := ∀ s ∈ l, s.size ≤ 65536
theorem textE_ok {s : ByteArray} (h : s.size ≤ 65536) : textE s = 0 := by
  unfold textE; rw [show decide ((65536 : Int) < (s.size : Int)) = false by simp; omega]; rfl
theorem numE_ok {x : Int} (h0 : 0 ≤ x) (h : x ≤ 9007199254740992) : numE x = 0 := by
  unfold numE; rw [show okN x = true by unfold okN; simp; omega]; rfl
noncomputable def rowS (l : List ByteArray) (d : Option Nat) : Res := .row 9 1 (strsA l) d
theorem rowS_ren (l : List ByteArray) (d : Option Nat) (π : Nat → Nat) : renR π (rowS l d) = rowS l d := by simp only [rowS, renR, bare_ren (strsA_bare l)]
theorem rowS_ok (l : List ByteArray) (d : Option Nat) (n : Nat) : okR n (rowS l d) = true := bare_ok (strsA_bare l)
theorem rowS_at {l : List ByteArray} {d : Option Nat} {H : Heap} {k : Nat} (π : Nat → Nat) (h : SX.look H (π k) = some (rowS l d)) : SX.look H (π k) = some (renR π (rowS l d)) := by rw [rowS_ren]; exact h
theorem join1p (l : List ByteArray) (c d : Option Nat) (hn : l.length ≤ 256) (hl : shortL l) :
    Ctr Tryz.prog 96 [.sv 0 1 0 l.length c] [] [(0, rowS l d)] 1 1 (.tup [.str (joinS l), .int .i64 0]) [(0, rowS l d)] := by
  refine Ctr.introR (T := Tryz.T) Tryz.hT Tryz.hM puZ_ok Tryz.func96 rfl (by kernel_rfl) rfl rfl ?_ rfl ?_
  · simp [okH_all, rowS_ok]
  conv => whnf
  rw [show decide ((256 : Int) < ((l.length : Nat) : Int)) = false by simp; omega]
  conv => whnf
  have hJ : ∀ i, (joinT (l.length : Int) (l.take i)).size ≤ 16800000 := fun i => by
    have := joinT_size (l.length : Int) (l.take i)
    have h2 : (l.take i).length ≤ 256 := by rw [List.length_take]; omega
    omega
  refine loopR Tryz.hT Tryz.hM puZ_ok (α := {i : Nat // i ≤ l.length})
    (fun i => ([(4, .str (joinT (l.length : Int) (l.take i.1))), (19, .sv 0 1 0 l.length c), (20, .int .i64 (l.length : Int)), (21, .int .i64 (i.1 : Int))], [(0, rowS l d)])) (fun i => l.length - i.1) 1 ⟨0, Nat.zero_le _⟩ [] ?_ ?_
  · refine ⟨⟨rfl, rfl, rfl, rfl, trivial⟩, ⟨rowS_at _ rfl, trivial⟩, ?_, rfl⟩
    simp [okFr, okH_all, rowS_ok, okA_sv, okA_str, okA_int, nodupB]
  rintro ⟨i, hi⟩
  dsimp only at hi ⊢
  conv => whnf
  by_cases h : i < l.length
  · rw [show decide (((i : Nat) : Int) < ((l.length : Nat) : Int)) = true by simpa using h]
    conv => whnf
    simp only [Int.toNat_natCast, Nat.zero_add]
    refine ⟨by omega, ?_⟩
    conv => whnf
    have hr : readA false 1 (strsA l) (i * 1 + 0) = some (.str l[i]) := by
      show nth (strsA l) _ = _
      rw [nth_eq, show i * 1 + 0 = i by omega, strsA, List.getElem?_map, List.getElem?_eq_getElem h]; rfl
    rw [hr]
    conv => whnf
    have hs : l[i].size ≤ 65536 := hl _ (List.getElem_mem h)
    have ht := textS_size l[i]
    have hj := hJ i
    rw [textE_ok hs]
    conv => whnf
    refine ⟨by unfold big; omega, ?_⟩
    conv => whnf
    have hw : IntKind.i64.wrap ((i : Int) + 1) = ((i + 1 : Nat) : Int) := by rw [wrap_small] <;> omega
    have hsn : catB (joinT (l.length : Int) (l.take i)) (textS l[i]) = joinT (l.length : Int) (l.take (i + 1)) := by rw [List.take_succ_eq_append_getElem h, joinT_snoc]
    rw [hw, hsn]
    refine ⟨⟨i + 1, h⟩, [], by dsimp only; omega, ⟨⟨rfl, rfl, rfl, rfl, trivial⟩, ⟨rowS_at _ rfl, trivial⟩, ?_, rfl⟩⟩
    simp [okFr, okH_all, rowS_ok, okA_sv, okA_str, okA_int, nodupB]
  · rw [show decide (((i : Nat) : Int) < ((l.length : Nat) : Int)) = false by simpa using h]
    have h : i = l.length := by omega
    subst h
    conv => whnf
    rw [List.take_length]
    refine Fin.same ?_ rfl ?_
    · simp [okH_all, rowS_ok]
    · simp [lookC]
theorem join2p (l : List ByteArray) (c d : Option Nat) (hn : l.length ≤ 256) (hl : shortL l) :
    Ctr Tryz.prog 36 [.sv 0 1 0 l.length c] [] [(0, rowS l d)] 1 1 (.tup [.str (joinS l), .int .i64 0]) [(0, rowS l d)] := by
  refine Ctr.introR (T := Tryz.T) Tryz.hT Tryz.hM puZ_ok Tryz.func36 rfl (by kernel_rfl) rfl rfl ?_ rfl ?_
  · simp [okH_all, rowS_ok]
  conv => whnf
  rw [show decide ((256 : Int) < ((l.length : Nat) : Int)) = false by simp; omega]
  conv => whnf
  have hJ : ∀ i, (joinT (l.length : Int) (l.take i)).size ≤ 16800000 := fun i => by
    have := joinT_size (l.length : Int) (l.take i)
    have h2 : (l.take i).length ≤ 256 := by rw [List.length_take]; omega
    omega
  refine loopR Tryz.hT Tryz.hM puZ_ok (α := {i : Nat // i ≤ l.length})
    (fun i => ([(0, .sv 0 1 0 l.length c), (4, .str (joinT (l.length : Int) (l.take i.1))), (6, .int .i64 (i.1 : Int))], [(0, rowS l d)])) (fun i => l.length - i.1) 1 ⟨0, Nat.zero_le _⟩ [] ?_ ?_
  · refine ⟨⟨rfl, rfl, rfl, trivial⟩, ⟨rowS_at _ rfl, trivial⟩, ?_, rfl⟩
    simp [okFr, okH_all, rowS_ok, okA_sv, okA_str, okA_int, nodupB]
  rintro ⟨i, hi⟩
  dsimp only at hi ⊢
  conv => whnf
  by_cases h : i < l.length
  · rw [show decide (((i : Nat) : Int) < ((l.length : Nat) : Int)) = true by simpa using h]
    conv => whnf
    simp only [Int.toNat_natCast, Nat.zero_add]
    refine ⟨by omega, ?_⟩
    conv => whnf
    have hr : readA false 1 (strsA l) (i * 1 + 0) = some (.str l[i]) := by
      show nth (strsA l) _ = _
      rw [nth_eq, show i * 1 + 0 = i by omega, strsA, List.getElem?_map, List.getElem?_eq_getElem h]; rfl
    rw [hr]
    conv => whnf
    have hs : l[i].size ≤ 65536 := hl _ (List.getElem_mem h)
    have ht := textS_size l[i]
    have hj := hJ i
    rw [textE_ok hs]
    conv => whnf
    refine ⟨by unfold big; omega, ?_⟩
    conv => whnf
    have hw : IntKind.i64.wrap ((i : Int) + 1) = ((i + 1 : Nat) : Int) := by rw [wrap_small] <;> omega
    have hsn : catB (joinT (l.length : Int) (l.take i)) (textS l[i]) = joinT (l.length : Int) (l.take (i + 1)) := by rw [List.take_succ_eq_append_getElem h, joinT_snoc]
    rw [hw, hsn]
    refine ⟨⟨i + 1, h⟩, [], by dsimp only; omega, ⟨⟨rfl, rfl, rfl, trivial⟩, ⟨rowS_at _ rfl, trivial⟩, ?_, rfl⟩⟩
    simp [okFr, okH_all, rowS_ok, okA_sv, okA_str, okA_int, nodupB]
  · rw [show decide (((i : Nat) : Int) < ((l.length : Nat) : Int)) = false by simpa using h]
    have h : i = l.length := by omega
    subst h
    conv => whnf
    rw [List.take_length]
    refine Fin.same ?_ rfl ?_
    · simp [okH_all, rowS_ok]
    · simp [lookC]
theorem clo {f : Nat} {args : List AV} {v : AV} (h : valO (Tryz.evo Tryz.ovA 80 f args [] [] 2) = some v) (ha : okL 0 args = true) (hv : okA 0 v = true) : Ctr Tryz.prog f args [] [] 0 0 v [] := by
  cases hg : Tryz.evo Tryz.ovA 80 f args [] [] 2 with
  | no w => rw [hg] at h; cases h
  | ok x =>
    obtain ⟨u, post, k⟩ := x
    rw [hg] at h
    cases post with
    | cons a l => cases h
    | nil =>
      cases h
      exact Ctr.shut (Tryz.ovA_ok 80 hg) ha hv
noncomputable def msgA (kind : Int) (f : ByteArray) (a b c : AV) : AV := .agg [.int .i64 kind, .str f, a, b, c]
def relW : ByteArray := ⟨#[114, 101, 108, 97, 121, 101, 114]⟩
theorem nameP : Ctr Tryz.prog 45 [.int .i64 6, .str relW] [] [] 0 0 (.int .i64 0) [] := clo (by kernel_rfl) rfl rfl
theorem nameR : Ctr Tryz.prog 63 [.int .i64 6, .str relW] [] [] 0 0 (.int .i64 0) [] := clo (by kernel_rfl) rfl rfl
theorem join1n : Ctr Tryz.prog 96 [.nils] [] [] 0 0 (.tup [.str (joinS []), .int .i64 0]) [] := clo (by kernel_rfl) rfl rfl
theorem join2n : Ctr Tryz.prog 36 [.nils] [] [] 0 0 (.tup [.str (joinS []), .int .i64 0]) [] := clo (by kernel_rfl) rfl rfl
def intsA (l : List Int) : List AV := l.map (AV.int .i64)
theorem intsA_bare (l : List Int) : (intsA l).all bareA = true := by simp [intsA, bareA]
noncomputable def rowI (l : List Int) (d : Option Nat) : Res := .row 3 1 (intsA l) d
theorem rowI_ren (l : List Int) (d : Option Nat) (π : Nat → Nat) : renR π (rowI l d) = rowI l d := by simp only [rowI, renR, bare_ren (intsA_bare l)]
theorem rowI_ok (l : List Int) (d : Option Nat) (n : Nat) : okR n (rowI l d) = true := bare_ok (intsA_bare l)
theorem rowI_at {l : List Int} {d : Option Nat} {H : Heap} {k : Nat} (π : Nat → Nat) (h : SX.look H (π k) = some (rowI l d)) : SX.look H (π k) = some (renR π (rowI l d)) := by rw [rowI_ren]; exact h
def numsT (o : ByteArray) (ns : List Int) : ByteArray := ns.foldl (fun o n => catB o (numS n)) o
def msgB (k : Int) (l : List ByteArray) (ns : List Int) : ByteArray := numsT (catB (catB (catB (catB ⟨#[]⟩ (numS k)) (textS relW)) (joinS l)) (joinS [])) ns
/-- What a kind has. -/
def Kind (k : Int) (t n : Nat) : Prop := (∃ b, Ctr Tryz.prog 132 [.int .i64 k] [] [] 0 0 (.tup [.agg [.int .i64 (t : Int), .int .i64 (n : Int), .bool b], .bool true]) []) ∧
  Ctr Tryz.prog 61 [.int .i64 k] [] [] 0 0 (.int .i64 (t : Int)) [] ∧ Ctr Tryz.prog 62 [.int .i64 k] [] [] 0 0 (.int .i64 (n : Int)) []
theorem kind14 : Kind 14 4 1 := ⟨⟨false, clo (by kernel_rfl) rfl rfl⟩, clo (by kernel_rfl) rfl rfl, clo (by kernel_rfl) rfl rfl⟩
theorem f0 (m : Nat) : (!decide ((m : Int) = (m : Int))) = false := by simp
theorem num_in {x : Int} (h1 : 0 ≤ x) (h2 : x ≤ 1099511627776) : decide (x < 0) = false ∧ decide (1099511627776 < x) = false := by simp; omega
theorem nil_cat (a : ByteArray) : catB ⟨#[]⟩ a = a := by
  rw [catB_eq]
  apply ByteArray.ext
  rw [ByteArray.data_append]
  simp
theorem nil_size : (ByteArray.mk #[]).size = 0 := rfl
theorem hj1 (l : List ByteArray) (hn : l.length ≤ 256) : (joinS l).size ≤ 16800000 := by have := joinT_size (l.length : Int) l; unfold joinS; omega
theorem relS : (textS relW).size ≤ 20 := by decide
theorem joinN : (joinS []).size ≤ 20 := by decide
theorem lay1 {o s : ByteArray} (h : o.size + s.size ≤ big) (e : Int) : Ctr Tryz.prog 104 [.str s, .int .i64 e, .ptr 0 0] [] [(0, .box 9 [.str o])] 1 1 (.tup []) [(0, .box 9 [.str (catB o s)])] := by
  refine Ctr.introR (T := Tryz.T) Tryz.hT Tryz.hM puZ_ok Tryz.func104 rfl (by kernel_rfl) rfl rfl rfl rfl ?_
  conv => whnf
  refine ⟨h, ?_⟩
  conv => whnf
  exact .mk' [] rfl rfl rfl rfl rfl rfl ⟨rfl, trivial⟩
theorem checkP1 {k : Int} {l : List ByteArray} {x : Int} (hk : Kind k l.length 1) (d : Option Nat) (hn : l.length ≤ 256) (hl : shortL l) (px : 0 ≤ x) (qx : x ≤ 1099511627776) :
    Ctr Tryz.prog 103 [msgA k relW (.sv 0 1 0 l.length none) .nils (.sv 1 1 0 1 none)] [] [(0, rowS l d), (1, rowI [x] none)] 2 2 (.int .i64 0) [(0, rowS l d), (1, rowI [x] none)] := by
  obtain ⟨⟨b, h1⟩, _, _⟩ := hk
  refine Ctr.introR (T := Tryz.T) Tryz.hT Tryz.hM puZ_ok Tryz.func103 rfl (by kernel_rfl) rfl rfl ?_ rfl ?_
  · simp [okH_all, rowS_ok, rowI_ok]
  conv => whnf
  refine callR [] h1 rfl rfl rfl rfl trivial trivial ?_
  conv => whnf
  rw [f0]
  conv => whnf
  refine callR [] nameP rfl rfl rfl rfl trivial trivial ?_
  conv => whnf
  refine unrollR Tryz.hT Tryz.hM puZ_ok 2 ?_
  conv => whnf
  refine ⟨by decide, ?_⟩
  conv => whnf
  rw [(num_in px qx).1]
  conv => whnf
  rw [(num_in px qx).2]
  conv => whnf
  refine unrollR Tryz.hT Tryz.hM puZ_ok 3 ?_
  conv => whnf
  refine ⟨by decide, ?_⟩
  conv => whnf
  refine callR [0] (join1p l none d hn hl) (post' := [(0, rowS l d)]) (by simp only [renH, rowS_ren]; rfl) rfl rfl rfl trivial ⟨rowS_at _ rfl, trivial⟩ ?_
  conv => whnf
  refine ⟨by decide, ?_⟩
  conv => whnf
  refine callR [] join1n rfl rfl rfl rfl trivial trivial ?_
  conv => whnf
  refine Fin.same ?_ rfl ?_
  · simp [okH_all, rowS_ok, rowI_ok]
  · intro p hp
    simp only [List.mem_cons, List.not_mem_nil, or_false] at hp
    rcases hp with rfl | rfl <;> rfl
theorem checkR1 {k : Int} {l : List ByteArray} {x : Int} (hk : Kind k l.length 1) (d : Option Nat) (hn : l.length ≤ 256) (hl : shortL l) (px : 0 ≤ x) (qx : x ≤ 1099511627776) :
    Ctr Tryz.prog 35 [msgA k relW (.sv 0 1 0 l.length none) .nils (.sv 1 1 0 1 none)] [] [(0, rowS l d), (1, rowI [x] none)] 2 2 (.int .i64 0) [(0, rowS l d), (1, rowI [x] none)] := by
  obtain ⟨_, h1, h2⟩ := hk
  refine Ctr.introR (T := Tryz.T) Tryz.hT Tryz.hM puZ_ok Tryz.func35 rfl (by kernel_rfl) rfl rfl ?_ rfl ?_
  · simp [okH_all, rowS_ok, rowI_ok]
  conv => whnf
  refine callR [] h1 rfl rfl rfl rfl trivial trivial ?_
  conv => whnf
  rw [show decide (((l.length : Nat) : Int) < 0) = false by simp]
  conv => whnf
  refine callR [] h1 rfl rfl rfl rfl trivial trivial ?_
  conv => whnf
  rw [f0]
  conv => whnf
  refine callR [] h2 rfl rfl rfl rfl trivial trivial ?_
  conv => whnf
  refine callR [] nameR rfl rfl rfl rfl trivial trivial ?_
  conv => whnf
  refine unrollR Tryz.hT Tryz.hM puZ_ok 2 ?_
  conv => whnf
  refine ⟨by decide, ?_⟩
  conv => whnf
  rw [(num_in px qx).1]
  conv => whnf
  refine ⟨by decide, ?_⟩
  conv => whnf
  rw [(num_in px qx).2]
  conv => whnf
  refine callR [0] (join2p l none d hn hl) (post' := [(0, rowS l d)]) (by simp only [renH, rowS_ren]; rfl) rfl rfl rfl trivial ⟨rowS_at _ rfl, trivial⟩ ?_
  conv => whnf
  refine callR [] join2n rfl rfl rfl rfl trivial trivial ?_
  conv => whnf
  refine Fin.same ?_ rfl ?_
  · simp [okH_all, rowS_ok, rowI_ok]
  · intro p hp
    simp only [List.mem_cons, List.not_mem_nil, or_false] at hp
    rcases hp with rfl | rfl <;> rfl
theorem putP1 {k : Int} {l : List ByteArray} {x : Int} (hk : Kind k l.length 1) (d : Option Nat) (hn : l.length ≤ 256) (hl : shortL l) (px : 0 ≤ x) (qx : x ≤ 1099511627776) :
    Ctr Tryz.prog 60 [msgA k relW (.sv 0 1 0 l.length none) .nils (.sv 1 1 0 1 none)] [] [(0, rowS l d), (1, rowI [x] none)] 2 2 (.tup [.str (msgB k l [x]), .int .i64 0]) [(0, rowS l d), (1, rowI [x] none)] := by
  refine Ctr.introR (T := Tryz.T) Tryz.hT Tryz.hM puZ_ok Tryz.func60 rfl (by kernel_rfl) rfl rfl ?_ rfl ?_
  · simp [okH_all, rowS_ok, rowI_ok]
  conv => whnf
  refine callR [0, 1] (checkP1 hk d hn hl px qx) (post' := [(0, rowS l d), (1, rowI [x] none)]) (by simp only [renH, rowS_ren, rowI_ren]; rfl) rfl rfl rfl trivial ⟨rowS_at _ rfl, rowI_at _ rfl, trivial⟩ ?_
  conv => whnf
  have hj := hj1 l hn
  have hk8 := numS_size k
  have hr8 := relS
  have hn8 := joinN
  refine callR [3] (lay1 (by simp only [nil_size]; unfold big; omega) _) rfl rfl rfl rfl trivial ⟨rfl, trivial⟩ ?_
  conv => whnf
  refine callR [3] (lay1 (by simp only [cat_size, nil_size]; unfold big; omega) _) rfl rfl rfl rfl trivial ⟨rfl, trivial⟩ ?_
  conv => whnf
  refine callR [0] (join1p l none d hn hl) (post' := [(0, rowS l d)]) (by simp only [renH, rowS_ren]; rfl) rfl rfl rfl trivial ⟨rowS_at _ rfl, trivial⟩ ?_
  conv => whnf
  refine callR [3] (lay1 (by simp only [cat_size, nil_size]; unfold big; omega) 0) rfl rfl rfl rfl trivial ⟨rfl, trivial⟩ ?_
  conv => whnf
  refine callR [] join1n rfl rfl rfl rfl trivial trivial ?_
  conv => whnf
  refine callR [3] (lay1 (by simp only [cat_size, nil_size]; unfold big; omega) 0) rfl rfl rfl rfl trivial ⟨rfl, trivial⟩ ?_
  conv => whnf
  have n8x := numS_size x
  refine unrollR Tryz.hT Tryz.hM puZ_ok 2 ?_
  conv => whnf
  refine ⟨by decide, ?_⟩
  conv => whnf
  refine callR [3] (lay1 (by simp only [cat_size, nil_size]; unfold big; omega) _) rfl rfl rfl rfl trivial ⟨rfl, trivial⟩ ?_
  conv => whnf
  rw [show msgB k l [x] = catB (catB (catB (catB (catB ⟨#[]⟩ (numS k)) (textS relW)) (joinS l)) (joinS [])) (numS x) from rfl]
  refine Fin.same ?_ rfl ?_
  · simp [okH_all, rowS_ok, rowI_ok]
  · intro p hp
    simp only [List.mem_cons, List.not_mem_nil, or_false] at hp
    rcases hp with rfl | rfl <;> rfl
theorem putR1 {k : Int} {l : List ByteArray} {x : Int} (hk : Kind k l.length 1) (d : Option Nat) (hn : l.length ≤ 256) (hl : shortL l) (px : 0 ≤ x) (qx : x ≤ 1099511627776) :
    Ctr Tryz.prog 16 [msgA k relW (.sv 0 1 0 l.length none) .nils (.sv 1 1 0 1 none)] [] [(0, rowS l d), (1, rowI [x] none)] 2 2 (.tup [.str (msgB k l [x]), .int .i64 0]) [(0, rowS l d), (1, rowI [x] none)] := by
  refine Ctr.introR (T := Tryz.T) Tryz.hT Tryz.hM puZ_ok Tryz.func16 rfl (by kernel_rfl) rfl rfl ?_ rfl ?_
  · simp [okH_all, rowS_ok, rowI_ok]
  conv => whnf
  refine callR [0, 1] (checkR1 hk d hn hl px qx) (post' := [(0, rowS l d), (1, rowI [x] none)]) (by simp only [renH, rowS_ren, rowI_ren]; rfl) rfl rfl rfl trivial ⟨rowS_at _ rfl, rowI_at _ rfl, trivial⟩ ?_
  conv => whnf
  have hj := hj1 l hn
  have hk8 := numS_size k
  have hr8 := relS
  have hn8 := joinN
  have n8x := numS_size x
  refine callR [0] (join2p l none d hn hl) (post' := [(0, rowS l d)]) (by simp only [renH, rowS_ren]; rfl) rfl rfl rfl trivial ⟨rowS_at _ rfl, trivial⟩ ?_
  conv => whnf
  refine callR [] join2n rfl rfl rfl rfl trivial trivial ?_
  conv => whnf
  refine ⟨by (try simp only [cat_size]); unfold big; omega, ?_⟩
  conv => whnf
  refine ⟨by (try simp only [cat_size]); unfold big; omega, ?_⟩
  conv => whnf
  refine ⟨by (try simp only [cat_size]); unfold big; omega, ?_⟩
  conv => whnf
  refine unrollR Tryz.hT Tryz.hM puZ_ok 2 ?_
  conv => whnf
  refine ⟨by decide, ?_⟩
  conv => whnf
  refine ⟨by (try simp only [cat_size]); unfold big; omega, ?_⟩
  conv => whnf
  rw [show msgB k l [x] = catB (catB (catB (catB (catB ⟨#[]⟩ (numS k)) (textS relW)) (joinS l)) (joinS [])) (numS x) from rfl, nil_cat]
  refine Fin.same ?_ rfl ?_
  · simp [okH_all, rowS_ok, rowI_ok]
  · intro p hp
    simp only [List.mem_cons, List.not_mem_nil, or_false] at hp
    rcases hp with rfl | rfl <;> rfl
theorem checkP2 {k : Int} {l : List ByteArray} {x : Int} {y : Int} (hk : Kind k l.length 2) (d : Option Nat) (hn : l.length ≤ 256) (hl : shortL l) (px : 0 ≤ x) (qx : x ≤ 1099511627776) (py : 0 ≤ y) (qy : y ≤ 1099511627776) :
    Ctr Tryz.prog 103 [msgA k relW (.sv 0 1 0 l.length none) .nils (.sv 1 1 0 2 none)] [] [(0, rowS l d), (1, rowI [x, y] none)] 2 2 (.int .i64 0) [(0, rowS l d), (1, rowI [x, y] none)] := by
  obtain ⟨⟨b, h1⟩, _, _⟩ := hk
  refine Ctr.introR (T := Tryz.T) Tryz.hT Tryz.hM puZ_ok Tryz.func103 rfl (by kernel_rfl) rfl rfl ?_ rfl ?_
  · simp [okH_all, rowS_ok, rowI_ok]
  conv => whnf
  refine callR [] h1 rfl rfl rfl rfl trivial trivial ?_
  conv => whnf
  rw [f0]
  conv => whnf
  refine callR [] nameP rfl rfl rfl rfl trivial trivial ?_
  conv => whnf
  refine unrollR Tryz.hT Tryz.hM puZ_ok 3 ?_
  conv => whnf
  refine ⟨by decide, ?_⟩
  conv => whnf
  rw [(num_in px qx).1]
  conv => whnf
  rw [(num_in px qx).2]
  conv => whnf
  refine ⟨by decide, ?_⟩
  conv => whnf
  rw [(num_in py qy).1]
  conv => whnf
  rw [(num_in py qy).2]
  conv => whnf
  refine unrollR Tryz.hT Tryz.hM puZ_ok 3 ?_
  conv => whnf
  refine ⟨by decide, ?_⟩
  conv => whnf
  refine callR [0] (join1p l none d hn hl) (post' := [(0, rowS l d)]) (by simp only [renH, rowS_ren]; rfl) rfl rfl rfl trivial ⟨rowS_at _ rfl, trivial⟩ ?_
  conv => whnf
  refine ⟨by decide, ?_⟩
  conv => whnf
  refine callR [] join1n rfl rfl rfl rfl trivial trivial ?_
  conv => whnf
  refine Fin.same ?_ rfl ?_
  · simp [okH_all, rowS_ok, rowI_ok]
  · intro p hp
    simp only [List.mem_cons, List.not_mem_nil, or_false] at hp
    rcases hp with rfl | rfl <;> rfl
theorem checkR2 {k : Int} {l : List ByteArray} {x : Int} {y : Int} (hk : Kind k l.length 2) (d : Option Nat) (hn : l.length ≤ 256) (hl : shortL l) (px : 0 ≤ x) (qx : x ≤ 1099511627776) (py : 0 ≤ y) (qy : y ≤ 1099511627776) :
    Ctr Tryz.prog 35 [msgA k relW (.sv 0 1 0 l.length none) .nils (.sv 1 1 0 2 none)] [] [(0, rowS l d), (1, rowI [x, y] none)] 2 2 (.int .i64 0) [(0, rowS l d), (1, rowI [x, y] none)] := by
  obtain ⟨_, h1, h2⟩ := hk
  refine Ctr.introR (T := Tryz.T) Tryz.hT Tryz.hM puZ_ok Tryz.func35 rfl (by kernel_rfl) rfl rfl ?_ rfl ?_
  · simp [okH_all, rowS_ok, rowI_ok]
  conv => whnf
  refine callR [] h1 rfl rfl rfl rfl trivial trivial ?_
  conv => whnf
  rw [show decide (((l.length : Nat) : Int) < 0) = false by simp]
  conv => whnf
  refine callR [] h1 rfl rfl rfl rfl trivial trivial ?_
  conv => whnf
  rw [f0]
  conv => whnf
  refine callR [] h2 rfl rfl rfl rfl trivial trivial ?_
  conv => whnf
  refine callR [] nameR rfl rfl rfl rfl trivial trivial ?_
  conv => whnf
  refine unrollR Tryz.hT Tryz.hM puZ_ok 3 ?_
  conv => whnf
  refine ⟨by decide, ?_⟩
  conv => whnf
  rw [(num_in px qx).1]
  conv => whnf
  refine ⟨by decide, ?_⟩
  conv => whnf
  rw [(num_in px qx).2]
  conv => whnf
  refine ⟨by decide, ?_⟩
  conv => whnf
  rw [(num_in py qy).1]
  conv => whnf
  refine ⟨by decide, ?_⟩
  conv => whnf
  rw [(num_in py qy).2]
  conv => whnf
  refine callR [0] (join2p l none d hn hl) (post' := [(0, rowS l d)]) (by simp only [renH, rowS_ren]; rfl) rfl rfl rfl trivial ⟨rowS_at _ rfl, trivial⟩ ?_
  conv => whnf
  refine callR [] join2n rfl rfl rfl rfl trivial trivial ?_
  conv => whnf
  refine Fin.same ?_ rfl ?_
  · simp [okH_all, rowS_ok, rowI_ok]
  · intro p hp
    simp only [List.mem_cons, List.not_mem_nil, or_false] at hp
    rcases hp with rfl | rfl <;> rfl
theorem putP2 {k : Int} {l : List ByteArray} {x : Int} {y : Int} (hk : Kind k l.length 2) (d : Option Nat) (hn : l.length ≤ 256) (hl : shortL l) (px : 0 ≤ x) (qx : x ≤ 1099511627776) (py : 0 ≤ y) (qy : y ≤ 1099511627776) :
    Ctr Tryz.prog 60 [msgA k relW (.sv 0 1 0 l.length none) .nils (.sv 1 1 0 2 none)] [] [(0, rowS l d), (1, rowI [x, y] none)] 2 2 (.tup [.str (msgB k l [x, y]), .int .i64 0]) [(0, rowS l d), (1, rowI [x, y] none)] := by
  refine Ctr.introR (T := Tryz.T) Tryz.hT Tryz.hM puZ_ok Tryz.func60 rfl (by kernel_rfl) rfl rfl ?_ rfl ?_
  · simp [okH_all, rowS_ok, rowI_ok]
  conv => whnf
  refine callR [0, 1] (checkP2 hk d hn hl px qx py qy) (post' := [(0, rowS l d), (1, rowI [x, y] none)]) (by simp only [renH, rowS_ren, rowI_ren]; rfl) rfl rfl rfl trivial ⟨rowS_at _ rfl, rowI_at _ rfl, trivial⟩ ?_
  conv => whnf
  have hj := hj1 l hn
  have hk8 := numS_size k
  have hr8 := relS
  have hn8 := joinN
  refine callR [3] (lay1 (by simp only [nil_size]; unfold big; omega) _) rfl rfl rfl rfl trivial ⟨rfl, trivial⟩ ?_
  conv => whnf
  refine callR [3] (lay1 (by simp only [cat_size, nil_size]; unfold big; omega) _) rfl rfl rfl rfl trivial ⟨rfl, trivial⟩ ?_
  conv => whnf
  refine callR [0] (join1p l none d hn hl) (post' := [(0, rowS l d)]) (by simp only [renH, rowS_ren]; rfl) rfl rfl rfl trivial ⟨rowS_at _ rfl, trivial⟩ ?_
  conv => whnf
  refine callR [3] (lay1 (by simp only [cat_size, nil_size]; unfold big; omega) 0) rfl rfl rfl rfl trivial ⟨rfl, trivial⟩ ?_
  conv => whnf
  refine callR [] join1n rfl rfl rfl rfl trivial trivial ?_
  conv => whnf
  refine callR [3] (lay1 (by simp only [cat_size, nil_size]; unfold big; omega) 0) rfl rfl rfl rfl trivial ⟨rfl, trivial⟩ ?_
  conv => whnf
  have n8x := numS_size x
  have n8y := numS_size y
  refine unrollR Tryz.hT Tryz.hM puZ_ok 3 ?_
  conv => whnf
  refine ⟨by decide, ?_⟩
  conv => whnf
  refine callR [3] (lay1 (by simp only [cat_size, nil_size]; unfold big; omega) _) rfl rfl rfl rfl trivial ⟨rfl, trivial⟩ ?_
  conv => whnf
  refine ⟨by decide, ?_⟩
  conv => whnf
  refine callR [3] (lay1 (by simp only [cat_size, nil_size]; unfold big; omega) _) rfl rfl rfl rfl trivial ⟨rfl, trivial⟩ ?_
  conv => whnf
  rw [show msgB k l [x, y] = catB (catB (catB (catB (catB (catB ⟨#[]⟩ (numS k)) (textS relW)) (joinS l)) (joinS [])) (numS x)) (numS y) from rfl]
  refine Fin.same ?_ rfl ?_
  · simp [okH_all, rowS_ok, rowI_ok]
  · intro p hp
    simp only [List.mem_cons, List.not_mem_nil, or_false] at hp
    rcases hp with rfl | rfl <;> rfl
theorem putR2 {k : Int} {l : List ByteArray} {x : Int} {y : Int} (hk : Kind k l.length 2) (d : Option Nat) (hn : l.length ≤ 256) (hl : shortL l) (px : 0 ≤ x) (qx : x ≤ 1099511627776) (py : 0 ≤ y) (qy : y ≤ 1099511627776) :
    Ctr Tryz.prog 16 [msgA k relW (.sv 0 1 0 l.length none) .nils (.sv 1 1 0 2 none)] [] [(0, rowS l d), (1, rowI [x, y] none)] 2 2 (.tup [.str (msgB k l [x, y]), .int .i64 0]) [(0, rowS l d), (1, rowI [x, y] none)] := by
  refine Ctr.introR (T := Tryz.T) Tryz.hT Tryz.hM puZ_ok Tryz.func16 rfl (by kernel_rfl) rfl rfl ?_ rfl ?_
  · simp [okH_all, rowS_ok, rowI_ok]
  conv => whnf
  refine callR [0, 1] (checkR2 hk d hn hl px qx py qy) (post' := [(0, rowS l d), (1, rowI [x, y] none)]) (by simp only [renH, rowS_ren, rowI_ren]; rfl) rfl rfl rfl trivial ⟨rowS_at _ rfl, rowI_at _ rfl, trivial⟩ ?_
  conv => whnf
  have hj := hj1 l hn
  have hk8 := numS_size k
  have hr8 := relS
  have hn8 := joinN
  have n8x := numS_size x
  have n8y := numS_size y
  refine callR [0] (join2p l none d hn hl) (post' := [(0, rowS l d)]) (by simp only [renH, rowS_ren]; rfl) rfl rfl rfl trivial ⟨rowS_at _ rfl, trivial⟩ ?_
  conv => whnf
  refine callR [] join2n rfl rfl rfl rfl trivial trivial ?_
  conv => whnf
  refine ⟨by (try simp only [cat_size]); unfold big; omega, ?_⟩
  conv => whnf
  refine ⟨by (try simp only [cat_size]); unfold big; omega, ?_⟩
  conv => whnf
  refine ⟨by (try simp only [cat_size]); unfold big; omega, ?_⟩
  conv => whnf
  refine unrollR Tryz.hT Tryz.hM puZ_ok 3 ?_
  conv => whnf
  refine ⟨by decide, ?_⟩
  conv => whnf
  refine ⟨by (try simp only [cat_size]); unfold big; omega, ?_⟩
  conv => whnf
  refine ⟨by decide, ?_⟩
  conv => whnf
  refine ⟨by (try simp only [cat_size]); unfold big; omega, ?_⟩
  conv => whnf
  rw [show msgB k l [x, y] = catB (catB (catB (catB (catB (catB ⟨#[]⟩ (numS k)) (textS relW)) (joinS l)) (joinS [])) (numS x)) (numS y) from rfl, nil_cat]
  refine Fin.same ?_ rfl ?_
  · simp [okH_all, rowS_ok, rowI_ok]
  · intro p hp
    simp only [List.mem_cons, List.not_mem_nil, or_false] at hp
    rcases hp with rfl | rfl <;> rfl

def leafB (p : KV) : ByteArray := sumB K64 (catB (catB ⟨#[0]⟩ (textS p.1)) (textS p.2))
def nodeB (a b : ByteArray) : ByteArray := sumB K64 (catB (catB ⟨#[1]⟩ a) b)
def topB (n : Nat) (t : ByteArray) : ByteArray := sumB K64 (catB (catB ⟨#[2]⟩ (numS (n : Int))) t)
theorem leafP (k v : ByteArray) : Ctr Tryz.prog 89 [.agg [.str k, .str v]] [] [] 0 0 (.str (leafB (k, v))) [] := by
  have hk := textS_size k
  have hv := textS_size v
  have h1 : (ByteArray.mk #[0]).size = 1 := rfl
  refine Ctr.shut (m := 0) (k := 1) ?_ rfl rfl
  refine Ctr.introR (T := Tryz.T) Tryz.hT Tryz.hM puZ_ok Tryz.func89 rfl (by kernel_rfl) rfl rfl rfl rfl ?_
  conv => whnf
  refine ⟨by unfold big; omega, ?_⟩
  conv => whnf
  refine ⟨by rw [cat_size]; unfold big; omega, ?_⟩
  conv => whnf
  refine callR [] (sumP (catB (catB ⟨#[0]⟩ (textS k)) (textS v)) (by rw [cat_size, cat_size]; omega)) rfl rfl rfl rfl trivial trivial ?_
  conv => whnf
  exact .mk' [0] rfl rfl rfl rfl rfl rfl trivial
theorem nodeP {a b : ByteArray} (ha : a.size ≤ 16800000) (hb : b.size ≤ 16800000) : Ctr Tryz.prog 90 [.str a, .str b] [] [] 0 0 (.str (nodeB a b)) [] := by
  have h1 : (ByteArray.mk #[1]).size = 1 := rfl
  refine Ctr.introR (T := Tryz.T) Tryz.hT Tryz.hM puZ_ok Tryz.func90 rfl (by kernel_rfl) rfl rfl rfl rfl ?_
  conv => whnf
  refine ⟨by unfold big; omega, ?_⟩
  conv => whnf
  refine ⟨by rw [cat_size]; unfold big; omega, ?_⟩
  conv => whnf
  refine callR [] (sumP (catB (catB ⟨#[1]⟩ a) b) (by rw [cat_size, cat_size]; omega)) rfl rfl rfl rfl trivial trivial ?_
  conv => whnf
  exact Fin.same rfl rfl (by simp)
theorem topP (n : Nat) {t : ByteArray} (ht : t.size ≤ 16800000) : Ctr Tryz.prog 87 [.int .i64 (n : Int), .str t] [] [] 0 0 (.str (topB n t)) [] := by
  have h1 : (ByteArray.mk #[2]).size = 1 := rfl
  have hn := numS_size (n : Int)
  refine Ctr.introR (T := Tryz.T) Tryz.hT Tryz.hM puZ_ok Tryz.func87 rfl (by kernel_rfl) rfl rfl rfl rfl ?_
  conv => whnf
  refine ⟨by unfold big; omega, ?_⟩
  conv => whnf
  refine ⟨by rw [cat_size]; unfold big; omega, ?_⟩
  conv => whnf
  refine callR [] (sumP (catB (catB ⟨#[2]⟩ (numS (n : Int))) t) (by rw [cat_size, cat_size]; omega)) rfl rfl rfl rfl trivial trivial ?_
  conv => whnf
  exact Fin.same rfl rfl (by simp)
def splitN (n : Nat) : Nat := if n < 2 then 0 else 2 ^ Nat.log2 (n - 1)
def valI : G → Option Int
  | .ok (.int .i64 m, [], _) => some m
  | _ => none
noncomputable def goodS (n : Nat) : Bool := match valI (Tryz.evo Tryz.ovA 80 127 [.int .i64 (n : Int)] [] [] 2) with
  | some m => decide (m = (splitN n : Int))
  | none => false
theorem goodS_all : (List.range 41).all goodS = true := by kernel_rfl
theorem splitP {n : Nat} (h : n ≤ 40) : Ctr Tryz.prog 127 [.int .i64 (n : Int)] [] [] 0 0 (.int .i64 (splitN n : Int)) [] := by
  have h1 : goodS n = true := List.all_eq_true.1 goodS_all n (List.mem_range.2 (by omega))
  refine clo ?_ rfl rfl
  unfold goodS at h1
  split at h1
  · rename_i m hm
    have hm2 : m = (splitN n : Int) := of_decide_eq_true h1
    subst hm2
    unfold valI at hm
    split at hm
    · rename_i m2 k hg
      cases hm
      rw [hg]; rfl
    · cases hm
  · cases h1
theorem split_lt {n : Nat} (h : n ≤ 40) (h2 : 2 ≤ n) : 1 ≤ splitN n ∧ splitN n < n := by
  have : ∀ n, n < 41 → 2 ≤ n → 1 ≤ splitN n ∧ splitN n < n := by decide
  exact this n (by omega) h2
def treeF : Nat → List ByteArray → ByteArray
  | 0, _ => ⟨#[]⟩
  | f + 1, l => if l.length < 2 then l.headD ⟨#[]⟩ else nodeB (treeF f (l.take (splitN l.length))) (treeF f (l.drop (splitN l.length)))
def treeB (l : List ByteArray) : ByteArray := treeF l.length l
theorem treeF_eq : ∀ (f : Nat) (l : List ByteArray), l.length ≤ f → l.length ≤ 40 → 1 ≤ l.length → treeF f l = treeB l
  | 0, l, h, _, h1 => absurd h1 (by omega)
  | f + 1, l, h, h40, h1 => by
    unfold treeB
    obtain ⟨g, hg⟩ : ∃ g, l.length = g + 1 := ⟨l.length - 1, by omega⟩
    rw [hg]
    simp only [treeF]
    by_cases h2 : l.length < 2
    · rw [if_pos h2, if_pos h2]
    · rw [if_neg h2, if_neg h2]
      obtain ⟨s1, s2⟩ := split_lt h40 (by omega)
      have a1 : (l.take (splitN l.length)).length = splitN l.length := by rw [List.length_take]; omega
      have a2 : (l.drop (splitN l.length)).length = l.length - splitN l.length := List.length_drop
      rw [treeF_eq f (l.take (splitN l.length)) (by omega) (by omega) (by omega), treeF_eq f (l.drop (splitN l.length)) (by omega) (by omega) (by omega)]
      have hgf : g ≤ f := by omega
      rcases Nat.lt_or_ge g f with hlt | hge
      · rw [treeF_eq g (l.take (splitN l.length)) (by omega) (by omega) (by omega), treeF_eq g (l.drop (splitN l.length)) (by omega) (by omega) (by omega)]
      · obtain rfl : g = f := by omega
        rw [treeF_eq g (l.take (splitN l.length)) (by omega) (by omega) (by omega), treeF_eq g (l.drop (splitN l.length)) (by omega) (by omega) (by omega)]
theorem treeB_one (x : ByteArray) : treeB [x] = x := rfl
theorem treeB_step {l : List ByteArray} (h2 : 2 ≤ l.length) (h40 : l.length ≤ 40) : treeB l = nodeB (treeB (l.take (splitN l.length))) (treeB (l.drop (splitN l.length))) := by
  obtain ⟨s1, s2⟩ := split_lt h40 h2
  have a1 : (l.take (splitN l.length)).length = splitN l.length := by rw [List.length_take]; omega
  have a2 : (l.drop (splitN l.length)).length = l.length - splitN l.length := List.length_drop
  obtain ⟨g, hg⟩ : ∃ g, l.length = g + 1 := ⟨l.length - 1, by omega⟩
  have e : treeB l = treeF (g + 1) l := by unfold treeB; rw [hg]
  rw [e]
  simp only [treeF]
  rw [if_neg (by omega), treeF_eq g _ (by omega) (by omega) (by omega), treeF_eq g _ (by omega) (by omega) (by omega)]
theorem leafB_size (p : KV) : (leafB p).size = 32 := sumB_size _ _
theorem nodeB_size (a b : ByteArray) : (nodeB a b).size = 32 := sumB_size _ _
theorem topB_size (n : Nat) (t : ByteArray) : (topB n t).size = 32 := sumB_size _ _
theorem treeB_size {l : List ByteArray} (h1 : 1 ≤ l.length) (h40 : l.length ≤ 40) (hl : ∀ s ∈ l, s.size = 32) : (treeB l).size = 32 := by
  match l, h1 with
  | [x], _ => exact hl x (by simp)
  | x :: y :: l, _ => rw [treeB_step (by simp) h40]; exact nodeB_size _ _
/-- Pairs, with so much room. -/
noncomputable def rowD (L : List KV) (d : Option Nat) : Res := .row 26 2 (cellsP L) d
theorem rowD_ren (L : List KV) (d : Option Nat) (π : Nat → Nat) : renR π (rowD L d) = rowD L d := by simp only [rowD, renR, bare_ren (cellsP_bare L)]
theorem rowD_ok (L : List KV) (d : Option Nat) (n : Nat) : okR n (rowD L d) = true := bare_ok (cellsP_bare L)
theorem rowD_at {L : List KV} {d : Option Nat} {H : Heap} {k : Nat} (π : Nat → Nat) (h : SX.look H (π k) = some (rowD L d)) : SX.look H (π k) = some (renR π (rowD L d)) := by rw [rowD_ren]; exact h
theorem readA2 {L : List KV} {m : Nat} (h : m < L.length) : readA true 2 (cellsP L) (m * 2 + 0) = some (.agg [.str L[m].1, .str L[m].2]) := by
  have := readP (X := []) h; rwa [List.append_nil] at this
def leavesB (L : List KV) : List ByteArray := L.map leafB
theorem foldP {L : List KV} {d : Option Nat} : ∀ (m i n k : Nat), n ≤ m → 1 ≤ n → n ≤ 40 → i + n ≤ L.length → n ≤ k →
    Ctr Tryz.prog 88 [.sv 0 2 i n (some k), .fn (.func 89) [] [], .fn (.func 90) [] []] [] [(0, rowD L d)] 1 1 (.str (treeB (((leavesB L).drop i).take n))) [(0, rowD L d)]
  | 0, i, n, k, hm, h1, _, _, _ => absurd h1 (by omega)
  | m + 1, i, n, k, hm, h1, h40, hL, hk => by
    have hlen : (((leavesB L).drop i).take n).length = n := by simp [leavesB]; omega
    refine Ctr.introR (T := Tryz.T) Tryz.hT Tryz.hM Tryz.hE Tryz.func88 rfl (by kernel_rfl) rfl rfl ?_ rfl ?_
    · simp [okH_all, rowD_ok]
    conv => whnf
    by_cases hn1 : n = 1
    · subst hn1
      conv => whnf
      refine ⟨by decide, ?_⟩
      conv => whnf
      rw [show readA true 2 (cellsP L) ((i + Int.toNat 0) * 2 + 0) = some (.agg [.str L[i].1, .str L[i].2]) from readA2 (by omega)]
      conv => whnf
      refine callR [] (leafP L[i].1 L[i].2) rfl rfl rfl rfl trivial trivial ?_
      conv => whnf
      have e : ((leavesB L).drop i).take 1 = [leafB L[i]] := by
        rw [List.drop_eq_getElem_cons (by simp [leavesB]; omega)]
        simp [leavesB]
      rw [e, treeB_one]
      refine Fin.same ?_ rfl ?_
      · simp [okH_all, rowD_ok]
      · intro p hp
        simp only [List.mem_cons, List.not_mem_nil, or_false] at hp
        rcases hp with rfl <;> rfl
    · rw [show decide (((n : Nat) : Int) = 1) = false by simp; omega]
      obtain ⟨s1, s2⟩ := split_lt h40 (by omega)
      conv => whnf
      refine callR [] (splitP h40) rfl rfl rfl rfl trivial trivial ?_
      conv => whnf
      generalize hs : splitN n = s at s1 s2
      simp only [Int.toNat_natCast]
      refine ⟨by simp only [capE]; omega, ?_⟩
      conv => whnf
      refine callR [0] (foldP m i s k (by omega) s1 (by omega) (by omega) (by omega)) (post' := [(0, rowD L d)]) (by simp only [renH, rowD_ren]; rfl) rfl rfl rfl trivial ⟨rowD_at _ rfl, trivial⟩ ?_
      conv => whnf
      simp only [Int.toNat_natCast]
      refine ⟨by simp only [capE]; omega, ?_⟩
      conv => whnf
      refine callR [0] (foldP m (i + s) (n - s) (k - s) (by omega) (by omega) (by omega) (by omega) (by omega)) (post' := [(0, rowD L d)]) (by simp only [renH, rowD_ren]; rfl) rfl rfl rfl trivial ⟨rowD_at _ rfl, trivial⟩ ?_
      conv => whnf
      have hl1 : ∀ x ∈ leavesB L, x.size = 32 := fun x hx => by
        obtain ⟨p, _, rfl⟩ := List.mem_map.1 hx
        exact leafB_size p
      have z1 : (treeB (((leavesB L).drop i).take s)).size = 32 := treeB_size (by simp [leavesB]; omega) (by simp [leavesB]; omega) fun x hx => hl1 x (List.mem_of_mem_drop (List.mem_of_mem_take hx))
      have z2 : (treeB (((leavesB L).drop (i + s)).take (n - s))).size = 32 := treeB_size (by simp [leavesB]; omega) (by simp [leavesB]; omega) fun x hx => hl1 x (List.mem_of_mem_drop (List.mem_of_mem_take hx))
      refine callR [] (nodeP (a := treeB (((leavesB L).drop i).take s)) (b := treeB (((leavesB L).drop (i + s)).take (n - s))) (by omega) (by omega)) rfl rfl rfl rfl trivial trivial ?_
      conv => whnf
      have e : treeB (((leavesB L).drop i).take n) = nodeB (treeB (((leavesB L).drop i).take s)) (treeB (((leavesB L).drop (i + s)).take (n - s))) := by
        rw [treeB_step (by omega) (by omega), hlen, hs, List.take_take, List.drop_take, List.drop_drop, Nat.min_eq_left (by omega)]
      rw [e]
      generalize hrc : raceB _ _ = rb
      obtain rfl : rb = true := hrc.symm.trans (by kernel_rfl)
      conv => whnf
      refine Fin.same ?_ rfl ?_
      · simp [okH_all, rowD_ok]
      · intro p hp
        simp only [List.mem_cons, List.not_mem_nil, or_false] at hp
        rcases hp with rfl <;> rfl
def rootB (L : List KV) : ByteArray := topB L.length (match L with
  | [] => ⟨#[]⟩
  | _ => treeB (leavesB L))
theorem rootB_size (L : List KV) : (rootB L).size = 32 := topB_size _ _
theorem rootP {L : List KV} {d : Option Nat} {k : Nat} (h1 : 1 ≤ L.length) (h40 : L.length ≤ 40) (hk : L.length ≤ k) :
    Ctr Tryz.prog 55 [.sv 0 2 0 L.length (some k)] [] [(0, rowD L d)] 1 1 (.str (rootB L)) [(0, rowD L d)] := by
  have hl1 : ∀ x ∈ leavesB L, x.size = 32 := fun x hx => by
    obtain ⟨p, _, rfl⟩ := List.mem_map.1 hx
    exact leafB_size p
  have z1 : (treeB (leavesB L)).size = 32 := treeB_size (by simp [leavesB]; omega) (by simp [leavesB]; omega) hl1
  refine Ctr.introR (T := Tryz.T) Tryz.hT Tryz.hM Tryz.hE Tryz.func55 rfl (by kernel_rfl) rfl rfl ?_ rfl ?_
  · simp [okH_all, rowD_ok]
  conv => whnf
  rw [show decide (((L.length : Nat) : Int) = 0) = false from decide_eq_false (by omega)]
  conv => whnf
  have c := foldP (L := L) (d := d) L.length 0 L.length k (Nat.le_refl _) h1 h40 (by omega) hk
  rw [List.drop_zero, List.take_of_length_le (by simp [leavesB])] at c
  refine callR [0] c (post' := [(0, rowD L d)]) (by simp only [renH, rowD_ren]; rfl) rfl rfl rfl trivial ⟨rowD_at _ rfl, trivial⟩ ?_
  conv => whnf
  refine callR [] (topP L.length (t := treeB (leavesB L)) (by omega)) rfl rfl rfl rfl trivial trivial ?_
  conv => whnf
  have e : rootB L = topB L.length (treeB (leavesB L)) := by
    cases L with
    | nil => simp at h1
    | cons p l => rfl
  rw [e]
  refine Fin.same ?_ rfl ?_
  · simp [okH_all, rowD_ok]
  · intro p hp
    simp only [List.mem_cons, List.not_mem_nil, or_false] at hp
    rcases hp with rfl <;> rfl

def alW : ByteArray := ⟨⟨[97, 108, 112, 104, 97]⟩⟩
def kalW : ByteArray := ⟨⟨[107, 101, 121, 32, 111, 102, 32, 97, 108, 112, 104, 97]⟩⟩
def outW : ByteArray := ⟨⟨[55, 57, 37, 124, 51, 58, 124, 61, 48, 44, 52, 61, 92, 92, 92, 92, 92, 92, 92, 92, 92, 92, 92, 92, 92, 92, 92, 92, 92, 92, 92, 92, 92, 92, 92, 92, 92, 92, 92, 92, 92, 92, 92, 92, 92, 92, 92, 92, 92, 92, 92, 92, 92, 92, 92, 92, 92, 92, 92, 92, 92, 92, 92, 92]⟩⟩
def innW : ByteArray := ⟨⟨[93, 83, 79, 22, 89, 80, 22, 87, 90, 70, 94, 87, 54, 54, 54, 54, 54, 54, 54, 54, 54, 54, 54, 54, 54, 54, 54, 54, 54, 54, 54, 54, 54, 54, 54, 54, 54, 54, 54, 54, 54, 54, 54, 54, 54, 54, 54, 54, 54, 54, 54, 54, 54, 54, 54, 54, 54, 54, 54, 54, 54, 54, 54, 54]⟩⟩
theorem turnA : Ctr Tryz.prog 126 [.int .u8 92, .ptr 1 0] [] [(1, .box 9 [.str kalW])] 2 3 (.str outW) [(1, .box 9 [.str kalW])] :=
  Tryz.ovA_ok 80 (show Tryz.evo Tryz.ovA 80 126 [.int .u8 92, .ptr 1 0] [(1, .box 9 [.str kalW])] [] 2 = .ok (.str outW, [(1, .box 9 [.str kalW])], 3) by kernel_rfl)
theorem turnB : Ctr Tryz.prog 126 [.int .u8 54, .ptr 1 0] [] [(1, .box 9 [.str kalW])] 2 3 (.str innW) [(1, .box 9 [.str kalW])] :=
  Tryz.ovA_ok 80 (show Tryz.evo Tryz.ovA 80 126 [.int .u8 54, .ptr 1 0] [(1, .box 9 [.str kalW])] [] 2 = .ok (.str innW, [(1, .box 9 [.str kalW])], 3) by kernel_rfl)
def macA (s : ByteArray) : ByteArray := sumB K64 (catB outW (sumB K64 (catB innW s)))
theorem macA_size (s : ByteArray) : (macA s).size = 32 := sumB_size _ _
theorem macP {s : ByteArray} (hs : s.size ≤ 16800000) : Ctr Tryz.prog 86 [.str kalW, .str s] [] [] 0 0 (.str (macA s)) [] := by
  have h1 : innW.size = 64 := rfl
  have h2 : outW.size = 64 := rfl
  have h3 := sumB_size K64 (catB innW s)
  refine Ctr.shut (m := 2) (k := 2) ?_ rfl rfl
  refine Ctr.introR (T := Tryz.T) Tryz.hT Tryz.hM Tryz.hE Tryz.func86 rfl (by kernel_rfl) rfl rfl rfl rfl ?_
  conv => whnf
  refine callR [0, 2] turnA rfl rfl rfl rfl trivial ⟨rfl, trivial⟩ ?_
  conv => whnf
  refine callR [0, 2] turnB rfl rfl rfl rfl trivial ⟨rfl, trivial⟩ ?_
  conv => whnf
  refine ⟨by unfold big; omega, ?_⟩
  conv => whnf
  refine callR [] (sumP (catB innW s) (by rw [cat_size]; omega)) rfl rfl rfl rfl trivial trivial ?_
  conv => whnf
  refine ⟨by unfold big; omega, ?_⟩
  conv => whnf
  refine callR [] (sumP (catB outW (sumB K64 (catB innW s))) (by rw [cat_size]; omega)) rfl rfl rfl rfl trivial trivial ?_
  generalize hv : sumB K64 (catB outW (sumB K64 (catB innW s))) = v
  have hv2 : macA s = v := hv
  rw [hv2]
  conv => whnf
  refine .mk' [] rfl rfl rfl rfl rfl rfl trivial
theorem addP {w s : ByteArray} {e : Int} (h : w.size + s.size ≤ big) : Ctr Tryz.prog 91 [.ptr 0 0, .str s, .int .i64 e] [] [(0, .box 144 [.str w, .int .i64 0])] 1 1 (.tup []) [(0, .box 144 [.str (catB w s), .int .i64 e])] := by
  refine Ctr.introR (T := Tryz.T) Tryz.hT Tryz.hM Tryz.hE Tryz.func91 rfl (by kernel_rfl) rfl rfl rfl rfl ?_
  conv => whnf
  refine ⟨h, ?_⟩
  conv => whnf
  exact .mk' [] rfl rfl rfl rfl rfl rfl ⟨rfl, trivial⟩
def headB (c : ByteArray) (h t : Int) (r : ByteArray) : ByteArray := catB (catB (catB (catB ⟨#[]⟩ (textS c)) (numS h)) (numS t)) (textS r)
noncomputable def hdA (c : ByteArray) (h t : Int) (r m : ByteArray) : AV := .agg [.str c, .int .i64 h, .int .i64 t, .str r, .str m]
def okH3 (c : ByteArray) (h t : Int) (r : ByteArray) : Prop := c.size ≤ 65536 ∧ (0 ≤ h ∧ h ≤ 9007199254740992) ∧ (0 ≤ t ∧ t ≤ 9007199254740992) ∧ r.size ≤ 65536
theorem headB_size (c : ByteArray) (h t : Int) (r : ByteArray) : (headB c h t r).size ≤ 131104 := by
  have := textS_size c; have := textS_size r; have := numS_size h; have := numS_size t
  unfold headB
  simp only [cat_size, nil_size]; omega
theorem bodyP {c r m : ByteArray} {h t : Int} (ok : okH3 c h t r) : Ctr Tryz.prog 85 [hdA c h t r m] [] [] 0 1 (.ptr 0 0) [(0, .box 144 [.str (headB c h t r), .int .i64 0])] := by
  obtain ⟨o1, o2, o3, o4⟩ := ok
  have := textS_size c; have := textS_size r; have := numS_size h; have := numS_size t
  refine Ctr.introR (T := Tryz.T) Tryz.hT Tryz.hM puZ_ok Tryz.func85 rfl (by kernel_rfl) rfl rfl rfl rfl ?_
  conv => whnf
  rw [textE_ok o1]
  refine callR [1] (addP (by rw [nil_size]; unfold big; omega)) rfl rfl rfl rfl trivial ⟨rfl, trivial⟩ ?_
  conv => whnf
  rw [numE_ok o2.1 o2.2]
  refine callR [1] (addP (by simp only [cat_size, nil_size]; unfold big; omega)) rfl rfl rfl rfl trivial ⟨rfl, trivial⟩ ?_
  conv => whnf
  rw [numE_ok o3.1 o3.2]
  refine callR [1] (addP (by simp only [cat_size, nil_size]; unfold big; omega)) rfl rfl rfl rfl trivial ⟨rfl, trivial⟩ ?_
  conv => whnf
  rw [textE_ok o4]
  refine callR [1] (addP (by simp only [cat_size, nil_size]; unfold big; omega)) rfl rfl rfl rfl trivial ⟨rfl, trivial⟩ ?_
  conv => whnf
  exact .mk' [1] rfl rfl rfl rfl rfl rfl ⟨rfl, trivial⟩
theorem signP {r m : ByteArray} {c : ByteArray} {h t : Int} (ok : okH3 c h t r) : Ctr Tryz.prog 54 [.str kalW, hdA c h t r m] [] [] 0 0 (.tup [hdA c h t r (macA (headB c h t r)), .int .i64 0]) [] := by
  have hs := headB_size c h t r
  refine Ctr.shut (m := 0) (k := 0) ?_ rfl rfl
  refine Ctr.introR (T := Tryz.T) Tryz.hT Tryz.hM puZ_ok Tryz.func54 rfl (by kernel_rfl) rfl rfl rfl rfl ?_
  conv => whnf
  refine callR [] (bodyP ok) rfl rfl rfl rfl trivial trivial ?_
  conv => whnf
  refine callR [] (macP (s := headB c h t r) (by omega)) rfl rfl rfl rfl trivial trivial ?_
  generalize macA (headB c h t r) = v
  conv => whnf
  exact .mk' [] rfl rfl rfl rfl rfl rfl trivial
theorem hputP {r m : ByteArray} {c : ByteArray} {h t : Int} (ok : okH3 c h t r) (hm : m.size ≤ 65536) : Ctr Tryz.prog 56 [hdA c h t r m] [] [] 0 0 (.tup [.str (catB (headB c h t r) (textS m)), .int .i64 0]) [] := by
  have hs := headB_size c h t r
  have hz := textS_size m
  refine Ctr.shut (m := 0) (k := 0) ?_ rfl rfl
  refine Ctr.introR (T := Tryz.T) Tryz.hT Tryz.hM puZ_ok Tryz.func56 rfl (by kernel_rfl) rfl rfl rfl rfl ?_
  conv => whnf
  refine callR [] (bodyP ok) rfl rfl rfl rfl trivial trivial ?_
  conv => whnf
  rw [textE_ok hm]
  refine callR [1] (addP (w := headB c h t r) (s := textS m) (by unfold big; omega)) rfl rfl rfl rfl trivial ⟨rfl, trivial⟩ ?_
  conv => whnf
  exact .mk' [] rfl rfl rfl rfl rfl rfl trivial

noncomputable def cbox (B : AV) : Res := .box 81 [.str alW, .ptr 1 0, B, .int .i64 0, .nils, .nils]
def rawB (L : List KV) (h : Nat) : ByteArray := catB (headB alW (h : Int) 0 (rootB L)) (textS (macA (headB alW (h : Int) 0 (rootB L))))
theorem jdepthQ (L : List KV) : Ctr Tryz.prog 51 [.ptr 0 0] [] [(0, jour L)] 1 1 (.int .i64 0) [(0, jour L)] := by
  refine Ctr.pack (rest := []) (outer := []) (by kernel_rfl) (by decide) (by decide) rfl rfl rfl rfl (fun _ _ h => by simp [lookN] at h) rfl ?_
  rintro H (⟨rfl, rfl⟩ | rfl)
  · refine ⟨1, 2, .int .i64 0, jN, rfl, ?_, ?_⟩
    · rw [inn1 _ 0, List.append_nil]
      refine Ctr.introR (T := Tryz.T) Tryz.hT Tryz.hM puH_ok Tryz.func51 rfl (by kernel_rfl) rfl rfl rfl rfl ?_
      conv => whnf
      exact .mk' [] rfl rfl rfl rfl rfl rfl ⟨rfl, rfl, trivial⟩
    · exact ⟨jN, id, id, _, .inl ⟨rfl, rfl⟩, rfl, rfl, rfl, fun _ _ => rfl, rfl, rfl, rfl, rfl, ⟨rfl, rfl, trivial⟩, trivial⟩
  · refine ⟨2, 3, .int .i64 0, jH L, jH_ok L, ?_, jback0 rfl fun _ => rfl⟩
    rw [inn1 _ 0, List.append_nil]
    refine Ctr.introR (T := Tryz.T) Tryz.hT Tryz.hM puH_ok Tryz.func51 rfl (by kernel_rfl) rfl rfl ?_ rfl ?_
    · rw [List.append_nil]; exact jH_ok L
    conv => whnf
    exact Fin.same (jH_ok L) rfl (by simp [lookC, jH])
theorem beqn {n : Nat} (h : 0 < n) : Nat.beq n 0 = false := by
  cases n with
  | zero => omega
  | succ k => rfl
theorem bltn {n : Nat} (h : 0 < n) : Nat.blt 0 n = true := Nat.ble_eq_true_of_le h
theorem flat_cells {L : List KV} : ∀ (n i : Nat), i + n = L.length → Go.SX.flatC 2 (cellF L) i n = cellsP (L.drop i)
  | 0, i, h => by rw [List.drop_of_length_le (by omega)]; rfl
  | n + 1, i, h => by
    have hi : i < L.length := by omega
    have hc := cellsP_get hi
    have e0 : cellF L i 0 = .str L[i].1 := by unfold cellF; rw [Nat.add_zero, hc.1]; rfl
    have e1 : cellF L i 1 = .str L[i].2 := by unfold cellF; rw [hc.2]; rfl
    rw [List.drop_eq_getElem_cons hi, cellsP, ← flat_cells n (i + 1) (by omega), ← e0, ← e1]
    rfl
theorem now0 (L : List KV) : Ctr Tryz.prog 53 [.ptr 0 0] [] [(0, cbox (.nils))] 3 3 (.agg [.int .i64 1, .int .i64 0]) [(0, cbox (.nils))] := by
  refine Ctr.introR (T := Tryz.T) Tryz.hT Tryz.hM Tryz.hE Tryz.func53 rfl (by kernel_rfl) rfl rfl rfl rfl ?_
  conv => whnf
  exact .mk' [] rfl rfl rfl rfl rfl rfl ⟨rfl, trivial⟩
theorem block0 {L : List KV} (hs : Srt L) (h1 : 1 ≤ L.length) (h40 : L.length ≤ 40) (hle : L.length * 2 ≤ room) : Ctr Tryz.prog 28 [.ptr 0 0] [] [(0, cbox (.nils)), (1, jour L)] 2 4 (.int .i64 0) [(0, cbox (.sv 3 2 0 1 none)), (1, jour L), (2, rowD L (some L.length)), (3, .row 74 2 [.str (rawB L 1), .sv 2 2 0 L.length (some L.length)] none)] := by
  have ok3 : okH3 alW 1 0 (rootB L) := ⟨by decide, by decide, by decide, by rw [rootB_size]; omega⟩
  refine Ctr.introR (T := Tryz.T) Tryz.hT Tryz.hM Tryz.hE Tryz.func28 rfl (by kernel_rfl) rfl rfl rfl rfl ?_
  conv => whnf
  refine callR [1] (jdepthQ L) rfl rfl rfl rfl trivial ⟨rfl, trivial⟩ ?_
  conv => whnf
  refine callR [1] (jlistP hs hle) rfl rfl rfl rfl trivial ⟨rfl, trivial⟩ ?_
  conv => whnf
  refine ⟨⟨by omega, by omega, by unfold room at hle; omega, by rw [Int.toNat_natCast]; exact hle⟩, ?_⟩
  rw [spine_eq, Int.toNat_natCast]
  generalize hZ : repA L.length 2 [AV.str ⟨#[]⟩, AV.str ⟨#[]⟩] = Z
  conv => whnf
  have hflat : Go.SX.flatC 2 (lst none L.length 2 (cellF L)).cell 0 (min (lst none L.length 2 (cellF L)).len L.length) = cellsP L := by
    rw [show min (lst none L.length 2 (cellF L)).len L.length = L.length from Nat.min_self _]
    exact flat_cells L.length 0 (Nat.zero_add _)
  rw [hflat, show (cellsP L).all leafA = true from bare_leaf (cellsP_bare L), show Nat.beq (min (lst none L.length 2 (cellF L)).len L.length) 0 = false by
    rw [show min (lst none L.length 2 (cellF L)).len L.length = L.length from Nat.min_self _]; exact beqn h1]
  conv => whnf
  have hZl : Z.length = L.length * 2 := by rw [← hZ]; simp [repA]
  rw [show min (lst none L.length 2 (cellF L)).len L.length = L.length from Nat.min_self _, show Nat.blt 0 L.length = true from bltn h1, show Nat.ble (0 * 2) Z.length = true from Nat.ble_eq_true_of_le (by omega)]
  conv => whnf
  rw [spine_rec, show splice Z (0 * 2) (cellsP L) = cellsP L by
    rw [splice_def, Nat.zero_mul, List.take_zero, List.nil_append, List.drop_of_length_le (by rw [cellsP_len]; omega), List.append_nil]]
  conv => whnf
  refine callR [0, 1, 2] (now0 L) rfl rfl rfl rfl trivial ⟨rfl, trivial⟩ ?_
  conv => whnf
  refine ⟨by decide, ?_⟩
  conv => whnf
  refine callR [3] (rootP (L := L) (d := some L.length) h1 h40 (Nat.le_refl _)) (post' := [(3, rowD L (some L.length))]) (by simp only [renH, rowD_ren]; rfl) rfl rfl rfl trivial ⟨rowD_at _ rfl, trivial⟩ ?_
  conv => whnf
  rw [show catB ⟨#[107, 101, 121, 32, 111, 102, 32]⟩ alW = kalW from rfl]
  refine callR [] (signP (m := ⟨#[]⟩) ok3) rfl rfl rfl rfl trivial trivial ?_
  conv => whnf
  refine callR [] (hputP (m := macA (headB alW 1 0 (rootB L))) ok3 (by rw [macA_size]; omega)) rfl rfl rfl rfl trivial trivial ?_
  rw [show catB (headB alW 1 0 (rootB L)) (textS (macA (headB alW 1 0 (rootB L)))) = rawB L 1 from rfl]
  generalize rawB L 1 = rw_
  conv => whnf
  refine ⟨by decide, ?_⟩
  conv => whnf
  refine .mk' [3, 7] rfl rfl rfl ?_ rfl rfl ⟨rfl, rfl, rowD_at _ rfl, rfl, trivial⟩
  simp [okH_all, okR, cbox, rowD, bare_ok (cellsP_bare L), okL_cons, okL_nil, okA_str, okA_ptr, okA_int, okA_nils, okA_sv, jour]
def betW : ByteArray := ⟨⟨[98, 101, 116, 97]⟩⟩
def rooW : ByteArray := ⟨⟨[114, 111, 111, 116]⟩⟩
theorem jOf : Ctr Tryz.prog 26 [.ptr 0 0] [] [(0, cbox .nils)] 2 2 (.ptr 1 0) [(0, cbox .nils)] := by
  refine Ctr.introR (T := Tryz.T) Tryz.hT Tryz.hM Tryz.hE Tryz.func26 rfl (by kernel_rfl) rfl rfl rfl rfl ?_
  conv => whnf
  exact .mk' [] rfl rfl rfl rfl rfl rfl ⟨rfl, trivial⟩
theorem height1 (L : List KV) : Ctr Tryz.prog 15 [.ptr 0 0] [] [(0, cbox (.sv 2 2 0 1 none)), (2, .row 74 2 [.str (rawB L 1), .sv 3 2 0 L.length (some L.length)] none)] 4 4 (.int .i64 1) [(0, cbox (.sv 2 2 0 1 none)), (2, .row 74 2 [.str (rawB L 1), .sv 3 2 0 L.length (some L.length)] none)] := by
  refine Ctr.introR (T := Tryz.T) Tryz.hT Tryz.hM puZ_ok Tryz.func15 rfl (by kernel_rfl) rfl rfl rfl rfl ?_
  conv => whnf
  exact .mk' [] rfl rfl rfl rfl rfl rfl ⟨rfl, rfl, trivial⟩
theorem at1 (L : List KV) : Ctr Tryz.prog 34 [.ptr 0 0, .int .i64 1] [] [(0, cbox (.sv 2 2 0 1 none)), (2, .row 74 2 [.str (rawB L 1), .sv 3 2 0 L.length (some L.length)] none)] 4 4 (.tup [.agg [.str (rawB L 1), .sv 3 2 0 L.length (some L.length)], .int .i64 0]) [(0, cbox (.sv 2 2 0 1 none)), (2, .row 74 2 [.str (rawB L 1), .sv 3 2 0 L.length (some L.length)] none)] := by
  refine Ctr.introR (T := Tryz.T) Tryz.hT Tryz.hM puZ_ok Tryz.func34 rfl (by kernel_rfl) rfl rfl rfl rfl ?_
  conv => whnf
  refine ⟨by decide, ?_⟩
  conv => whnf
  exact .mk' [] rfl rfl rfl rfl rfl rfl ⟨rfl, rfl, trivial⟩
def cl0W : ByteArray := ⟨#[99, 108, 105, 101, 110, 116, 45, 48]⟩
def pathF : Nat → List ByteArray → Nat → List ByteArray
  | 0, _, _ => []
  | f + 1, l, i => if l.length < 2 then [] else if i < splitN l.length then pathF f (l.take (splitN l.length)) i ++ [treeB (l.drop (splitN l.length))] else pathF f (l.drop (splitN l.length)) (i - splitN l.length) ++ [treeB (l.take (splitN l.length))]
def pathB (l : List ByteArray) (i : Nat) : List ByteArray := pathF l.length l i
theorem pathF_eq : ∀ (f : Nat) (l : List ByteArray) (i : Nat), l.length ≤ f → l.length ≤ 40 → 1 ≤ l.length → pathF f l i = pathB l i
  | 0, l, i, h, _, h1 => absurd h1 (by omega)
  | f + 1, l, i, h, h40, h1 => by
    unfold pathB
    obtain ⟨g, hg⟩ : ∃ g, l.length = g + 1 := ⟨l.length - 1, by omega⟩
    rw [hg]
    simp only [pathF]
    by_cases h2 : l.length < 2
    · rw [if_pos h2, if_pos h2]
    · rw [if_neg h2, if_neg h2]
      obtain ⟨s1, s2⟩ := split_lt h40 (by omega)
      have a1 : (l.take (splitN l.length)).length = splitN l.length := by rw [List.length_take]; omega
      have a2 : (l.drop (splitN l.length)).length = l.length - splitN l.length := List.length_drop
      rw [pathF_eq f (l.take (splitN l.length)) i (by omega) (by omega) (by omega), pathF_eq f (l.drop (splitN l.length)) _ (by omega) (by omega) (by omega)]
      have hgf : g ≤ f := by omega
      rcases Nat.lt_or_ge g f with hlt | hge
      · rw [pathF_eq g (l.take (splitN l.length)) i (by omega) (by omega) (by omega), pathF_eq g (l.drop (splitN l.length)) _ (by omega) (by omega) (by omega)]
      · obtain rfl : g = f := by omega
        rw [pathF_eq g (l.take (splitN l.length)) i (by omega) (by omega) (by omega), pathF_eq g (l.drop (splitN l.length)) _ (by omega) (by omega) (by omega)]
theorem pathB_step {l : List ByteArray} (i : Nat) (h2 : 2 ≤ l.length) (h40 : l.length ≤ 40) : pathB l i = if i < splitN l.length then pathB (l.take (splitN l.length)) i ++ [treeB (l.drop (splitN l.length))] else pathB (l.drop (splitN l.length)) (i - splitN l.length) ++ [treeB (l.take (splitN l.length))] := by
  obtain ⟨s1, s2⟩ := split_lt h40 h2
  have a1 : (l.take (splitN l.length)).length = splitN l.length := by rw [List.length_take]; omega
  have a2 : (l.drop (splitN l.length)).length = l.length - splitN l.length := List.length_drop
  obtain ⟨g, hg⟩ : ∃ g, l.length = g + 1 := ⟨l.length - 1, by omega⟩
  have e : pathB l i = pathF (g + 1) l i := by unfold pathB; rw [hg]
  rw [e]
  simp only [pathF]
  rw [if_neg (by omega), pathF_eq g _ i (by omega) (by omega) (by omega), pathF_eq g _ _ (by omega) (by omega) (by omega)]
theorem pathB_one {l : List ByteArray} (i : Nat) (h : l.length < 2) : pathB l i = [] := by
  unfold pathB
  match l, h with
  | [], _ => rfl
  | [x], _ => rfl
theorem pathB_len : ∀ (m : Nat) (l : List ByteArray) (i : Nat), l.length ≤ m → l.length ≤ 40 → (pathB l i).length ≤ l.length
  | 0, l, i, h, _ => by rw [pathB_one i (by omega)]; exact Nat.zero_le _
  | m + 1, l, i, h, h40 => by
    by_cases h2 : l.length < 2
    · rw [pathB_one i h2]; exact Nat.zero_le _
    · obtain ⟨s1, s2⟩ := split_lt h40 (by omega)
      have a1 : (l.take (splitN l.length)).length = splitN l.length := by rw [List.length_take]; omega
      have a2 : (l.drop (splitN l.length)).length = l.length - splitN l.length := List.length_drop
      rw [pathB_step i (by omega) h40]
      split
      · have := pathB_len m (l.take (splitN l.length)) i (by omega) (by omega)
        rw [List.length_append]; simp only [List.length_cons, List.length_nil]; omega
      · have := pathB_len m (l.drop (splitN l.length)) (i - splitN l.length) (by omega) (by omega)
        rw [List.length_append]; simp only [List.length_cons, List.length_nil]; omega
theorem pathB_all : ∀ (m : Nat) (l : List ByteArray) (i : Nat), l.length ≤ m → l.length ≤ 40 → (∀ s ∈ l, s.size = 32) → ∀ s ∈ pathB l i, s.size = 32
  | 0, l, i, h, _, _ => by rw [pathB_one i (by omega)]; intro s hs; cases hs
  | m + 1, l, i, h, h40, hl => by
    by_cases h2 : l.length < 2
    · rw [pathB_one i h2]; intro s hs; cases hs
    · obtain ⟨s1, s2⟩ := split_lt h40 (by omega)
      have a1 : (l.take (splitN l.length)).length = splitN l.length := by rw [List.length_take]; omega
      have a2 : (l.drop (splitN l.length)).length = l.length - splitN l.length := List.length_drop
      have hA : ∀ s ∈ l.take (splitN l.length), s.size = 32 := fun s hs => hl s (List.mem_of_mem_take hs)
      have hB : ∀ s ∈ l.drop (splitN l.length), s.size = 32 := fun s hs => hl s (List.mem_of_mem_drop hs)
      rw [pathB_step i (by omega) h40]
      intro s hs
      split at hs
      · rcases List.mem_append.1 hs with h3 | h3
        · exact pathB_all m _ i (by omega) (by omega) hA s h3
        · rw [List.mem_singleton.1 h3]; exact treeB_size (by omega) (by omega) hB
      · rcases List.mem_append.1 hs with h3 | h3
        · exact pathB_all m _ _ (by omega) (by omega) hB s h3
        · rw [List.mem_singleton.1 h3]; exact treeB_size (by omega) (by omega) hA
theorem bfq (k v key : ByteArray) : Ctr Tryz.prog 100 [.agg [.str k, .str v], .str key] [] [] 0 0 (.int .i64 (cmpB k key)) [] := by
  refine Ctr.shut (m := 0) (k := 1) ?_ rfl rfl
  refine Ctr.introR (T := Tryz.T) Tryz.hT Tryz.hM puC2_ok Tryz.func100 rfl (by kernel_rfl) rfl rfl rfl rfl ?_
  conv => whnf
  exact .mk' [0] rfl rfl rfl rfl rfl rfl trivial
noncomputable def puQ_0 : Pure := fun g vs => match Nat.beq g 100, vs with
  | true, [.agg [.str k, .str _v], .str key] => some (.int .i64 (cmpB k key))
  | _, _ => none
theorem puQ_0_ok : PureOK Tryz.prog puQ_0 := by
  intro g vs v h
  unfold puQ_0 at h
  split at h
  · rename_i k _v key hg
    cases h
    have hg := Nat.eq_of_beq_eq_true hg
    subst hg
    exact .inl fun n0 => (bfq k _v key).anyO rfl rfl n0
  · cases h
noncomputable def puQ : Pure := (orP puQ_0 puC2)
theorem puQ_ok : PureOK Tryz.prog puQ := (orP_ok puQ_0_ok puC2_ok)
theorem bsq {L : List KV} (hs : Srt L) {c d : Option Nat} (key : ByteArray) (hr : L.length * 2 ≤ room) : Ctr Tryz.prog 99 [.sv 0 2 0 L.length c, .str key, .fn (.func 100) [] []] [] [(0, .row 26 2 (cellsP L) d)] 1 1
    (.tup [.int .i64 (posL L key), .bool (hasL L key)]) [(0, .row 26 2 (cellsP L) d)] := by
  refine Ctr.introR (T := Tryz.T) Tryz.hT Tryz.hM puQ_ok Tryz.func99 rfl (by kernel_rfl) rfl rfl ?_ rfl ?_
  · simp [okH_all, okR, bare_ok (cellsP_bare L)]
  have hH : okH 1 [(0, Res.row 26 2 (cellsP L) d)] = true := by simp [okH_all, okR, bare_ok (cellsP_bare L)]
  conv => whnf
  refine loopR Tryz.hT Tryz.hM puQ_ok (α := {p : Nat × Nat // p.1 ≤ posL L key ∧ posL L key ≤ p.2 ∧ p.2 ≤ L.length})
    (fun p => ([(0, .sv 0 2 0 L.length c), (1, .str key), (2, .fn (.func 100) [] []), (8, .int .i64 ((L.length : Nat) : Int)), (9, .int .i64 ((p.1.1 : Nat) : Int)), (10, .int .i64 ((p.1.2 : Nat) : Int))], [(0, .row 26 2 (cellsP L) d)]))
    (fun p => p.1.2 - p.1.1) 1 ⟨(0, L.length), Nat.zero_le _, posL_le L key, Nat.le_refl _⟩ [] ?_ ?_
  · refine ⟨⟨rfl, rfl, rfl, rfl, rfl, rfl, trivial⟩, ⟨?_, trivial⟩, ?_, rfl⟩
    · simp [renR, bare_ren (cellsP_bare L)]; rfl
    · simp [okFr, okH_all, okR, bare_ok (cellsP_bare L), okA_sv, okA_str, okA_fn, okA_int, okL_nil, nodupB]
  · rintro ⟨⟨i, j⟩, h1, h2, h3⟩
    dsimp only at h1 h2 h3 ⊢
    conv => whnf
    refine bcase_intro (fun h => ?_) (fun h => ?_)
    · have h : i < j := by simpa using h
      have hm := mid_wrap (i := i) (j := j) (by unfold room at hr; omega)
      conv => whnf
      simp only [hm, Int.toNat_natCast, Nat.zero_add]
      generalize hmm : (i + j) / 2 = m at *
      have hml : m < L.length := by omega
      refine ⟨by omega, ?_⟩
      conv => whnf
      rw [readA2 hml]
      conv => whnf
      have hk := posL_lt hs (key := key) hml
      refine bcase_intro (fun h4 => ?_) (fun h4 => ?_)
      · have h4 : m < posL L key := hk.1 (by simpa using h4)
        conv => whnf
        have hw : IntKind.i64.wrap ((m : Int) + 1) = ((m + 1 : Nat) : Int) := by rw [wrap_small] <;> (unfold room at hr; omega)
        simp only [hw]
        refine ⟨⟨(m + 1, j), by omega, h2, h3⟩, [], by dsimp only; omega, ⟨⟨rfl, rfl, rfl, rfl, rfl, rfl, trivial⟩, ⟨?_, trivial⟩, ?_, rfl⟩⟩
        · simp [renR, bare_ren (cellsP_bare L)]; rfl
        · simp [okFr, okH_all, okR, bare_ok (cellsP_bare L), okA_sv, okA_str, okA_fn, okA_int, okL_nil, nodupB]
      · have h4 : ¬ m < posL L key := fun e => by have := hk.2 e; simp at h4; omega
        conv => whnf
        refine ⟨⟨(i, m), h1, by omega, by omega⟩, [], by dsimp only; omega, ⟨⟨rfl, rfl, rfl, rfl, rfl, rfl, trivial⟩, ⟨?_, trivial⟩, ?_, rfl⟩⟩
        · simp [renR, bare_ren (cellsP_bare L)]; rfl
        · simp [okFr, okH_all, okR, bare_ok (cellsP_bare L), okA_sv, okA_str, okA_fn, okA_int, okL_nil, nodupB]
    · have h : i = posL L key := by simp at h; omega
      subst h
      conv => whnf
      refine bcase_intro (fun h => ?_) (fun h => ?_)
      · have h : posL L key < L.length := by simpa using h
        conv => whnf
        simp only [Int.toNat_natCast, Nat.zero_add]
        refine ⟨by omega, ?_⟩
        conv => whnf
        rw [readA2 h]
        conv => whnf
        rw [hasL_at h]
        exact Fin.same hH rfl (by simp [lookC])
      · conv => whnf
        have h : ¬ posL L key < L.length := by simpa using h
        rw [hasL_out (by omega)]
        exact Fin.same hH rfl (by simp [lookC])
theorem readK2 {L : List KV} {m : Nat} (h : m < L.length) : readA false 1 (cellsP L) (m * 2 + 0) = some (.str L[m].1) := by have := readP1 (X := []) h (o := 0) (by decide); rwa [List.append_nil] at this
theorem srt_adj {L : List KV} (hs : Srt L) {i : Nat} (h : i + 1 < L.length) : cmpB L[i].1 L[i + 1].1 < 0 := List.pairwise_iff_getElem.1 hs i (i + 1) (by omega) h (by omega)
theorem risesP {L : List KV} (hs : Srt L) (h1 : 1 ≤ L.length) (h40 : L.length ≤ 40) (c d : Option Nat) : Ctr Tryz.prog 98 [.sv 0 2 0 L.length c] [] [(0, rowD L d)] 1 1 (.bool true) [(0, rowD L d)] := by
  refine Ctr.introR (T := Tryz.T) Tryz.hT Tryz.hM puQ_ok Tryz.func98 rfl (by kernel_rfl) rfl rfl ?_ rfl ?_
  · simp [okH_all, rowD_ok]
  conv => whnf
  have e1 : IntKind.i64.wrap ((L.length : Int) - 1) = ((L.length - 1 : Nat) : Int) := by rw [wrap_small] <;> omega
  simp only [e1]
  refine loopR Tryz.hT Tryz.hM puQ_ok (α := {i : Nat // i ≤ L.length - 1})
    (fun i => ([(0, .sv 0 2 0 L.length c), (6, .int .i64 ((L.length - 1 : Nat) : Int)), (7, .int .i64 (i.1 : Int))], [(0, rowD L d)])) (fun i => L.length - 1 - i.1) 1 ⟨0, Nat.zero_le _⟩ [] ?_ ?_
  · refine ⟨⟨rfl, rfl, rfl, trivial⟩, ⟨rowD_at _ rfl, trivial⟩, ?_, rfl⟩
    simp [okFr, okH_all, rowD_ok, okA_sv, okA_int, nodupB]
  rintro ⟨i, hi⟩
  dsimp only at hi ⊢
  conv => whnf
  by_cases h : i < L.length - 1
  · rw [show decide (((i : Nat) : Int) < ((L.length - 1 : Nat) : Int)) = true by simp; omega]
    conv => whnf
    simp only [Int.toNat_natCast, Nat.zero_add]
    refine ⟨by omega, ?_⟩
    conv => whnf
    rw [show readA false 1 (cellsP L) (i * 2 + 0) = some (.str L[i].1) from readK2 (by omega)]
    conv => whnf
    have hw : IntKind.i64.wrap ((i : Int) + 1) = ((i + 1 : Nat) : Int) := by rw [wrap_small] <;> omega
    rw [hw]
    simp only [Int.toNat_natCast, Nat.zero_add]
    refine ⟨by omega, ?_⟩
    conv => whnf
    rw [show readA false 1 (cellsP L) ((i + 1) * 2 + 0) = some (.str L[i + 1].1) from readK2 (by omega)]
    conv => whnf
    rw [show slt L[i].1 L[i + 1].1 = true from by rw [slt_cmp]; exact decide_eq_true (srt_adj hs (by omega))]
    conv => whnf
    have hw2 : IntKind.i64.wrap ((i : Int) + 1) = ((i + 1 : Nat) : Int) := hw
    rw [hw2]
    refine ⟨⟨i + 1, by omega⟩, [], by dsimp only; omega, ⟨⟨rfl, rfl, rfl, trivial⟩, ⟨rowD_at _ rfl, trivial⟩, ?_, rfl⟩⟩
    simp [okFr, okH_all, rowD_ok, okA_sv, okA_int, nodupB]
  · rw [show decide (((i : Nat) : Int) < ((L.length - 1 : Nat) : Int)) = false by simp; omega]
    conv => whnf
    refine Fin.same ?_ rfl ?_
    · simp [okH_all, rowD_ok]
    · simp [lookC]
theorem treeP {M : List ByteArray} {d : Option Nat} (hM : ∀ s ∈ M, s.size = 32) : ∀ (m i n : Nat), n ≤ m → 1 ≤ n → n ≤ 40 → i + n ≤ M.length →
    Ctr Tryz.prog 131 [.sv 0 1 i n none] [] [(0, rowS M d)] 1 1 (.str (treeB ((M.drop i).take n))) [(0, rowS M d)]
  | 0, i, n, hm, h1, _, _ => absurd h1 (by omega)
  | m + 1, i, n, hm, h1, h40, hL => by
    have hlen : ((M.drop i).take n).length = n := by simp; omega
    refine Ctr.introR (T := Tryz.T) Tryz.hT Tryz.hM Tryz.hE Tryz.func131 rfl (by kernel_rfl) rfl rfl ?_ rfl ?_
    · simp [okH_all, rowS_ok]
    conv => whnf
    by_cases hn1 : n = 1
    · subst hn1
      conv => whnf
      refine ⟨by decide, ?_⟩
      conv => whnf
      have hr : readA false 1 (strsA M) ((i + Int.toNat 0) * 1 + 0) = some (.str M[i]) := by
        show nth (strsA M) _ = _
        rw [nth_eq, show (i + Int.toNat 0) * 1 + 0 = i by simp, strsA, List.getElem?_map, List.getElem?_eq_getElem (by omega)]; rfl
      rw [hr]
      conv => whnf
      have e : (M.drop i).take 1 = [M[i]] := by
        rw [List.drop_eq_getElem_cons (by omega)]; rfl
      rw [e, treeB_one]
      refine Fin.same ?_ rfl ?_
      · simp [okH_all, rowS_ok]
      · intro p hp
        simp only [List.mem_cons, List.not_mem_nil, or_false] at hp
        rcases hp with rfl <;> rfl
    · rw [show decide (((n : Nat) : Int) = 1) = false by simp; omega]
      obtain ⟨s1, s2⟩ := split_lt h40 (by omega)
      conv => whnf
      refine callR [] (splitP h40) rfl rfl rfl rfl trivial trivial ?_
      conv => whnf
      generalize hs : splitN n = s at s1 s2
      simp only [Int.toNat_natCast]
      refine ⟨by simp only [capE]; omega, ?_⟩
      conv => whnf
      refine callR [0] (treeP hM m i s (by omega) s1 (by omega) (by omega)) (post' := [(0, rowS M d)]) (by simp only [renH, rowS_ren]; rfl) rfl rfl rfl trivial ⟨rowS_at _ rfl, trivial⟩ ?_
      conv => whnf
      simp only [Int.toNat_natCast]
      refine ⟨by simp only [capE]; omega, ?_⟩
      conv => whnf
      refine callR [0] (treeP hM m (i + s) (n - s) (by omega) (by omega) (by omega) (by omega)) (post' := [(0, rowS M d)]) (by simp only [renH, rowS_ren]; rfl) rfl rfl rfl trivial ⟨rowS_at _ rfl, trivial⟩ ?_
      conv => whnf
      have z1 : (treeB ((M.drop i).take s)).size = 32 := treeB_size (by simp; omega) (by simp; omega) fun x hx => hM x (List.mem_of_mem_drop (List.mem_of_mem_take hx))
      have z2 : (treeB ((M.drop (i + s)).take (n - s))).size = 32 := treeB_size (by simp; omega) (by simp; omega) fun x hx => hM x (List.mem_of_mem_drop (List.mem_of_mem_take hx))
      refine callR [] (nodeP (a := treeB ((M.drop i).take s)) (b := treeB ((M.drop (i + s)).take (n - s))) (by omega) (by omega)) rfl rfl rfl rfl trivial trivial ?_
      conv => whnf
      have e : treeB ((M.drop i).take n) = nodeB (treeB ((M.drop i).take s)) (treeB ((M.drop (i + s)).take (n - s))) := by
        rw [treeB_step (by omega) (by omega), hlen, hs, List.take_take, List.drop_take, List.drop_drop, Nat.min_eq_left (by omega)]
      rw [e]
      generalize hrc : raceB _ _ = rb
      obtain rfl : rb = true := hrc.symm.trans (by kernel_rfl)
      conv => whnf
      refine Fin.same ?_ rfl ?_
      · simp [okH_all, rowS_ok]
      · intro p hp
        simp only [List.mem_cons, List.not_mem_nil, or_false] at hp
        rcases hp with rfl <;> rfl
theorem pathP0 {M : List ByteArray} {d : Option Nat} (a i : Nat) : ∀ n, n < 2 → Ctr Tryz.prog 102 [.sv 0 1 a n none, .int .i64 (i : Int)] [] [(0, rowS M d)] 1 1 .nils [(0, rowS M d)] := by
  intro n hn
  refine Ctr.introR (T := Tryz.T) Tryz.hT Tryz.hM Tryz.hE Tryz.func102 rfl (by kernel_rfl) rfl rfl ?_ rfl ?_
  · simp [okH_all, rowS_ok]
  conv => whnf
  rw [show decide (((n : Nat) : Int) < 2) = true by simp; omega]
  conv => whnf
  refine Fin.same ?_ rfl ?_
  · simp [okH_all, rowS_ok]
  · intro p hp
    simp only [List.mem_cons, List.not_mem_nil, or_false] at hp
    rcases hp with rfl <;> rfl
theorem pathP {M : List ByteArray} {d : Option Nat} (hM : ∀ s ∈ M, s.size = 32) : ∀ (m a n i : Nat), n ≤ m → 2 ≤ n → n ≤ 40 → a + n ≤ M.length → i < 100 →
    Ctr Tryz.prog 102 [.sv 0 1 a n none, .int .i64 (i : Int)] [] [(0, rowS M d)] 1 2 (.sv 1 1 0 (pathB ((M.drop a).take n) i).length none) [(0, rowS M d), (1, rowS (pathB ((M.drop a).take n) i) none)]
  | 0, a, n, i, hm, h1, _, _, _ => absurd h1 (by omega)
  | m + 1, a, n, i, hm, h1, h40, hL, hi => by
    have hlen : ((M.drop a).take n).length = n := by simp; omega
    refine Ctr.introR (T := Tryz.T) Tryz.hT Tryz.hM Tryz.hE Tryz.func102 rfl (by kernel_rfl) rfl rfl ?_ rfl ?_
    · simp [okH_all, rowS_ok]
    conv => whnf
    rw [show decide (((n : Nat) : Int) < 2) = false by simp; omega]
    obtain ⟨s1, s2⟩ := split_lt h40 (by omega)
    conv => whnf
    refine callR [] (splitP h40) rfl rfl rfl rfl trivial trivial ?_
    have hst := pathB_step (l := (M.drop a).take n) i (by omega) (by omega)
    rw [hlen] at hst
    generalize hs : splitN n = s at s1 s2 hst
    rw [List.take_take, List.drop_take, List.drop_drop, Nat.min_eq_left (by omega)] at hst
    conv => whnf
    by_cases hin : i < s
    · rw [show decide (((i : Nat) : Int) < ((s : Nat) : Int)) = true by simpa using hin]
      rw [if_pos hin] at hst
      conv => whnf
      simp only [Int.toNat_natCast]
      refine ⟨by simp only [capE]; omega, ?_⟩
      conv => whnf
      by_cases hs2 : s < 2
      · refine callR [0] (pathP0 (M := M) (d := d) a i s hs2) (post' := [(0, rowS M d)]) (by simp only [renH, rowS_ren]; rfl) rfl rfl rfl trivial ⟨rowS_at _ rfl, trivial⟩ ?_
        conv => whnf
        simp only [Int.toNat_natCast]
        refine ⟨by simp only [capE]; omega, ?_⟩
        conv => whnf
        refine callR [0] (treeP hM (n - s) (a + s) (n - s) (Nat.le_refl _) (by omega) (by omega) (by omega)) (post' := [(0, rowS M d)]) (by simp only [renH, rowS_ren]; rfl) rfl rfl rfl trivial ⟨rowS_at _ rfl, trivial⟩ ?_
        conv => whnf
        refine ⟨by decide, ?_⟩
        rw [hst, pathB_one i (by rw [List.length_take, List.length_drop]; omega), List.nil_append]
        generalize treeB ((M.drop (a + s)).take (n - s)) = tr
        conv => whnf
        generalize hrc : raceB _ _ = rb
        obtain rfl : rb = true := hrc.symm.trans (by kernel_rfl)
        conv => whnf
        refine .mk' [2] rfl rfl rfl ?_ rfl rfl ⟨rowS_at _ rfl, rowS_at _ rfl, trivial⟩
        simp [okH_all, okR, rowS, bare_ok (strsA_bare _)]
      · refine callR [0] (pathP hM m a s i (by omega) (by omega) (by omega) (by omega) (by omega)) (post' := [(0, rowS M d), (1, rowS (pathB ((M.drop a).take s) i) none)]) (by simp only [renH, rowS_ren]; rfl) rfl rfl rfl trivial ⟨rowS_at _ rfl, trivial⟩ ?_
        conv => whnf
        simp only [Int.toNat_natCast]
        refine ⟨by simp only [capE]; omega, ?_⟩
        conv => whnf
        refine callR [0] (treeP hM (n - s) (a + s) (n - s) (Nat.le_refl _) (by omega) (by omega) (by omega)) (post' := [(0, rowS M d)]) (by simp only [renH, rowS_ren]; rfl) rfl rfl rfl trivial ⟨rowS_at _ rfl, trivial⟩ ?_
        rw [hst]
        have hpl := pathB_len 40 ((M.drop a).take s) i (by rw [List.length_take]; omega) (by rw [List.length_take]; omega)
        have hpl2 : ((M.drop a).take s).length ≤ 40 := by rw [List.length_take]; omega
        generalize pathB ((M.drop a).take s) i = P at hpl ⊢
        generalize treeB ((M.drop (a + s)).take (n - s)) = tr
        conv => whnf
        have hPl : (strsA P).length = P.length := by simp [strsA]
        rw [show Nat.ble ((0 + P.length) * 1) (strsA P).length = true from Nat.ble_eq_true_of_le (by rw [hPl]; omega)]
        conv => whnf
        refine bcase_intro (fun h => ?_) (fun _ => ?_)
        · exact absurd (Nat.le_of_ble_eq_true h) (by omega)
        conv => whnf
        refine ⟨by unfold room; omega, ?_⟩
        rw [spine_eq, show List.take (P.length * 1) (List.drop (0 * 1) (strsA P)) = strsA P by rw [Nat.zero_mul, List.drop_zero, List.take_of_length_le (by omega)]]
        have e2 : (P ++ [tr]).length = P.length + 1 := by simp
        have e3 : rowS (P ++ [tr]) none = .row 9 1 (strsA P ++ [.str tr]) none := by simp [rowS, strsA]
        have hb3 : (strsA P ++ [AV.str tr]).all bareA = true := by rw [List.all_append, strsA_bare]; rfl
        rw [e2, e3]
        conv => whnf
        generalize hrc : raceB _ _ = rb
        obtain rfl : rb = true := hrc.symm.trans (by kernel_rfl)
        conv => whnf
        refine .mk' [3] rfl rfl rfl ?_ rfl rfl ⟨rowS_at _ rfl, by simp only [renR, bare_ren hb3]; rfl, trivial⟩
        simp [okH_all, okR, rowS, bare_ok (strsA_bare _), bare_ok hb3]
    · rw [show decide (((i : Nat) : Int) < ((s : Nat) : Int)) = false by simpa using hin]
      rw [if_neg hin] at hst
      conv => whnf
      simp only [Int.toNat_natCast]
      refine ⟨by simp only [capE]; omega, ?_⟩
      conv => whnf
      have hwi : IntKind.i64.wrap ((i : Int) - (s : Int)) = ((i - s : Nat) : Int) := by rw [wrap_small] <;> omega
      rw [hwi]
      by_cases hs2 : n - s < 2
      · refine callR [0] (pathP0 (M := M) (d := d) (a + s) (i - s) (n - s) hs2) (post' := [(0, rowS M d)]) (by simp only [renH, rowS_ren]; rfl) rfl rfl rfl trivial ⟨rowS_at _ rfl, trivial⟩ ?_
        conv => whnf
        simp only [Int.toNat_natCast]
        refine ⟨by simp only [capE]; omega, ?_⟩
        conv => whnf
        refine callR [0] (treeP hM s a s (Nat.le_refl _) (by omega) (by omega) (by omega)) (post' := [(0, rowS M d)]) (by simp only [renH, rowS_ren]; rfl) rfl rfl rfl trivial ⟨rowS_at _ rfl, trivial⟩ ?_
        conv => whnf
        refine ⟨by decide, ?_⟩
        rw [hst, pathB_one (i - s) (by rw [List.length_take, List.length_drop]; omega), List.nil_append]
        generalize treeB ((M.drop a).take s) = tr
        conv => whnf
        generalize hrc : raceB _ _ = rb
        obtain rfl : rb = true := hrc.symm.trans (by kernel_rfl)
        conv => whnf
        refine .mk' [2] rfl rfl rfl ?_ rfl rfl ⟨rowS_at _ rfl, rowS_at _ rfl, trivial⟩
        simp [okH_all, okR, rowS, bare_ok (strsA_bare _)]
      · refine callR [0] (pathP hM m (a + s) (n - s) (i - s) (by omega) (by omega) (by omega) (by omega) (by omega)) (post' := [(0, rowS M d), (1, rowS (pathB ((M.drop (a + s)).take (n - s)) (i - s)) none)]) (by simp only [renH, rowS_ren]; rfl) rfl rfl rfl trivial ⟨rowS_at _ rfl, trivial⟩ ?_
        conv => whnf
        simp only [Int.toNat_natCast]
        refine ⟨by simp only [capE]; omega, ?_⟩
        conv => whnf
        refine callR [0] (treeP hM s a s (Nat.le_refl _) (by omega) (by omega) (by omega)) (post' := [(0, rowS M d)]) (by simp only [renH, rowS_ren]; rfl) rfl rfl rfl trivial ⟨rowS_at _ rfl, trivial⟩ ?_
        rw [hst]
        have hpl := pathB_len 40 ((M.drop (a + s)).take (n - s)) (i - s) (by rw [List.length_take]; omega) (by rw [List.length_take]; omega)
        have hpl2 : ((M.drop (a + s)).take (n - s)).length ≤ 40 := by rw [List.length_take]; omega
        generalize pathB ((M.drop (a + s)).take (n - s)) (i - s) = P at hpl ⊢
        generalize treeB ((M.drop a).take s) = tr
        conv => whnf
        have hPl : (strsA P).length = P.length := by simp [strsA]
        rw [show Nat.ble ((0 + P.length) * 1) (strsA P).length = true from Nat.ble_eq_true_of_le (by rw [hPl]; omega)]
        conv => whnf
        refine bcase_intro (fun h => ?_) (fun _ => ?_)
        · exact absurd (Nat.le_of_ble_eq_true h) (by omega)
        conv => whnf
        refine ⟨by unfold room; omega, ?_⟩
        rw [spine_eq, show List.take (P.length * 1) (List.drop (0 * 1) (strsA P)) = strsA P by rw [Nat.zero_mul, List.drop_zero, List.take_of_length_le (by omega)]]
        have e2 : (P ++ [tr]).length = P.length + 1 := by simp
        have e3 : rowS (P ++ [tr]) none = .row 9 1 (strsA P ++ [.str tr]) none := by simp [rowS, strsA]
        have hb3 : (strsA P ++ [AV.str tr]).all bareA = true := by rw [List.all_append, strsA_bare]; rfl
        rw [e2, e3]
        conv => whnf
        generalize hrc : raceB _ _ = rb
        obtain rfl : rb = true := hrc.symm.trans (by kernel_rfl)
        conv => whnf
        refine .mk' [3] rfl rfl rfl ?_ rfl rfl ⟨rowS_at _ rfl, by simp only [renR, bare_ren hb3]; rfl, trivial⟩
        simp [okH_all, okR, rowS, bare_ok (strsA_bare _), bare_ok hb3]
noncomputable def lvs : Nat → AV
  | 0 => .nils
  | i + 1 => .sv 2 1 0 (i + 1) none
noncomputable def pbx : Res := .box 111 [.int .i64 0, .int .i64 0, .bool false, .nils, .nils]
noncomputable def lvH (L : List KV) (d : Option Nat) : Nat → Heap
  | 0 => [(0, rowD L d), (1, pbx)]
  | i + 1 => [(0, rowD L d), (1, pbx), (2, rowS ((leavesB L).take (i + 1)) none)]
theorem pbx_ok (n : Nat) : okR n pbx = true := rfl
theorem lvH_ok (L : List KV) (d : Option Nat) (i : Nat) : okH 3 (lvH L d i) = true := by
  cases i <;> simp [lvH, okH_all, rowD_ok, rowS_ok, pbx_ok]
theorem lv_size {L : List KV} : ∀ s ∈ leavesB L, s.size = 32 := fun s hs => by
  obtain ⟨p, _, rfl⟩ := List.mem_map.1 hs
  exact leafB_size p
theorem pathL {L : List KV} {k q : Nat} (h3 : 3 ≤ L.length) (h40 : L.length ≤ 40) (hk : k = L.length) (hq : q < 100) : Ctr Tryz.prog 102 [.sv 0 1 0 k none, .int .i64 (q : Int)] [] [(0, rowS (leavesB L) none)] 1 2 (.sv 1 1 0 (pathB (leavesB L) q).length none) [(0, rowS (leavesB L) none), (1, rowS (pathB (leavesB L) q) none)] := by
  have hl : (leavesB L).length = L.length := by simp [leavesB]
  have c := pathP (M := leavesB L) (d := none) lv_size 40 0 k q (by omega) (by omega) (by omega) (by omega) hq
  have e4 : ((leavesB L).drop 0).take k = leavesB L := by rw [List.drop_zero]; exact List.take_of_length_le (by omega)
  rw [e4] at c
  exact c
theorem buildA {L : List KV} (hs : Srt L) (h3 : 3 ≤ L.length) (h40 : L.length ≤ 40) {key : ByteArray} (hb : hasL L key = true) :
    Ctr Tryz.prog 59 [.sv 0 2 0 L.length (some L.length), .str key] [] [(0, rowD L (some L.length))] 1 3 (.agg [.int .i64 (L.length : Int), .int .i64 (posL L key : Int), .bool true, .nils, .sv 2 1 0 1 (some 1)]) [(0, rowD L (some L.length)), (1, rowS (pathB (leavesB L) (posL L key)) none), (2, .row 31 1 [.sv 1 1 0 (pathB (leavesB L) (posL L key)).length none] (some 1))] := by
  refine Ctr.introR (T := Tryz.T) Tryz.hT Tryz.hM puQ_ok Tryz.func59 rfl (by kernel_rfl) rfl rfl ?_ rfl ?_
  · simp [okH_all, rowD_ok]
  conv => whnf
  refine callR [0] (risesP hs (by omega) h40 (some L.length) (some L.length)) (post' := [(0, rowD L (some L.length))]) (by simp only [renH, rowD_ren]; rfl) rfl rfl rfl trivial ⟨rowD_at _ rfl, trivial⟩ ?_
  conv => whnf
  refine loopR Tryz.hT Tryz.hM puQ_ok (α := {i : Nat // i ≤ L.length})
    (fun i => ([(0, .sv 0 2 0 L.length (some L.length)), (1, .str key), (4, .ptr 1 0), (5, lvs i.1), (18, .sv 0 2 0 L.length (some L.length)), (19, .int .i64 (L.length : Int)), (20, .int .i64 (i.1 : Int))], lvH L (some L.length) i.1)) (fun i => L.length - i.1) 3 ⟨0, Nat.zero_le _⟩ [] ?_ ?_
  · refine ⟨⟨rfl, rfl, rfl, rfl, rfl, rfl, rfl, trivial⟩, ⟨rowD_at _ rfl, rfl, trivial⟩, ?_, rfl⟩
    simp only [lvH_ok]; rfl
  rintro ⟨i, hi⟩
  cases i with
  | zero =>
    conv => whnf
    rw [show decide (((0 : Nat) : Int) < ((L.length : Nat) : Int)) = true by simp; omega]
    conv => whnf
    simp only [Int.toNat_natCast]
    refine ⟨by omega, ?_⟩
    conv => whnf
    rw [show readA true 2 (cellsP L) ((0 + 0) * 2 + 0) = some (.agg [.str L[0].1, .str L[0].2]) from readA2 (by omega)]
    conv => whnf
    refine callR [] (leafP L[0].1 L[0].2) rfl rfl rfl rfl trivial trivial ?_
    conv => whnf
    refine ⟨by decide, ?_⟩
    conv => whnf
    have e0 : rowS ((leavesB L).take (0 + 1)) none = .row 9 1 [.str (leafB (L[0].1, L[0].2))] none := by
      have : (leavesB L).take 1 = [leafB L[0]] := by
        unfold leavesB
        rw [← List.map_take]
        match L, h3 with
        | p :: l, _ => rfl
      rw [show 0 + 1 = 1 from rfl, this]; rfl
    refine ⟨⟨1, by omega⟩, [(2, 5)], by dsimp only; omega, ⟨⟨rfl, rfl, rfl, rfl, rfl, rfl, rfl, trivial⟩, ⟨rowD_at _ rfl, rfl, ?_, trivial⟩, ?_, rfl⟩⟩
    · refine rowS_at _ ?_
      show SX.look _ _ = some (rowS ((leavesB L).take (0 + 1)) none)
      rw [e0]; rfl
    · simp only [lvH_ok]; rfl
  | succ i =>
    conv => whnf
    by_cases h : i + 1 < L.length
    · rw [show decide (((i + 1 : Nat) : Int) < ((L.length : Nat) : Int)) = true by simp; omega]
      conv => whnf
      simp only [Int.toNat_natCast]
      refine ⟨by omega, ?_⟩
      conv => whnf
      rw [show readA true 2 (cellsP L) ((0 + (i + 1)) * 2 + 0) = some (.agg [.str L[i + 1].1, .str L[i + 1].2]) from by rw [Nat.zero_add]; exact readA2 h]
      conv => whnf
      refine callR [] (leafP L[i + 1].1 L[i + 1].2) rfl rfl rfl rfl trivial trivial ?_
      have hll : (leavesB L).length = L.length := by simp [leavesB]
      have hPl : (strsA ((leavesB L).take (i + 1))).length = i + 1 := by simp [strsA]; omega
      have e3 : rowS ((leavesB L).take (i + 1 + 1)) none = .row 9 1 (strsA ((leavesB L).take (i + 1)) ++ [.str (leafB (L[i + 1].1, L[i + 1].2))]) none := by
        have : (leavesB L).take (i + 1 + 1) = (leavesB L).take (i + 1) ++ [leafB L[i + 1]] := by
          rw [List.take_succ_eq_append_getElem (by omega)]; simp [leavesB]
        rw [this]; simp [rowS, strsA]
      conv => whnf
      rw [show Nat.ble ((0 + (i + 1)) * 1) (strsA ((leavesB L).take (i + 1))).length = true from Nat.ble_eq_true_of_le (by rw [hPl]; omega)]
      conv => whnf
      refine bcase_intro (fun h => ?_) (fun _ => ?_)
      · exact absurd (Nat.le_of_ble_eq_true h) (by omega)
      conv => whnf
      refine ⟨by unfold room; omega, ?_⟩
      rw [spine_eq, show List.take ((i + 1) * 1) (List.drop (0 * 1) (strsA ((leavesB L).take (i + 1)))) = strsA ((leavesB L).take (i + 1)) by rw [Nat.zero_mul, List.drop_zero, List.take_of_length_le (by omega)]]
      have hb3 : (strsA ((leavesB L).take (i + 1)) ++ [AV.str (leafB (L[i + 1].1, L[i + 1].2))]).all bareA = true := by rw [List.all_append, strsA_bare]; rfl
      conv => whnf
      have hw : IntKind.i64.wrap (((i + 1 : Nat) : Int) + 1) = ((i + 1 + 1 : Nat) : Int) := by rw [wrap_small] <;> omega
      rw [hw]
      refine ⟨⟨i + 1 + 1, h⟩, [(2, 5)], by dsimp only; omega, ⟨⟨rfl, rfl, rfl, rfl, rfl, rfl, rfl, trivial⟩, ⟨rowD_at _ rfl, rfl, ?_, trivial⟩, ?_, rfl⟩⟩
      · refine rowS_at _ ?_
        show SX.look _ _ = some (rowS ((leavesB L).take (i + 1 + 1)) none)
        rw [e3]; rfl
      · simp only [lvH_ok]; rfl
    · rw [show decide (((i + 1 : Nat) : Int) < ((L.length : Nat) : Int)) = false by simp; omega]
      have hi2 : i + 1 = L.length := by omega
      conv => whnf
      refine callR [0] (bsq (c := some L.length) (d := some L.length) hs key (by unfold room; omega)) (post' := [(0, rowD L (some L.length))]) (by simp only [renH]; exact congrArg (fun x => [(0, x)]) (rowD_ren L _ _)) rfl rfl rfl trivial ⟨rowD_at _ rfl, trivial⟩ ?_
      have hpl := posL_le L key
      have hhas := hasL_lt (L := L) (key := key)
      generalize posL L key = p at hpl hhas ⊢
      have hMe : (leavesB L).take (i + 1) = leavesB L := List.take_of_length_le (by simp [leavesB]; omega)
      obtain ⟨hp, _⟩ := hhas hb
      rw [hb]
      conv => whnf
      refine callR [2] (pathL (k := i + 1) (q := p) h3 h40 hi2 (by omega)) (post' := [(2, rowS (leavesB L) none), (4, rowS (pathB (leavesB L) p) none)]) (by simp only [renH, rowS_ren]; rfl) rfl rfl rfl trivial ⟨rowS_at _ (show SX.look _ _ = some (rowS (leavesB L) none) by rw [← hMe]; rfl), trivial⟩ ?_
      generalize pathB (leavesB L) p = P
      conv => whnf
      refine .mk' [4, 5] rfl rfl rfl ?_ rfl rfl ⟨rowD_at _ (show SX.look _ _ = some (rowD L (some L.length)) from rfl), rowS_at _ rfl, rfl, trivial⟩
      simp [okH_all, okR, rowD, rowS, bare_ok (cellsP_bare _), bare_ok (strsA_bare _), okL_cons, okL_nil, okA_sv]
theorem buildB {L : List KV} (hs : Srt L) (h3 : 3 ≤ L.length) (h40 : L.length ≤ 40) {key : ByteArray} (hb : hasL L key = false) {q : Nat} (hq : posL L key = 0 ∧ q = 0 ∨ posL L key = L.length ∧ q = L.length - 1) :
    Ctr Tryz.prog 59 [.sv 0 2 0 L.length (some L.length), .str key] [] [(0, rowD L (some L.length))] 1 3 (.agg [.int .i64 (L.length : Int), .int .i64 (posL L key : Int), .bool false, .sv 0 2 q 1 (some 1), .sv 2 1 0 1 none]) [(0, rowD L (some L.length)), (1, rowS (pathB (leavesB L) q) none), (2, .row 31 1 [.sv 1 1 0 (pathB (leavesB L) q).length none] none)] := by
  refine Ctr.introR (T := Tryz.T) Tryz.hT Tryz.hM puQ_ok Tryz.func59 rfl (by kernel_rfl) rfl rfl ?_ rfl ?_
  · simp [okH_all, rowD_ok]
  conv => whnf
  refine callR [0] (risesP hs (by omega) h40 (some L.length) (some L.length)) (post' := [(0, rowD L (some L.length))]) (by simp only [renH, rowD_ren]; rfl) rfl rfl rfl trivial ⟨rowD_at _ rfl, trivial⟩ ?_
  conv => whnf
  refine loopR Tryz.hT Tryz.hM puQ_ok (α := {i : Nat // i ≤ L.length})
    (fun i => ([(0, .sv 0 2 0 L.length (some L.length)), (1, .str key), (4, .ptr 1 0), (5, lvs i.1), (18, .sv 0 2 0 L.length (some L.length)), (19, .int .i64 (L.length : Int)), (20, .int .i64 (i.1 : Int))], lvH L (some L.length) i.1)) (fun i => L.length - i.1) 3 ⟨0, Nat.zero_le _⟩ [] ?_ ?_
  · refine ⟨⟨rfl, rfl, rfl, rfl, rfl, rfl, rfl, trivial⟩, ⟨rowD_at _ rfl, rfl, trivial⟩, ?_, rfl⟩
    simp only [lvH_ok]; rfl
  rintro ⟨i, hi⟩
  cases i with
  | zero =>
    conv => whnf
    rw [show decide (((0 : Nat) : Int) < ((L.length : Nat) : Int)) = true by simp; omega]
    conv => whnf
    simp only [Int.toNat_natCast]
    refine ⟨by omega, ?_⟩
    conv => whnf
    rw [show readA true 2 (cellsP L) ((0 + 0) * 2 + 0) = some (.agg [.str L[0].1, .str L[0].2]) from readA2 (by omega)]
    conv => whnf
    refine callR [] (leafP L[0].1 L[0].2) rfl rfl rfl rfl trivial trivial ?_
    conv => whnf
    refine ⟨by decide, ?_⟩
    conv => whnf
    have e0 : rowS ((leavesB L).take (0 + 1)) none = .row 9 1 [.str (leafB (L[0].1, L[0].2))] none := by
      have : (leavesB L).take 1 = [leafB L[0]] := by
        unfold leavesB
        rw [← List.map_take]
        match L, h3 with
        | p :: l, _ => rfl
      rw [show 0 + 1 = 1 from rfl, this]; rfl
    refine ⟨⟨1, by omega⟩, [(2, 5)], by dsimp only; omega, ⟨⟨rfl, rfl, rfl, rfl, rfl, rfl, rfl, trivial⟩, ⟨rowD_at _ rfl, rfl, ?_, trivial⟩, ?_, rfl⟩⟩
    · refine rowS_at _ ?_
      show SX.look _ _ = some (rowS ((leavesB L).take (0 + 1)) none)
      rw [e0]; rfl
    · simp only [lvH_ok]; rfl
  | succ i =>
    conv => whnf
    by_cases h : i + 1 < L.length
    · rw [show decide (((i + 1 : Nat) : Int) < ((L.length : Nat) : Int)) = true by simp; omega]
      conv => whnf
      simp only [Int.toNat_natCast]
      refine ⟨by omega, ?_⟩
      conv => whnf
      rw [show readA true 2 (cellsP L) ((0 + (i + 1)) * 2 + 0) = some (.agg [.str L[i + 1].1, .str L[i + 1].2]) from by rw [Nat.zero_add]; exact readA2 h]
      conv => whnf
      refine callR [] (leafP L[i + 1].1 L[i + 1].2) rfl rfl rfl rfl trivial trivial ?_
      have hll : (leavesB L).length = L.length := by simp [leavesB]
      have hPl : (strsA ((leavesB L).take (i + 1))).length = i + 1 := by simp [strsA]; omega
      have e3 : rowS ((leavesB L).take (i + 1 + 1)) none = .row 9 1 (strsA ((leavesB L).take (i + 1)) ++ [.str (leafB (L[i + 1].1, L[i + 1].2))]) none := by
        have : (leavesB L).take (i + 1 + 1) = (leavesB L).take (i + 1) ++ [leafB L[i + 1]] := by
          rw [List.take_succ_eq_append_getElem (by omega)]; simp [leavesB]
        rw [this]; simp [rowS, strsA]
      conv => whnf
      rw [show Nat.ble ((0 + (i + 1)) * 1) (strsA ((leavesB L).take (i + 1))).length = true from Nat.ble_eq_true_of_le (by rw [hPl]; omega)]
      conv => whnf
      refine bcase_intro (fun h => ?_) (fun _ => ?_)
      · exact absurd (Nat.le_of_ble_eq_true h) (by omega)
      conv => whnf
      refine ⟨by unfold room; omega, ?_⟩
      rw [spine_eq, show List.take ((i + 1) * 1) (List.drop (0 * 1) (strsA ((leavesB L).take (i + 1)))) = strsA ((leavesB L).take (i + 1)) by rw [Nat.zero_mul, List.drop_zero, List.take_of_length_le (by omega)]]
      have hb3 : (strsA ((leavesB L).take (i + 1)) ++ [AV.str (leafB (L[i + 1].1, L[i + 1].2))]).all bareA = true := by rw [List.all_append, strsA_bare]; rfl
      conv => whnf
      have hw : IntKind.i64.wrap (((i + 1 : Nat) : Int) + 1) = ((i + 1 + 1 : Nat) : Int) := by rw [wrap_small] <;> omega
      rw [hw]
      refine ⟨⟨i + 1 + 1, h⟩, [(2, 5)], by dsimp only; omega, ⟨⟨rfl, rfl, rfl, rfl, rfl, rfl, rfl, trivial⟩, ⟨rowD_at _ rfl, rfl, ?_, trivial⟩, ?_, rfl⟩⟩
      · refine rowS_at _ ?_
        show SX.look _ _ = some (rowS ((leavesB L).take (i + 1 + 1)) none)
        rw [e3]; rfl
      · simp only [lvH_ok]; rfl
    · rw [show decide (((i + 1 : Nat) : Int) < ((L.length : Nat) : Int)) = false by simp; omega]
      have hi2 : i + 1 = L.length := by omega
      conv => whnf
      refine callR [0] (bsq (c := some L.length) (d := some L.length) hs key (by unfold room; omega)) (post' := [(0, rowD L (some L.length))]) (by simp only [renH]; exact congrArg (fun x => [(0, x)]) (rowD_ren L _ _)) rfl rfl rfl trivial ⟨rowD_at _ rfl, trivial⟩ ?_
      have hpl := posL_le L key
      have hhas := hasL_lt (L := L) (key := key)
      generalize posL L key = p at hpl hhas hq ⊢
      have hMe : (leavesB L).take (i + 1) = leavesB L := List.take_of_length_le (by simp [leavesB]; omega)
      rw [hb]
      have hx : max 0 (IntKind.i64.wrap ((p : Int) - 1)) = ((q : Nat) : Int) := by rw [wrap_small] <;> omega
      have hy : min (IntKind.i64.wrap ((p : Int) + 1)) ((L.length : Nat) : Int) = ((q + 1 : Nat) : Int) := by rw [wrap_small] <;> omega
      conv => whnf
      simp only [hx, hy, Int.toNat_natCast]
      refine ⟨by simp only [capE]; omega, ?_⟩
      rw [show capM (some (59, (12, (55, AV.int IntKind.i64 ((q + 1 : Nat) : Int)).snd).snd).snd) (some L.length) ((q : Nat) : Int) ((q + 1 : Nat) : Int) = some 1 by simp [capM], show q + 1 - q = 1 by omega, Nat.zero_add]
      conv => whnf
      refine unrollR Tryz.hT Tryz.hM puQ_ok 2 ?_
      conv => whnf
      rw [show decide (((q : Nat) : Int) < ((q + 1 : Nat) : Int)) = true by simp; omega]
      conv => whnf
      refine callR [2] (pathL (k := i + 1) (q := q) h3 h40 hi2 (by omega)) (post' := [(2, rowS (leavesB L) none), (4, rowS (pathB (leavesB L) q) none)]) (by simp only [renH, rowS_ren]; rfl) rfl rfl rfl trivial ⟨rowS_at _ (show SX.look _ _ = some (rowS (leavesB L) none) by rw [← hMe]; rfl), trivial⟩ ?_
      generalize pathB (leavesB L) q = P
      conv => whnf
      refine ⟨by decide, ?_⟩
      conv => whnf
      generalize hrc : raceB _ _ = rb
      obtain rfl : rb = true := hrc.symm.trans (by kernel_rfl)
      conv => whnf
      have hw : IntKind.i64.wrap (((q : Nat) : Int) + 1) = ((q + 1 : Nat) : Int) := by rw [wrap_small] <;> omega
      rw [hw, show decide (((q + 1 : Nat) : Int) < ((q + 1 : Nat) : Int)) = false by simp]
      conv => whnf
      refine .mk' [4, 6] rfl rfl rfl ?_ rfl rfl ⟨rowD_at _ (show SX.look _ _ = some (rowD L (some L.length)) from rfl), rowS_at _ rfl, rfl, trivial⟩
      simp [okH_all, okR, rowD, rowS, bare_ok (cellsP_bare _), bare_ok (strsA_bare _), okL_cons, okL_nil, okA_sv]
theorem buildC {L : List KV} (hs : Srt L) (h3 : 3 ≤ L.length) (h40 : L.length ≤ 40) {key : ByteArray} (hb : hasL L key = false) {q : Nat} (hq : posL L key = q + 1 ∧ q + 1 < L.length) :
    Ctr Tryz.prog 59 [.sv 0 2 0 L.length (some L.length), .str key] [] [(0, rowD L (some L.length))] 1 4 (.agg [.int .i64 (L.length : Int), .int .i64 (posL L key : Int), .bool false, .sv 0 2 q 2 (some 2), .sv 3 1 0 2 none]) [(0, rowD L (some L.length)), (1, rowS (pathB (leavesB L) q) none), (2, rowS (pathB (leavesB L) (q + 1)) none), (3, .row 31 1 [.sv 1 1 0 (pathB (leavesB L) q).length none, .sv 2 1 0 (pathB (leavesB L) (q + 1)).length none] none)] := by
  refine Ctr.introR (T := Tryz.T) Tryz.hT Tryz.hM puQ_ok Tryz.func59 rfl (by kernel_rfl) rfl rfl ?_ rfl ?_
  · simp [okH_all, rowD_ok]
  conv => whnf
  refine callR [0] (risesP hs (by omega) h40 (some L.length) (some L.length)) (post' := [(0, rowD L (some L.length))]) (by simp only [renH, rowD_ren]; rfl) rfl rfl rfl trivial ⟨rowD_at _ rfl, trivial⟩ ?_
  conv => whnf
  refine loopR Tryz.hT Tryz.hM puQ_ok (α := {i : Nat // i ≤ L.length})
    (fun i => ([(0, .sv 0 2 0 L.length (some L.length)), (1, .str key), (4, .ptr 1 0), (5, lvs i.1), (18, .sv 0 2 0 L.length (some L.length)), (19, .int .i64 (L.length : Int)), (20, .int .i64 (i.1 : Int))], lvH L (some L.length) i.1)) (fun i => L.length - i.1) 3 ⟨0, Nat.zero_le _⟩ [] ?_ ?_
  · refine ⟨⟨rfl, rfl, rfl, rfl, rfl, rfl, rfl, trivial⟩, ⟨rowD_at _ rfl, rfl, trivial⟩, ?_, rfl⟩
    simp only [lvH_ok]; rfl
  rintro ⟨i, hi⟩
  cases i with
  | zero =>
    conv => whnf
    rw [show decide (((0 : Nat) : Int) < ((L.length : Nat) : Int)) = true by simp; omega]
    conv => whnf
    simp only [Int.toNat_natCast]
    refine ⟨by omega, ?_⟩
    conv => whnf
    rw [show readA true 2 (cellsP L) ((0 + 0) * 2 + 0) = some (.agg [.str L[0].1, .str L[0].2]) from readA2 (by omega)]
    conv => whnf
    refine callR [] (leafP L[0].1 L[0].2) rfl rfl rfl rfl trivial trivial ?_
    conv => whnf
    refine ⟨by decide, ?_⟩
    conv => whnf
    have e0 : rowS ((leavesB L).take (0 + 1)) none = .row 9 1 [.str (leafB (L[0].1, L[0].2))] none := by
      have : (leavesB L).take 1 = [leafB L[0]] := by
        unfold leavesB
        rw [← List.map_take]
        match L, h3 with
        | p :: l, _ => rfl
      rw [show 0 + 1 = 1 from rfl, this]; rfl
    refine ⟨⟨1, by omega⟩, [(2, 5)], by dsimp only; omega, ⟨⟨rfl, rfl, rfl, rfl, rfl, rfl, rfl, trivial⟩, ⟨rowD_at _ rfl, rfl, ?_, trivial⟩, ?_, rfl⟩⟩
    · refine rowS_at _ ?_
      show SX.look _ _ = some (rowS ((leavesB L).take (0 + 1)) none)
      rw [e0]; rfl
    · simp only [lvH_ok]; rfl
  | succ i =>
    conv => whnf
    by_cases h : i + 1 < L.length
    · rw [show decide (((i + 1 : Nat) : Int) < ((L.length : Nat) : Int)) = true by simp; omega]
      conv => whnf
      simp only [Int.toNat_natCast]
      refine ⟨by omega, ?_⟩
      conv => whnf
      rw [show readA true 2 (cellsP L) ((0 + (i + 1)) * 2 + 0) = some (.agg [.str L[i + 1].1, .str L[i + 1].2]) from by rw [Nat.zero_add]; exact readA2 h]
      conv => whnf
      refine callR [] (leafP L[i + 1].1 L[i + 1].2) rfl rfl rfl rfl trivial trivial ?_
      have hll : (leavesB L).length = L.length := by simp [leavesB]
      have hPl : (strsA ((leavesB L).take (i + 1))).length = i + 1 := by simp [strsA]; omega
      have e3 : rowS ((leavesB L).take (i + 1 + 1)) none = .row 9 1 (strsA ((leavesB L).take (i + 1)) ++ [.str (leafB (L[i + 1].1, L[i + 1].2))]) none := by
        have : (leavesB L).take (i + 1 + 1) = (leavesB L).take (i + 1) ++ [leafB L[i + 1]] := by
          rw [List.take_succ_eq_append_getElem (by omega)]; simp [leavesB]
        rw [this]; simp [rowS, strsA]
      conv => whnf
      rw [show Nat.ble ((0 + (i + 1)) * 1) (strsA ((leavesB L).take (i + 1))).length = true from Nat.ble_eq_true_of_le (by rw [hPl]; omega)]
      conv => whnf
      refine bcase_intro (fun h => ?_) (fun _ => ?_)
      · exact absurd (Nat.le_of_ble_eq_true h) (by omega)
      conv => whnf
      refine ⟨by unfold room; omega, ?_⟩
      rw [spine_eq, show List.take ((i + 1) * 1) (List.drop (0 * 1) (strsA ((leavesB L).take (i + 1)))) = strsA ((leavesB L).take (i + 1)) by rw [Nat.zero_mul, List.drop_zero, List.take_of_length_le (by omega)]]
      have hb3 : (strsA ((leavesB L).take (i + 1)) ++ [AV.str (leafB (L[i + 1].1, L[i + 1].2))]).all bareA = true := by rw [List.all_append, strsA_bare]; rfl
      conv => whnf
      have hw : IntKind.i64.wrap (((i + 1 : Nat) : Int) + 1) = ((i + 1 + 1 : Nat) : Int) := by rw [wrap_small] <;> omega
      rw [hw]
      refine ⟨⟨i + 1 + 1, h⟩, [(2, 5)], by dsimp only; omega, ⟨⟨rfl, rfl, rfl, rfl, rfl, rfl, rfl, trivial⟩, ⟨rowD_at _ rfl, rfl, ?_, trivial⟩, ?_, rfl⟩⟩
      · refine rowS_at _ ?_
        show SX.look _ _ = some (rowS ((leavesB L).take (i + 1 + 1)) none)
        rw [e3]; rfl
      · simp only [lvH_ok]; rfl
    · rw [show decide (((i + 1 : Nat) : Int) < ((L.length : Nat) : Int)) = false by simp; omega]
      have hi2 : i + 1 = L.length := by omega
      conv => whnf
      refine callR [0] (bsq (c := some L.length) (d := some L.length) hs key (by unfold room; omega)) (post' := [(0, rowD L (some L.length))]) (by simp only [renH]; exact congrArg (fun x => [(0, x)]) (rowD_ren L _ _)) rfl rfl rfl trivial ⟨rowD_at _ rfl, trivial⟩ ?_
      have hpl := posL_le L key
      have hhas := hasL_lt (L := L) (key := key)
      generalize posL L key = p at hpl hhas hq ⊢
      have hMe : (leavesB L).take (i + 1) = leavesB L := List.take_of_length_le (by simp [leavesB]; omega)
      rw [hb]
      have hx : max 0 (IntKind.i64.wrap ((p : Int) - 1)) = ((q : Nat) : Int) := by rw [wrap_small] <;> omega
      have hy : min (IntKind.i64.wrap ((p : Int) + 1)) ((L.length : Nat) : Int) = ((q + 2 : Nat) : Int) := by rw [wrap_small] <;> omega
      conv => whnf
      simp only [hx, hy, Int.toNat_natCast]
      refine ⟨by simp only [capE]; omega, ?_⟩
      rw [show capM (some (59, (12, (55, AV.int IntKind.i64 ((q + 2 : Nat) : Int)).snd).snd).snd) (some L.length) ((q : Nat) : Int) ((q + 2 : Nat) : Int) = some 2 by simp [capM]; omega, show q + 2 - q = 2 by omega, Nat.zero_add]
      conv => whnf
      refine unrollR Tryz.hT Tryz.hM puQ_ok 3 ?_
      conv => whnf
      rw [show decide (((q : Nat) : Int) < ((q + 2 : Nat) : Int)) = true by simp; omega]
      conv => whnf
      refine callR [2] (pathL (k := i + 1) (q := q) h3 h40 hi2 (by omega)) (post' := [(2, rowS (leavesB L) none), (4, rowS (pathB (leavesB L) q) none)]) (by simp only [renH, rowS_ren]; rfl) rfl rfl rfl trivial ⟨rowS_at _ (show SX.look _ _ = some (rowS (leavesB L) none) by rw [← hMe]; rfl), trivial⟩ ?_
      generalize pathB (leavesB L) q = P
      conv => whnf
      refine ⟨by decide, ?_⟩
      conv => whnf
      generalize hrc : raceB _ _ = rb
      obtain rfl : rb = true := hrc.symm.trans (by kernel_rfl)
      conv => whnf
      have hw : IntKind.i64.wrap (((q : Nat) : Int) + 1) = ((q + 1 : Nat) : Int) := by rw [wrap_small] <;> omega
      rw [hw, show decide (((q + 1 : Nat) : Int) < ((q + 2 : Nat) : Int)) = true from decide_eq_true (by omega)]
      conv => whnf
      refine callR [2] (pathL (k := i + 1) (q := (q + 1)) h3 h40 hi2 (by omega)) (post' := [(2, rowS (leavesB L) none), (7, rowS (pathB (leavesB L) (q + 1)) none)]) (by simp only [renH, rowS_ren]; rfl) rfl rfl rfl trivial ⟨rowS_at _ (show SX.look _ _ = some (rowS (leavesB L) none) by rw [← hMe]; rfl), trivial⟩ ?_
      generalize pathB (leavesB L) (q + 1) = Q
      conv => whnf
      refine ⟨by decide, ?_⟩
      conv => whnf
      generalize hrc2 : raceB _ _ = rb2
      obtain rfl : rb2 = true := hrc2.symm.trans (by kernel_rfl)
      conv => whnf
      have hw2 : IntKind.i64.wrap (((q + 1 : Nat) : Int) + 1) = ((q + 2 : Nat) : Int) := by rw [wrap_small] <;> omega
      rw [hw2, show decide (((q + 2 : Nat) : Int) < ((q + 2 : Nat) : Int)) = false by simp]
      conv => whnf
      refine .mk' [4, 7, 9] rfl rfl rfl ?_ rfl rfl ⟨rowD_at _ (show SX.look _ _ = some (rowD L (some L.length)) from rfl), rowS_at _ rfl, rowS_at _ rfl, rfl, trivial⟩
      simp [okH_all, okR, rowD, rowS, bare_ok (cellsP_bare _), bare_ok (strsA_bare _), okL_cons, okL_nil, okA_sv]

noncomputable def wB (a b : AV) : Res := .box 156 [a, b, .int .i64 0]
noncomputable def rowB (s : ByteArray) : Res := .row 5 1 (u8A s.data.toList) none
theorem rowB_ren (s : ByteArray) (π : Nat → Nat) : renR π (rowB s) = rowB s := by simp only [rowB, renR, bare_ren (u8A_bare _)]
theorem rowB_at {s : ByteArray} {H : Heap} {k : Nat} (π : Nat → Nat) (h : SX.look H (π k) = some (rowB s)) : SX.look H (π k) = some (renR π (rowB s)) := by rw [rowB_ren]; exact h
theorem beq0 {t : ByteArray} (h : 0 < t.size) : Nat.beq t.size 0 = false := by
  cases e : Nat.beq t.size 0 with
  | false => rfl
  | true => have := Nat.eq_of_beq_eq_true e; omega
theorem wsN {t : ByteArray} (h0 : 0 < t.size) (hb : t.size ≤ 16800000) : Ctr Tryz.prog 129 [.ptr 0 0, .str t] [] [(0, wB .nilp .nils)] 1 2 (.tup [.int .i64 t.size, .nili]) [(0, wB (.ptr 0 0) (.sv 1 1 0 t.size none)), (1, rowB t)] := by
  refine Ctr.introR (T := Tryz.T) Tryz.hT Tryz.hM Tryz.hE Tryz.func129 rfl (by kernel_rfl) rfl rfl rfl rfl ?_
  conv => whnf
  refine callR [0] (bldW.fresh (e := 156) (rest := [.int .i64 0]) rfl (by simp)) rfl rfl rfl rfl trivial ⟨rfl, trivial⟩ ?_
  conv => whnf
  have e1 : List.take t.size (bytesA t) = u8A t.data.toList := by rw [bytesA_u8]; exact List.take_of_length_le (by rw [u8A_len]; exact Nat.le_refl _)
  have e2 : (u8A t.data.toList).all leafA = true := bare_leaf (u8A_bare _)
  rw [e1, e2]
  conv => whnf
  rw [beq0 h0]
  conv => whnf
  refine ⟨by unfold room; omega, ?_⟩
  rw [spine_eq, List.nil_append]
  simp only [Nat.zero_add]
  conv => whnf
  refine .mk' [1] rfl rfl rfl ?_ rfl rfl ⟨rfl, rowB_at _ rfl, trivial⟩
  simp [okH_all, okR, wB, rowB, bare_ok (u8A_bare _), okL_cons, okL_nil, okA_ptr, okA_sv, okA_int]
theorem wsG {a t : ByteArray} (h0 : 0 < t.size) (hb : a.size + t.size ≤ 33600000) : Ctr Tryz.prog 129 [.ptr 0 0, .str t] [] [(0, wB (.ptr 0 0) (.sv 1 1 0 a.size none)), (1, rowB a)] 2 3 (.tup [.int .i64 t.size, .nili]) [(0, wB (.ptr 0 0) (.sv 2 1 0 (a.size + t.size) none)), (1, .gone), (2, rowB (catB a t))] := by
  refine Ctr.introR (T := Tryz.T) Tryz.hT Tryz.hM Tryz.hE Tryz.func129 rfl (by kernel_rfl) rfl rfl ?_ rfl ?_
  · simp [okH_all, okR, wB, rowB, bare_ok (u8A_bare _), okL_cons, okL_nil, okA_ptr, okA_sv, okA_int]
  conv => whnf
  refine callR [0, 1] (cc_used' (h := 0) (n := 2) (e := 156) (buf := .sv 1 1 0 a.size none) (rest := [.int .i64 0]) rfl (by simp [okL_cons, okL_nil, okA_sv, okA_int])) rfl rfl rfl rfl trivial ⟨rfl, trivial⟩ ?_
  conv => whnf
  have e1 : List.take t.size (bytesA t) = u8A t.data.toList := by rw [bytesA_u8]; exact List.take_of_length_le (by rw [u8A_len]; exact Nat.le_refl _)
  have e2 : (u8A t.data.toList).all leafA = true := bare_leaf (u8A_bare _)
  rw [e1, e2]
  conv => whnf
  rw [beq0 h0]
  conv => whnf
  have hPl : (u8A a.data.toList).length = a.size := by rw [u8A_len, size_data]
  rw [show Nat.ble ((0 + a.size) * 1) (u8A a.data.toList).length = true from Nat.ble_eq_true_of_le (by rw [hPl]; omega)]
  conv => whnf
  refine bcase_intro (fun h => ?_) (fun _ => ?_)
  · exact absurd (Nat.le_of_ble_eq_true h) (by omega)
  conv => whnf
  refine ⟨by unfold room; omega, ?_⟩
  rw [spine_eq, show List.take (a.size * 1) (List.drop (0 * 1) (u8A a.data.toList)) = u8A a.data.toList by rw [Nat.zero_mul, List.drop_zero, List.take_of_length_le (by omega)]]
  have e3 : rowB (catB a t) = .row 5 1 (u8A a.data.toList ++ u8A t.data.toList) none := by
    unfold rowB
    rw [catB_eq, ByteArray.data_append, Array.toList_append, u8A_app]
  have hb3 : (u8A a.data.toList ++ u8A t.data.toList).all bareA = true := by rw [List.all_append, u8A_bare, u8A_bare]; rfl
  rw [e3]
  conv => whnf
  refine .mk' [2] rfl rfl rfl ?_ rfl rfl ⟨rfl, rfl, by simp only [renR, bare_ren hb3]; rfl, trivial⟩
  simp [okH_all, okR, wB, bare_ok hb3, okL_cons, okL_nil, okA_ptr, okA_sv, okA_int]
theorem add0 {t : ByteArray} (h0 : 0 < t.size) (hb : t.size ≤ 16800000) : Ctr Tryz.prog 94 [.ptr 0 0, .str t, .int .i64 0] [] [(0, wB .nilp .nils)] 1 2 (.tup []) [(0, wB (.ptr 0 0) (.sv 1 1 0 t.size none)), (1, rowB t)] := by
  refine Ctr.introR (T := Tryz.T) Tryz.hT Tryz.hM Tryz.hE Tryz.func94 rfl (by kernel_rfl) rfl rfl rfl rfl ?_
  conv => whnf
  refine callR [0] (wsN h0 hb) (post' := [(0, wB (.ptr 0 0) (.sv 1 1 0 t.size none)), (1, rowB t)]) (by simp only [renH, rowB_ren]; rfl) rfl rfl rfl trivial ⟨rfl, trivial⟩ ?_
  conv => whnf
  refine .mk' [1] rfl rfl rfl ?_ rfl rfl ⟨rfl, rowB_at _ rfl, trivial⟩
  simp [okH_all, okR, wB, rowB, bare_ok (u8A_bare _), okL_cons, okL_nil, okA_ptr, okA_sv, okA_int]
theorem addG {a t b : ByteArray} (hab : catB a t = b) (h0 : 0 < t.size) (hb : a.size + t.size ≤ 33600000) : Ctr Tryz.prog 94 [.ptr 0 0, .str t, .int .i64 0] [] [(0, wB (.ptr 0 0) (.sv 1 1 0 a.size none)), (1, rowB a)] 2 3 (.tup []) [(0, wB (.ptr 0 0) (.sv 2 1 0 b.size none)), (1, .gone), (2, rowB b)] := by
  have hbs : b.size = a.size + t.size := by rw [← hab, cat_size]
  refine Ctr.introR (T := Tryz.T) Tryz.hT Tryz.hM Tryz.hE Tryz.func94 rfl (by kernel_rfl) rfl rfl ?_ rfl ?_
  · simp [okH_all, okR, wB, rowB, bare_ok (u8A_bare _), okL_cons, okL_nil, okA_ptr, okA_sv, okA_int]
  conv => whnf
  have c := wsG (a := a) (t := t) h0 hb
  rw [hab, ← hbs] at c
  refine callR [0, 1] c (post' := [(0, wB (.ptr 0 0) (.sv 2 1 0 b.size none)), (1, .gone), (2, rowB b)]) (by simp only [renH, rowB_ren]; rfl) rfl rfl rfl trivial ⟨rfl, rowB_at _ rfl, trivial⟩ ?_
  conv => whnf
  refine .mk' [2] rfl rfl rfl ?_ rfl rfl ⟨rfl, rfl, rowB_at _ rfl, trivial⟩
  simp [okH_all, okR, wB, rowB, bare_ok (u8A_bare _), okL_cons, okL_nil, okA_ptr, okA_sv, okA_int]
theorem strP {a : ByteArray} (h0 : 0 < a.size) (hb : a.size ≤ 33600000) : Ctr Tryz.prog 97 [.ptr 0 0] [] [(0, wB (.ptr 0 0) (.sv 1 1 0 a.size none)), (1, rowB a)] 2 2 (.str a) [(0, wB (.ptr 0 0) (.sv 1 1 0 a.size none)), (1, .gone)] :=
  st_row (e := 156) (i := 0) (k := a.size) (rc := none) (rest := [.int .i64 0]) (cs := u8A a.data.toList) (s := a) rfl (u8A_bare _) rfl h0 (by omega) (by rw [List.drop_zero, bytesA_u8, List.take_of_length_le (by rw [u8A_len]; exact Nat.le_refl _)])

theorem numS_pos {x : Int} (h0 : 0 ≤ x) (h : x ≤ 9007199254740992) : 0 < (numS x).size := by
  unfold numS
  rw [show okN x = true by unfold okN; simp; omega]
  show 0 < (numB x).size
  exact Nat.succ_pos _
theorem textS_pos {s : ByteArray} (h : s.size ≤ 65536) : 0 < (textS s).size := by
  unfold textS
  rw [show decide ((65536 : Int) < (s.size : Int)) = false by simp; omega]
  show 0 < (catB (numS s.size) s).size
  rw [cat_size]
  have := numS_pos (x := (s.size : Int)) (by omega) (by omega)
  omega
theorem joinT_pos (n : Int) (h : 0 < (numS n).size) : ∀ l : List ByteArray, 0 < (joinT n l).size := by
  have : ∀ (l : List ByteArray) (o : ByteArray), 0 < o.size → 0 < (l.foldl (fun o s => catB o (textS s)) o).size := by
    intro l
    induction l with
    | nil => intro o h; exact h
    | cons x l ih => intro o h; exact ih _ (by rw [cat_size]; omega)
  intro l
  exact this l _ h
theorem joinS_pos {l : List ByteArray} (hn : l.length ≤ 256) : 0 < (joinS l).size := joinT_pos _ (numS_pos (by omega) (by omega)) l
def catL : List ByteArray → ByteArray
  | [] => ⟨#[]⟩
  | x :: l => l.foldl catB x
set_option maxHeartbeats 4000000 in
theorem putQA {n p : Nat} (hn : n ≤ 40) (hp : p ≤ 40) {P : List ByteArray} (hP : shortL P) (hPl : P.length ≤ 40) :
    Ctr Tryz.prog 58 [.agg [.int .i64 (n : Int), .int .i64 (p : Int), .bool true, .nils, .sv 1 1 0 1 (some 1)]] [] [(0, rowS P none), (1, .row 31 1 [.sv 0 1 0 P.length none] (some 1))] 2 2 (.tup [.str (catL [numS (n : Int), numS (p : Int), numS 1, numS 0, numS ((1 : Nat) : Int), joinS P]), .int .i64 0]) [(0, rowS P none), (1, .row 31 1 [.sv 0 1 0 P.length none] (some 1))] := by
  have pos0 := numS_pos (x := (n : Int)) (by omega) (by omega)
  have pos1 := numS_pos (x := (p : Int)) (by omega) (by omega)
  have pos2 := numS_pos (x := 1) (by decide) (by decide)
  have pos3 := numS_pos (x := 0) (by decide) (by decide)
  have pos4 := numS_pos (x := ((1 : Nat) : Int)) (by decide) (by decide)
  have pos5 := joinS_pos (l := P) (by omega)
  have ljP := joinT_size (P.length : Int) P
  have leP : (joinS P).size ≤ 8 + 65544 * P.length := ljP
  have := numS_size (n : Int)
  have := numS_size (p : Int)
  have := numS_size 0
  have := numS_size 1
  have := numS_size ((1 : Nat) : Int)
  have := numS_size ((2 : Nat) : Int)
  refine Ctr.introR (T := Tryz.T) Tryz.hT Tryz.hM puZ_ok Tryz.func58 rfl (by kernel_rfl) rfl rfl ?_ rfl ?_
  · simp [okH_all, okR, rowS, bare_ok (strsA_bare _), okL_cons, okL_nil, okA_sv]
  conv => whnf
  refine unrollR Tryz.hT Tryz.hM puZ_ok 5 ?_
  conv => whnf
  refine ⟨by decide, ?_⟩
  conv => whnf
  rw [numE_ok (x := (n : Int)) (by omega) (by omega)]
  refine callR [3] (add0 (t := numS (n : Int)) pos0 (by omega)) (post' := [(3, .box 156 [.ptr 3 0, .sv 4 1 0 (catL [numS (n : Int)]).size none, .int .i64 0]), (4, rowB (catL [numS (n : Int)]))]) (by simp only [renH, rowB_ren]; rfl) rfl rfl rfl trivial ⟨rfl, trivial⟩ ?_
  conv => whnf
  refine ⟨by decide, ?_⟩
  conv => whnf
  rw [numE_ok (x := (p : Int)) (by omega) (by omega)]
  refine callR [3, 4] (addG (a := catL [numS (n : Int)]) (t := numS (p : Int)) (b := catL [numS (n : Int), numS (p : Int)]) rfl pos1 (by simp only [catL, List.foldl]; omega)) (post' := [(3, .box 156 [.ptr 3 0, .sv 5 1 0 (catL [numS (n : Int), numS (p : Int)]).size none, .int .i64 0]), (4, .gone), (5, rowB (catL [numS (n : Int), numS (p : Int)]))]) (by simp only [renH, rowB_ren]; rfl) rfl rfl rfl trivial ⟨rfl, rowB_at _ rfl, trivial⟩ ?_
  conv => whnf
  refine ⟨by decide, ?_⟩
  conv => whnf
  rw [show numE 1 = 0 from rfl]
  refine callR [3, 5] (addG (a := catL [numS (n : Int), numS (p : Int)]) (t := numS 1) (b := catL [numS (n : Int), numS (p : Int), numS 1]) rfl pos2 (by simp only [catL, List.foldl, cat_size]; omega)) (post' := [(3, .box 156 [.ptr 3 0, .sv 6 1 0 (catL [numS (n : Int), numS (p : Int), numS 1]).size none, .int .i64 0]), (5, .gone), (6, rowB (catL [numS (n : Int), numS (p : Int), numS 1]))]) (by simp only [renH, rowB_ren]; rfl) rfl rfl rfl trivial ⟨rfl, rowB_at _ rfl, trivial⟩ ?_
  conv => whnf
  refine ⟨by decide, ?_⟩
  conv => whnf
  rw [show numE 0 = 0 from rfl]
  refine callR [3, 6] (addG (a := catL [numS (n : Int), numS (p : Int), numS 1]) (t := numS 0) (b := catL [numS (n : Int), numS (p : Int), numS 1, numS 0]) rfl pos3 (by simp only [catL, List.foldl, cat_size]; omega)) (post' := [(3, .box 156 [.ptr 3 0, .sv 7 1 0 (catL [numS (n : Int), numS (p : Int), numS 1, numS 0]).size none, .int .i64 0]), (6, .gone), (7, rowB (catL [numS (n : Int), numS (p : Int), numS 1, numS 0]))]) (by simp only [renH, rowB_ren]; rfl) rfl rfl rfl trivial ⟨rfl, rowB_at _ rfl, trivial⟩ ?_
  conv => whnf
  refine unrollR Tryz.hT Tryz.hM puZ_ok 1 ?_
  conv => whnf
  rw [show numE ((1 : Nat) : Int) = 0 from rfl]
  refine callR [3, 7] (addG (a := catL [numS (n : Int), numS (p : Int), numS 1, numS 0]) (t := numS ((1 : Nat) : Int)) (b := catL [numS (n : Int), numS (p : Int), numS 1, numS 0, numS ((1 : Nat) : Int)]) rfl pos4 (by simp only [catL, List.foldl, cat_size]; omega)) (post' := [(3, .box 156 [.ptr 3 0, .sv 8 1 0 (catL [numS (n : Int), numS (p : Int), numS 1, numS 0, numS ((1 : Nat) : Int)]).size none, .int .i64 0]), (7, .gone), (8, rowB (catL [numS (n : Int), numS (p : Int), numS 1, numS 0, numS ((1 : Nat) : Int)]))]) (by simp only [renH, rowB_ren]; rfl) rfl rfl rfl trivial ⟨rfl, rowB_at _ rfl, trivial⟩ ?_
  conv => whnf
  refine unrollR Tryz.hT Tryz.hM puZ_ok 2 ?_
  conv => whnf
  refine ⟨by decide, ?_⟩
  conv => whnf
  refine callR [0] (join1p P none none (by omega) hP) (post' := [(0, rowS P none)]) (by simp only [renH, rowS_ren]; rfl) rfl rfl rfl trivial ⟨rowS_at _ rfl, trivial⟩ ?_
  conv => whnf
  refine callR [3, 8] (addG (a := catL [numS (n : Int), numS (p : Int), numS 1, numS 0, numS ((1 : Nat) : Int)]) (t := joinS P) (b := catL [numS (n : Int), numS (p : Int), numS 1, numS 0, numS ((1 : Nat) : Int), joinS P]) rfl pos5 (by simp only [catL, List.foldl, cat_size]; omega)) (post' := [(3, .box 156 [.ptr 3 0, .sv 9 1 0 (catL [numS (n : Int), numS (p : Int), numS 1, numS 0, numS ((1 : Nat) : Int), joinS P]).size none, .int .i64 0]), (8, .gone), (9, rowB (catL [numS (n : Int), numS (p : Int), numS 1, numS 0, numS ((1 : Nat) : Int), joinS P]))]) (by simp only [renH, rowB_ren]; rfl) rfl rfl rfl trivial ⟨rfl, rowB_at _ rfl, trivial⟩ ?_
  conv => whnf
  refine callR [3, 9] (strP (a := catL [numS (n : Int), numS (p : Int), numS 1, numS 0, numS ((1 : Nat) : Int), joinS P]) (by simp only [catL, List.foldl, cat_size]; omega) (by simp only [catL, List.foldl, cat_size]; omega)) (post' := [(3, .box 156 [.ptr 3 0, .sv 9 1 0 (catL [numS (n : Int), numS (p : Int), numS 1, numS 0, numS ((1 : Nat) : Int), joinS P]).size none, .int .i64 0]), (9, .gone)]) rfl rfl rfl rfl trivial ⟨rfl, rowB_at _ rfl, trivial⟩ ?_
  conv => whnf
  refine Fin.same ?_ rfl ?_
  · simp [okH_all, okR, rowS, bare_ok (strsA_bare _), okL_cons, okL_nil, okA_sv]
  · intro p hp
    simp only [List.mem_cons, List.not_mem_nil, or_false] at hp
    rcases hp with rfl | rfl <;> rfl
set_option maxHeartbeats 4000000 in
theorem putQB {n p : Nat} (hn : n ≤ 40) (hp : p ≤ 40) {P : List ByteArray} (hP : shortL P) (hPl : P.length ≤ 40){L : List KV} {d : Option Nat} {q : Nat} (hq : q + 1 ≤ L.length) (hs : ∀ (i : Nat) (h : i < L.length), L[i].1.size ≤ 65536 ∧ L[i].2.size ≤ 65536)  :
    Ctr Tryz.prog 58 [.agg [.int .i64 (n : Int), .int .i64 (p : Int), .bool false, .sv 2 2 q 1 (some 1), .sv 1 1 0 1 none]] [] [(0, rowS P none), (1, .row 31 1 [.sv 0 1 0 P.length none] none), (2, rowD L d)] 3 3 (.tup [.str (catL [numS (n : Int), numS (p : Int), numS 0, numS ((1 : Nat) : Int), textS L[q + 0].1, textS L[q + 0].2, numS ((1 : Nat) : Int), joinS P]), .int .i64 0]) [(0, rowS P none), (1, .row 31 1 [.sv 0 1 0 P.length none] none), (2, rowD L d)] := by
  have sk0 : L[q + 0].1.size ≤ 65536 := (hs (q + 0) (by omega)).1
  have sv0 : L[q + 0].2.size ≤ 65536 := (hs (q + 0) (by omega)).2
  have pos0 := numS_pos (x := (n : Int)) (by omega) (by omega)
  have pos1 := numS_pos (x := (p : Int)) (by omega) (by omega)
  have pos2 := numS_pos (x := 0) (by decide) (by decide)
  have pos3 := numS_pos (x := ((1 : Nat) : Int)) (by decide) (by decide)
  have pos4 := textS_pos sk0
  have pos5 := textS_pos sv0
  have pos6 := numS_pos (x := ((1 : Nat) : Int)) (by decide) (by decide)
  have pos7 := joinS_pos (l := P) (by omega)
  have ljP := joinT_size (P.length : Int) P
  have leP : (joinS P).size ≤ 8 + 65544 * P.length := ljP
  have := numS_size (n : Int)
  have := numS_size (p : Int)
  have := numS_size 0
  have := numS_size 1
  have := numS_size ((1 : Nat) : Int)
  have := numS_size ((2 : Nat) : Int)
  have := textS_size L[q + 0].1
  have := textS_size L[q + 0].2
  refine Ctr.introR (T := Tryz.T) Tryz.hT Tryz.hM puZ_ok Tryz.func58 rfl (by kernel_rfl) rfl rfl ?_ rfl ?_
  · simp [okH_all, okR, rowS, rowD, bare_ok (cellsP_bare _), bare_ok (strsA_bare _), okL_cons, okL_nil, okA_sv]
  conv => whnf
  refine unrollR Tryz.hT Tryz.hM puZ_ok 5 ?_
  conv => whnf
  refine ⟨by decide, ?_⟩
  conv => whnf
  rw [numE_ok (x := (n : Int)) (by omega) (by omega)]
  refine callR [4] (add0 (t := numS (n : Int)) pos0 (by omega)) (post' := [(4, .box 156 [.ptr 4 0, .sv 5 1 0 (catL [numS (n : Int)]).size none, .int .i64 0]), (5, rowB (catL [numS (n : Int)]))]) (by simp only [renH, rowB_ren]; rfl) rfl rfl rfl trivial ⟨rfl, trivial⟩ ?_
  conv => whnf
  refine ⟨by decide, ?_⟩
  conv => whnf
  rw [numE_ok (x := (p : Int)) (by omega) (by omega)]
  refine callR [4, 5] (addG (a := catL [numS (n : Int)]) (t := numS (p : Int)) (b := catL [numS (n : Int), numS (p : Int)]) rfl pos1 (by simp only [catL, List.foldl]; omega)) (post' := [(4, .box 156 [.ptr 4 0, .sv 6 1 0 (catL [numS (n : Int), numS (p : Int)]).size none, .int .i64 0]), (5, .gone), (6, rowB (catL [numS (n : Int), numS (p : Int)]))]) (by simp only [renH, rowB_ren]; rfl) rfl rfl rfl trivial ⟨rfl, rowB_at _ rfl, trivial⟩ ?_
  conv => whnf
  refine ⟨by decide, ?_⟩
  conv => whnf
  rw [show numE 0 = 0 from rfl]
  refine callR [4, 6] (addG (a := catL [numS (n : Int), numS (p : Int)]) (t := numS 0) (b := catL [numS (n : Int), numS (p : Int), numS 0]) rfl pos2 (by simp only [catL, List.foldl, cat_size]; omega)) (post' := [(4, .box 156 [.ptr 4 0, .sv 7 1 0 (catL [numS (n : Int), numS (p : Int), numS 0]).size none, .int .i64 0]), (6, .gone), (7, rowB (catL [numS (n : Int), numS (p : Int), numS 0]))]) (by simp only [renH, rowB_ren]; rfl) rfl rfl rfl trivial ⟨rfl, rowB_at _ rfl, trivial⟩ ?_
  conv => whnf
  refine ⟨by decide, ?_⟩
  conv => whnf
  rw [show numE ((1 : Nat) : Int) = 0 from rfl]
  refine callR [4, 7] (addG (a := catL [numS (n : Int), numS (p : Int), numS 0]) (t := numS ((1 : Nat) : Int)) (b := catL [numS (n : Int), numS (p : Int), numS 0, numS ((1 : Nat) : Int)]) rfl pos3 (by simp only [catL, List.foldl, cat_size]; omega)) (post' := [(4, .box 156 [.ptr 4 0, .sv 8 1 0 (catL [numS (n : Int), numS (p : Int), numS 0, numS ((1 : Nat) : Int)]).size none, .int .i64 0]), (7, .gone), (8, rowB (catL [numS (n : Int), numS (p : Int), numS 0, numS ((1 : Nat) : Int)]))]) (by simp only [renH, rowB_ren]; rfl) rfl rfl rfl trivial ⟨rfl, rowB_at _ rfl, trivial⟩ ?_
  conv => whnf
  refine unrollR Tryz.hT Tryz.hM puZ_ok 2 ?_
  conv => whnf
  refine ⟨by decide, ?_⟩
  conv => whnf
  rw [show readA true 2 (cellsP L) ((q + Int.toNat 0) * 2 + 0) = some (.agg [.str L[q + 0].1, .str L[q + 0].2]) from readA2 (m := q + 0) (by omega)]
  conv => whnf
  rw [textE_ok sk0]
  refine callR [4, 8] (addG (a := catL [numS (n : Int), numS (p : Int), numS 0, numS ((1 : Nat) : Int)]) (t := textS L[q + 0].1) (b := catL [numS (n : Int), numS (p : Int), numS 0, numS ((1 : Nat) : Int), textS L[q + 0].1]) rfl pos4 (by simp only [catL, List.foldl, cat_size]; omega)) (post' := [(4, .box 156 [.ptr 4 0, .sv 10 1 0 (catL [numS (n : Int), numS (p : Int), numS 0, numS ((1 : Nat) : Int), textS L[q + 0].1]).size none, .int .i64 0]), (8, .gone), (10, rowB (catL [numS (n : Int), numS (p : Int), numS 0, numS ((1 : Nat) : Int), textS L[q + 0].1]))]) (by simp only [renH, rowB_ren]; rfl) rfl rfl rfl trivial ⟨rfl, rowB_at _ rfl, trivial⟩ ?_
  conv => whnf
  rw [textE_ok sv0]
  refine callR [4, 10] (addG (a := catL [numS (n : Int), numS (p : Int), numS 0, numS ((1 : Nat) : Int), textS L[q + 0].1]) (t := textS L[q + 0].2) (b := catL [numS (n : Int), numS (p : Int), numS 0, numS ((1 : Nat) : Int), textS L[q + 0].1, textS L[q + 0].2]) rfl pos5 (by simp only [catL, List.foldl, cat_size]; omega)) (post' := [(4, .box 156 [.ptr 4 0, .sv 11 1 0 (catL [numS (n : Int), numS (p : Int), numS 0, numS ((1 : Nat) : Int), textS L[q + 0].1, textS L[q + 0].2]).size none, .int .i64 0]), (10, .gone), (11, rowB (catL [numS (n : Int), numS (p : Int), numS 0, numS ((1 : Nat) : Int), textS L[q + 0].1, textS L[q + 0].2]))]) (by simp only [renH, rowB_ren]; rfl) rfl rfl rfl trivial ⟨rfl, rowB_at _ rfl, trivial⟩ ?_
  conv => whnf
  rw [show numE ((1 : Nat) : Int) = 0 from rfl]
  refine callR [4, 11] (addG (a := catL [numS (n : Int), numS (p : Int), numS 0, numS ((1 : Nat) : Int), textS L[q + 0].1, textS L[q + 0].2]) (t := numS ((1 : Nat) : Int)) (b := catL [numS (n : Int), numS (p : Int), numS 0, numS ((1 : Nat) : Int), textS L[q + 0].1, textS L[q + 0].2, numS ((1 : Nat) : Int)]) rfl pos6 (by simp only [catL, List.foldl, cat_size]; omega)) (post' := [(4, .box 156 [.ptr 4 0, .sv 12 1 0 (catL [numS (n : Int), numS (p : Int), numS 0, numS ((1 : Nat) : Int), textS L[q + 0].1, textS L[q + 0].2, numS ((1 : Nat) : Int)]).size none, .int .i64 0]), (11, .gone), (12, rowB (catL [numS (n : Int), numS (p : Int), numS 0, numS ((1 : Nat) : Int), textS L[q + 0].1, textS L[q + 0].2, numS ((1 : Nat) : Int)]))]) (by simp only [renH, rowB_ren]; rfl) rfl rfl rfl trivial ⟨rfl, rowB_at _ rfl, trivial⟩ ?_
  conv => whnf
  refine unrollR Tryz.hT Tryz.hM puZ_ok 2 ?_
  conv => whnf
  refine ⟨by decide, ?_⟩
  conv => whnf
  refine callR [0] (join1p P none none (by omega) hP) (post' := [(0, rowS P none)]) (by simp only [renH, rowS_ren]; rfl) rfl rfl rfl trivial ⟨rowS_at _ rfl, trivial⟩ ?_
  conv => whnf
  refine callR [4, 12] (addG (a := catL [numS (n : Int), numS (p : Int), numS 0, numS ((1 : Nat) : Int), textS L[q + 0].1, textS L[q + 0].2, numS ((1 : Nat) : Int)]) (t := joinS P) (b := catL [numS (n : Int), numS (p : Int), numS 0, numS ((1 : Nat) : Int), textS L[q + 0].1, textS L[q + 0].2, numS ((1 : Nat) : Int), joinS P]) rfl pos7 (by simp only [catL, List.foldl, cat_size]; omega)) (post' := [(4, .box 156 [.ptr 4 0, .sv 13 1 0 (catL [numS (n : Int), numS (p : Int), numS 0, numS ((1 : Nat) : Int), textS L[q + 0].1, textS L[q + 0].2, numS ((1 : Nat) : Int), joinS P]).size none, .int .i64 0]), (12, .gone), (13, rowB (catL [numS (n : Int), numS (p : Int), numS 0, numS ((1 : Nat) : Int), textS L[q + 0].1, textS L[q + 0].2, numS ((1 : Nat) : Int), joinS P]))]) (by simp only [renH, rowB_ren]; rfl) rfl rfl rfl trivial ⟨rfl, rowB_at _ rfl, trivial⟩ ?_
  conv => whnf
  refine callR [4, 13] (strP (a := catL [numS (n : Int), numS (p : Int), numS 0, numS ((1 : Nat) : Int), textS L[q + 0].1, textS L[q + 0].2, numS ((1 : Nat) : Int), joinS P]) (by simp only [catL, List.foldl, cat_size]; omega) (by simp only [catL, List.foldl, cat_size]; omega)) (post' := [(4, .box 156 [.ptr 4 0, .sv 13 1 0 (catL [numS (n : Int), numS (p : Int), numS 0, numS ((1 : Nat) : Int), textS L[q + 0].1, textS L[q + 0].2, numS ((1 : Nat) : Int), joinS P]).size none, .int .i64 0]), (13, .gone)]) rfl rfl rfl rfl trivial ⟨rfl, rowB_at _ rfl, trivial⟩ ?_
  conv => whnf
  refine Fin.same ?_ rfl ?_
  · simp [okH_all, okR, rowS, rowD, bare_ok (cellsP_bare _), bare_ok (strsA_bare _), okL_cons, okL_nil, okA_sv]
  · intro p hp
    simp only [List.mem_cons, List.not_mem_nil, or_false] at hp
    rcases hp with rfl | rfl | rfl <;> rfl
set_option maxHeartbeats 4000000 in
theorem putQC {n p : Nat} (hn : n ≤ 40) (hp : p ≤ 40) {P : List ByteArray} (hP : shortL P) (hPl : P.length ≤ 40) {Q : List ByteArray} (hQ : shortL Q) (hQl : Q.length ≤ 40) {L : List KV} {d : Option Nat} {q : Nat} (hq : q + 2 ≤ L.length) (hs : ∀ (i : Nat) (h : i < L.length), L[i].1.size ≤ 65536 ∧ L[i].2.size ≤ 65536)  :
    Ctr Tryz.prog 58 [.agg [.int .i64 (n : Int), .int .i64 (p : Int), .bool false, .sv 3 2 q 2 (some 2), .sv 2 1 0 2 none]] [] [(0, rowS P none), (1, rowS Q none), (2, .row 31 1 [.sv 0 1 0 P.length none, .sv 1 1 0 Q.length none] none), (3, rowD L d)] 4 4 (.tup [.str (catL [numS (n : Int), numS (p : Int), numS 0, numS ((2 : Nat) : Int), textS L[q + 0].1, textS L[q + 0].2, textS L[q + 1].1, textS L[q + 1].2, numS ((2 : Nat) : Int), joinS P, joinS Q]), .int .i64 0]) [(0, rowS P none), (1, rowS Q none), (2, .row 31 1 [.sv 0 1 0 P.length none, .sv 1 1 0 Q.length none] none), (3, rowD L d)] := by
  have sk0 : L[q + 0].1.size ≤ 65536 := (hs (q + 0) (by omega)).1
  have sv0 : L[q + 0].2.size ≤ 65536 := (hs (q + 0) (by omega)).2
  have sk1 : L[q + 1].1.size ≤ 65536 := (hs (q + 1) (by omega)).1
  have sv1 : L[q + 1].2.size ≤ 65536 := (hs (q + 1) (by omega)).2
  have pos0 := numS_pos (x := (n : Int)) (by omega) (by omega)
  have pos1 := numS_pos (x := (p : Int)) (by omega) (by omega)
  have pos2 := numS_pos (x := 0) (by decide) (by decide)
  have pos3 := numS_pos (x := ((2 : Nat) : Int)) (by decide) (by decide)
  have pos4 := textS_pos sk0
  have pos5 := textS_pos sv0
  have pos6 := textS_pos sk1
  have pos7 := textS_pos sv1
  have pos8 := numS_pos (x := ((2 : Nat) : Int)) (by decide) (by decide)
  have pos9 := joinS_pos (l := P) (by omega)
  have ljP := joinT_size (P.length : Int) P
  have leP : (joinS P).size ≤ 8 + 65544 * P.length := ljP
  have pos10 := joinS_pos (l := Q) (by omega)
  have ljQ := joinT_size (Q.length : Int) Q
  have leQ : (joinS Q).size ≤ 8 + 65544 * Q.length := ljQ
  have := numS_size (n : Int)
  have := numS_size (p : Int)
  have := numS_size 0
  have := numS_size 1
  have := numS_size ((1 : Nat) : Int)
  have := numS_size ((2 : Nat) : Int)
  have := textS_size L[q + 0].1
  have := textS_size L[q + 0].2
  have := textS_size L[q + 1].1
  have := textS_size L[q + 1].2
  refine Ctr.introR (T := Tryz.T) Tryz.hT Tryz.hM puZ_ok Tryz.func58 rfl (by kernel_rfl) rfl rfl ?_ rfl ?_
  · simp [okH_all, okR, rowS, rowD, bare_ok (cellsP_bare _), bare_ok (strsA_bare _), okL_cons, okL_nil, okA_sv]
  conv => whnf
  refine unrollR Tryz.hT Tryz.hM puZ_ok 5 ?_
  conv => whnf
  refine ⟨by decide, ?_⟩
  conv => whnf
  rw [numE_ok (x := (n : Int)) (by omega) (by omega)]
  refine callR [5] (add0 (t := numS (n : Int)) pos0 (by omega)) (post' := [(5, .box 156 [.ptr 5 0, .sv 6 1 0 (catL [numS (n : Int)]).size none, .int .i64 0]), (6, rowB (catL [numS (n : Int)]))]) (by simp only [renH, rowB_ren]; rfl) rfl rfl rfl trivial ⟨rfl, trivial⟩ ?_
  conv => whnf
  refine ⟨by decide, ?_⟩
  conv => whnf
  rw [numE_ok (x := (p : Int)) (by omega) (by omega)]
  refine callR [5, 6] (addG (a := catL [numS (n : Int)]) (t := numS (p : Int)) (b := catL [numS (n : Int), numS (p : Int)]) rfl pos1 (by simp only [catL, List.foldl]; omega)) (post' := [(5, .box 156 [.ptr 5 0, .sv 7 1 0 (catL [numS (n : Int), numS (p : Int)]).size none, .int .i64 0]), (6, .gone), (7, rowB (catL [numS (n : Int), numS (p : Int)]))]) (by simp only [renH, rowB_ren]; rfl) rfl rfl rfl trivial ⟨rfl, rowB_at _ rfl, trivial⟩ ?_
  conv => whnf
  refine ⟨by decide, ?_⟩
  conv => whnf
  rw [show numE 0 = 0 from rfl]
  refine callR [5, 7] (addG (a := catL [numS (n : Int), numS (p : Int)]) (t := numS 0) (b := catL [numS (n : Int), numS (p : Int), numS 0]) rfl pos2 (by simp only [catL, List.foldl, cat_size]; omega)) (post' := [(5, .box 156 [.ptr 5 0, .sv 8 1 0 (catL [numS (n : Int), numS (p : Int), numS 0]).size none, .int .i64 0]), (7, .gone), (8, rowB (catL [numS (n : Int), numS (p : Int), numS 0]))]) (by simp only [renH, rowB_ren]; rfl) rfl rfl rfl trivial ⟨rfl, rowB_at _ rfl, trivial⟩ ?_
  conv => whnf
  refine ⟨by decide, ?_⟩
  conv => whnf
  rw [show numE ((2 : Nat) : Int) = 0 from rfl]
  refine callR [5, 8] (addG (a := catL [numS (n : Int), numS (p : Int), numS 0]) (t := numS ((2 : Nat) : Int)) (b := catL [numS (n : Int), numS (p : Int), numS 0, numS ((2 : Nat) : Int)]) rfl pos3 (by simp only [catL, List.foldl, cat_size]; omega)) (post' := [(5, .box 156 [.ptr 5 0, .sv 9 1 0 (catL [numS (n : Int), numS (p : Int), numS 0, numS ((2 : Nat) : Int)]).size none, .int .i64 0]), (8, .gone), (9, rowB (catL [numS (n : Int), numS (p : Int), numS 0, numS ((2 : Nat) : Int)]))]) (by simp only [renH, rowB_ren]; rfl) rfl rfl rfl trivial ⟨rfl, rowB_at _ rfl, trivial⟩ ?_
  conv => whnf
  refine unrollR Tryz.hT Tryz.hM puZ_ok 3 ?_
  conv => whnf
  refine ⟨by decide, ?_⟩
  conv => whnf
  rw [show readA true 2 (cellsP L) ((q + Int.toNat 0) * 2 + 0) = some (.agg [.str L[q + 0].1, .str L[q + 0].2]) from readA2 (m := q + 0) (by omega)]
  conv => whnf
  rw [textE_ok sk0]
  refine callR [5, 9] (addG (a := catL [numS (n : Int), numS (p : Int), numS 0, numS ((2 : Nat) : Int)]) (t := textS L[q + 0].1) (b := catL [numS (n : Int), numS (p : Int), numS 0, numS ((2 : Nat) : Int), textS L[q + 0].1]) rfl pos4 (by simp only [catL, List.foldl, cat_size]; omega)) (post' := [(5, .box 156 [.ptr 5 0, .sv 11 1 0 (catL [numS (n : Int), numS (p : Int), numS 0, numS ((2 : Nat) : Int), textS L[q + 0].1]).size none, .int .i64 0]), (9, .gone), (11, rowB (catL [numS (n : Int), numS (p : Int), numS 0, numS ((2 : Nat) : Int), textS L[q + 0].1]))]) (by simp only [renH, rowB_ren]; rfl) rfl rfl rfl trivial ⟨rfl, rowB_at _ rfl, trivial⟩ ?_
  conv => whnf
  rw [textE_ok sv0]
  refine callR [5, 11] (addG (a := catL [numS (n : Int), numS (p : Int), numS 0, numS ((2 : Nat) : Int), textS L[q + 0].1]) (t := textS L[q + 0].2) (b := catL [numS (n : Int), numS (p : Int), numS 0, numS ((2 : Nat) : Int), textS L[q + 0].1, textS L[q + 0].2]) rfl pos5 (by simp only [catL, List.foldl, cat_size]; omega)) (post' := [(5, .box 156 [.ptr 5 0, .sv 12 1 0 (catL [numS (n : Int), numS (p : Int), numS 0, numS ((2 : Nat) : Int), textS L[q + 0].1, textS L[q + 0].2]).size none, .int .i64 0]), (11, .gone), (12, rowB (catL [numS (n : Int), numS (p : Int), numS 0, numS ((2 : Nat) : Int), textS L[q + 0].1, textS L[q + 0].2]))]) (by simp only [renH, rowB_ren]; rfl) rfl rfl rfl trivial ⟨rfl, rowB_at _ rfl, trivial⟩ ?_
  conv => whnf
  refine ⟨by decide, ?_⟩
  conv => whnf
  rw [show readA true 2 (cellsP L) ((q + Int.toNat (IntKind.i64.wrap (0 + 1))) * 2 + 0) = some (.agg [.str L[q + 1].1, .str L[q + 1].2]) from readA2 (m := q + 1) (by omega)]
  conv => whnf
  rw [textE_ok sk1]
  refine callR [5, 12] (addG (a := catL [numS (n : Int), numS (p : Int), numS 0, numS ((2 : Nat) : Int), textS L[q + 0].1, textS L[q + 0].2]) (t := textS L[q + 1].1) (b := catL [numS (n : Int), numS (p : Int), numS 0, numS ((2 : Nat) : Int), textS L[q + 0].1, textS L[q + 0].2, textS L[q + 1].1]) rfl pos6 (by simp only [catL, List.foldl, cat_size]; omega)) (post' := [(5, .box 156 [.ptr 5 0, .sv 14 1 0 (catL [numS (n : Int), numS (p : Int), numS 0, numS ((2 : Nat) : Int), textS L[q + 0].1, textS L[q + 0].2, textS L[q + 1].1]).size none, .int .i64 0]), (12, .gone), (14, rowB (catL [numS (n : Int), numS (p : Int), numS 0, numS ((2 : Nat) : Int), textS L[q + 0].1, textS L[q + 0].2, textS L[q + 1].1]))]) (by simp only [renH, rowB_ren]; rfl) rfl rfl rfl trivial ⟨rfl, rowB_at _ rfl, trivial⟩ ?_
  conv => whnf
  rw [textE_ok sv1]
  refine callR [5, 14] (addG (a := catL [numS (n : Int), numS (p : Int), numS 0, numS ((2 : Nat) : Int), textS L[q + 0].1, textS L[q + 0].2, textS L[q + 1].1]) (t := textS L[q + 1].2) (b := catL [numS (n : Int), numS (p : Int), numS 0, numS ((2 : Nat) : Int), textS L[q + 0].1, textS L[q + 0].2, textS L[q + 1].1, textS L[q + 1].2]) rfl pos7 (by simp only [catL, List.foldl, cat_size]; omega)) (post' := [(5, .box 156 [.ptr 5 0, .sv 15 1 0 (catL [numS (n : Int), numS (p : Int), numS 0, numS ((2 : Nat) : Int), textS L[q + 0].1, textS L[q + 0].2, textS L[q + 1].1, textS L[q + 1].2]).size none, .int .i64 0]), (14, .gone), (15, rowB (catL [numS (n : Int), numS (p : Int), numS 0, numS ((2 : Nat) : Int), textS L[q + 0].1, textS L[q + 0].2, textS L[q + 1].1, textS L[q + 1].2]))]) (by simp only [renH, rowB_ren]; rfl) rfl rfl rfl trivial ⟨rfl, rowB_at _ rfl, trivial⟩ ?_
  conv => whnf
  rw [show numE ((2 : Nat) : Int) = 0 from rfl]
  refine callR [5, 15] (addG (a := catL [numS (n : Int), numS (p : Int), numS 0, numS ((2 : Nat) : Int), textS L[q + 0].1, textS L[q + 0].2, textS L[q + 1].1, textS L[q + 1].2]) (t := numS ((2 : Nat) : Int)) (b := catL [numS (n : Int), numS (p : Int), numS 0, numS ((2 : Nat) : Int), textS L[q + 0].1, textS L[q + 0].2, textS L[q + 1].1, textS L[q + 1].2, numS ((2 : Nat) : Int)]) rfl pos8 (by simp only [catL, List.foldl, cat_size]; omega)) (post' := [(5, .box 156 [.ptr 5 0, .sv 16 1 0 (catL [numS (n : Int), numS (p : Int), numS 0, numS ((2 : Nat) : Int), textS L[q + 0].1, textS L[q + 0].2, textS L[q + 1].1, textS L[q + 1].2, numS ((2 : Nat) : Int)]).size none, .int .i64 0]), (15, .gone), (16, rowB (catL [numS (n : Int), numS (p : Int), numS 0, numS ((2 : Nat) : Int), textS L[q + 0].1, textS L[q + 0].2, textS L[q + 1].1, textS L[q + 1].2, numS ((2 : Nat) : Int)]))]) (by simp only [renH, rowB_ren]; rfl) rfl rfl rfl trivial ⟨rfl, rowB_at _ rfl, trivial⟩ ?_
  conv => whnf
  refine unrollR Tryz.hT Tryz.hM puZ_ok 3 ?_
  conv => whnf
  refine ⟨by decide, ?_⟩
  conv => whnf
  refine callR [0] (join1p P none none (by omega) hP) (post' := [(0, rowS P none)]) (by simp only [renH, rowS_ren]; rfl) rfl rfl rfl trivial ⟨rowS_at _ rfl, trivial⟩ ?_
  conv => whnf
  refine callR [5, 16] (addG (a := catL [numS (n : Int), numS (p : Int), numS 0, numS ((2 : Nat) : Int), textS L[q + 0].1, textS L[q + 0].2, textS L[q + 1].1, textS L[q + 1].2, numS ((2 : Nat) : Int)]) (t := joinS P) (b := catL [numS (n : Int), numS (p : Int), numS 0, numS ((2 : Nat) : Int), textS L[q + 0].1, textS L[q + 0].2, textS L[q + 1].1, textS L[q + 1].2, numS ((2 : Nat) : Int), joinS P]) rfl pos9 (by simp only [catL, List.foldl, cat_size]; omega)) (post' := [(5, .box 156 [.ptr 5 0, .sv 17 1 0 (catL [numS (n : Int), numS (p : Int), numS 0, numS ((2 : Nat) : Int), textS L[q + 0].1, textS L[q + 0].2, textS L[q + 1].1, textS L[q + 1].2, numS ((2 : Nat) : Int), joinS P]).size none, .int .i64 0]), (16, .gone), (17, rowB (catL [numS (n : Int), numS (p : Int), numS 0, numS ((2 : Nat) : Int), textS L[q + 0].1, textS L[q + 0].2, textS L[q + 1].1, textS L[q + 1].2, numS ((2 : Nat) : Int), joinS P]))]) (by simp only [renH, rowB_ren]; rfl) rfl rfl rfl trivial ⟨rfl, rowB_at _ rfl, trivial⟩ ?_
  conv => whnf
  refine ⟨by decide, ?_⟩
  conv => whnf
  refine callR [1] (join1p Q none none (by omega) hQ) (post' := [(1, rowS Q none)]) (by simp only [renH, rowS_ren]; rfl) rfl rfl rfl trivial ⟨rowS_at _ rfl, trivial⟩ ?_
  conv => whnf
  refine callR [5, 17] (addG (a := catL [numS (n : Int), numS (p : Int), numS 0, numS ((2 : Nat) : Int), textS L[q + 0].1, textS L[q + 0].2, textS L[q + 1].1, textS L[q + 1].2, numS ((2 : Nat) : Int), joinS P]) (t := joinS Q) (b := catL [numS (n : Int), numS (p : Int), numS 0, numS ((2 : Nat) : Int), textS L[q + 0].1, textS L[q + 0].2, textS L[q + 1].1, textS L[q + 1].2, numS ((2 : Nat) : Int), joinS P, joinS Q]) rfl pos10 (by simp only [catL, List.foldl, cat_size]; omega)) (post' := [(5, .box 156 [.ptr 5 0, .sv 18 1 0 (catL [numS (n : Int), numS (p : Int), numS 0, numS ((2 : Nat) : Int), textS L[q + 0].1, textS L[q + 0].2, textS L[q + 1].1, textS L[q + 1].2, numS ((2 : Nat) : Int), joinS P, joinS Q]).size none, .int .i64 0]), (17, .gone), (18, rowB (catL [numS (n : Int), numS (p : Int), numS 0, numS ((2 : Nat) : Int), textS L[q + 0].1, textS L[q + 0].2, textS L[q + 1].1, textS L[q + 1].2, numS ((2 : Nat) : Int), joinS P, joinS Q]))]) (by simp only [renH, rowB_ren]; rfl) rfl rfl rfl trivial ⟨rfl, rowB_at _ rfl, trivial⟩ ?_
  conv => whnf
  refine callR [5, 18] (strP (a := catL [numS (n : Int), numS (p : Int), numS 0, numS ((2 : Nat) : Int), textS L[q + 0].1, textS L[q + 0].2, textS L[q + 1].1, textS L[q + 1].2, numS ((2 : Nat) : Int), joinS P, joinS Q]) (by simp only [catL, List.foldl, cat_size]; omega) (by simp only [catL, List.foldl, cat_size]; omega)) (post' := [(5, .box 156 [.ptr 5 0, .sv 18 1 0 (catL [numS (n : Int), numS (p : Int), numS 0, numS ((2 : Nat) : Int), textS L[q + 0].1, textS L[q + 0].2, textS L[q + 1].1, textS L[q + 1].2, numS ((2 : Nat) : Int), joinS P, joinS Q]).size none, .int .i64 0]), (18, .gone)]) rfl rfl rfl rfl trivial ⟨rfl, rowB_at _ rfl, trivial⟩ ?_
  conv => whnf
  refine Fin.same ?_ rfl ?_
  · simp [okH_all, okR, rowS, rowD, bare_ok (cellsP_bare _), bare_ok (strsA_bare _), okL_cons, okL_nil, okA_sv]
  · intro p hp
    simp only [List.mem_cons, List.not_mem_nil, or_false] at hp
    rcases hp with rfl | rfl | rfl | rfl <;> rfl

def smallK (L : List KV) : Prop := ∀ (i : Nat) (h : i < L.length), L[i].1.size ≤ 1000 ∧ L[i].2.size ≤ 1000
theorem joinS_small {l : List ByteArray} (h : ∀ s ∈ l, s.size = 32) : (joinS l).size ≤ 8 + 40 * l.length := by
  have key : ∀ (l : List ByteArray) (o : ByteArray), (∀ s ∈ l, s.size = 32) → (l.foldl (fun o s => catB o (textS s)) o).size ≤ o.size + 40 * l.length := by
    intro l
    induction l with
    | nil => intro o _; simp
    | cons x l ih =>
      intro o hx
      have h1 := ih (catB o (textS x)) (fun s hs => hx s (List.mem_cons_of_mem _ hs))
      have h2 := textS_small x
      rw [hx x List.mem_cons_self] at h2
      rw [cat_size] at h1
      simp only [List.foldl_cons, List.length_cons]
      omega
  have h1 := key l (numS (l.length : Int)) h
  have h2 := numS_size (l.length : Int)
  unfold joinS joinT; omega
theorem path_facts {L : List KV} (h40 : L.length ≤ 40) (q : Nat) : shortL (pathB (leavesB L) q) ∧ (pathB (leavesB L) q).length ≤ 40 ∧ (joinS (pathB (leavesB L) q)).size ≤ 1608 := by
  have hl : (leavesB L).length = L.length := by simp [leavesB]
  have h1 := pathB_all 40 (leavesB L) q (by omega) (by omega) lv_size
  have h2 := pathB_len 40 (leavesB L) q (by omega) (by omega)
  have h3 := joinS_small h1
  exact ⟨fun s hs => by rw [h1 s hs]; omega, by omega, by omega⟩
theorem prove1A {L : List KV} (hs : Srt L) (h3 : 3 ≤ L.length) (h40 : L.length ≤ 40) (hsm : smallK L) {key : ByteArray} (hb : hasL L key = true) :
    Ctr Tryz.prog 32 [.ptr 0 0, .int .i64 1, .str key] [] [(0, cbox (.sv 2 2 0 1 none)), (2, .row 74 2 [.str (rawB L 1), .sv 3 2 0 L.length (some L.length)] none), (3, rowD L (some L.length))] 4 4 (.tup [.agg [.int .i64 1, .str (catL [numS (L.length : Int), numS (posL L key : Int), numS 1, numS 0, numS ((1 : Nat) : Int), joinS (pathB (leavesB L) (posL L key))])], .int .i64 0]) [(0, cbox (.sv 2 2 0 1 none)), (2, .row 74 2 [.str (rawB L 1), .sv 3 2 0 L.length (some L.length)] none), (3, rowD L (some L.length))] := by
  have hle := posL_le L key
  obtain ⟨f1, f2, f3⟩ := path_facts (L := L) h40 (posL L key)
  refine Ctr.introR (T := Tryz.T) Tryz.hT Tryz.hM Tryz.hE Tryz.func32 rfl (by kernel_rfl) rfl rfl ?_ rfl ?_
  · simp [okH_all, okR, cbox, rowD, bare_ok (cellsP_bare _), okL_cons, okL_nil, okA_str, okA_ptr, okA_int, okA_nils, okA_sv]
  conv => whnf
  refine callR [0, 1, 2, 3] (at1 L) rfl rfl rfl rfl trivial ⟨rfl, rfl, trivial⟩ ?_
  conv => whnf
  refine callR [3] (buildA hs h3 h40 hb) (post' := [(3, rowD L (some L.length)), (6, rowS (pathB (leavesB L) (posL L key)) none), (7, .row 31 1 [.sv 6 1 0 (pathB (leavesB L) (posL L key)).length none] (some 1))]) (by simp only [renH, rowD_ren, rowS_ren]; rfl) rfl rfl rfl trivial ⟨rowD_at _ rfl, trivial⟩ ?_
  conv => whnf
  refine callR [6, 7] (putQA (n := L.length) (p := posL L key) (P := pathB (leavesB L) (posL L key)) h40 (by omega) f1 f2) (post' := [(6, rowS (pathB (leavesB L) (posL L key)) none), (7, .row 31 1 [.sv 6 1 0 (pathB (leavesB L) (posL L key)).length none] (some 1))]) (by simp only [renH, rowS_ren]; rfl) rfl rfl rfl trivial ⟨rowS_at _ rfl, rfl, trivial⟩ ?_
  conv => whnf
  refine Fin.same ?_ rfl ?_
  · simp [okH_all, okR, cbox, rowD, bare_ok (cellsP_bare _), okL_cons, okL_nil, okA_str, okA_ptr, okA_int, okA_nils, okA_sv]
  · intro p hp
    simp only [List.mem_cons, List.not_mem_nil, or_false] at hp
    rcases hp with rfl | rfl | rfl <;> rfl
theorem prove1B {L : List KV} (hs : Srt L) (h3 : 3 ≤ L.length) (h40 : L.length ≤ 40) (hsm : smallK L) {key : ByteArray} {q : Nat} (hq1 : q + 1 ≤ L.length) (hb : hasL L key = false) (hq : posL L key = 0 ∧ q = 0 ∨ posL L key = L.length ∧ q = L.length - 1) :
    Ctr Tryz.prog 32 [.ptr 0 0, .int .i64 1, .str key] [] [(0, cbox (.sv 2 2 0 1 none)), (2, .row 74 2 [.str (rawB L 1), .sv 3 2 0 L.length (some L.length)] none), (3, rowD L (some L.length))] 4 4 (.tup [.agg [.int .i64 1, .str (catL [numS (L.length : Int), numS (posL L key : Int), numS 0, numS ((1 : Nat) : Int), textS L[q + 0].1, textS L[q + 0].2, numS ((1 : Nat) : Int), joinS (pathB (leavesB L) q)])], .int .i64 0]) [(0, cbox (.sv 2 2 0 1 none)), (2, .row 74 2 [.str (rawB L 1), .sv 3 2 0 L.length (some L.length)] none), (3, rowD L (some L.length))] := by
  have hle := posL_le L key
  obtain ⟨f1, f2, f3⟩ := path_facts (L := L) h40 q
  have hs2 : ∀ (i : Nat) (h : i < L.length), L[i].1.size ≤ 65536 ∧ L[i].2.size ≤ 65536 := fun i h => by have := hsm i h; omega
  refine Ctr.introR (T := Tryz.T) Tryz.hT Tryz.hM Tryz.hE Tryz.func32 rfl (by kernel_rfl) rfl rfl ?_ rfl ?_
  · simp [okH_all, okR, cbox, rowD, bare_ok (cellsP_bare _), okL_cons, okL_nil, okA_str, okA_ptr, okA_int, okA_nils, okA_sv]
  conv => whnf
  refine callR [0, 1, 2, 3] (at1 L) rfl rfl rfl rfl trivial ⟨rfl, rfl, trivial⟩ ?_
  conv => whnf
  refine callR [3] (buildB hs h3 h40 hb hq) (post' := [(3, rowD L (some L.length)), (6, rowS (pathB (leavesB L) q) none), (7, .row 31 1 [.sv 6 1 0 (pathB (leavesB L) q).length none] none)]) (by simp only [renH, rowD_ren, rowS_ren]; rfl) rfl rfl rfl trivial ⟨rowD_at _ rfl, trivial⟩ ?_
  conv => whnf
  refine callR [6, 7, 3] (putQB (n := L.length) (p := posL L key) (P := pathB (leavesB L) q) h40 (by omega) f1 f2 hq1 hs2) (post' := [(6, rowS (pathB (leavesB L) q) none), (7, .row 31 1 [.sv 6 1 0 (pathB (leavesB L) q).length none] none), (3, rowD L (some L.length))]) (by simp only [renH, rowS_ren, rowD_ren]; rfl) rfl rfl rfl trivial ⟨rowS_at _ rfl, rfl, rowD_at _ rfl, trivial⟩ ?_
  conv => whnf
  refine Fin.same ?_ rfl ?_
  · simp [okH_all, okR, cbox, rowD, bare_ok (cellsP_bare _), okL_cons, okL_nil, okA_str, okA_ptr, okA_int, okA_nils, okA_sv]
  · intro p hp
    simp only [List.mem_cons, List.not_mem_nil, or_false] at hp
    rcases hp with rfl | rfl | rfl <;> rfl
theorem prove1C {L : List KV} (hs : Srt L) (h3 : 3 ≤ L.length) (h40 : L.length ≤ 40) (hsm : smallK L) {key : ByteArray} {q : Nat} (hq2 : q + 1 < L.length) (hb : hasL L key = false) (hq : posL L key = q + 1 ∧ q + 1 < L.length) :
    Ctr Tryz.prog 32 [.ptr 0 0, .int .i64 1, .str key] [] [(0, cbox (.sv 2 2 0 1 none)), (2, .row 74 2 [.str (rawB L 1), .sv 3 2 0 L.length (some L.length)] none), (3, rowD L (some L.length))] 4 4 (.tup [.agg [.int .i64 1, .str (catL [numS (L.length : Int), numS (posL L key : Int), numS 0, numS ((2 : Nat) : Int), textS L[q + 0].1, textS L[q + 0].2, textS L[q + 1].1, textS L[q + 1].2, numS ((2 : Nat) : Int), joinS (pathB (leavesB L) q), joinS (pathB (leavesB L) (q + 1))])], .int .i64 0]) [(0, cbox (.sv 2 2 0 1 none)), (2, .row 74 2 [.str (rawB L 1), .sv 3 2 0 L.length (some L.length)] none), (3, rowD L (some L.length))] := by
  have hle := posL_le L key
  obtain ⟨f1, f2, f3⟩ := path_facts (L := L) h40 q
  obtain ⟨g1, g2, g3⟩ := path_facts (L := L) h40 (q + 1)
  have hs2 : ∀ (i : Nat) (h : i < L.length), L[i].1.size ≤ 65536 ∧ L[i].2.size ≤ 65536 := fun i h => by have := hsm i h; omega
  refine Ctr.introR (T := Tryz.T) Tryz.hT Tryz.hM Tryz.hE Tryz.func32 rfl (by kernel_rfl) rfl rfl ?_ rfl ?_
  · simp [okH_all, okR, cbox, rowD, bare_ok (cellsP_bare _), okL_cons, okL_nil, okA_str, okA_ptr, okA_int, okA_nils, okA_sv]
  conv => whnf
  refine callR [0, 1, 2, 3] (at1 L) rfl rfl rfl rfl trivial ⟨rfl, rfl, trivial⟩ ?_
  conv => whnf
  refine callR [3] (buildC hs h3 h40 hb hq) (post' := [(3, rowD L (some L.length)), (6, rowS (pathB (leavesB L) q) none), (7, rowS (pathB (leavesB L) (q + 1)) none), (8, .row 31 1 [.sv 6 1 0 (pathB (leavesB L) q).length none, .sv 7 1 0 (pathB (leavesB L) (q + 1)).length none] none)]) (by simp only [renH, rowD_ren, rowS_ren]; rfl) rfl rfl rfl trivial ⟨rowD_at _ rfl, trivial⟩ ?_
  conv => whnf
  refine callR [6, 7, 8, 3] (putQC (n := L.length) (p := posL L key) (P := pathB (leavesB L) q) (Q := pathB (leavesB L) (q + 1)) h40 (by omega) f1 f2 g1 g2 (by omega) hs2) (post' := [(6, rowS (pathB (leavesB L) q) none), (7, rowS (pathB (leavesB L) (q + 1)) none), (8, .row 31 1 [.sv 6 1 0 (pathB (leavesB L) q).length none, .sv 7 1 0 (pathB (leavesB L) (q + 1)).length none] none), (3, rowD L (some L.length))]) (by simp only [renH, rowS_ren, rowD_ren]; rfl) rfl rfl rfl trivial ⟨rowS_at _ rfl, rowS_at _ rfl, rfl, rowD_at _ rfl, trivial⟩ ?_
  conv => whnf
  refine Fin.same ?_ rfl ?_
  · simp [okH_all, okR, cbox, rowD, bare_ok (cellsP_bare _), okL_cons, okL_nil, okA_str, okA_ptr, okA_int, okA_nils, okA_sv]
  · intro p hp
    simp only [List.mem_cons, List.not_mem_nil, or_false] at hp
    rcases hp with rfl | rfl | rfl <;> rfl
theorem prove1 {L : List KV} (hs : Srt L) (h3 : 3 ≤ L.length) (h40 : L.length ≤ 40) (hsm : smallK L) (key : ByteArray) : ∃ s : ByteArray, s.size ≤ 30000 ∧
    Ctr Tryz.prog 32 [.ptr 0 0, .int .i64 1, .str key] [] [(0, cbox (.sv 2 2 0 1 none)), (2, .row 74 2 [.str (rawB L 1), .sv 3 2 0 L.length (some L.length)] none), (3, rowD L (some L.length))] 4 4 (.tup [.agg [.int .i64 1, .str s], .int .i64 0]) [(0, cbox (.sv 2 2 0 1 none)), (2, .row 74 2 [.str (rawB L 1), .sv 3 2 0 L.length (some L.length)] none), (3, rowD L (some L.length))] := by
  have hle := posL_le L key
  have e0 := numS_size (L.length : Int); have e1 := numS_size (posL L key : Int); have e2 := numS_size 0; have e3 := numS_size 1; have e4 := numS_size ((1 : Nat) : Int); have e5 := numS_size ((2 : Nat) : Int)
  cases hb : hasL L key with
  | true =>
    obtain ⟨f1, f2, f3⟩ := path_facts (L := L) h40 (posL L key)
    exact ⟨_, by simp only [catL, List.foldl, cat_size]; omega, prove1A hs h3 h40 hsm hb⟩
  | false =>
    have case : posL L key = 0 ∨ posL L key = L.length ∨ ∃ q, posL L key = q + 1 ∧ q + 1 < L.length := by
      rcases Nat.eq_zero_or_pos (posL L key) with h | h
      · exact .inl h
      · rcases Nat.lt_or_ge (posL L key) L.length with h2 | h2
        · exact .inr (.inr ⟨posL L key - 1, by omega, by omega⟩)
        · exact .inr (.inl (by omega))
    rcases case with h | h | ⟨q, h1, h2⟩
    · obtain ⟨f1, f2, f3⟩ := path_facts (L := L) h40 0
      have t1 := textS_small L[0 + 0].1; have t2 := textS_small L[0 + 0].2; have t3 := hsm (0 + 0) (by omega)
      exact ⟨_, by simp only [catL, List.foldl, cat_size]; omega, prove1B hs h3 h40 hsm (q := 0) (by omega) hb (.inl ⟨h, rfl⟩)⟩
    · obtain ⟨f1, f2, f3⟩ := path_facts (L := L) h40 (L.length - 1)
      have t1 := textS_small L[L.length - 1 + 0].1; have t2 := textS_small L[L.length - 1 + 0].2; have t3 := hsm (L.length - 1 + 0) (by omega)
      exact ⟨_, by simp only [catL, List.foldl, cat_size]; omega, prove1B hs h3 h40 hsm (q := L.length - 1) (by omega) hb (.inr ⟨h, rfl⟩)⟩
    · obtain ⟨f1, f2, f3⟩ := path_facts (L := L) h40 q
      obtain ⟨g1, g2, g3⟩ := path_facts (L := L) h40 (q + 1)
      have t1 := textS_small L[q + 0].1; have t2 := textS_small L[q + 0].2; have t3 := hsm (q + 0) (by omega)
      have u1 := textS_small L[q + 1].1; have u2 := textS_small L[q + 1].2; have u3 := hsm (q + 1) (by omega)
      exact ⟨_, by simp only [catL, List.foldl, cat_size]; omega, prove1C hs h3 h40 hsm h2 hb ⟨h1, h2⟩⟩
end Go.Proofs.YtglkoaajgekonaaGreatDoor
