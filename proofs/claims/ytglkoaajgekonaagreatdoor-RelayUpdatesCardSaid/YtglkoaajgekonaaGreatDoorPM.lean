/- Messages: their bytes, the program's and the document's. -/
import Derived.Test.YtglkoaajgekonaaGreatDoorRep
import Derived.Test.YtglkoaajgekonaaGreatDoorOv
import Derived.Test.YtglkoaajgekonaaGreatDoorTxt
import Derived.Test.YtglkoaajgekonaaGreatDoorSXSL
import Derived.Test.YtglkoaajgekonaaGreatDoorSXU
namespace Go.Proofs.YtglkoaajgekonaaGreatDoor
open Go.SX
def valO : G → Option AV
  | .ok (v, [], _) => some v
  | _ => none
def joinT (n : Int) (l : List ByteArray) : ByteArray := l.foldl (fun o s => catB o (textS s)) (numS n)
def joinS (l : List ByteArray) : ByteArray := joinT (l.length : Int) l
theorem joinT_snoc (n : Int) (l : List ByteArray) (s : ByteArray) : joinT n (l ++ [s]) = catB (joinT n l) (textS s) := by simp [joinT]
theorem joinT_size (n : Int) : ∀ l : List ByteArray, (joinT n l).size ≤ 8 + 65544 * l.length := by
  have : ∀ (l : List ByteArray) (o : ByteArray), (l.foldl (fun o s => catB o (textS s)) o).size ≤ o.size + 65544 * l.length := by
    intro l
    induction l with
    | nil => intro o; simp
    | cons x l ih =>
      intro o
      have h := ih (catB o (textS x))
      rw [cat_size] at h
      have := textS_size x
      simp only [List.foldl_cons, List.length_cons]
      omega
  intro l
  have h := this l (numS n)
  have := numS_size n
  unfold joinT; omega
def shortL (l : List ByteArray) : Prop := ∀ s ∈ l, s.size ≤ 65536
theorem textE_ok {s : ByteArray} (h : s.size ≤ 65536) : textE s = 0 := by
  unfold textE; rw [show decide ((65536 : Int) < (s.size : Int)) = false by simp; omega]; rfl
theorem numE_ok {x : Int} (h0 : 0 ≤ x) (h : x ≤ 9007199254740992) : numE x = 0 := by
  unfold numE; rw [show okN x = true by unfold okN; simp; omega]; rfl
noncomputable def rowS (l : List ByteArray) (d : Option Nat) : Res := .row 9 1 (strsA l) d
theorem rowS_ren (l : List ByteArray) (d : Option Nat) (π : Nat → Nat) : renR π (rowS l d) = rowS l d := by simp only [rowS, renR, bare_ren (strsA_bare l)]
theorem rowS_ok (l : List ByteArray) (d : Option Nat) (n : Nat) : okR n (rowS l d) = true := bare_ok (strsA_bare l)
theorem rowS_at {l : List ByteArray} {d : Option Nat} {H : Heap} {k : Nat} (π : Nat → Nat) (h : SX.look H (π k) = some (rowS l d)) : SX.look H (π k) = some (renR π (rowS l d)) := by rw [rowS_ren]; exact h
theorem join1p (l : List ByteArray) (c d : Option Nat) (hn : l.length ≤ 256) (hl : shortL l) :
    Ctr Tryz.prog 96 [.sv 0 1 0 l.length c] [] [(0, rowS l d)] 1 1 (.tup [.str (joinS l), .int .i64 0]) [(0, rowS l d)] := by
  refine Ctr.introR (T := Tryz.T) Tryz.hT Tryz.hM puZ_ok Tryz.func96 rfl (by kernel_rfl) rfl rfl ?_ rfl ?_
  · simp [okH_all, rowS_ok]
  conv => whnf
  rw [show decide ((256 : Int) < ((l.length : Nat) : Int)) = false by simp; omega]
  conv => whnf
  have hJ : ∀ i, (joinT (l.length : Int) (l.take i)).size ≤ 16800000 := fun i => by
    have := joinT_size (l.length : Int) (l.take i)
    have h2 : (l.take i).length ≤ 256 := by rw [List.length_take]; omega
    omega
  refine loopR Tryz.hT Tryz.hM puZ_ok (α := {i : Nat // i ≤ l.length})
    (fun i => ([(4, .str (joinT (l.length : Int) (l.take i.1))), (19, .sv 0 1 0 l.length c), (20, .int .i64 (l.length : Int)), (21, .int .i64 (i.1 : Int))], [(0, rowS l d)])) (fun i => l.length - i.1) 1 ⟨0, Nat.zero_le _⟩ [] ?_ ?_
  · refine ⟨⟨rfl, rfl, rfl, rfl, trivial⟩, ⟨rowS_at _ rfl, trivial⟩, ?_, rfl⟩
    simp [okFr, okH_all, rowS_ok, okA_sv, okA_str, okA_int, nodupB]
  rintro ⟨i, hi⟩
  dsimp only at hi ⊢
  conv => whnf
  by_cases h : i < l.length
  · rw [show decide (((i : Nat) : Int) < ((l.length : Nat) : Int)) = true by simpa using h]
    conv => whnf
    simp only [Int.toNat_natCast, Nat.zero_add]
    refine ⟨by omega, ?_⟩
    conv => whnf
    have hr : readA false 1 (strsA l) (i * 1 + 0) = some (.str l[i]) := by
      show nth (strsA l) _ = _
      rw [nth_eq, show i * 1 + 0 = i by omega, strsA, List.getElem?_map, List.getElem?_eq_getElem h]; rfl
    rw [hr]
    conv => whnf
    have hs : l[i].size ≤ 65536 := hl _ (List.getElem_mem h)
    have ht := textS_size l[i]
    have hj := hJ i
    rw [textE_ok hs]
    conv => whnf
    refine ⟨by unfold big; omega, ?_⟩
    conv => whnf
    have hw : IntKind.i64.wrap ((i : Int) + 1) = ((i + 1 : Nat) : Int) := by rw [wrap_small] <;> omega
    have hsn : catB (joinT (l.length : Int) (l.take i)) (textS l[i]) = joinT (l.length : Int) (l.take (i + 1)) := by rw [List.take_succ_eq_append_getElem h, joinT_snoc]
    rw [hw, hsn]
    refine ⟨⟨i + 1, h⟩, [], by dsimp only; omega, ⟨⟨rfl, rfl, rfl, rfl, trivial⟩, ⟨rowS_at _ rfl, trivial⟩, ?_, rfl⟩⟩
    simp [okFr, okH_all, rowS_ok, okA_sv, okA_str, okA_int, nodupB]
  · rw [show decide (((i : Nat) : Int) < ((l.length : Nat) : Int)) = false by simpa using h]
    have h : i = l.length := by omega
    subst h
    conv => whnf
    rw [List.take_length]
    refine Fin.same ?_ rfl ?_
    · simp [okH_all, rowS_ok]
    · simp [lookC]
theorem join2p (l : List ByteArray) (c d : Option Nat) (hn : l.length ≤ 256) (hl : shortL l) :
    Ctr Tryz.prog 36 [.sv 0 1 0 l.length c] [] [(0, rowS l d)] 1 1 (.tup [.str (joinS l), .int .i64 0]) [(0, rowS l d)] := by
  refine Ctr.introR (T := Tryz.T) Tryz.hT Tryz.hM puZ_ok Tryz.func36 rfl (by kernel_rfl) rfl rfl ?_ rfl ?_
  · simp [okH_all, rowS_ok]
  conv => whnf
  rw [show decide ((256 : Int) < ((l.length : Nat) : Int)) = false by simp; omega]
  conv => whnf
  have hJ : ∀ i, (joinT (l.length : Int) (l.take i)).size ≤ 16800000 := fun i => by
    have := joinT_size (l.length : Int) (l.take i)
    have h2 : (l.take i).length ≤ 256 := by rw [List.length_take]; omega
    omega
  refine loopR Tryz.hT Tryz.hM puZ_ok (α := {i : Nat // i ≤ l.length})
    (fun i => ([(0, .sv 0 1 0 l.length c), (4, .str (joinT (l.length : Int) (l.take i.1))), (6, .int .i64 (i.1 : Int))], [(0, rowS l d)])) (fun i => l.length - i.1) 1 ⟨0, Nat.zero_le _⟩ [] ?_ ?_
  · refine ⟨⟨rfl, rfl, rfl, trivial⟩, ⟨rowS_at _ rfl, trivial⟩, ?_, rfl⟩
    simp [okFr, okH_all, rowS_ok, okA_sv, okA_str, okA_int, nodupB]
  rintro ⟨i, hi⟩
  dsimp only at hi ⊢
  conv => whnf
  by_cases h : i < l.length
  · rw [show decide (((i : Nat) : Int) < ((l.length : Nat) : Int)) = true by simpa using h]
    conv => whnf
    simp only [Int.toNat_natCast, Nat.zero_add]
    refine ⟨by omega, ?_⟩
    conv => whnf
    have hr : readA false 1 (strsA l) (i * 1 + 0) = some (.str l[i]) := by
      show nth (strsA l) _ = _
      rw [nth_eq, show i * 1 + 0 = i by omega, strsA, List.getElem?_map, List.getElem?_eq_getElem h]; rfl
    rw [hr]
    conv => whnf
    have hs : l[i].size ≤ 65536 := hl _ (List.getElem_mem h)
    have ht := textS_size l[i]
    have hj := hJ i
    rw [textE_ok hs]
    conv => whnf
    refine ⟨by unfold big; omega, ?_⟩
    conv => whnf
    have hw : IntKind.i64.wrap ((i : Int) + 1) = ((i + 1 : Nat) : Int) := by rw [wrap_small] <;> omega
    have hsn : catB (joinT (l.length : Int) (l.take i)) (textS l[i]) = joinT (l.length : Int) (l.take (i + 1)) := by rw [List.take_succ_eq_append_getElem h, joinT_snoc]
    rw [hw, hsn]
    refine ⟨⟨i + 1, h⟩, [], by dsimp only; omega, ⟨⟨rfl, rfl, rfl, trivial⟩, ⟨rowS_at _ rfl, trivial⟩, ?_, rfl⟩⟩
    simp [okFr, okH_all, rowS_ok, okA_sv, okA_str, okA_int, nodupB]
  · rw [show decide (((i : Nat) : Int) < ((l.length : Nat) : Int)) = false by simpa using h]
    have h : i = l.length := by omega
    subst h
    conv => whnf
    rw [List.take_length]
    refine Fin.same ?_ rfl ?_
    · simp [okH_all, rowS_ok]
    · simp [lookC]
theorem clo {f : Nat} {args : List AV} {v : AV} (h : valO (Tryz.evo Tryz.ovA 80 f args [] [] 2) = some v) (ha : okL 0 args = true) (hv : okA 0 v = true) : Ctr Tryz.prog f args [] [] 0 0 v [] := by
  cases hg : Tryz.evo Tryz.ovA 80 f args [] [] 2 with
  | no w => rw [hg] at h; cases h
  | ok x =>
    obtain ⟨u, post, k⟩ := x
    rw [hg] at h
    cases post with
    | cons a l => cases h
    | nil =>
      cases h
      exact Ctr.shut (Tryz.ovA_ok 80 hg) ha hv
noncomputable def msgA (kind : Int) (f : ByteArray) (a b c : AV) : AV := .agg [.int .i64 kind, .str f, a, b, c]
def relW : ByteArray := ⟨#[114, 101, 108, 97, 121, 101, 114]⟩
theorem nameP : Ctr Tryz.prog 45 [.int .i64 6, .str relW] [] [] 0 0 (.int .i64 0) [] := clo (by kernel_rfl) rfl rfl
theorem nameR : Ctr Tryz.prog 63 [.int .i64 6, .str relW] [] [] 0 0 (.int .i64 0) [] := clo (by kernel_rfl) rfl rfl
theorem join1n : Ctr Tryz.prog 96 [.nils] [] [] 0 0 (.tup [.str (joinS []), .int .i64 0]) [] := clo (by kernel_rfl) rfl rfl
theorem join2n : Ctr Tryz.prog 36 [.nils] [] [] 0 0 (.tup [.str (joinS []), .int .i64 0]) [] := clo (by kernel_rfl) rfl rfl
theorem ofP (k : Int) (t n : Int) (b : Bool) (h : valO (Tryz.evo Tryz.ovA 80 132 [.int .i64 k] [] [] 2) = some (.tup [.agg [.int .i64 t, .int .i64 n, .bool b], .bool true])) : Ctr Tryz.prog 132 [.int .i64 k] [] [] 0 0 (.tup [.agg [.int .i64 t, .int .i64 n, .bool b], .bool true]) [] := clo h rfl rfl
def intsA (l : List Int) : List AV := l.map (AV.int .i64)
theorem intsA_bare (l : List Int) : (intsA l).all bareA = true := by simp [intsA, bareA]
noncomputable def rowI (l : List Int) (d : Option Nat) : Res := .row 3 1 (intsA l) d
theorem rowI_ren (l : List Int) (d : Option Nat) (π : Nat → Nat) : renR π (rowI l d) = rowI l d := by simp only [rowI, renR, bare_ren (intsA_bare l)]
theorem rowI_ok (l : List Int) (d : Option Nat) (n : Nat) : okR n (rowI l d) = true := bare_ok (intsA_bare l)
theorem rowI_at {l : List Int} {d : Option Nat} {H : Heap} {k : Nat} (π : Nat → Nat) (h : SX.look H (π k) = some (rowI l d)) : SX.look H (π k) = some (renR π (rowI l d)) := by rw [rowI_ren]; exact h
def numsT (o : ByteArray) (ns : List Int) : ByteArray := ns.foldl (fun o n => catB o (numS n)) o
def msgB (k : Int) (l : List ByteArray) (ns : List Int) : ByteArray := numsT (catB (catB (catB (catB ⟨#[]⟩ (numS k)) (textS relW)) (joinS l)) (joinS [])) ns
def okNs (ns : List Int) : Prop := ∀ n ∈ ns, 0 ≤ n ∧ n ≤ 1099511627776
/-- What a kind has. -/
def Kind (k : Int) (t n : Nat) : Prop := (∃ b, Ctr Tryz.prog 132 [.int .i64 k] [] [] 0 0 (.tup [.agg [.int .i64 (t : Int), .int .i64 (n : Int), .bool b], .bool true]) []) ∧
  Ctr Tryz.prog 61 [.int .i64 k] [] [] 0 0 (.int .i64 (t : Int)) [] ∧ Ctr Tryz.prog 62 [.int .i64 k] [] [] 0 0 (.int .i64 (n : Int)) []
theorem kind14 : Kind 14 4 1 := ⟨⟨false, clo (by kernel_rfl) rfl rfl⟩, clo (by kernel_rfl) rfl rfl, clo (by kernel_rfl) rfl rfl⟩
theorem f0 (m : Nat) : (!decide ((m : Int) = (m : Int))) = false := by simp
theorem ns_cases {ns : List Int} {P : List Int → Prop} (h0 : 0 < ns.length) (h2 : ns.length ≤ 2) (hns : okNs ns) (a : ∀ x, 0 ≤ x → x ≤ 1099511627776 → ns.length = 1 → P [x]) (b : ∀ x y, 0 ≤ x → x ≤ 1099511627776 → 0 ≤ y → y ≤ 1099511627776 → ns.length = 2 → P [x, y]) : P ns := by
  match ns, h0, h2 with
  | [x], _, _ => obtain ⟨h1, h2⟩ := hns x (by simp); exact a x h1 h2 rfl
  | [x, y], _, _ =>
    obtain ⟨h1, h2⟩ := hns x (by simp)
    obtain ⟨h3, h4⟩ := hns y (by simp)
    exact b x y h1 h2 h3 h4 rfl
theorem num_in {x : Int} (h1 : 0 ≤ x) (h2 : x ≤ 1099511627776) : decide (x < 0) = false ∧ decide (1099511627776 < x) = false := by simp; omega
-- SHAPES
theorem nil_cat (a : ByteArray) : catB ⟨#[]⟩ a = a := by
  rw [catB_eq]
  apply ByteArray.ext
  rw [ByteArray.data_append]
  simp
theorem nil_size : (ByteArray.mk #[]).size = 0 := rfl
theorem hj1 (l : List ByteArray) (hn : l.length ≤ 256) : (joinS l).size ≤ 16800000 := by have := joinT_size (l.length : Int) l; unfold joinS; omega
theorem relS : (textS relW).size ≤ 20 := by decide
theorem joinN : (joinS []).size ≤ 20 := by decide
theorem lay1 {o s : ByteArray} (h : o.size + s.size ≤ big) (e : Int) : Ctr Tryz.prog 104 [.str s, .int .i64 e, .ptr 0 0] [] [(0, .box 9 [.str o])] 1 1 (.tup []) [(0, .box 9 [.str (catB o s)])] := by
  refine Ctr.introR (T := Tryz.T) Tryz.hT Tryz.hM puZ_ok Tryz.func104 rfl (by kernel_rfl) rfl rfl rfl rfl ?_
  conv => whnf
  refine ⟨h, ?_⟩
  conv => whnf
  exact .mk' [] rfl rfl rfl rfl rfl rfl ⟨rfl, trivial⟩
theorem checkP0 {k : Int} {l : List ByteArray} (hk : Kind k l.length 0) (d : Option Nat) (hn : l.length ≤ 256) (hl : shortL l) :
    Ctr Tryz.prog 103 [msgA k relW (.sv 0 1 0 l.length (some l.length)) .nils .nils] [] [(0, rowS l d)] 1 1 (.int .i64 0) [(0, rowS l d)] := by
  obtain ⟨⟨b, h1⟩, _, _⟩ := hk
  refine Ctr.introR (T := Tryz.T) Tryz.hT Tryz.hM puZ_ok Tryz.func103 rfl (by kernel_rfl) rfl rfl ?_ rfl ?_
  · simp [okH_all, rowS_ok]
  conv => whnf
  refine callR [] h1 rfl rfl rfl rfl trivial trivial ?_
  conv => whnf
  rw [f0]
  conv => whnf
  refine callR [] nameP rfl rfl rfl rfl trivial trivial ?_
  conv => whnf
  refine unrollR Tryz.hT Tryz.hM puZ_ok 1 ?_
  conv => whnf
  refine unrollR Tryz.hT Tryz.hM puZ_ok 3 ?_
  conv => whnf
  refine ⟨by decide, ?_⟩
  conv => whnf
  refine callR [0] (join1p l (some l.length) d hn hl) (post' := [(0, rowS l d)]) (by simp only [renH, rowS_ren]; rfl) rfl rfl rfl trivial ⟨rowS_at _ rfl, trivial⟩ ?_
  conv => whnf
  refine ⟨by decide, ?_⟩
  conv => whnf
  refine callR [] join1n rfl rfl rfl rfl trivial trivial ?_
  conv => whnf
  refine Fin.same ?_ rfl ?_
  · simp [okH_all, rowS_ok]
  · intro p hp
    simp only [List.mem_cons, List.not_mem_nil, or_false] at hp
    rcases hp with rfl <;> rfl
theorem checkR0 {k : Int} {l : List ByteArray} (hk : Kind k l.length 0) (d : Option Nat) (hn : l.length ≤ 256) (hl : shortL l) :
    Ctr Tryz.prog 35 [msgA k relW (.sv 0 1 0 l.length (some l.length)) .nils .nils] [] [(0, rowS l d)] 1 1 (.int .i64 0) [(0, rowS l d)] := by
  obtain ⟨_, h1, h2⟩ := hk
  refine Ctr.introR (T := Tryz.T) Tryz.hT Tryz.hM puZ_ok Tryz.func35 rfl (by kernel_rfl) rfl rfl ?_ rfl ?_
  · simp [okH_all, rowS_ok]
  conv => whnf
  refine callR [] h1 rfl rfl rfl rfl trivial trivial ?_
  conv => whnf
  rw [show decide (((l.length : Nat) : Int) < 0) = false by simp]
  conv => whnf
  refine callR [] h1 rfl rfl rfl rfl trivial trivial ?_
  conv => whnf
  rw [f0]
  conv => whnf
  refine callR [] h2 rfl rfl rfl rfl trivial trivial ?_
  conv => whnf
  refine callR [] nameR rfl rfl rfl rfl trivial trivial ?_
  conv => whnf
  refine unrollR Tryz.hT Tryz.hM puZ_ok 1 ?_
  conv => whnf
  refine callR [0] (join2p l (some l.length) d hn hl) (post' := [(0, rowS l d)]) (by simp only [renH, rowS_ren]; rfl) rfl rfl rfl trivial ⟨rowS_at _ rfl, trivial⟩ ?_
  conv => whnf
  refine callR [] join2n rfl rfl rfl rfl trivial trivial ?_
  conv => whnf
  refine Fin.same ?_ rfl ?_
  · simp [okH_all, rowS_ok]
  · intro p hp
    simp only [List.mem_cons, List.not_mem_nil, or_false] at hp
    rcases hp with rfl <;> rfl
theorem putP0 {k : Int} {l : List ByteArray} (hk : Kind k l.length 0) (d : Option Nat) (hn : l.length ≤ 256) (hl : shortL l) :
    Ctr Tryz.prog 60 [msgA k relW (.sv 0 1 0 l.length (some l.length)) .nils .nils] [] [(0, rowS l d)] 1 1 (.tup [.str (msgB k l []), .int .i64 0]) [(0, rowS l d)] := by
  refine Ctr.introR (T := Tryz.T) Tryz.hT Tryz.hM puZ_ok Tryz.func60 rfl (by kernel_rfl) rfl rfl ?_ rfl ?_
  · simp [okH_all, rowS_ok]
  conv => whnf
  refine callR [0] (checkP0 hk d hn hl) (post' := [(0, rowS l d)]) (by simp only [renH, rowS_ren]; rfl) rfl rfl rfl trivial ⟨rowS_at _ rfl, trivial⟩ ?_
  conv => whnf
  have hj := hj1 l hn
  have hk8 := numS_size k
  have hr8 := relS
  have hn8 := joinN
  refine callR [2] (lay1 (by simp only [cat_size, nil_size]; unfold big; omega) _) rfl rfl rfl rfl trivial ⟨rfl, trivial⟩ ?_
  conv => whnf
  refine callR [2] (lay1 (by simp only [cat_size, nil_size]; unfold big; omega) _) rfl rfl rfl rfl trivial ⟨rfl, trivial⟩ ?_
  conv => whnf
  refine callR [0] (join1p l (some l.length) d hn hl) (post' := [(0, rowS l d)]) (by simp only [renH, rowS_ren]; rfl) rfl rfl rfl trivial ⟨rowS_at _ rfl, trivial⟩ ?_
  conv => whnf
  refine callR [2] (lay1 (by simp only [cat_size, nil_size]; unfold big; omega) 0) rfl rfl rfl rfl trivial ⟨rfl, trivial⟩ ?_
  conv => whnf
  refine callR [] join1n rfl rfl rfl rfl trivial trivial ?_
  conv => whnf
  refine callR [2] (lay1 (by simp only [cat_size, nil_size]; unfold big; omega) 0) rfl rfl rfl rfl trivial ⟨rfl, trivial⟩ ?_
  conv => whnf
  refine unrollR Tryz.hT Tryz.hM puZ_ok 1 ?_
  conv => whnf
  rw [show msgB k l [] = catB (catB (catB (catB ⟨#[]⟩ (numS k)) (textS relW)) (joinS l)) (joinS []) from rfl]
  refine Fin.same ?_ rfl ?_
  · simp [okH_all, rowS_ok]
  · intro p hp
    simp only [List.mem_cons, List.not_mem_nil, or_false] at hp
    rcases hp with rfl <;> rfl
theorem putR0 {k : Int} {l : List ByteArray} (hk : Kind k l.length 0) (d : Option Nat) (hn : l.length ≤ 256) (hl : shortL l) :
    Ctr Tryz.prog 16 [msgA k relW (.sv 0 1 0 l.length (some l.length)) .nils .nils] [] [(0, rowS l d)] 1 1 (.tup [.str (msgB k l []), .int .i64 0]) [(0, rowS l d)] := by
  refine Ctr.introR (T := Tryz.T) Tryz.hT Tryz.hM puZ_ok Tryz.func16 rfl (by kernel_rfl) rfl rfl ?_ rfl ?_
  · simp [okH_all, rowS_ok]
  conv => whnf
  refine callR [0] (checkR0 hk d hn hl) (post' := [(0, rowS l d)]) (by simp only [renH, rowS_ren]; rfl) rfl rfl rfl trivial ⟨rowS_at _ rfl, trivial⟩ ?_
  conv => whnf
  have hj := hj1 l hn
  have hk8 := numS_size k
  have hr8 := relS
  have hn8 := joinN
  refine callR [0] (join2p l (some l.length) d hn hl) (post' := [(0, rowS l d)]) (by simp only [renH, rowS_ren]; rfl) rfl rfl rfl trivial ⟨rowS_at _ rfl, trivial⟩ ?_
  conv => whnf
  refine callR [] join2n rfl rfl rfl rfl trivial trivial ?_
  conv => whnf
  refine ⟨by (try simp only [cat_size]); unfold big; omega, ?_⟩
  conv => whnf
  refine ⟨by (try simp only [cat_size]); unfold big; omega, ?_⟩
  conv => whnf
  refine ⟨by (try simp only [cat_size]); unfold big; omega, ?_⟩
  conv => whnf
  refine unrollR Tryz.hT Tryz.hM puZ_ok 1 ?_
  conv => whnf
  rw [show msgB k l [] = catB (catB (catB (catB ⟨#[]⟩ (numS k)) (textS relW)) (joinS l)) (joinS []) from rfl, nil_cat]
  refine Fin.same ?_ rfl ?_
  · simp [okH_all, rowS_ok]
  · intro p hp
    simp only [List.mem_cons, List.not_mem_nil, or_false] at hp
    rcases hp with rfl <;> rfl
theorem checkP1 {k : Int} {l : List ByteArray} {x : Int} (hk : Kind k l.length 1) (d : Option Nat) (hn : l.length ≤ 256) (hl : shortL l) (px : 0 ≤ x) (qx : x ≤ 1099511627776) :
    Ctr Tryz.prog 103 [msgA k relW (.sv 0 1 0 l.length none) .nils (.sv 1 1 0 1 none)] [] [(0, rowS l d), (1, rowI [x] none)] 2 2 (.int .i64 0) [(0, rowS l d), (1, rowI [x] none)] := by
  obtain ⟨⟨b, h1⟩, _, _⟩ := hk
  refine Ctr.introR (T := Tryz.T) Tryz.hT Tryz.hM puZ_ok Tryz.func103 rfl (by kernel_rfl) rfl rfl ?_ rfl ?_
  · simp [okH_all, rowS_ok, rowI_ok]
  conv => whnf
  refine callR [] h1 rfl rfl rfl rfl trivial trivial ?_
  conv => whnf
  rw [f0]
  conv => whnf
  refine callR [] nameP rfl rfl rfl rfl trivial trivial ?_
  conv => whnf
  refine unrollR Tryz.hT Tryz.hM puZ_ok 2 ?_
  conv => whnf
  refine ⟨by decide, ?_⟩
  conv => whnf
  rw [(num_in px qx).1]
  conv => whnf
  rw [(num_in px qx).2]
  conv => whnf
  refine unrollR Tryz.hT Tryz.hM puZ_ok 3 ?_
  conv => whnf
  refine ⟨by decide, ?_⟩
  conv => whnf
  refine callR [0] (join1p l none d hn hl) (post' := [(0, rowS l d)]) (by simp only [renH, rowS_ren]; rfl) rfl rfl rfl trivial ⟨rowS_at _ rfl, trivial⟩ ?_
  conv => whnf
  refine ⟨by decide, ?_⟩
  conv => whnf
  refine callR [] join1n rfl rfl rfl rfl trivial trivial ?_
  conv => whnf
  refine Fin.same ?_ rfl ?_
  · simp [okH_all, rowS_ok, rowI_ok]
  · intro p hp
    simp only [List.mem_cons, List.not_mem_nil, or_false] at hp
    rcases hp with rfl | rfl <;> rfl
theorem checkR1 {k : Int} {l : List ByteArray} {x : Int} (hk : Kind k l.length 1) (d : Option Nat) (hn : l.length ≤ 256) (hl : shortL l) (px : 0 ≤ x) (qx : x ≤ 1099511627776) :
    Ctr Tryz.prog 35 [msgA k relW (.sv 0 1 0 l.length none) .nils (.sv 1 1 0 1 none)] [] [(0, rowS l d), (1, rowI [x] none)] 2 2 (.int .i64 0) [(0, rowS l d), (1, rowI [x] none)] := by
  obtain ⟨_, h1, h2⟩ := hk
  refine Ctr.introR (T := Tryz.T) Tryz.hT Tryz.hM puZ_ok Tryz.func35 rfl (by kernel_rfl) rfl rfl ?_ rfl ?_
  · simp [okH_all, rowS_ok, rowI_ok]
  conv => whnf
  refine callR [] h1 rfl rfl rfl rfl trivial trivial ?_
  conv => whnf
  rw [show decide (((l.length : Nat) : Int) < 0) = false by simp]
  conv => whnf
  refine callR [] h1 rfl rfl rfl rfl trivial trivial ?_
  conv => whnf
  rw [f0]
  conv => whnf
  refine callR [] h2 rfl rfl rfl rfl trivial trivial ?_
  conv => whnf
  refine callR [] nameR rfl rfl rfl rfl trivial trivial ?_
  conv => whnf
  refine unrollR Tryz.hT Tryz.hM puZ_ok 2 ?_
  conv => whnf
  refine ⟨by decide, ?_⟩
  conv => whnf
  rw [(num_in px qx).1]
  conv => whnf
  refine ⟨by decide, ?_⟩
  conv => whnf
  rw [(num_in px qx).2]
  conv => whnf
  refine callR [0] (join2p l none d hn hl) (post' := [(0, rowS l d)]) (by simp only [renH, rowS_ren]; rfl) rfl rfl rfl trivial ⟨rowS_at _ rfl, trivial⟩ ?_
  conv => whnf
  refine callR [] join2n rfl rfl rfl rfl trivial trivial ?_
  conv => whnf
  refine Fin.same ?_ rfl ?_
  · simp [okH_all, rowS_ok, rowI_ok]
  · intro p hp
    simp only [List.mem_cons, List.not_mem_nil, or_false] at hp
    rcases hp with rfl | rfl <;> rfl
theorem putP1 {k : Int} {l : List ByteArray} {x : Int} (hk : Kind k l.length 1) (d : Option Nat) (hn : l.length ≤ 256) (hl : shortL l) (px : 0 ≤ x) (qx : x ≤ 1099511627776) :
    Ctr Tryz.prog 60 [msgA k relW (.sv 0 1 0 l.length none) .nils (.sv 1 1 0 1 none)] [] [(0, rowS l d), (1, rowI [x] none)] 2 2 (.tup [.str (msgB k l [x]), .int .i64 0]) [(0, rowS l d), (1, rowI [x] none)] := by
  refine Ctr.introR (T := Tryz.T) Tryz.hT Tryz.hM puZ_ok Tryz.func60 rfl (by kernel_rfl) rfl rfl ?_ rfl ?_
  · simp [okH_all, rowS_ok, rowI_ok]
  conv => whnf
  refine callR [0, 1] (checkP1 hk d hn hl px qx) (post' := [(0, rowS l d), (1, rowI [x] none)]) (by simp only [renH, rowS_ren, rowI_ren]; rfl) rfl rfl rfl trivial ⟨rowS_at _ rfl, rowI_at _ rfl, trivial⟩ ?_
  conv => whnf
  have hj := hj1 l hn
  have hk8 := numS_size k
  have hr8 := relS
  have hn8 := joinN
  refine callR [3] (lay1 (by simp only [cat_size, nil_size]; unfold big; omega) _) rfl rfl rfl rfl trivial ⟨rfl, trivial⟩ ?_
  conv => whnf
  refine callR [3] (lay1 (by simp only [cat_size, nil_size]; unfold big; omega) _) rfl rfl rfl rfl trivial ⟨rfl, trivial⟩ ?_
  conv => whnf
  refine callR [0] (join1p l none d hn hl) (post' := [(0, rowS l d)]) (by simp only [renH, rowS_ren]; rfl) rfl rfl rfl trivial ⟨rowS_at _ rfl, trivial⟩ ?_
  conv => whnf
  refine callR [3] (lay1 (by simp only [cat_size, nil_size]; unfold big; omega) 0) rfl rfl rfl rfl trivial ⟨rfl, trivial⟩ ?_
  conv => whnf
  refine callR [] join1n rfl rfl rfl rfl trivial trivial ?_
  conv => whnf
  refine callR [3] (lay1 (by simp only [cat_size, nil_size]; unfold big; omega) 0) rfl rfl rfl rfl trivial ⟨rfl, trivial⟩ ?_
  conv => whnf
  have n8x := numS_size x
  refine unrollR Tryz.hT Tryz.hM puZ_ok 2 ?_
  conv => whnf
  refine ⟨by decide, ?_⟩
  conv => whnf
  refine callR [3] (lay1 (by simp only [cat_size, nil_size]; unfold big; omega) _) rfl rfl rfl rfl trivial ⟨rfl, trivial⟩ ?_
  conv => whnf
  rw [show msgB k l [x] = catB (catB (catB (catB (catB ⟨#[]⟩ (numS k)) (textS relW)) (joinS l)) (joinS [])) (numS x) from rfl]
  refine Fin.same ?_ rfl ?_
  · simp [okH_all, rowS_ok, rowI_ok]
  · intro p hp
    simp only [List.mem_cons, List.not_mem_nil, or_false] at hp
    rcases hp with rfl | rfl <;> rfl
theorem putR1 {k : Int} {l : List ByteArray} {x : Int} (hk : Kind k l.length 1) (d : Option Nat) (hn : l.length ≤ 256) (hl : shortL l) (px : 0 ≤ x) (qx : x ≤ 1099511627776) :
    Ctr Tryz.prog 16 [msgA k relW (.sv 0 1 0 l.length none) .nils (.sv 1 1 0 1 none)] [] [(0, rowS l d), (1, rowI [x] none)] 2 2 (.tup [.str (msgB k l [x]), .int .i64 0]) [(0, rowS l d), (1, rowI [x] none)] := by
  refine Ctr.introR (T := Tryz.T) Tryz.hT Tryz.hM puZ_ok Tryz.func16 rfl (by kernel_rfl) rfl rfl ?_ rfl ?_
  · simp [okH_all, rowS_ok, rowI_ok]
  conv => whnf
  refine callR [0, 1] (checkR1 hk d hn hl px qx) (post' := [(0, rowS l d), (1, rowI [x] none)]) (by simp only [renH, rowS_ren, rowI_ren]; rfl) rfl rfl rfl trivial ⟨rowS_at _ rfl, rowI_at _ rfl, trivial⟩ ?_
  conv => whnf
  have hj := hj1 l hn
  have hk8 := numS_size k
  have hr8 := relS
  have hn8 := joinN
  have n8x := numS_size x
  refine callR [0] (join2p l none d hn hl) (post' := [(0, rowS l d)]) (by simp only [renH, rowS_ren]; rfl) rfl rfl rfl trivial ⟨rowS_at _ rfl, trivial⟩ ?_
  conv => whnf
  refine callR [] join2n rfl rfl rfl rfl trivial trivial ?_
  conv => whnf
  refine ⟨by (try simp only [cat_size]); unfold big; omega, ?_⟩
  conv => whnf
  refine ⟨by (try simp only [cat_size]); unfold big; omega, ?_⟩
  conv => whnf
  refine ⟨by (try simp only [cat_size]); unfold big; omega, ?_⟩
  conv => whnf
  refine unrollR Tryz.hT Tryz.hM puZ_ok 2 ?_
  conv => whnf
  refine ⟨by decide, ?_⟩
  conv => whnf
  refine ⟨by (try simp only [cat_size]); unfold big; omega, ?_⟩
  conv => whnf
  rw [show msgB k l [x] = catB (catB (catB (catB (catB ⟨#[]⟩ (numS k)) (textS relW)) (joinS l)) (joinS [])) (numS x) from rfl, nil_cat]
  refine Fin.same ?_ rfl ?_
  · simp [okH_all, rowS_ok, rowI_ok]
  · intro p hp
    simp only [List.mem_cons, List.not_mem_nil, or_false] at hp
    rcases hp with rfl | rfl <;> rfl
theorem checkP2 {k : Int} {l : List ByteArray} {x : Int} {y : Int} (hk : Kind k l.length 2) (d : Option Nat) (hn : l.length ≤ 256) (hl : shortL l) (px : 0 ≤ x) (qx : x ≤ 1099511627776) (py : 0 ≤ y) (qy : y ≤ 1099511627776) :
    Ctr Tryz.prog 103 [msgA k relW (.sv 0 1 0 l.length none) .nils (.sv 1 1 0 2 none)] [] [(0, rowS l d), (1, rowI [x, y] none)] 2 2 (.int .i64 0) [(0, rowS l d), (1, rowI [x, y] none)] := by
  obtain ⟨⟨b, h1⟩, _, _⟩ := hk
  refine Ctr.introR (T := Tryz.T) Tryz.hT Tryz.hM puZ_ok Tryz.func103 rfl (by kernel_rfl) rfl rfl ?_ rfl ?_
  · simp [okH_all, rowS_ok, rowI_ok]
  conv => whnf
  refine callR [] h1 rfl rfl rfl rfl trivial trivial ?_
  conv => whnf
  rw [f0]
  conv => whnf
  refine callR [] nameP rfl rfl rfl rfl trivial trivial ?_
  conv => whnf
  refine unrollR Tryz.hT Tryz.hM puZ_ok 3 ?_
  conv => whnf
  refine ⟨by decide, ?_⟩
  conv => whnf
  rw [(num_in px qx).1]
  conv => whnf
  rw [(num_in px qx).2]
  conv => whnf
  refine ⟨by decide, ?_⟩
  conv => whnf
  rw [(num_in py qy).1]
  conv => whnf
  rw [(num_in py qy).2]
  conv => whnf
  refine unrollR Tryz.hT Tryz.hM puZ_ok 3 ?_
  conv => whnf
  refine ⟨by decide, ?_⟩
  conv => whnf
  refine callR [0] (join1p l none d hn hl) (post' := [(0, rowS l d)]) (by simp only [renH, rowS_ren]; rfl) rfl rfl rfl trivial ⟨rowS_at _ rfl, trivial⟩ ?_
  conv => whnf
  refine ⟨by decide, ?_⟩
  conv => whnf
  refine callR [] join1n rfl rfl rfl rfl trivial trivial ?_
  conv => whnf
  refine Fin.same ?_ rfl ?_
  · simp [okH_all, rowS_ok, rowI_ok]
  · intro p hp
    simp only [List.mem_cons, List.not_mem_nil, or_false] at hp
    rcases hp with rfl | rfl <;> rfl
theorem checkR2 {k : Int} {l : List ByteArray} {x : Int} {y : Int} (hk : Kind k l.length 2) (d : Option Nat) (hn : l.length ≤ 256) (hl : shortL l) (px : 0 ≤ x) (qx : x ≤ 1099511627776) (py : 0 ≤ y) (qy : y ≤ 1099511627776) :
    Ctr Tryz.prog 35 [msgA k relW (.sv 0 1 0 l.length none) .nils (.sv 1 1 0 2 none)] [] [(0, rowS l d), (1, rowI [x, y] none)] 2 2 (.int .i64 0) [(0, rowS l d), (1, rowI [x, y] none)] := by
  obtain ⟨_, h1, h2⟩ := hk
  refine Ctr.introR (T := Tryz.T) Tryz.hT Tryz.hM puZ_ok Tryz.func35 rfl (by kernel_rfl) rfl rfl ?_ rfl ?_
  · simp [okH_all, rowS_ok, rowI_ok]
  conv => whnf
  refine callR [] h1 rfl rfl rfl rfl trivial trivial ?_
  conv => whnf
  rw [show decide (((l.length : Nat) : Int) < 0) = false by simp]
  conv => whnf
  refine callR [] h1 rfl rfl rfl rfl trivial trivial ?_
  conv => whnf
  rw [f0]
  conv => whnf
  refine callR [] h2 rfl rfl rfl rfl trivial trivial ?_
  conv => whnf
  refine callR [] nameR rfl rfl rfl rfl trivial trivial ?_
  conv => whnf
  refine unrollR Tryz.hT Tryz.hM puZ_ok 3 ?_
  conv => whnf
  refine ⟨by decide, ?_⟩
  conv => whnf
  rw [(num_in px qx).1]
  conv => whnf
  refine ⟨by decide, ?_⟩
  conv => whnf
  rw [(num_in px qx).2]
  conv => whnf
  refine ⟨by decide, ?_⟩
  conv => whnf
  rw [(num_in py qy).1]
  conv => whnf
  refine ⟨by decide, ?_⟩
  conv => whnf
  rw [(num_in py qy).2]
  conv => whnf
  refine callR [0] (join2p l none d hn hl) (post' := [(0, rowS l d)]) (by simp only [renH, rowS_ren]; rfl) rfl rfl rfl trivial ⟨rowS_at _ rfl, trivial⟩ ?_
  conv => whnf
  refine callR [] join2n rfl rfl rfl rfl trivial trivial ?_
  conv => whnf
  refine Fin.same ?_ rfl ?_
  · simp [okH_all, rowS_ok, rowI_ok]
  · intro p hp
    simp only [List.mem_cons, List.not_mem_nil, or_false] at hp
    rcases hp with rfl | rfl <;> rfl
theorem putP2 {k : Int} {l : List ByteArray} {x : Int} {y : Int} (hk : Kind k l.length 2) (d : Option Nat) (hn : l.length ≤ 256) (hl : shortL l) (px : 0 ≤ x) (qx : x ≤ 1099511627776) (py : 0 ≤ y) (qy : y ≤ 1099511627776) :
    Ctr Tryz.prog 60 [msgA k relW (.sv 0 1 0 l.length none) .nils (.sv 1 1 0 2 none)] [] [(0, rowS l d), (1, rowI [x, y] none)] 2 2 (.tup [.str (msgB k l [x, y]), .int .i64 0]) [(0, rowS l d), (1, rowI [x, y] none)] := by
  refine Ctr.introR (T := Tryz.T) Tryz.hT Tryz.hM puZ_ok Tryz.func60 rfl (by kernel_rfl) rfl rfl ?_ rfl ?_
  · simp [okH_all, rowS_ok, rowI_ok]
  conv => whnf
  refine callR [0, 1] (checkP2 hk d hn hl px qx py qy) (post' := [(0, rowS l d), (1, rowI [x, y] none)]) (by simp only [renH, rowS_ren, rowI_ren]; rfl) rfl rfl rfl trivial ⟨rowS_at _ rfl, rowI_at _ rfl, trivial⟩ ?_
  conv => whnf
  have hj := hj1 l hn
  have hk8 := numS_size k
  have hr8 := relS
  have hn8 := joinN
  refine callR [3] (lay1 (by simp only [cat_size, nil_size]; unfold big; omega) _) rfl rfl rfl rfl trivial ⟨rfl, trivial⟩ ?_
  conv => whnf
  refine callR [3] (lay1 (by simp only [cat_size, nil_size]; unfold big; omega) _) rfl rfl rfl rfl trivial ⟨rfl, trivial⟩ ?_
  conv => whnf
  refine callR [0] (join1p l none d hn hl) (post' := [(0, rowS l d)]) (by simp only [renH, rowS_ren]; rfl) rfl rfl rfl trivial ⟨rowS_at _ rfl, trivial⟩ ?_
  conv => whnf
  refine callR [3] (lay1 (by simp only [cat_size, nil_size]; unfold big; omega) 0) rfl rfl rfl rfl trivial ⟨rfl, trivial⟩ ?_
  conv => whnf
  refine callR [] join1n rfl rfl rfl rfl trivial trivial ?_
  conv => whnf
  refine callR [3] (lay1 (by simp only [cat_size, nil_size]; unfold big; omega) 0) rfl rfl rfl rfl trivial ⟨rfl, trivial⟩ ?_
  conv => whnf
  have n8x := numS_size x
  have n8y := numS_size y
  refine unrollR Tryz.hT Tryz.hM puZ_ok 3 ?_
  conv => whnf
  refine ⟨by decide, ?_⟩
  conv => whnf
  refine callR [3] (lay1 (by simp only [cat_size, nil_size]; unfold big; omega) _) rfl rfl rfl rfl trivial ⟨rfl, trivial⟩ ?_
  conv => whnf
  refine ⟨by decide, ?_⟩
  conv => whnf
  refine callR [3] (lay1 (by simp only [cat_size, nil_size]; unfold big; omega) _) rfl rfl rfl rfl trivial ⟨rfl, trivial⟩ ?_
  conv => whnf
  rw [show msgB k l [x, y] = catB (catB (catB (catB (catB (catB ⟨#[]⟩ (numS k)) (textS relW)) (joinS l)) (joinS [])) (numS x)) (numS y) from rfl]
  refine Fin.same ?_ rfl ?_
  · simp [okH_all, rowS_ok, rowI_ok]
  · intro p hp
    simp only [List.mem_cons, List.not_mem_nil, or_false] at hp
    rcases hp with rfl | rfl <;> rfl
theorem putR2 {k : Int} {l : List ByteArray} {x : Int} {y : Int} (hk : Kind k l.length 2) (d : Option Nat) (hn : l.length ≤ 256) (hl : shortL l) (px : 0 ≤ x) (qx : x ≤ 1099511627776) (py : 0 ≤ y) (qy : y ≤ 1099511627776) :
    Ctr Tryz.prog 16 [msgA k relW (.sv 0 1 0 l.length none) .nils (.sv 1 1 0 2 none)] [] [(0, rowS l d), (1, rowI [x, y] none)] 2 2 (.tup [.str (msgB k l [x, y]), .int .i64 0]) [(0, rowS l d), (1, rowI [x, y] none)] := by
  refine Ctr.introR (T := Tryz.T) Tryz.hT Tryz.hM puZ_ok Tryz.func16 rfl (by kernel_rfl) rfl rfl ?_ rfl ?_
  · simp [okH_all, rowS_ok, rowI_ok]
  conv => whnf
  refine callR [0, 1] (checkR2 hk d hn hl px qx py qy) (post' := [(0, rowS l d), (1, rowI [x, y] none)]) (by simp only [renH, rowS_ren, rowI_ren]; rfl) rfl rfl rfl trivial ⟨rowS_at _ rfl, rowI_at _ rfl, trivial⟩ ?_
  conv => whnf
  have hj := hj1 l hn
  have hk8 := numS_size k
  have hr8 := relS
  have hn8 := joinN
  have n8x := numS_size x
  have n8y := numS_size y
  refine callR [0] (join2p l none d hn hl) (post' := [(0, rowS l d)]) (by simp only [renH, rowS_ren]; rfl) rfl rfl rfl trivial ⟨rowS_at _ rfl, trivial⟩ ?_
  conv => whnf
  refine callR [] join2n rfl rfl rfl rfl trivial trivial ?_
  conv => whnf
  refine ⟨by (try simp only [cat_size]); unfold big; omega, ?_⟩
  conv => whnf
  refine ⟨by (try simp only [cat_size]); unfold big; omega, ?_⟩
  conv => whnf
  refine ⟨by (try simp only [cat_size]); unfold big; omega, ?_⟩
  conv => whnf
  refine unrollR Tryz.hT Tryz.hM puZ_ok 3 ?_
  conv => whnf
  refine ⟨by decide, ?_⟩
  conv => whnf
  refine ⟨by (try simp only [cat_size]); unfold big; omega, ?_⟩
  conv => whnf
  refine ⟨by decide, ?_⟩
  conv => whnf
  refine ⟨by (try simp only [cat_size]); unfold big; omega, ?_⟩
  conv => whnf
  rw [show msgB k l [x, y] = catB (catB (catB (catB (catB (catB ⟨#[]⟩ (numS k)) (textS relW)) (joinS l)) (joinS [])) (numS x)) (numS y) from rfl, nil_cat]
  refine Fin.same ?_ rfl ?_
  · simp [okH_all, rowS_ok, rowI_ok]
  · intro p hp
    simp only [List.mem_cons, List.not_mem_nil, or_false] at hp
    rcases hp with rfl | rfl <;> rfl
end Go.Proofs.YtglkoaajgekonaaGreatDoor
