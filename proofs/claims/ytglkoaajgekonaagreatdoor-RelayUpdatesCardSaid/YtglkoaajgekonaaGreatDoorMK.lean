/- A root of pairs: the program's leaves, nodes, tops and folds. -/
import Derived.Test.YtglkoaajgekonaaGreatDoorSM
import Derived.Test.YtglkoaajgekonaaGreatDoorPM
import Derived.Test.YtglkoaajgekonaaGreatDoorPS
namespace Go.Proofs.YtglkoaajgekonaaGreatDoor
open Go.SX
def leafB (p : KV) : ByteArray := sumB K64 (catB (catB ⟨#[0]⟩ (textS p.1)) (textS p.2))
def nodeB (a b : ByteArray) : ByteArray := sumB K64 (catB (catB ⟨#[1]⟩ a) b)
def topB (n : Nat) (t : ByteArray) : ByteArray := sumB K64 (catB (catB ⟨#[2]⟩ (numS (n : Int))) t)
theorem leafP (k v : ByteArray) : Ctr Tryz.prog 89 [.agg [.str k, .str v]] [] [] 0 0 (.str (leafB (k, v))) [] := by
  have hk := textS_size k
  have hv := textS_size v
  have h1 : (ByteArray.mk #[0]).size = 1 := rfl
  refine Ctr.shut (m := 0) (k := 1) ?_ rfl rfl
  refine Ctr.introR (T := Tryz.T) Tryz.hT Tryz.hM puZ_ok Tryz.func89 rfl (by kernel_rfl) rfl rfl rfl rfl ?_
  conv => whnf
  refine ⟨by unfold big; omega, ?_⟩
  conv => whnf
  refine ⟨by rw [cat_size]; unfold big; omega, ?_⟩
  conv => whnf
  refine callR [] (sumP (catB (catB ⟨#[0]⟩ (textS k)) (textS v)) (by rw [cat_size, cat_size]; omega)) rfl rfl rfl rfl trivial trivial ?_
  conv => whnf
  exact .mk' [0] rfl rfl rfl rfl rfl rfl trivial
theorem nodeP {a b : ByteArray} (ha : a.size ≤ 16800000) (hb : b.size ≤ 16800000) : Ctr Tryz.prog 90 [.str a, .str b] [] [] 0 0 (.str (nodeB a b)) [] := by
  have h1 : (ByteArray.mk #[1]).size = 1 := rfl
  refine Ctr.introR (T := Tryz.T) Tryz.hT Tryz.hM puZ_ok Tryz.func90 rfl (by kernel_rfl) rfl rfl rfl rfl ?_
  conv => whnf
  refine ⟨by unfold big; omega, ?_⟩
  conv => whnf
  refine ⟨by rw [cat_size]; unfold big; omega, ?_⟩
  conv => whnf
  refine callR [] (sumP (catB (catB ⟨#[1]⟩ a) b) (by rw [cat_size, cat_size]; omega)) rfl rfl rfl rfl trivial trivial ?_
  conv => whnf
  exact Fin.same rfl rfl (by simp)
theorem topP (n : Nat) {t : ByteArray} (ht : t.size ≤ 16800000) : Ctr Tryz.prog 87 [.int .i64 (n : Int), .str t] [] [] 0 0 (.str (topB n t)) [] := by
  have h1 : (ByteArray.mk #[2]).size = 1 := rfl
  have hn := numS_size (n : Int)
  refine Ctr.introR (T := Tryz.T) Tryz.hT Tryz.hM puZ_ok Tryz.func87 rfl (by kernel_rfl) rfl rfl rfl rfl ?_
  conv => whnf
  refine ⟨by unfold big; omega, ?_⟩
  conv => whnf
  refine ⟨by rw [cat_size]; unfold big; omega, ?_⟩
  conv => whnf
  refine callR [] (sumP (catB (catB ⟨#[2]⟩ (numS (n : Int))) t) (by rw [cat_size, cat_size]; omega)) rfl rfl rfl rfl trivial trivial ?_
  conv => whnf
  exact Fin.same rfl rfl (by simp)
def splitN (n : Nat) : Nat := if n < 2 then 0 else 2 ^ Nat.log2 (n - 1)
def valI : G → Option Int
  | .ok (.int .i64 m, [], _) => some m
  | _ => none
noncomputable def goodS (n : Nat) : Bool := match valI (Tryz.evo Tryz.ovA 80 127 [.int .i64 (n : Int)] [] [] 2) with
  | some m => decide (m = (splitN n : Int))
  | none => false
theorem goodS_all : (List.range 41).all goodS = true := by kernel_rfl
theorem splitP {n : Nat} (h : n ≤ 40) : Ctr Tryz.prog 127 [.int .i64 (n : Int)] [] [] 0 0 (.int .i64 (splitN n : Int)) [] := by
  have h1 : goodS n = true := List.all_eq_true.1 goodS_all n (List.mem_range.2 (by omega))
  refine clo ?_ rfl rfl
  unfold goodS at h1
  split at h1
  · rename_i m hm
    have hm2 : m = (splitN n : Int) := of_decide_eq_true h1
    subst hm2
    unfold valI at hm
    split at hm
    · rename_i m2 k hg
      cases hm
      rw [hg]; rfl
    · cases hm
  · cases h1
theorem split_lt {n : Nat} (h : n ≤ 40) (h2 : 2 ≤ n) : 1 ≤ splitN n ∧ splitN n < n := by
  have : ∀ n, n < 41 → 2 ≤ n → 1 ≤ splitN n ∧ splitN n < n := by decide
  exact this n (by omega) h2
def treeF : Nat → List ByteArray → ByteArray
  | 0, _ => ⟨#[]⟩
  | f + 1, l => if l.length < 2 then l.headD ⟨#[]⟩ else nodeB (treeF f (l.take (splitN l.length))) (treeF f (l.drop (splitN l.length)))
def treeB (l : List ByteArray) : ByteArray := treeF l.length l
theorem treeF_eq : ∀ (f : Nat) (l : List ByteArray), l.length ≤ f → l.length ≤ 40 → 1 ≤ l.length → treeF f l = treeB l
  | 0, l, h, _, h1 => absurd h1 (by omega)
  | f + 1, l, h, h40, h1 => by
    unfold treeB
    obtain ⟨g, hg⟩ : ∃ g, l.length = g + 1 := ⟨l.length - 1, by omega⟩
    rw [hg]
    simp only [treeF]
    by_cases h2 : l.length < 2
    · rw [if_pos h2, if_pos h2]
    · rw [if_neg h2, if_neg h2]
      obtain ⟨s1, s2⟩ := split_lt h40 (by omega)
      have a1 : (l.take (splitN l.length)).length = splitN l.length := by rw [List.length_take]; omega
      have a2 : (l.drop (splitN l.length)).length = l.length - splitN l.length := List.length_drop
      rw [treeF_eq f (l.take (splitN l.length)) (by omega) (by omega) (by omega), treeF_eq f (l.drop (splitN l.length)) (by omega) (by omega) (by omega)]
      have hgf : g ≤ f := by omega
      rcases Nat.lt_or_ge g f with hlt | hge
      · rw [treeF_eq g (l.take (splitN l.length)) (by omega) (by omega) (by omega), treeF_eq g (l.drop (splitN l.length)) (by omega) (by omega) (by omega)]
      · obtain rfl : g = f := by omega
        rw [treeF_eq g (l.take (splitN l.length)) (by omega) (by omega) (by omega), treeF_eq g (l.drop (splitN l.length)) (by omega) (by omega) (by omega)]
theorem treeB_one (x : ByteArray) : treeB [x] = x := rfl
theorem treeB_step {l : List ByteArray} (h2 : 2 ≤ l.length) (h40 : l.length ≤ 40) : treeB l = nodeB (treeB (l.take (splitN l.length))) (treeB (l.drop (splitN l.length))) := by
  obtain ⟨s1, s2⟩ := split_lt h40 h2
  have a1 : (l.take (splitN l.length)).length = splitN l.length := by rw [List.length_take]; omega
  have a2 : (l.drop (splitN l.length)).length = l.length - splitN l.length := List.length_drop
  obtain ⟨g, hg⟩ : ∃ g, l.length = g + 1 := ⟨l.length - 1, by omega⟩
  have e : treeB l = treeF (g + 1) l := by unfold treeB; rw [hg]
  rw [e]
  simp only [treeF]
  rw [if_neg (by omega), treeF_eq g _ (by omega) (by omega) (by omega), treeF_eq g _ (by omega) (by omega) (by omega)]
theorem leafB_size (p : KV) : (leafB p).size = 32 := sumB_size _ _
theorem nodeB_size (a b : ByteArray) : (nodeB a b).size = 32 := sumB_size _ _
theorem topB_size (n : Nat) (t : ByteArray) : (topB n t).size = 32 := sumB_size _ _
theorem treeB_size {l : List ByteArray} (h1 : 1 ≤ l.length) (h40 : l.length ≤ 40) (hl : ∀ s ∈ l, s.size = 32) : (treeB l).size = 32 := by
  match l, h1 with
  | [x], _ => exact hl x (by simp)
  | x :: y :: l, _ => rw [treeB_step (by simp) h40]; exact nodeB_size _ _
/-- Pairs, with so much room. -/
noncomputable def rowD (L : List KV) (d : Option Nat) : Res := .row 26 2 (cellsP L) d
theorem rowD_ren (L : List KV) (d : Option Nat) (π : Nat → Nat) : renR π (rowD L d) = rowD L d := by simp only [rowD, renR, bare_ren (cellsP_bare L)]
theorem rowD_ok (L : List KV) (d : Option Nat) (n : Nat) : okR n (rowD L d) = true := bare_ok (cellsP_bare L)
theorem rowD_at {L : List KV} {d : Option Nat} {H : Heap} {k : Nat} (π : Nat → Nat) (h : SX.look H (π k) = some (rowD L d)) : SX.look H (π k) = some (renR π (rowD L d)) := by rw [rowD_ren]; exact h
theorem readA2 {L : List KV} {m : Nat} (h : m < L.length) : readA true 2 (cellsP L) (m * 2 + 0) = some (.agg [.str L[m].1, .str L[m].2]) := by
  have := readP (X := []) h; rwa [List.append_nil] at this
def leavesB (L : List KV) : List ByteArray := L.map leafB
theorem foldP {L : List KV} {d : Option Nat} : ∀ (m i n k : Nat), n ≤ m → 1 ≤ n → n ≤ 40 → i + n ≤ L.length → n ≤ k →
    Ctr Tryz.prog 88 [.sv 0 2 i n (some k), .fn (.func 89) [] [], .fn (.func 90) [] []] [] [(0, rowD L d)] 1 1 (.str (treeB (((leavesB L).drop i).take n))) [(0, rowD L d)]
  | 0, i, n, k, hm, h1, _, _, _ => absurd h1 (by omega)
  | m + 1, i, n, k, hm, h1, h40, hL, hk => by
    have hlen : (((leavesB L).drop i).take n).length = n := by simp [leavesB]; omega
    refine Ctr.introR (T := Tryz.T) Tryz.hT Tryz.hM Tryz.hE Tryz.func88 rfl (by kernel_rfl) rfl rfl ?_ rfl ?_
    · simp [okH_all, rowD_ok]
    conv => whnf
    by_cases hn1 : n = 1
    · subst hn1
      conv => whnf
      refine ⟨by decide, ?_⟩
      conv => whnf
      rw [show readA true 2 (cellsP L) ((i + Int.toNat 0) * 2 + 0) = some (.agg [.str L[i].1, .str L[i].2]) from readA2 (by omega)]
      conv => whnf
      refine callR [] (leafP L[i].1 L[i].2) rfl rfl rfl rfl trivial trivial ?_
      conv => whnf
      have e : ((leavesB L).drop i).take 1 = [leafB L[i]] := by
        rw [List.drop_eq_getElem_cons (by simp [leavesB]; omega)]
        simp [leavesB]
      rw [e, treeB_one]
      refine Fin.same ?_ rfl ?_
      · simp [okH_all, rowD_ok]
      · intro p hp
        simp only [List.mem_cons, List.not_mem_nil, or_false] at hp
        rcases hp with rfl <;> rfl
    · rw [show decide (((n : Nat) : Int) = 1) = false by simp; omega]
      obtain ⟨s1, s2⟩ := split_lt h40 (by omega)
      conv => whnf
      refine callR [] (splitP h40) rfl rfl rfl rfl trivial trivial ?_
      conv => whnf
      generalize hs : splitN n = s at s1 s2
      simp only [Int.toNat_natCast]
      refine ⟨by simp only [capE]; omega, ?_⟩
      conv => whnf
      refine callR [0] (foldP m i s k (by omega) s1 (by omega) (by omega) (by omega)) (post' := [(0, rowD L d)]) (by simp only [renH, rowD_ren]; rfl) rfl rfl rfl trivial ⟨rowD_at _ rfl, trivial⟩ ?_
      conv => whnf
      simp only [Int.toNat_natCast]
      refine ⟨by simp only [capE]; omega, ?_⟩
      conv => whnf
      refine callR [0] (foldP m (i + s) (n - s) (k - s) (by omega) (by omega) (by omega) (by omega) (by omega)) (post' := [(0, rowD L d)]) (by simp only [renH, rowD_ren]; rfl) rfl rfl rfl trivial ⟨rowD_at _ rfl, trivial⟩ ?_
      conv => whnf
      have hl1 : ∀ x ∈ leavesB L, x.size = 32 := fun x hx => by
        obtain ⟨p, _, rfl⟩ := List.mem_map.1 hx
        exact leafB_size p
      have z1 : (treeB (((leavesB L).drop i).take s)).size = 32 := treeB_size (by simp [leavesB]; omega) (by simp [leavesB]; omega) fun x hx => hl1 x (List.mem_of_mem_drop (List.mem_of_mem_take hx))
      have z2 : (treeB (((leavesB L).drop (i + s)).take (n - s))).size = 32 := treeB_size (by simp [leavesB]; omega) (by simp [leavesB]; omega) fun x hx => hl1 x (List.mem_of_mem_drop (List.mem_of_mem_take hx))
      refine callR [] (nodeP (a := treeB (((leavesB L).drop i).take s)) (b := treeB (((leavesB L).drop (i + s)).take (n - s))) (by omega) (by omega)) rfl rfl rfl rfl trivial trivial ?_
      conv => whnf
      have e : treeB (((leavesB L).drop i).take n) = nodeB (treeB (((leavesB L).drop i).take s)) (treeB (((leavesB L).drop (i + s)).take (n - s))) := by
        rw [treeB_step (by omega) (by omega), hlen, hs, List.take_take, List.drop_take, List.drop_drop, Nat.min_eq_left (by omega)]
      rw [e]
      generalize hrc : raceB _ _ = rb
      obtain rfl : rb = true := hrc.symm.trans (by kernel_rfl)
      conv => whnf
      refine Fin.same ?_ rfl ?_
      · simp [okH_all, rowD_ok]
      · intro p hp
        simp only [List.mem_cons, List.not_mem_nil, or_false] at hp
        rcases hp with rfl <;> rfl
def rootB (L : List KV) : ByteArray := topB L.length (match L with
  | [] => ⟨#[]⟩
  | _ => treeB (leavesB L))
theorem rootB_size (L : List KV) : (rootB L).size = 32 := topB_size _ _
theorem rootP {L : List KV} {d : Option Nat} {k : Nat} (h1 : 1 ≤ L.length) (h40 : L.length ≤ 40) (hk : L.length ≤ k) :
    Ctr Tryz.prog 55 [.sv 0 2 0 L.length (some k)] [] [(0, rowD L d)] 1 1 (.str (rootB L)) [(0, rowD L d)] := by
  have hl1 : ∀ x ∈ leavesB L, x.size = 32 := fun x hx => by
    obtain ⟨p, _, rfl⟩ := List.mem_map.1 hx
    exact leafB_size p
  have z1 : (treeB (leavesB L)).size = 32 := treeB_size (by simp [leavesB]; omega) (by simp [leavesB]; omega) hl1
  refine Ctr.introR (T := Tryz.T) Tryz.hT Tryz.hM Tryz.hE Tryz.func55 rfl (by kernel_rfl) rfl rfl ?_ rfl ?_
  · simp [okH_all, rowD_ok]
  conv => whnf
  rw [show decide (((L.length : Nat) : Int) = 0) = false from decide_eq_false (by omega)]
  conv => whnf
  have c := foldP (L := L) (d := d) L.length 0 L.length k (Nat.le_refl _) h1 h40 (by omega) hk
  rw [List.drop_zero, List.take_of_length_le (by simp [leavesB])] at c
  refine callR [0] c (post' := [(0, rowD L d)]) (by simp only [renH, rowD_ren]; rfl) rfl rfl rfl trivial ⟨rowD_at _ rfl, trivial⟩ ?_
  conv => whnf
  refine callR [] (topP L.length (t := treeB (leavesB L)) (by omega)) rfl rfl rfl rfl trivial trivial ?_
  conv => whnf
  have e : rootB L = topB L.length (treeB (leavesB L)) := by
    cases L with
    | nil => simp at h1
    | cons p l => rfl
  rw [e]
  refine Fin.same ?_ rfl ?_
  · simp [okH_all, rowD_ok]
  · intro p hp
    simp only [List.mem_cons, List.not_mem_nil, or_false] at hp
    rcases hp with rfl <;> rfl
end Go.Proofs.YtglkoaajgekonaaGreatDoor
