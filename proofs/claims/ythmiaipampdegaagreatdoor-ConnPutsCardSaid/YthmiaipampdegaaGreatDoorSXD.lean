/- SX, part D: the order's tests, as programs. -/
import Derived.Test.YthmiaipampdegaaGreatDoorSXC
namespace Go.SX
noncomputable section

theorem befStep_bit {acc : List Nat} {o : Oper} {i : Nat} (h : (befStep acc o).testBit i = true) :
    ∃ e ∈ o.after.toList, Region.binds .any e = true ∧ (i = e.on ∨ (acc.getD e.on 0).testBit i = true) := by
  unfold befStep at h
  have key : ∀ (l : List Edge) (s : Nat), (l.foldl (fun s e => match Region.binds .any e with | true => s ||| 2 ^ e.on ||| acc.getD e.on 0 | false => s) s).testBit i = true →
      s.testBit i = true ∨ ∃ e ∈ l, Region.binds .any e = true ∧ (i = e.on ∨ (acc.getD e.on 0).testBit i = true) := by
    intro l
    induction l with
    | nil => intro s h; exact .inl h
    | cons e l ih =>
      intro s h
      rw [List.foldl_cons] at h
      rcases ih _ h with h | ⟨f, hf, hx⟩
      · cases hb : Region.binds .any e with
        | false => rw [hb] at h; exact .inl h
        | true =>
          rw [hb] at h
          simp only [Nat.testBit_or, Bool.or_eq_true, Nat.testBit_two_pow, decide_eq_true_eq] at h
          rcases h with (h | h) | h
          · exact .inl h
          · exact .inr ⟨e, List.mem_cons_self, hb, .inl h.symm⟩
          · exact .inr ⟨e, List.mem_cons_self, hb, .inr h⟩
      · exact .inr ⟨f, List.mem_cons_of_mem _ hf, hx⟩
  rcases key _ _ h with h | h
  · simp at h
  · exact h

theorem befGo_spec : ∀ (ops : List Oper) (acc : List Nat), ∃ t, befGo ops acc = acc ++ t ∧ t.length = ops.length ∧
    ∀ j o, ops[j]? = some o → ∃ pre, pre.length = acc.length + j ∧ (∃ post, befGo ops acc = pre ++ post) ∧ (befGo ops acc)[acc.length + j]? = some (befStep pre o)
  | [], acc => ⟨[], by simp [befGo], rfl, fun j o h => by simp at h⟩
  | o :: l, acc => by
    obtain ⟨t, h1, h2, h3⟩ := befGo_spec l (acc ++ [befStep acc o])
    refine ⟨befStep acc o :: t, by simp [befGo, h1], by simp [h2], ?_⟩
    intro j p hp
    cases j with
    | zero =>
      simp at hp; subst hp
      exact ⟨acc, by simp, ⟨befStep acc o :: t, by simp [befGo, h1]⟩, by simp [befGo, h1]⟩
    | succ j =>
      simp at hp
      obtain ⟨pre, h4, ⟨post, h5⟩, h6⟩ := h3 j p hp
      refine ⟨pre, by simp at h4; omega, ⟨post, by simpa [befGo] using h5⟩, ?_⟩
      simp only [befGo]
      rw [← h6]
      congr 1
      simp; omega

theorem bef_anc {all : Array Oper} {i j : Nat} (h : ((bef all.toList).getD j 0).testBit i = true) : Anc all i j := by
  induction j using Nat.strongRecOn generalizing i with
  | _ j ih =>
    intro D hcl hedge
    cases ho : all[j]? with
    | none =>
      exfalso
      obtain ⟨t, h1, h2, _⟩ := befGo_spec all.toList []
      have : all.size ≤ j := by simpa using ho
      have hn : (bef all.toList)[j]? = none := by
        apply List.getElem?_eq_none
        unfold bef; rw [h1]; simp [h2]; exact this
      simp [List.getD_eq_getElem?_getD, hn] at h
    | some o =>
      obtain ⟨t, h1, h2, h3⟩ := befGo_spec all.toList []
      obtain ⟨pre, h4, ⟨post, h5⟩, h6⟩ := h3 j o (by simpa using ho)
      simp only [List.length_nil, Nat.zero_add] at h4 h6
      have hj : (bef all.toList).getD j 0 = befStep pre o := by
        unfold bef; rw [List.getD_eq_getElem?_getD, h6]; rfl
      rw [hj] at h
      obtain ⟨e, he, hb, hx⟩ := befStep_bit h
      have hDe := hedge o ho e he hb
      rcases hx with hx | hx
      · rw [hx]; exact hDe
      · by_cases hlt : e.on < j
        · have : (bef all.toList).getD e.on 0 = pre.getD e.on 0 := by
            unfold bef; rw [h5, List.getD_eq_getElem?_getD, List.getD_eq_getElem?_getD, List.getElem?_append_left (by omega)]
          exact ih e.on hlt (by rw [this]; exact hx) D hcl (fun p hp f hf hbf => hcl e.on p hDe hp f hf hbf)
        · have : pre.getD e.on 0 = 0 := by
            rw [List.getD_eq_getElem?_getD, List.getElem?_eq_none (by omega)]; rfl
          rw [this] at hx; simp at hx

section pairs
variable {α : Type}

theorem pairsB_spec {c : α → α → Bool} {b : List Nat} : ∀ {l : List (α × Nat)}, pairsB c b l = true → l.Pairwise (fun p q => p.2 < q.2) →
    ∀ x i y j, (x, i) ∈ l → (y, j) ∈ l → i < j → c x y = true → (b.getD j 0).testBit i = true
  | [], _, _, x, i, y, j, h, _, _, _ => by cases h
  | (z, k) :: l, h, hp, x, i, y, j, h1, h2, hij, hc => by
    simp only [pairsB, Bool.and_eq_true, List.all_eq_true] at h
    rw [List.pairwise_cons] at hp
    rcases List.mem_cons.1 h1 with h1 | h1 <;> rcases List.mem_cons.1 h2 with h2 | h2
    · cases h1; cases h2; omega
    · cases h1
      have := h.1 _ h2
      simp only [hc] at this
      exact this
    · cases h2
      have := hp.1 _ h1
      simp only at this; omega
    · exact pairsB_spec h.2 hp.2 x i y j h1 h2 hij hc

theorem zipIdx_sorted (l : List α) : ∀ k, (l.zipIdx k).Pairwise (fun p q => p.2 < q.2) := by
  induction l with
  | nil => intro k; simp
  | cons x l ih =>
    intro k
    rw [List.zipIdx_cons, List.pairwise_cons]
    refine ⟨?_, ih _⟩
    rintro ⟨y, j⟩ hm
    have := List.mem_zipIdx hm
    simp only; omega
end pairs

def meets (l m : List Nat) : Bool := l.any fun x => m.any (Nat.beq x)

def conflictH (x y : List Nat × List Nat) : Bool := meets x.2 y.1 || meets x.2 y.2 || meets x.1 y.2

def loud (x : (List Nat × List Nat) × Nat) : Bool := match x.1 with | ([], []) => false | _ => true

def noWr (log : List (List Nat × List Nat)) : Bool := List.rec (motive := fun _ => Bool) true (fun p _ ih => match p.2 with | [] => ih | _ :: _ => false) log
def emptyP (p : List Nat × List Nat) : Bool := match p.1, p.2 with | [], [] => true | _, _ => false
theorem emptyP_eq {p : List Nat × List Nat} (h : emptyP p = true) : p = ([], []) := by
  obtain ⟨x, y⟩ := p
  cases x <;> cases y <;> first | rfl | cases h
/-- At most one entry that is not empty; b: one is still free. -/
def fewL (log : List (List Nat × List Nat)) (b : Bool) : Bool := List.rec (motive := fun _ => Bool → Bool) (fun _ => true) (fun p _ ih b => match emptyP p, b with | true, b => ih b | false, true => ih false | false, false => false) log b
def raceB (ops : List Oper) (log : List (List Nat × List Nat)) : Bool :=
  match noWr log with
  | true => true
  | false => match fewL log true with
    | true => true
    | false => pairsB conflictH (bef ops) (log.reverse.zipIdx.filter loud)

theorem noWr_mem : ∀ {log : List (List Nat × List Nat)}, noWr log = true → ∀ p ∈ log, p.2 = []
  | [], _, p, hp => by cases hp
  | q :: l, h, p, hp => by
    have h' : (match q.2 with | [] => noWr l | _ :: _ => false) = true := h
    split at h'
    · rename_i e
      rcases List.mem_cons.1 hp with rfl | hp
      · exact e
      · exact noWr_mem h' p hp
    · cases h'

theorem fewL_quiet : ∀ {log : List (List Nat × List Nat)}, fewL log false = true → ∀ p ∈ log, p = ([], [])
  | [], _, p, hp => by cases hp
  | q :: l, h, p, hp => by
    have h' : (match emptyP q, false with | true, b => fewL l b | false, true => fewL l false | false, false => false) = true := h
    cases he : emptyP q with
    | true =>
      rw [he] at h'
      rcases List.mem_cons.1 hp with rfl | hp
      · exact emptyP_eq he
      · exact fewL_quiet h' p hp
    | false => rw [he] at h'; cases h'

theorem fewL_pair : ∀ {log : List (List Nat × List Nat)}, fewL log true = true → ∀ {i j : Nat} {p q : List Nat × List Nat}, i < j → log[i]? = some p → log[j]? = some q → p = ([], []) ∨ q = ([], [])
  | [], _, i, j, p, q, _, hp, _ => by simp at hp
  | x :: l, h, i, j, p, q, hij, hp, hq => by
    have h' : (match emptyP x, true with | true, b => fewL l b | false, true => fewL l false | false, false => false) = true := h
    obtain ⟨j, rfl⟩ : ∃ k, j = k + 1 := ⟨j - 1, by omega⟩
    rw [List.getElem?_cons_succ] at hq
    cases he : emptyP x with
    | true =>
      rw [he] at h'
      cases i with
      | zero => rw [List.getElem?_cons_zero] at hp; cases hp; exact .inl (emptyP_eq he)
      | succ i => rw [List.getElem?_cons_succ] at hp; exact fewL_pair h' (by omega) hp hq
    | false =>
      rw [he] at h'
      exact .inr (fewL_quiet h' q (List.mem_of_getElem? hq))

theorem any_beq {l : List Nat} {t : Nat} (h : t ∈ l) : l.any (Nat.beq t) = true := List.any_eq_true.2 ⟨t, h, Nat.beq_refl t⟩

theorem meets_of {l m : List Nat} {h : Nat} (h1 : h ∈ l) (h2 : h ∈ m) : meets l m = true := List.any_eq_true.2 ⟨h, h1, any_beq h2⟩

theorem ordered_of {all : Array Oper} {rs : List Rec} (h1 : staticB all = true) (h2 : raceB all.toList (rs.map fun r => (r.rd, r.wr)).reverse = true) : Ordered all rs := by
  simp only [staticB, Bool.and_eq_true] at h1
  refine ⟨?_, ?_, ?_⟩
  · intro i o ho e he hb
    have := List.all_eq_true.1 h1.1 (o, i) (by rw [List.mem_zipIdx_iff_getElem?]; simpa using ho)
    have := List.all_eq_true.1 this e he
    simp only [hb, Bool.not_true, Bool.false_or, Nat.blt_eq] at this
    exact this
  · intro i j o p t hij ho hp hc
    refine bef_anc (pairsB_spec h1.2 (zipIdx_sorted _ 0) o i p j (by rw [List.mem_zipIdx_iff_getElem?]; simpa using ho) (by rw [List.mem_zipIdx_iff_getElem?]; simpa using hp) hij ?_)
    unfold conflictT
    rcases hc with ⟨hd, hc⟩ | ⟨hd, hc⟩
    · rw [hd]
      rcases hc with hc | hc
      · simp [any_beq hc]
      · simp [hc, Nat.beq_refl]
    · rw [hd]; simp [any_beq hc]
  · intro i j r q h hij hr hq hc
    unfold raceB at h2
    split at h2
    · rename_i hn
      have hw : ∀ {k : Nat} {x : Rec}, rs[k]? = some x → x.wr = [] := by
        intro k x hk
        exact noWr_mem hn (x.rd, x.wr) (List.mem_reverse.2 (List.mem_map.2 ⟨x, List.mem_of_getElem? hk, rfl⟩))
      rcases hc with ⟨hc, -⟩ | ⟨-, hc⟩
      · rw [hw hr] at hc; cases hc
      · rw [hw hq] at hc; cases hc
    split at h2
    · rename_i hf
      exfalso
      have hi : i < rs.length := (List.getElem?_eq_some_iff.1 hr).1
      have hj : j < rs.length := (List.getElem?_eq_some_iff.1 hq).1
      have gi : (rs.map fun r => (r.rd, r.wr)).reverse[rs.length - 1 - i]? = some (r.rd, r.wr) := by
        rw [List.getElem?_reverse (by simp; omega)]
        simp only [List.length_map, List.getElem?_map]
        rw [show rs.length - 1 - (rs.length - 1 - i) = i by omega, hr]; rfl
      have gj : (rs.map fun r => (r.rd, r.wr)).reverse[rs.length - 1 - j]? = some (q.rd, q.wr) := by
        rw [List.getElem?_reverse (by simp; omega)]
        simp only [List.length_map, List.getElem?_map]
        rw [show rs.length - 1 - (rs.length - 1 - j) = j by omega, hq]; rfl
      rcases fewL_pair hf (by omega) gj gi with e | e
      · simp only [Prod.mk.injEq] at e
        rcases hc with ⟨-, h4 | h4⟩ | ⟨-, h4⟩
        · rw [e.1] at h4; cases h4
        · rw [e.2] at h4; cases h4
        · rw [e.2] at h4; cases h4
      · simp only [Prod.mk.injEq] at e
        rcases hc with ⟨h3, -⟩ | ⟨h3, -⟩
        · rw [e.2] at h3; cases h3
        · rw [e.1] at h3; cases h3
    rw [List.reverse_reverse] at h2
    have hm : ∀ {k : Nat} {x : Rec}, rs[k]? = some x → (h ∈ x.rd ∨ h ∈ x.wr) → ((x.rd, x.wr), k) ∈ ((rs.map fun r => (r.rd, r.wr)).zipIdx.filter loud) := by
      intro k x hk hh
      rw [List.mem_filter]
      refine ⟨by rw [List.mem_zipIdx_iff_getElem?]; simp [hk], ?_⟩
      unfold loud
      simp only
      split
      · rename_i he
        simp only [Prod.mk.injEq] at he
        rw [he.1, he.2] at hh
        simp at hh
      · rfl
    refine bef_anc (pairsB_spec h2 ((zipIdx_sorted _ 0).sublist List.filter_sublist) _ i _ j (hm hr ?_) (hm hq ?_) hij ?_)
    · rcases hc with hc | hc
      · exact .inr hc.1
      · exact .inl hc.1
    · rcases hc with hc | hc
      · exact hc.2
      · exact .inr hc.2
    · unfold conflictH
      rcases hc with ⟨h3, h4 | h4⟩ | ⟨h3, h4⟩
      · simp [meets_of h3 h4]
      · simp [meets_of h3 h4]
      · simp [meets_of h3 h4]

end
end Go.SX
