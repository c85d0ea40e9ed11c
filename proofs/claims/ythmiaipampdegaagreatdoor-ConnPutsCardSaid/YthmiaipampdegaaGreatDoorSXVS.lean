/- SX, part VS: the sum's inner function as an override: its words are made one by one. -/
import Derived.Test.YthmiaipampdegaaGreatDoorSXV
namespace Go.SX
noncomputable section

/-- Rounds over tables. -/
def itG (step : Nat → Nat → R8 → R8) (K W : List Nat) (r : R8) : Nat → R8
  | 0 => r
  | t + 1 => step (K.getD t 0) (W.getD t 0) (itG step K W r t)
theorem itP_G (K W : List Nat) (r : R8) : ∀ t, itP K W r t = itG rndP K W r t
  | 0 => rfl
  | t + 1 => by rw [itP, itG, itP_G K W r t]
theorem itR_G (K W : List Nat) (r : R8) : ∀ t, itR K W r t = itG rndR K W r t
  | 0 => rfl
  | t + 1 => by rw [itR, itG, itR_G K W r t]
theorem itG_shift (step : Nat → Nat → R8 → R8) (x y : Nat) (K W : List Nat) (r : R8) : ∀ t, itG step (x :: K) (y :: W) r (t + 1) = itG step K W (step x y r) t
  | 0 => rfl
  | t + 1 => by
    rw [itG, itG_shift step x y K W r t, itG]
    simp

def forceR {α : Type} (r : R8) (K : Nat → Nat → Nat → Nat → Nat → Nat → Nat → Nat → α) : α :=
  numK r.a fun a => numK r.b fun b => numK r.c fun c => numK r.d fun d => numK r.e fun e => numK r.f fun f => numK r.g fun g => numK r.h fun h => K a b c d e f g h
theorem forceR_eq {α : Type} (r : R8) (K : Nat → Nat → Nat → Nat → Nat → Nat → Nat → Nat → α) : forceR r K = K r.a r.b r.c r.d r.e r.f r.g r.h := by simp only [forceR, numK_eq]

def itF {α : Type} (step : Nat → Nat → R8 → R8) (K W : List Nat) (r : R8) (k : R8 → α) : α :=
  List.rec (motive := fun _ => List Nat → R8 → (R8 → α) → α) (fun _ r k => k r)
    (fun x _ ih W r k => List.rec (motive := fun _ => α) (k r) (fun y W' _ => forceR (step x y r) fun a b c d e f g h => ih W' ⟨a, b, c, d, e, f, g, h⟩ k) W) K W r k
theorem itF_eq {α : Type} (step : Nat → Nat → R8 → R8) : ∀ (K W : List Nat) (r : R8) (k : R8 → α), K.length = W.length → itF step K W r k = k (itG step K W r K.length)
  | [], _, _, _, _ => rfl
  | _ :: _, [], _, _, h => by cases h
  | x :: K, y :: W, r, k, h => by
    have h : K.length = W.length := by simpa using h
    rw [List.length_cons, itG_shift, ← itF_eq step K W _ k h]
    show forceR (step x y r) (fun a b c d e f g h => itF step K W ⟨a, b, c, d, e, f, g, h⟩ k) = _
    rw [forceR_eq]

def nthN (i : Nat) (l : List Nat) : Nat := List.rec (motive := fun _ => Nat) 0 (fun x _ _ => x) (dropR i l)
theorem nthN_eq (i : Nat) (l : List Nat) : nthN i l = l.getD i 0 := by
  unfold nthN
  rw [dropR_eq, List.getD_eq_getElem?_getD, ← List.head?_drop]
  cases l.drop i <;> rfl

/-- One more word in front of those made so far. -/
def nextW (l : List Nat) : Nat := sch (l.getD 14 0) (l.getD 1 0) (l.getD 15 0) (l.getD 6 0)
def genL : Nat → List Nat → List Nat
  | 0, l => l
  | n + 1, l => genL n (nextW l :: l)
def genK {α : Type} (n : Nat) (l : List Nat) (k : List Nat → α) : α :=
  Nat.rec (motive := fun _ => List Nat → α) (fun l => k l) (fun _ ih l => numK (nthN 14 l) fun a => numK (nthN 1 l) fun b => numK (nthN 15 l) fun c => numK (nthN 6 l) fun d => numK (sch a b c d) fun x => ih (x :: l)) n l
theorem genK_eq {α : Type} : ∀ (n : Nat) (l : List Nat) (k : List Nat → α), genK n l k = k (genL n l)
  | 0, _, _ => rfl
  | n + 1, l, k => by
    rw [genL, ← genK_eq n (nextW l :: l) k]
    show (numK (nthN 14 l) fun a => numK (nthN 1 l) fun b => numK (nthN 15 l) fun c => numK (nthN 6 l) fun d => numK (sch a b c d) fun x => genK n (x :: l) k) = _
    simp only [numK_eq, nthN_eq, nextW]
theorem genL_len : ∀ (n : Nat) (l : List Nat), (genL n l).length = n + l.length
  | 0, _ => by simp [genL]
  | n + 1, l => by rw [genL, genL_len n]; simp; omega
theorem rev_getD {l Z : List Nat} {i j : Nat} (h : i + j + 1 = l.length) : (l.reverse ++ Z).getD i 0 = l.getD j 0 := by
  have h1 : i < l.reverse.length := by simp; omega
  simp only [List.getD_eq_getElem?_getD]
  rw [List.getElem?_append_left h1, List.getElem?_reverse (by omega)]
  rw [show l.length - 1 - i = j by omega]
theorem st2_gen (W : List Nat) (m : Nat) : ∀ (n k : Nat) (l : List Nat), l.length = 16 + k → n + k = m → st2 W k = l.reverse ++ List.replicate n 0 → st2 W m = (genL n l).reverse
  | 0, k, l, _, hn, h => by
    have : k = m := by omega
    subst this
    rw [genL, h]; simp
  | n + 1, k, l, hl, hn, h => by
    rw [genL]
    refine st2_gen W m n (k + 1) (nextW l :: l) (by simp [hl]; omega) (by omega) ?_
    rw [st2, w2, h]
    rw [rev_getD (j := 14) (by omega), rev_getD (j := 1) (by omega), rev_getD (j := 15) (by omega), rev_getD (j := 6) (by omega)]
    rw [List.set_append_right _ _ (by simp; omega)]
    rw [show 16 + k - l.reverse.length = 0 by simp; omega]
    simp [List.replicate_succ, nextW]

def wordsK {α : Type} (f : Nat → Nat) (n : Nat) (k : List Nat → α) : α :=
  Nat.rec (motive := fun _ => (List Nat → α) → α) (fun k => k []) (fun i ih k => ih fun l => numK i fun i => numK (f i) fun x => k (x :: l)) n k
theorem wordsK_eq {α : Type} (f : Nat → Nat) : ∀ (n : Nat) (k : List Nat → α), wordsK f n k = k ((List.range n).map f).reverse
  | 0, _ => rfl
  | n + 1, k => by
    show wordsK f n (fun l => numK n fun i => numK (f i) fun x => k (x :: l)) = _
    rw [wordsK_eq f n]
    simp [numK_eq, List.range_succ]

def byteF (b : List UInt8) (i : Nat) : Nat := List.rec (motive := fun _ => Nat) 0 (fun x _ _ => x.toNat) (dropR i b)
theorem byteF_eq (b : List UInt8) (i : Nat) : byteF b i = byteD b i := by
  unfold byteF byteD
  rw [dropR_eq, List.getD_eq_getElem?_getD, ← List.head?_drop]
  cases b.drop i <;> rfl

def wrdP (b : List UInt8) (t : Nat) : Nat := or32 (or32 (or32 (or32 0 (shl32 (byteF b (Nat.mul 4 t)) 24)) (shl32 (byteF b (Nat.add (Nat.mul 4 t) 1)) 16)) (shl32 (byteF b (Nat.add (Nat.mul 4 t) 2)) 8)) (shl32 (byteF b (Nat.add (Nat.mul 4 t) 3)) 0)
def wrdR (b : List UInt8) (t : Nat) : Nat := or32 (shl32 (or32 (shl32 (or32 (shl32 (or32 (shl32 0 8) (byteF b (Nat.mul 4 t))) 8) (byteF b (Nat.add (Nat.mul 4 t) 1))) 8) (byteF b (Nat.add (Nat.mul 4 t) 2))) 8) (byteF b (Nat.add (Nat.mul 4 t) 3))
theorem wrdR_eq (b : List UInt8) (t : Nat) : wrdR b t = wrd b (4 * t) 4 := by
  unfold wrdR
  simp only [byteF_eq]
  rfl

theorem w1_at {b : List UInt8} {L Z : List Nat} {x t j i : Nat} (hL : L.length = t) (hj : j < 4) (hi : i = 4 * t + j) : w1 b i (L ++ x :: Z) = L ++ or32 x (shl32 (byteD b i) (24 - 8 * j)) :: Z := by
  unfold w1
  rw [show i / 4 = t by omega, show i % 4 = j by omega]
  rw [List.set_append_right _ _ (by omega), show t - L.length = 0 by omega, List.set_cons_zero]
  congr 3
  rw [List.getD_eq_getElem?_getD, List.getElem?_append_right (by omega), show t - L.length = 0 by omega]; rfl
theorem st1_words (b : List UInt8) : ∀ t, t ≤ 16 → st1 b (4 * t) = (List.range t).map (wrdP b) ++ List.replicate (64 - t) 0
  | 0, _ => by simp [st1]
  | t + 1, h => by
    have ih := st1_words b t (by omega)
    rw [show 64 - t = (64 - (t + 1)) + 1 by omega, List.replicate_succ] at ih
    have hL : ((List.range t).map (wrdP b)).length = t := by simp
    rw [show 4 * (t + 1) = 4 * t + 1 + 1 + 1 + 1 by omega, st1, st1, st1, st1, ih]
    rw [w1_at hL (by decide : 0 < 4) (by omega), w1_at hL (by decide : 1 < 4) (by omega), w1_at hL (by decide : 2 < 4) (by omega), w1_at hL (by decide : 3 < 4) (by omega)]
    rw [List.range_succ, List.map_append, List.append_assoc]
    simp only [wrdP, byteF_eq, List.map_cons, List.map_nil, List.cons_append, List.nil_append]
    rfl
theorem st1_lt (b : List UInt8) : ∀ i, ∀ x ∈ st1 b i, x < 4294967296
  | 0, x, hx => by
    have : x = 0 := (List.mem_replicate.1 hx).2
    subst this; decide
  | i + 1, x, hx => by
    rw [st1, w1] at hx
    rcases List.mem_or_eq_of_mem_set hx with h | h
    · exact st1_lt b i x h
    · rw [h]; exact or_lt
theorem or32_shl0 {x : Nat} (h : x < 4294967296) (s : Nat) : or32 x (shl32 0 s) = x := by
  have : shl32 0 s = 0 := by
    show Nat.mod (Nat.mul 0 (Nat.pow 2 s)) 4294967296 = 0
    rw [show Nat.mul 0 (Nat.pow 2 s) = 0 from Nat.zero_mul _]
  rw [this]
  show Nat.lor (x % 4294967296) (0 % 4294967296) = x
  rw [Nat.mod_eq_of_lt h]
  exact Nat.or_zero _
theorem st1_end (b : List UInt8) : ∀ k n, b.length ≤ n → n + k ≤ 64 → st1 b (n + k) = st1 b n
  | 0, _, _, _ => rfl
  | k + 1, n, h, h2 => by
    have ih := st1_end b k n h (by omega)
    rw [show n + (k + 1) = (n + k) + 1 by omega, st1, ih, w1, byteD_end (by omega)]
    have hlt : (n + k) / 4 < (st1 b n).length := by rw [st1_len]; omega
    have hg : (st1 b n).getD ((n + k) / 4) 0 = (st1 b n)[(n + k) / 4] := by
      rw [List.getD_eq_getElem?_getD, List.getElem?_eq_getElem hlt]; rfl
    rw [hg, or32_shl0 (st1_lt b n _ (List.getElem_mem hlt))]
    exact List.set_getElem_self hlt
theorem sprP_gen (b : List UInt8) : sprP b = (genL 48 ((List.range 16).map (wrdP b)).reverse).reverse := by
  rw [sprP_eq]
  have h1 : st1 b (min 64 b.length) = st1 b (4 * 16) := by
    by_cases h : b.length ≤ 64
    · rw [Nat.min_eq_right h]
      have := st1_end b (64 - b.length) b.length (Nat.le_refl _) (by omega)
      rw [show b.length + (64 - b.length) = 4 * 16 by omega] at this
      exact this.symm
    · rw [Nat.min_eq_left (by omega)]
  rw [h1]
  refine st2_gen _ 48 48 0 _ (by simp) rfl ?_
  rw [st2, st1_words b 16 (by omega), List.reverse_reverse]

theorem sw2_st2 (W : List Nat) : ∀ k, sw2 W k = st2 W k
  | 0 => rfl
  | k + 1 => by rw [sw2, st2, w2, schB_eq, sw2_st2 W k]
theorem sw1_words (b : List UInt8) : ∀ t, t ≤ 64 → sw1 b t = (List.range t).map (wrdR b) ++ List.replicate (64 - t) 0
  | 0, _ => by simp [sw1]
  | t + 1, h => by
    have ih := sw1_words b t (by omega)
    rw [show 64 - t = (64 - (t + 1)) + 1 by omega, List.replicate_succ] at ih
    rw [sw1, ih, List.set_append_right _ _ (by simp)]
    simp only [List.length_map, List.length_range, Nat.sub_self, List.set_cons_zero, List.range_succ, List.map_append, List.map_cons, List.map_nil, List.append_assoc, List.cons_append, List.nil_append, wrdR_eq]
theorem sprR_gen (b : List UInt8) : sprR b = (genL 48 ((List.range 16).map (wrdR b)).reverse).reverse := by
  rw [sprR_eq, sw2_st2]
  refine st2_gen _ 48 48 0 _ (by simp) rfl ?_
  rw [st2, sw1_words b 16 (by omega), List.reverse_reverse]

def revR (l : List Nat) : List Nat := List.rec (motive := fun _ => List Nat → List Nat) (fun a => a) (fun x _ ih a => ih (x :: a)) l []
theorem revR_eq (l : List Nat) : revR l = l.reverse := by
  have : ∀ a, List.rec (motive := fun _ => List Nat → List Nat) (fun a => a) (fun x _ ih a => ih (x :: a)) l a = l.reverse ++ a := by
    induction l with
    | nil => intro a; rfl
    | cons x l ih => intro a; show List.rec (motive := fun _ => List Nat → List Nat) (fun a => a) (fun x _ ih a => ih (x :: a)) l (x :: a) = _; rw [ih]; simp
  rw [revR, this, List.append_nil]

def u32K {α : Type} (v : AV) (k : Nat → Option α) : Option α := match v with
  | .int .u32 (.ofNat a) => k a
  | _ => none
theorem u32K_ok {α : Type} {v : AV} {k : Nat → Option α} {x : α} (h : u32K v k = some x) : ∃ a : Nat, v = .int .u32 (a : Int) ∧ k a = some x := by
  unfold u32K at h
  split at h
  · exact ⟨_, rfl, h⟩
  · cases h

/-- The inner function of the sum, as an override. -/
def shaOv (f : Nat) (step : Nat → Nat → R8 → R8) (wd : List UInt8 → Nat → Nat) (K : List Nat) (sum : R8 → R8 → R8) : Ov := fun g vs pre R n => match Nat.beq g f with
  | false => none
  | true => match vs with
    | [.agg [v1, v2, v3, v4, v5, v6, v7, v8], .str s] => match pre with
      | [] => match roB R with
        | true => u32K v1 fun a => u32K v2 fun b => u32K v3 fun c => u32K v4 fun d => u32K v5 fun e => u32K v6 fun f => u32K v7 fun g => u32K v8 fun h =>
          wordsK (wd s.data.toList) 16 fun l => genK 48 l fun l => itF step K (revR l) ⟨a, b, c, d, e, f, g, h⟩ fun q => forceR (sum ⟨a, b, c, d, e, f, g, h⟩ q) fun a b c d e f g h =>
            some (.agg [.int .u32 (.ofNat a), .int .u32 (.ofNat b), .int .u32 (.ofNat c), .int .u32 (.ofNat d), .int .u32 (.ofNat e), .int .u32 (.ofNat f), .int .u32 (.ofNat g), .int .u32 (.ofNat h)], [], n)
        | false => none
      | _ => none
    | _ => none

theorem Ctr.anyO {P : Program} {g : FuncId} {args : List AV} {v : AV} (c : Ctr P g args [] [] 0 0 v []) (ha : okL 0 args = true) (hv : okA 0 v = true) (n : Nat) : Ctr P g args [] [] n n v [] := by
  have c1 := c.ren (N := n) [] (by rfl)
  rw [Ctr.anyN.okL0_ren args ha, Ctr.anyN.okA0_ren v hv] at c1
  simpa [renH] using c1

theorem shaOv_ok {P : Program} {f : Nat} {step : Nat → Nat → R8 → R8} {wd : List UInt8 → Nat → Nat} {K : List Nat} {sum : R8 → R8 → R8} (hK : K.length = 64)
    (hs : ∀ (r : R8) (s : ByteArray), Ctr P f [.agg (mkW r.l), .str s] [] [] 0 0 (.agg (mkW (sum r (itG step K (genL 48 ((List.range 16).map (wd s.data.toList)).reverse).reverse r 64)).l)) []) : OvOK P (shaOv f step wd K sum) := by
  intro g vs pre R n v post n' h
  unfold shaOv at h
  split at h
  · cases h
  · rename_i hg
    have hg := Nat.eq_of_beq_eq_true hg
    subst hg
    split at h
    · rename_i v1 v2 v3 v4 v5 v6 v7 v8 s
      split at h
      · split at h
        · rename_i hR
          obtain ⟨a, rfl, h0⟩ := u32K_ok h
          clear h
          have h := h0
          clear h0
          try dsimp only at h
          obtain ⟨b, rfl, h0⟩ := u32K_ok h
          clear h
          have h := h0
          clear h0
          try dsimp only at h
          obtain ⟨c, rfl, h0⟩ := u32K_ok h
          clear h
          have h := h0
          clear h0
          try dsimp only at h
          obtain ⟨d, rfl, h0⟩ := u32K_ok h
          clear h
          have h := h0
          clear h0
          try dsimp only at h
          obtain ⟨e, rfl, h0⟩ := u32K_ok h
          clear h
          have h := h0
          clear h0
          try dsimp only at h
          obtain ⟨f', rfl, h0⟩ := u32K_ok h
          clear h
          have h := h0
          clear h0
          try dsimp only at h
          obtain ⟨g', rfl, h0⟩ := u32K_ok h
          clear h
          have h := h0
          clear h0
          try dsimp only at h
          obtain ⟨h', rfl, h0⟩ := u32K_ok h
          clear h
          have h := h0
          clear h0
          try dsimp only at h
          rw [wordsK_eq, genK_eq, itF_eq _ _ _ _ _ (by rw [revR_eq, hK]; simp [genL_len]), forceR_eq, revR_eq, hK] at h
          have hc := hs ⟨a, b, c, d, e, f', g', h'⟩ s
          generalize sum ⟨a, b, c, d, e, f', g', h'⟩ _ = q at h hc
          cases h
          have c1 := hc.anyO (by simp [okL_cons, okL_nil, okA_agg, okA_str, bare_ok (mkW_bare _)]) (by rw [okA_agg]; exact bare_ok (mkW_bare _)) n
          have c2 := c1.frame (R' := R) (pre' := []) (fun k q hl => by
              have := (roB_all R) ▸ hR
              have := List.all_eq_true.1 this _ (look_mem hl)
              simpa using this)
            (fun k q hl => by cases hl) (fun k q hl => by cases hl) (fun k q hl => by cases hl)
          exact c2
        · cases h
      · cases h
    · cases h
end
end Go.SX
