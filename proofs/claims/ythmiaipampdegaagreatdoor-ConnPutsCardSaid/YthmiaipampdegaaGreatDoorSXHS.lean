/- SX, part HS: bytes and strings. -/
import Derived.Test.YthmiaipampdegaaGreatDoorSXHL
import Derived.Test.YthmiaipampdegaaGreatDoorSXGS
import Derived.Laws.BytesArg
import Derived.Lib.ConvBytes
namespace Go.SX
noncomputable section

/-- The bytes of a list. -/
def intsC (c : Nat → Nat → AV) : Nat → Nat → Option (List Int)
  | _, 0 => some []
  | i, n + 1 => match c i 0 with
    | .int .u8 k => match intsC c (i + 1) n with
      | some l => some (k :: l)
      | none => none
    | _ => none

theorem intsC_ok {c : Nat → Nat → AV} : ∀ {n i : Nat} {l : List Int}, intsC c i n = some l → l.length = n ∧ ∀ j, j < n → c (i + j) 0 = .int .u8 (l.getD j 0)
  | 0, i, l, h => by simp only [intsC, Option.some.injEq] at h; subst h; exact ⟨rfl, fun j hj => by omega⟩
  | n + 1, i, l, h => by
    unfold intsC at h
    split at h
    · rename_i k hk
      split at h
      · rename_i l' hl
        cases h
        obtain ⟨h1, h2⟩ := intsC_ok hl
        refine ⟨by simp [h1], ?_⟩
        intro j hj
        cases j with
        | zero => simpa using hk
        | succ j =>
          have := h2 j (by omega)
          rw [show i + (j + 1) = i + 1 + j by omega, this]
          rfl
      · cases h
    · cases h

/-- string(b), of a list of bytes. -/
theorem triple_b2s {P : Program} {T : Tab} (hT : TabOK P T) {o : Oper} {fr : Fr} {n h len s d e : Nat} {x : Operand} {A : ARes} {j : Option Nat} {l : List Int}
    (ho : o.op = .convert s d x) (hx : ev fr x = some (.sl h len)) (hs : kindOf T s = .slice e) (he : kindOf T e = .int .u8) (hd : kindOf T d = .str) (hA : A.tag = some j) (hz : A.esz = 1) (hl : intsC A.cell 0 A.len = some l) :
    Triple P o fr [(h, .abs A)] [] n n (.str (strOfNums l)) [] := by
  intro env F a w next Q hn hsat hfresh hk
  have hd1 := ev_den hn (by rw [ho]; simp [Op.operands]) hx
  simp only [Den] at hd1
  obtain ⟨e1, _⟩ := hd1
  obtain ⟨v1, hv1, s1⟩ := hsat.sat (h := h) (r := .abs A) (by simp [lookN, lookC, Nat.beq_refl])
  rw [e1] at hv1; cases hv1
  have r := A.reads j hA s1
  rw [hz] at r
  obtain ⟨p, cap, hv, hle, hr⟩ := r
  obtain ⟨d1, hu1, k1⟩ := kindOf_ok hT hs (by simp)
  obtain ⟨d2, hu2, k2⟩ := kindOf_ok hT he (by simp)
  obtain ⟨d3, hu3, k3⟩ := kindOf_ok hT hd (by simp)
  simp only [KindOK] at k1 k2 k3
  subst k1; subst k2; subst k3
  obtain ⟨g1, g2⟩ := intsC_ok hl
  have hrun : (convert s d (a.eval x)).run P w = .ok (.string (strOfNums l)) w := by
    rw [hv]
    rcases hr with ⟨h0, _⟩ | ⟨b, off, arr, e', f, rfl, h4, h5, h6⟩
    · have : l = [] := List.length_eq_zero_iff.1 (by omega)
      subst this
      rw [h0]
      cases p with
      | none => simp [convert, run_underlying hu1, run_underlying hu2, run_underlying hu3, Conv.bytesToString]; rfl
      | some a0 =>
        obtain ⟨b0, o0, s0⟩ := a0
        simp [convert, run_underlying hu1, run_underlying hu2, run_underlying hu3, Conv.bytesToString, loadCells, loadCellsFrom]
        rfl
    · refine run_convert_bytes_arg w s e hu1 hu2 b off A.len cap l (by simpa using g1) ?_ d hu3
      intro i hi
      obtain ⟨y, q1, q2⟩ := h6 i 0 hi (by omega)
      have := g2 i hi
      rw [Nat.zero_add] at this
      rw [this] at q2
      have q3 := q2.2 (fun _ => none)
      simp only [Den] at q3
      rw [cell_of h5, ← q3]
      simpa using q1
  unfold Oper.wp
  rw [show (execOp a.eval o).run P w = .ok (.value (.string (strOfNums l))) w by simp [execOp, ho, hrun]]
  exact hk env F _ w (Turn.refl _ _ _ _ _) (by simp only [Den])

def intsL : List AV → Nat → Option (List Int)
  | _, 0 => some []
  | .int .u8 k :: l, n + 1 => match intsL l n with
    | some r => some (k :: r)
    | none => none
  | _, _ + 1 => none

theorem intsL_ok : ∀ {n : Nat} {cs : List AV} {l : List Int}, intsL cs n = some l → l.length = n ∧ ∀ j, j < n → cs[j]? = some (.int .u8 (l.getD j 0))
  | 0, cs, l, h => by simp only [intsL, Option.some.injEq] at h; subst h; exact ⟨rfl, fun j hj => by omega⟩
  | n + 1, cs, l, h => by
    unfold intsL at h
    split at h
    · rename_i h0; cases h0
    · rename_i k cs' n' h0
      cases h0
      split at h
      · rename_i r hr
        cases h
        obtain ⟨h1, h2⟩ := intsL_ok hr
        refine ⟨by simp [h1], ?_⟩
        intro j hj
        cases j with
        | zero => rfl
        | succ j => simpa using h2 j (by omega)
      · cases h
    · cases h

/-- string(b), of bytes in a box. -/
theorem triple_b2s_box {P : Program} {T : Tab} (hT : TabOK P T) {o : Oper} {fr : Fr} {n h off len cap s d e eb : Nat} {x : Operand} {cs : List AV} {l : List Int}
    (ho : o.op = .convert s d x) (hx : ev fr x = some (.slc h off len cap)) (hs : kindOf T s = .slice e) (he : kindOf T e = .int .u8) (hd : kindOf T d = .str) (hl : intsL (cs.drop off) len = some l) :
    Triple P o fr [(h, .box eb cs)] [] n n (.str (strOfNums l)) [] := by
  intro env F a w next Q hn hsat hfresh hk
  have hd1 := ev_den hn (by rw [ho]; simp [Op.operands]) hx
  simp only [Den] at hd1
  obtain ⟨b, e1, hv⟩ := hd1
  obtain ⟨v1, hv1, b1, xs, q1, q2, q3, q4⟩ := hsat.sat (h := h) (r := .box eb cs) (by simp [lookN, lookC, Nat.beq_refl])
  rw [e1] at hv1; cases hv1; cases q1
  obtain ⟨d1, hu1, k1⟩ := kindOf_ok hT hs (by simp)
  obtain ⟨d2, hu2, k2⟩ := kindOf_ok hT he (by simp)
  obtain ⟨d3, hu3, k3⟩ := kindOf_ok hT hd (by simp)
  simp only [KindOK] at k1 k2 k3
  subst k1; subst k2; subst k3
  obtain ⟨g1, g2⟩ := intsL_ok hl
  have hrun : (convert s d (a.eval x)).run P w = .ok (.string (strOfNums l)) w := by
    rw [hv]
    refine run_convert_bytes_arg w s e hu1 hu2 b off len cap l g1 ?_ d hu3
    intro i hi
    have h1 := g2 i hi
    rw [List.getElem?_drop] at h1
    obtain ⟨y, r1, r2⟩ := q4.get h1
    simp only [Den] at r2
    rw [cell_of q3, ← r2]
    simpa using r1
  unfold Oper.wp
  rw [show (execOp a.eval o).run P w = .ok (.value (.string (strOfNums l))) w by simp [execOp, ho, hrun]]
  exact hk env F _ w (Turn.refl _ _ _ _ _) (by simp only [Den])

/-- string(b), of no slice. -/
theorem triple_b2s_nil {P : Program} {T : Tab} (hT : TabOK P T) {o : Oper} {fr : Fr} {n s d e : Nat} {x : Operand}
    (ho : o.op = .convert s d x) (hx : ev fr x = some .nils) (hs : kindOf T s = .slice e) (he : kindOf T e = .int .u8) (hd : kindOf T d = .str) :
    Triple P o fr [] [] n n (.str ByteArray.empty) [] := by
  refine triple_val fun env a w hn => ?_
  have hd1 := ev_den hn (by rw [ho]; simp [Op.operands]) hx
  simp only [Den] at hd1
  obtain ⟨d1, hu1, k1⟩ := kindOf_ok hT hs (by simp)
  obtain ⟨d2, hu2, k2⟩ := kindOf_ok hT he (by simp)
  obtain ⟨d3, hu3, k3⟩ := kindOf_ok hT hd (by simp)
  simp only [KindOK] at k1 k2 k3
  subst k1; subst k2; subst k3
  exact ⟨.string .empty, by simp [execOp, ho, hd1, convert, run_underlying hu1, run_underlying hu2, run_underlying hu3, Conv.bytesToString], by simp only [Den]⟩

def byteC (s : ByteArray) (i _c : Nat) : AV := .int .u8 (s.data.toList.getD i 0).toNat

/-- []byte(s): it is only read. -/
theorem triple_s2b {P : Program} {T : Tab} (hT : TabOK P T) {o : Oper} {fr : Fr} {n s d e : Nat} {x : Operand} {b : ByteArray}
    (ho : o.op = .convert s d x) (hx : ev fr x = some (.str b)) (hs : kindOf T s = .str) (hd : kindOf T d = .slice e) (he : kindOf T e = .int .u8) :
    Triple P o fr [] [] n (n + 1) (.sl n b.size) [(n, .abs (lst none b.size 1 (byteC b)))] := by
  intro env F a w next Q hn hsat hfresh hk
  have hn' := hfresh n (Nat.le_refl _) (by omega)
  have hd1 := ev_den hn (by rw [ho]; simp [Op.operands]) hx
  simp only [Den] at hd1
  obtain ⟨d1, hu1, k1⟩ := kindOf_ok hT hs (by simp)
  obtain ⟨d2, hu2, k2⟩ := kindOf_ok hT he (by simp)
  obtain ⟨d3, hu3, k3⟩ := kindOf_ok hT hd (by simp)
  simp only [KindOK] at k1 k2 k3
  subst k1; subst k2; subst k3
  have hrun := Lib.run_convert_string_bytes (P := P) w s d e b hu1 hu3 hu2
  unfold Oper.wp
  rw [show (execOp a.eval o).run P w = .ok (.value (.slice (some ⟨w.heap.size, 0, none⟩) b.size (grownCap w b.size 0 e))) (Lib.bytesWorld w e b) by simp [execOp, ho, hd1, hrun]]
  have hcap : b.size ≤ grownCap w b.size 0 e := by
    exact grownCap_ge _ _ _ _
  refine hk (env.set n (.slice (some ⟨w.heap.size, 0, none⟩) b.size (grownCap w b.size 0 e))) (fun _ k => k = w.heap.size) _ _ ⟨Env.le_set hn', ?_, ⟨?_, ?_⟩, ?_, ?_⟩ ?_
  · intro k hk; unfold Env.set; rw [if_neg (by omega)]
  · intro k r hl
    obtain ⟨rfl, rfl⟩ := look_one hl
    refine ⟨_, Env.set_same _ _ _, ?_⟩
    show ReadsAs _ _ _ _ _ _
    refine ⟨_, _, rfl, hcap, .inr ⟨w.heap.size, 0, _, _, _, rfl, fun _ => Iff.rfl, Lib.bytesWorld_at_new w e b, ?_⟩⟩
    intro i c hi hc
    have hc0 : c = 0 := by omega
    subst hc0
    refine ⟨.int .u8 (b.data.toList.getD i 0).toNat, ?_, rfl, fun env2 => by simp only [byteC, Den]⟩
    have := Lib.bytesWorld_cell w e b i hi
    rw [cell_of (Lib.bytesWorld_at_new w e b)] at this
    simpa using this
  · intro k r k' r' hl hl' hne
    obtain ⟨rfl, rfl⟩ := look_one hl
    obtain ⟨rfl, rfl⟩ := look_one hl'
    exact absurd rfl hne
  · intro k r b0 hl hb
    exact .inr (.inr (Nat.le_of_eq hb.symm))
  · refine ⟨rfl, rfl, rfl, by rw [Lib.bytesWorld_size]; omega, ?_⟩
    intro k hk _
    exact Lib.bytesWorld_at_old w e b k hk
  · simp only [Den]
    exact ⟨Env.set_same _ _ _, _, _, rfl, fun _ => ⟨_, _, rfl⟩⟩

end
end Go.SX
