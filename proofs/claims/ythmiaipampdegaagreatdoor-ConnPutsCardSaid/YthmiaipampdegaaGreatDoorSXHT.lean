/- SX, part HT: making rows, appending, copying. -/
import Derived.Test.YthmiaipampdegaaGreatDoorSXHR
namespace Go.SX
noncomputable section

theorem fillA_length {z : Nat} : ∀ {vs : List (Nat × AV)} {c c' : List AV}, fillA (fun i => some (i * z, z)) c vs = some c' → c'.length = c.length
  | [], c, c', h => by simp only [fillA_nil, Option.some.injEq] at h; rw [h]
  | (i, v) :: vs, c, c', h => by
    rw [fillA_cons] at h
    split at h
    · cases h
    · rename_i off s2 hpl hraw
      split at h
      · rename_i q1 q2
        have q1 := Nat.eq_of_beq_eq_true q1
        have q2 := Nat.le_of_ble_eq_true q2
        rw [fillA_length h]
        rw [splice_def]
        simp only [List.length_append, List.length_take, List.length_drop]
        omega
      · cases h
    · cases h

theorem triple_build_row {P : Program} {T : Tab} (hT : TabOK P T) {o : Oper} {fr : Fr} {n m sz : Nat} {t e : TypeId} {ag : Bool} {z cs : List AV} {k : TK} {ps : Array (Nat × Operand)} {vs : List (Nat × AV)}
    (ho : o.op = .buildSlice t m ps) (hk : kindOf T t = .slice e) (hr : T e = some ⟨ag, sz, z, k⟩) (hv : evps fr ps.toList = some vs) (hz : Nat.beq z.length sz = true) (hm : Nat.ble (m * sz) 16777216 = true)
    (hf : fillA (fun i => some (i * sz, sz)) (repA m sz z) vs = some cs) :
    Triple P o fr [] [] n (n + 1) (.sv n sz 0 m (some m)) [(n, .row e sz cs (some m))] := by
  intro env F a w next Q hn hs hfresh hkk
  have hz := Nat.eq_of_beq_eq_true hz
  have hm := Nat.le_of_ble_eq_true hm
  have hn' := hfresh n (Nat.le_refl _) (by omega)
  obtain ⟨d, h4, rfl⟩ := kind_run hT hk (by simp) w
  obtain ⟨h1, ⟨zv, h2, h3⟩, _, _⟩ := row_info hT hr w
  have hp := evps_den hn (by intro p hp; rw [ho]; simp only [Op.operands]; simp; exact ⟨p.1, by simpa using hp⟩) hv
  obtain ⟨zc, hzc, hzd⟩ : ∃ zc : Array Value, ((m * sz = 0 ∧ zc = #[]) ∨ (m * sz ≠ 0 ∧ zc = zv.cells)) ∧ Dens env (repA m sz z) ((Array.range (m * sz)).map (zc[· % zc.size]!)).toList := by
    by_cases h0 : m * sz = 0
    · exact ⟨#[], .inl ⟨h0, rfl⟩, by simp [repA, h0, Dens]⟩
    · exact ⟨zv.cells, .inr ⟨h0, rfl⟩, repA_den (h3 env).1 hz h0⟩
  obtain ⟨ys, h8, h9⟩ := fill_ok (place := fun i => some (i * sz, sz)) hp (xs := (Array.range (m * sz)).map (zc[· % zc.size]!)) hzd hf
  have hlen := h9.length
  have hcs : cs.length = m * sz := by rw [fillA_length hf]; simp [repA]
  have hysz : ys.size = m * sz := by
    have : ys.size = ys.toList.length := by simp
    rw [this, ← hlen, hcs]
  have hrun : (execOp a.eval o).run P w = .ok (.value (.slice (some ⟨w.heap.size, 0, none⟩) m m)) (w.alloc (.cells ys e)) := by
    have g1 : ¬ (m * sz > 2 ^ 24) := by omega
    rcases hzc with ⟨h0, rfl⟩ | ⟨h0, rfl⟩
    · simp only [execOp, ho, Instr.buildSlice, Sem.run_bind, h4, Result.andThen_ok, h1, show ¬ (0 > 2 ^ 24) by omega, if_false, h0, if_true, Sem.run_pure, Array.toList_map]
      rw [h0] at h8
      rw [h8]
      simp [newRow]
    · simp only [execOp, ho, Instr.buildSlice, Sem.run_bind, h4, Result.andThen_ok, h1, g1, if_false, h0, h2, Sem.run_pure, Array.toList_map, h8, newRow]
      simp
  unfold Oper.wp
  rw [hrun]
  exact hkk _ _ _ _ (Turn.row_new (w1 := w) (ys := ys.toList) (tl := []) (lo := 0) (hi := 0) hn' ⟨rfl, rfl, rfl, rfl⟩ hysz (by simp) h9 (.inr (Nat.le_refl _)) (fun k hk => by cases hk; rfl)) (sv_new (Nat.le_refl _) (fun k hk => by cases hk; rfl))

theorem triple_makeSlice {P : Program} {T : Tab} (hT : TabOK P T) {o : Oper} {fr : Fr} {n m c sz : Nat} {t e : TypeId} {ag : Bool} {z : List AV} {kk : TK} {x y : Operand} {k1 k2 : IntKind} {l1 c1 : Int}
    (ho : o.op = .makeSlice t x y) (hk : kindOf T t = .slice e) (hr : T e = some ⟨ag, sz, z, kk⟩) (hx : ev fr x = some (.int k1 l1)) (hy : ev fr y = some (.int k2 c1)) (hz : Nat.beq z.length sz = true)
    (h1 : 0 ≤ l1 ∧ l1 ≤ c1 ∧ c1 ≤ 4398046511104 ∧ c1.toNat * sz ≤ 4398046511104 ∧ m = l1.toNat ∧ c = c1.toNat) (hpos : Nat.blt 0 sz = true) :
    Triple P o fr [] [] n (n + 1) (.sv n sz 0 m (some c)) [(n, .row e sz (repA c sz z) (some c))] := by
  intro env F a w next Q hn hs hfresh hkk
  have hz := Nat.eq_of_beq_eq_true hz
  have hpos : 0 < sz := by simpa using hpos
  obtain ⟨a1, a2, a3, a4, rfl, rfl⟩ := h1
  have hn' := hfresh n (Nat.le_refl _) (by omega)
  obtain ⟨d, hu, hkind⟩ := kindOf_ok hT hk (by simp)
  simp only [KindOK] at hkind; subst hkind
  obtain ⟨⟨i, zv, g1, g2, g3, g4, g5, g6⟩, _⟩ := hT e _ hr
  simp only at g2 g5
  have dx := ev_den hn (by rw [ho]; simp [Op.operands]) hx
  have dy := ev_den hn (by rw [ho]; simp [Op.operands]) hy
  simp only [Den] at dx dy
  have hbytes : c1.toNat * i.bytes ≤ 32 * 4398046511104 := by
    have : c1.toNat * i.bytes ≤ c1.toNat * (32 * sz) := Nat.mul_le_mul_left _ (by rw [← g2]; exact g6)
    have h32 : c1.toNat * (32 * sz) = 32 * (c1.toNat * sz) := by rw [Nat.mul_left_comm]
    omega
  have hbi : (i.bytes : Int) * c1 ≤ 281474976710656 := by
    have h : ((c1.toNat * i.bytes : Nat) : Int) ≤ 281474976710656 := by omega
    rw [Int.natCast_mul, Int.toNat_of_nonneg (by omega), Int.mul_comm] at h
    exact h
  have hrun := run_make (P := P) w t e i zv hu g1 g3 k1 k2 l1 c1 a1 a2 hbi (by omega)
  unfold Oper.wp
  rw [show (execOp a.eval o).run P w = .ok (.value (.slice (some ⟨w.heap.size, 0, none⟩) l1.toNat c1.toNat)) (w.alloc (.cells (madeCells zv.cells (c1.toNat * i.size)) e)) by
    simp only [execOp, ho, dx, dy, Sem.run_bind]; rw [hrun]; rfl]
  rw [g2]
  have hden : Dens env (repA c1.toNat sz z) (madeCells zv.cells (c1.toNat * sz)).toList := by
    by_cases h0 : c1.toNat * sz = 0
    · simp [repA, h0, madeCells, Dens]
    · exact repA_den (g5 env) hz h0
  exact hkk _ _ _ _ (Turn.row_new (w1 := w) (ys := _) (tl := []) (lo := 0) (hi := 0) hn' ⟨rfl, rfl, rfl, rfl⟩ (by simp [madeCells]) (by simp) hden (.inr (Nat.le_refl _)) (fun k hk => by cases hk; rfl))
    (sv_new (by omega) (fun k hk => by cases hk; rfl))

/-- The bytes of a string, as cells. -/
def bytesA (s : ByteArray) : List AV := s.data.toList.map fun b => .int .u8 b.toNat

theorem bytesA_den {env : Env} : ∀ (l : List UInt8), Dens env (l.map fun b => AV.int .u8 b.toNat) (l.map fun b => Value.int .u8 b.toNat)
  | [] => by simp [Dens]
  | b :: l => by simp only [List.map_cons, Dens]; exact ⟨_, _, rfl, by simp only [Den], bytesA_den l⟩

/-- The cells of a list that is read, one behind the other. -/
def flatC (z : Nat) (c : Nat → Nat → AV) : Nat → Nat → List AV
  | _, 0 => []
  | i, n + 1 => cellsFrom (c i) 0 z ++ flatC z c (i + 1) n

theorem flatC_length (z : Nat) (c : Nat → Nat → AV) : ∀ (n i : Nat), (flatC z c i n).length = n * z
  | 0, i => by simp [flatC]
  | n + 1, i => by simp only [flatC, List.length_append, cellsFrom_length, flatC_length z c n, Nat.add_mul]; omega

theorem flatC_get {z : Nat} {c : Nat → Nat → AV} : ∀ {n i j : Nat} {u : AV}, (flatC z c i n)[j]? = some u → 0 < z → j / z < n ∧ u = c (i + j / z) (j % z)
  | 0, i, j, u, h, _ => by simp [flatC] at h
  | n + 1, i, j, u, h, hz => by
    unfold flatC at h
    by_cases hj : j < z
    · rw [List.getElem?_append_left (by rw [cellsFrom_length]; exact hj)] at h
      obtain ⟨h1, _⟩ := cellsFrom_get h
      rw [Nat.div_eq_of_lt hj, Nat.mod_eq_of_lt hj]
      exact ⟨by omega, by simpa using h1⟩
    · rw [List.getElem?_append_right (by rw [cellsFrom_length]; omega), cellsFrom_length] at h
      obtain ⟨h1, h2⟩ := flatC_get h hz
      have e1 : j / z = (j - z) / z + 1 := by
        have := Nat.div_eq_sub_div hz (by omega : z ≤ j); exact this
      have e2 : j % z = (j - z) % z := Nat.mod_eq_sub_mod (by omega)
      rw [e1, e2]
      exact ⟨by omega, by rw [h2]; congr 1; omega⟩

/-- Whose memory a source reads. -/
def srcH : AV → Option Nat
  | .sv h _ _ _ _ => some h
  | .slc h _ _ _ => some h
  | .sl h _ => some h
  | _ => none

/-- How long a source is. -/
def lenA (y : AV) (r : Option Res) : Option Nat :=
  match y, r with
  | .nils, _ => some 0
  | .str s, _ => some s.size
  | .sv _ _ _ len _, _ => some len
  | .slc _ _ len _, _ => some len
  | .sl _ _, some (.abs D) => match D.tag with | some _ => some D.len | none => none
  | _, _ => none

/-- The first k elements of a source. -/
def readsA (z : Nat) (y : AV) (r : Option Res) (k : Nat) : Option (List AV) :=
  match y, r with
  | .nils, _ => match Nat.beq k 0 with | true => some [] | false => none
  | .str s, _ => match Nat.beq z 1 with | true => some ((bytesA s).take k) | false => none
  | .sv _ z' i _ _, some (.row _ z'' cs _) => match Nat.beq z' z && (Nat.beq z'' z && Nat.ble (i * z + k * z) cs.length) with | true => some ((cs.drop (i * z)).take (k * z)) | false => none
  | .slc _ off _ _, some (.box _ cs) => match Nat.ble (off + k * z) cs.length with | true => some ((cs.drop off).take (k * z)) | false => none
  | .sl _ _, some (.abs D) => match D.tag, Nat.beq D.esz z && Nat.blt 0 z with | some _, true => some (flatC z D.cell 0 k) | _, _ => none
  | _, _ => none

theorem lenA_ok {P : Program} {env : Env} {H : Heap} {F : Foot} {w : World} {y : AV} {x : Value} {r : Option Res} {n : Nat} (hs : SatH env H F w) (hr : ∀ h, srcH y = some h → ∃ q, r = some q ∧ look H h = some q) (hd : Den env y x)
    (hl : lenA y r = some n) : ∀ w', (Builtin.lenOf x).run P w' = .ok n w' := by
  intro w'
  unfold lenA at hl
  split at hl
  · cases hl; simp only [Den] at hd; subst hd; rfl
  · cases hl; simp only [Den] at hd; subst hd; rfl
  · cases hl; simp only [Den] at hd; obtain ⟨_, _, _, _, _, _, _, rfl, _⟩ := hd; rfl
  · cases hl; simp only [Den] at hd; obtain ⟨_, _, rfl⟩ := hd; rfl
  · rename_i h len D
    split at hl
    · rename_i k hk
      cases hl
      simp only [Den] at hd
      obtain ⟨q, hq, hlk⟩ := hr h rfl
      cases hq
      obtain ⟨v1, hv1, s1⟩ := hs.sat hlk
      rw [hd.1] at hv1; cases hv1
      obtain ⟨p, cap, rfl, _⟩ := D.reads _ hk s1
      rfl
    · cases hl
  · cases hl

theorem readsA_ok {P : Program} {env : Env} {H : Heap} {F : Foot} {w : World} {y : AV} {x : Value} {r : Option Res} {z k n : Nat} {ws : List AV} (hs : SatH env H F w) (hr : ∀ h, srcH y = some h → ∃ q, r = some q ∧ look H h = some q)
    (hd : Den env y x) (hrd : readsA z y r k = some ws) (hln : lenA y r = some n) (hkn : k ≤ n) :
    ∃ news : List Value, (∀ w' : World, w'.heap = w.heap → (Builtin.firstCells z k x).run P w' = .ok news.toArray w') ∧ news.length = k * z ∧ Dens env ws news := by
  have hcell : ∀ {w' : World} {a : Addr}, w'.heap = w.heap → w'.cell? a = w.cell? a := by
    intro w' a h
    simp [World.cell?, h]
  have fromCells : ∀ {a : Addr} {l c : Nat} {news : List Value}, x = .slice (some a) l c → news.length = k * z → (∀ j u, news[j]? = some u → w.cell? (a.add j) = some u) → Dens env ws news →
      ∃ news : List Value, (∀ w' : World, w'.heap = w.heap → (Builtin.firstCells z k x).run P w' = .ok news.toArray w') ∧ news.length = k * z ∧ Dens env ws news := by
    intro a l c news hx hl hc hdn
    subst hx
    exact ⟨news, fun w' hw => run_firstCells_some w' z k a l c news hl (fun j u hu => by rw [hcell hw]; exact hc j u hu), hl, hdn⟩
  have zero : ∀ {p : Option Addr} {l c : Nat}, x = .slice p l c → k * z = 0 → ws = [] →
      ∃ news : List Value, (∀ w' : World, w'.heap = w.heap → (Builtin.firstCells z k x).run P w' = .ok news.toArray w') ∧ news.length = k * z ∧ Dens env ws news := by
    intro p l c hx hk hw
    subst hx; subst hw
    refine ⟨[], fun w' _ => ?_, by simp [hk], by simp [Dens]⟩
    cases p with
    | none => simp [Builtin.firstCells]
    | some a => simp [Builtin.firstCells, hk, loadCells, loadCellsFrom]
  unfold readsA at hrd
  split at hrd
  · split at hrd
    · rename_i hk
      have hk := Nat.eq_of_beq_eq_true hk
      cases hrd
      simp only [Den] at hd
      exact zero hd (by simp [hk]) rfl
    · cases hrd
  · rename_i s
    split at hrd
    · rename_i hz
      have hz := Nat.eq_of_beq_eq_true hz
      subst hz
      cases hrd
      simp only [Den] at hd; subst hd
      simp only [lenA, Option.some.injEq] at hln
      have hsz : s.data.toList.length = s.size := by rw [Array.length_toList]; rfl
      refine ⟨(s.data.toList.map fun b => Value.int .u8 b.toNat).take k, fun w' _ => ?_, ?_, (bytesA_den _).take k⟩
      · simp only [Builtin.firstCells, Sem.run_pure]
        congr 1
        apply Array.ext'
        simp
      · simp; omega
    · cases hrd
  · rename_i h z' i len cap e z'' cs rc
    split at hrd
    · rename_i hb
      simp only [Bool.and_eq_true] at hb
      obtain ⟨b1, b2, b3⟩ := hb
      have b1 := Nat.eq_of_beq_eq_true b1
      have b2 := Nat.eq_of_beq_eq_true b2
      have b3 := Nat.le_of_ble_eq_true b3
      subst b1; subst b2
      cases hrd
      simp only [Den] at hd
      obtain ⟨b, o, m, C, p, c, he, hx, hlc, hic, hc1, hc2, hp⟩ := hd
      simp only [lenA, Option.some.injEq] at hln
      by_cases hk0 : k = 0
      · exact zero hx (by simp [hk0]) (by simp [hk0])
      · obtain ⟨q, hq, hlk⟩ := hr h rfl
        cases hq
        obtain ⟨v1, hv1, s1⟩ := hs.sat hlk
        rw [he] at hv1; cases hv1
        obtain ⟨b', o', m', C', xs, lo, hi, ys, tl, rw1⟩ := rowAt.1 s1
        have hval := rw1.val
        simp only [Value.slice.injEq, Option.some.injEq, Addr.mk.injEq] at hval
        obtain ⟨⟨rfl, rfl, -⟩, rfl, rfl⟩ := hval
        obtain ⟨news, g1, g2, g3⟩ := rw1.read b3
        have hpp := hp (by omega)
        subst hpp
        exact fromCells hx g1 g2 g3
    · cases hrd
  · rename_i h off len cap e cs
    split at hrd
    · rename_i b3
      have b3 := Nat.le_of_ble_eq_true b3
      cases hrd
      simp only [Den] at hd
      obtain ⟨b, he, hx⟩ := hd
      obtain ⟨q, hq, hlk⟩ := hr h rfl
      cases hq
      obtain ⟨v1, hv1, b1, xs, q1, q2, q3, q4⟩ := hs.sat hlk
      rw [he] at hv1; cases hv1; cases q1
      refine fromCells (news := (xs.toList.drop off).take (k * z)) hx ?_ ?_ ((q4.drop off).take _)
      · have := q4.length
        simp at this ⊢; omega
      · intro j u hu
        rw [List.getElem?_take] at hu
        split at hu
        · rw [List.getElem?_drop] at hu
          rw [addr_add, cell_of q3]; simpa using hu
        · cases hu
    · cases hrd
  · rename_i h len D
    split at hrd
    · rename_i j hj hb
      simp only [Bool.and_eq_true] at hb
      obtain ⟨b1, b2⟩ := hb
      have b1 := Nat.eq_of_beq_eq_true b1
      have b2 : 0 < z := by simpa using b2
      cases hrd
      simp only [Den] at hd
      obtain ⟨q, hq, hlk⟩ := hr h rfl
      cases hq
      obtain ⟨v1, hv1, s1⟩ := hs.sat hlk
      rw [hd.1] at hv1; cases hv1
      have rd := D.reads _ hj s1
      rw [b1] at rd
      simp only [lenA, hj, Option.some.injEq] at hln
      subst hln
      by_cases hk0 : k = 0
      · obtain ⟨p, cap, hx, _⟩ := rd
        exact zero hx (by simp [hk0]) (by simp [hk0, flatC])
      · rcases reads_list rd b2 with ⟨h0, _⟩ | ⟨a, cap, news, hx, hl, hnews, hcl⟩
        · omega
        · have hkz : k * z ≤ D.len * z := Nat.mul_le_mul_right _ hkn
          refine fromCells (news := news.take (k * z)) hx (by simp; omega) ?_ ?_
          · intro j u hu
            rw [List.getElem?_take] at hu
            split at hu
            · exact hnews j u hu
            · cases hu
          · rw [dens_iff]
            refine ⟨by rw [flatC_length]; simp; omega, ?_⟩
            intro j u hu
            obtain ⟨g1, g2⟩ := flatC_get hu b2
            have hjl : j < k * z := (Nat.div_lt_iff_lt_mul b2).1 g1
            obtain ⟨v, q1, q2⟩ := hcl (j / z) (j % z) (by omega) (Nat.mod_lt _ b2)
            have hj2 : j / z * z + j % z = j := by rw [Nat.mul_comm]; exact Nat.div_add_mod j z
            rw [hj2] at q1
            refine ⟨v, by rw [List.getElem?_take, if_pos hjl]; exact q1, ?_⟩
            rw [g2, Nat.zero_add]; exact q2.2 env
    · cases hrd
  · cases hrd

end
end Go.SX
