/- SX, part HL: the operations on slices. -/
import Derived.Test.YthmiaipampdegaaGreatDoorSXH
import Derived.Laws.OwnMore
namespace Go.SX
noncomputable section

theorem reads_stable {v : Value} {len esz : Nat} {cell : Nat → Nat → AV} {F : Nat → Prop} {w w' : World} (h : ReadsAs v len esz cell F w) (hag : Agree F w w') : ReadsAs v len esz cell F w' := by
  obtain ⟨p, cap, h1, hle, h2⟩ := h
  refine ⟨p, cap, h1, hle, ?_⟩
  rcases h2 with h2 | ⟨b, o, arr, e, f, h3, h4, h5, h6⟩
  · exact .inl h2
  · exact .inr ⟨b, o, arr, e, f, h3, h4, by rw [hag b ((h4 b).2 rfl)]; exact h5, h6⟩

theorem reads_bound {v : Value} {len esz : Nat} {cell : Nat → Nat → AV} {F : Nat → Prop} {w : World} (h : ReadsAs v len esz cell F w) : ∀ b, F b → b < w.heap.size := by
  obtain ⟨p, cap, h1, _, h2⟩ := h
  intro k hk
  rcases h2 with ⟨_, h2⟩ | ⟨b, o, arr, e, f, h3, h4, h5, h6⟩
  · exact (h2 k hk).elim
  · rw [(h4 k).1 hk]; exact getElem?_lt h5

theorem reads_cells {v : Value} {len esz : Nat} {cell : Nat → Nat → AV} {F : Nat → Prop} {w : World} (h : ReadsAs v len esz cell F w) : ∀ i o, i < len → o < esz → ∃ b p n cap, v = .slice (some ⟨b, p, none⟩) n cap ∧
    ∃ x, w.cell? ⟨b, p + (i * esz + o), none⟩ = some x ∧ ∀ env, Den env (cell i o) x := by
  obtain ⟨p, cap, h1, _, h2⟩ := h
  intro i c hi hc
  rcases h2 with ⟨h2, _⟩ | ⟨b, o, arr, e, f, h3, h4, h5, h6⟩
  · omega
  · obtain ⟨x, h7, h8⟩ := h6 i c hi hc
    exact ⟨b, o, len, cap, by rw [h1, h3], x, by rw [cell_of h5]; exact h7, h8.2⟩

theorem own_stable {e : Nat} {v : Value} {len esz : Nat} {cell : Nat → Nat → AV} {F : Nat → Prop} {w w' : World} (h : OwnSat e len esz cell v F w) (hag : Agree F w w') : OwnSat e len esz cell v F w' := by
  obtain ⟨xs, ⟨h0, h1⟩, h2, h3⟩ := h
  refine ⟨xs, ⟨h0, ?_⟩, h2, h3⟩
  rcases h1 with h1 | ⟨g, cap, cur, rfl, q1, q2, q3⟩
  · exact .inl h1
  · exact .inr ⟨g, cap, cur, rfl, q1, by rw [hag g ((h2 g).2 rfl)]; exact q2, q3⟩

theorem own_reads {e : Nat} {v : Value} {len esz : Nat} {cell : Nat → Nat → AV} {F : Nat → Prop} {w : World} (h : OwnSat e len esz cell v F w) : ReadsAs v len esz cell F w := by
  obtain ⟨xs, ⟨h0, h1⟩, h2, h3⟩ := h
  rcases h1 with ⟨rfl, h1⟩ | ⟨g, cap, cur, rfl, q1, q2, q3, q4, q5, q6⟩
  · subst h1
    exact ⟨none, 0, rfl, Nat.le_refl _, .inl ⟨rfl, fun b hb => by have := (h2 b).1 hb; simp [Value.ownBlock] at this⟩⟩
  · refine ⟨some ⟨g, 0, none⟩, cap, rfl, q3, .inr ⟨g, 0, cur, e, (0, 0), rfl, ?_, q2, ?_⟩⟩
    · intro k
      rw [h2 k]; simp only [Value.ownBlock, Option.some.injEq]
      exact eq_comm
    · intro i c hi hc
      obtain ⟨x, h7, h8⟩ := h3 i c hi hc
      refine ⟨x, ?_, h8⟩
      rw [← q6, List.getElem?_take] at h7
      split at h7
      · simpa using h7
      · cases h7

/-- A slice: owned, of elements of a type, or only read. -/
def lst (k : Option Nat) (len esz : Nat) (cell : Nat → Nat → AV) : ARes where
  ro := match k with | none => true | some _ => false
  tag := some k
  flat := true
  len := len
  esz := esz
  cell := cell
  sat := fun v F w => match k with | none => ReadsAs v len esz cell F w | some e => OwnSat e len esz cell v F w
  stable := by
    intro v F w w' h hag
    cases k with
    | none => exact reads_stable h hag
    | some e => exact own_stable h hag
  bound := by
    intro v F w h
    cases k with
    | none => exact reads_bound h
    | some e => exact reads_bound (own_reads h)
  own := by
    intro e h
    cases h
    exact ⟨rfl, Iff.rfl⟩
  reads := by
    intro j h v F w hs
    cases h
    cases k with
    | none => exact hs
    | some e => exact own_reads hs
  read := by
    intro h
    cases h
    exact ⟨rfl, Iff.rfl⟩
  cells := by
    intro _ v F w h
    cases k with
    | none => exact reads_cells h
    | some e => exact reads_cells (own_reads h)

theorem lst_reads {k : Option Nat} {len esz : Nat} {cell : Nat → Nat → AV} {v : Value} {F : Nat → Prop} {w : World} (h : (lst k len esz cell).sat v F w) : ReadsAs v len esz cell F w :=
  (lst k len esz cell).reads k rfl h


def cellsAt (cs : List AV) (sz i c : Nat) : AV :=
  match nth cs (i * sz + c) with
  | some v => v
  | none => .nilp

def repA (m sz : Nat) (z : List AV) : List AV := (List.range (m * sz)).map fun j => match nth z (j % sz) with | some v => v | none => .nilp

theorem repA_den {env : Env} {m sz : Nat} {z : List AV} {zv : Array Value} (hz : Dens env z zv.toList) (hs : z.length = sz) (h0 : m * sz ≠ 0) :
    Dens env (repA m sz z) ((Array.range (m * sz)).map (zv[· % zv.size]!)).toList := by
  have hl := hz.length
  have hzv : zv.size = sz := by rw [← hs, hl]; simp
  rw [dens_iff]
  refine ⟨by simp [repA], ?_⟩
  intro i v hi
  unfold repA at hi
  rw [List.getElem?_map] at hi
  have hlt : i < m * sz := by
    rcases Nat.lt_or_ge i (m * sz) with h | h
    · exact h
    · rw [List.getElem?_eq_none (by simpa using h)] at hi; cases hi
  have hr : (List.range (m * sz))[i]? = some i := by simp [hlt]
  rw [hr] at hi
  simp only [Option.map_some, Option.some.injEq] at hi
  have hpos : 0 < sz := by
    rcases Nat.eq_zero_or_pos sz with h | h
    · subst h; simp at h0
    · exact h
  have hm : i % sz < z.length := by rw [hs]; exact Nat.mod_lt _ hpos
  obtain ⟨x, hx, hd⟩ := hz.get (i := i % sz) (v := z[i % sz]) (List.getElem?_eq_getElem hm)
  rw [nth_eq, List.getElem?_eq_getElem hm] at hi
  simp only at hi; subst hi
  refine ⟨x, ?_, hd⟩
  have hx' : zv[i % sz]? = some x := by simpa using hx
  simp only [Array.toList_map, List.getElem?_map, Array.toList_range, hr, Option.map_some]
  rw [hzv, getElem!_def, hx']

/-- A value that stands for itself, wherever. -/
def closedA : AV → Bool
  | .bool _ | .int _ _ | .str _ | .nilp | .nils | .nilm | .nilf | .nili => true
  | .fn _ [] [] => true
  | _ => false

theorem closedA_ok {v : AV} {x : Value} {env env' : Env} (h : closedA v = true) (hd : Den env v x) : Den env' v x := by
  unfold closedA at h
  split at h <;> (try (cases h; done)) <;> simpa only [Den, Dens] using hd

theorem closed_leaf {v : AV} (h : closedA v = true) : leafA v = true := by cases v <;> first | rfl | (cases h; done)

theorem triple_build {P : Program} {T : Tab} (hT : TabOK P T) {o : Oper} {fr : Fr} {n m sz : Nat} {t e : TypeId} {ag : Bool} {z cs : List AV} {k : TK} {ps : Array (Nat × Operand)} {vs : List (Nat × AV)}
    (ho : o.op = .buildSlice t m ps) (hk : kindOf T t = .slice e) (hr : T e = some ⟨ag, sz, z, k⟩) (hv : evps fr ps.toList = some vs) (hz : Nat.beq z.length sz = true) (hm : Nat.ble (m * sz) 16777216 = true) (hm0 : Nat.ble 1 (m * sz) = true)
    (hf : fillA (fun i => some (i * sz, sz)) (repA m sz z) vs = some cs) (hcl : cs.all closedA = true) :
    Triple P o fr [] [] n (n + 1) (.sl n m) [(n, .abs (lst (some e) m sz (cellsAt cs sz)))] := by
  intro env F a w next Q hn hs hfresh hkk
  have hz := Nat.eq_of_beq_eq_true hz
  have hm := Nat.le_of_ble_eq_true hm
  have hm0 := Nat.le_of_ble_eq_true hm0
  have hn' := hfresh n (Nat.le_refl _) (by omega)
  obtain ⟨d, h4, rfl⟩ := kind_run hT hk (by simp) w
  obtain ⟨h1, ⟨zv, h2, h3⟩, _, _⟩ := row_info hT hr w
  have hp := evps_den hn (by intro p hp; rw [ho]; simp only [Op.operands]; simp; exact ⟨p.1, by simpa using hp⟩) hv
  obtain ⟨ys, h8, h9⟩ := fill_ok (place := fun i => some (i * sz, sz)) hp (xs := (Array.range (m * sz)).map (zv.cells[· % zv.cells.size]!)) (repA_den (h3 env).1 hz (by omega)) hf
  have hlen := h9.length
  have hcs : cs.length = m * sz := by
    have key : ∀ {vs : List (Nat × AV)} {c c' : List AV}, fillA (fun i => some (i * sz, sz)) c vs = some c' → c'.length = c.length := by
      intro vs
      induction vs with
      | nil => intro c c' h; simp only [fillA_nil, Option.some.injEq] at h; rw [h]
      | cons p vs ih =>
        intro c c' h
        obtain ⟨i, v⟩ := p
        rw [fillA_cons] at h
        split at h
        · cases h
        · rename_i off s2 hpl hraw
          split at h
          · rename_i q1 q2
            have q1 := Nat.eq_of_beq_eq_true q1
            have q2 := Nat.le_of_ble_eq_true q2
            rw [ih h]
            rw [splice_def]
            simp only [List.length_append, List.length_take, List.length_drop]
            omega
          · cases h
        · cases h
    rw [key hf]; simp [repA]
  have hrun : (execOp a.eval o).run P w = .ok (.value (.slice (some ⟨w.heap.size, 0, none⟩) m m)) (w.alloc (.cells ys e)) := by
    have g1 : ¬ (m * sz > 2 ^ 24) := by omega
    have g2 : ¬ (m * sz = 0) := by omega
    simp only [execOp, ho, Instr.buildSlice, Sem.run_bind, h4, Result.andThen_ok, h1, g1, if_false, g2, h2, Sem.run_pure, Array.toList_map, h8, newRow]
    simp
  unfold Oper.wp
  rw [hrun]
  have hmax : m ≤ maxLen := by
    have hsz : 0 < sz := by
      rcases Nat.eq_zero_or_pos sz with h | h
      · subst h; simp at hm0
      · exact h
    have : m ≤ m * sz := Nat.le_mul_of_pos_right m hsz
    unfold maxLen; omega
  have hysz : ys.size = m * sz := by
    have : ys.size = ys.toList.length := by simp
    rw [this, ← hlen, hcs]
  have hown := World.ownsRow_lit (base := 0) (e := e) (size := sz) w ys m (Nat.zero_le _) hmax hysz
  refine hkk (env.set n (.slice (some ⟨w.heap.size, 0, none⟩) m m)) (fun _ b => b = w.heap.size) _ _ ⟨Env.le_set hn', ?_, ⟨?_, ?_⟩, ?_, frame_alloc⟩ ?_
  · intro h hh; unfold Env.set; rw [if_neg (by omega)]
  · intro h r hl
    obtain ⟨rfl, rfl⟩ := look_one hl
    refine ⟨_, Env.set_same _ _ _, ys.toList, hown, ?_, ?_⟩
    · intro b; simp only [Value.ownBlock, Option.some.injEq]; exact eq_comm
    · intro i c hi hc
      have hlt : i * sz + c < cs.length := by
        rw [hcs]
        have : (i + 1) * sz ≤ m * sz := Nat.mul_le_mul_right _ hi
        rw [Nat.add_mul] at this; omega
      obtain ⟨v1, hv1⟩ : ∃ v1, cs[i * sz + c]? = some v1 := ⟨_, List.getElem?_eq_getElem hlt⟩
      obtain ⟨x, hx, hd⟩ := h9.get hv1
      have hc1 := List.all_eq_true.1 hcl v1 (List.mem_of_getElem? hv1)
      refine ⟨x, hx, leafA_one (closed_leaf hc1) hd, ?_⟩
      intro env2
      simp only [cellsAt, nth_eq, hv1]
      exact closedA_ok hc1 hd
  · intro h r h' r' hl hl' hne
    obtain ⟨rfl, rfl⟩ := look_one hl
    obtain ⟨rfl, rfl⟩ := look_one hl'
    exact absurd rfl hne
  · intro h r b hl hb
    exact .inr (.inr (Nat.le_of_eq hb.symm))
  · simp only [Den]
    exact ⟨Env.set_same _ _ _, _, _, rfl, fun _ => ⟨_, _, rfl⟩⟩

def appC (n : Nat) (c1 c2 : Nat → Nat → AV) (i o : Nat) : AV :=
  match Nat.blt i n with
  | true => c1 i o
  | false => c2 (i - n) o

theorem appC_lt {n : Nat} {c1 c2 : Nat → Nat → AV} {i o : Nat} (h : i < n) : appC n c1 c2 i o = c1 i o := by
  unfold appC; have : Nat.blt i n = true := by simpa using h
  rw [this]
theorem appC_ge {n : Nat} {c1 c2 : Nat → Nat → AV} {i o : Nat} (h : n ≤ i) : appC n c1 c2 i o = c2 (i - n) o := by
  unfold appC; have : Nat.blt i n = false := by
    cases hb : Nat.blt i n with
    | false => rfl
    | true => have : i < n := by simpa using hb
              omega
  rw [this]

/-- The cells that a slice shows, as one list. -/
theorem reads_list {v : Value} {len esz : Nat} {cell : Nat → Nat → AV} {F : Nat → Prop} {w : World} (h : ReadsAs v len esz cell F w) (hz : 0 < esz) :
    (len = 0 ∧ ∃ p cap, v = .slice p 0 cap) ∨ ∃ (a : Addr) (cap : Nat) (news : List Value), v = .slice (some a) len cap ∧ news.length = len * esz ∧ (∀ (j : Nat) (u : Value), news[j]? = some u → w.cell? (a.add j) = some u) ∧
      ∀ i c, i < len → c < esz → (∃ x, news[i * esz + c]? = some x ∧ Clo (cell i c) x) := by
  obtain ⟨p, cap, rfl, _, h⟩ := h
  rcases h with ⟨rfl, _⟩ | ⟨b, o, arr, e, f, rfl, h4, h5, h6⟩
  · exact .inl ⟨rfl, p, cap, rfl⟩
  · refine .inr ⟨⟨b, o, none⟩, cap, (arr.toList.drop o).take (len * esz), rfl, ?_, ?_, ?_⟩
    · simp only [List.length_take, List.length_drop, Array.length_toList]
      rcases Nat.eq_zero_or_pos len with h0 | h0
      · subst h0; simp
      · obtain ⟨x, hx, _⟩ := h6 (len - 1) (esz - 1) (by omega) (by omega)
        have hlt := getElem?_lt hx
        have : (len - 1) * esz + esz = len * esz := by
          have : len = (len - 1) + 1 := by omega
          rw [this, Nat.add_mul]; simp
        omega
    · intro j u hu
      rw [List.getElem?_take] at hu
      split at hu
      · rw [List.getElem?_drop] at hu
        rw [addr_add, cell_of h5]; simpa using hu
      · cases hu
    · intro i c hi hc
      obtain ⟨x, h7, h8⟩ := h6 i c hi hc
      refine ⟨x, ?_, h8⟩
      have hlt : i * esz + c < len * esz := by
        have : (i + 1) * esz ≤ len * esz := Nat.mul_le_mul_right _ hi
        rw [Nat.add_mul] at this; omega
      rw [List.getElem?_take, if_pos hlt, List.getElem?_drop]
      simpa using h7

/-- Every cell is of an element. -/
theorem split_idx {j n z : Nat} (hz : 0 < z) (h : j < n * z) : j / z < n ∧ j % z < z ∧ j = (j / z) * z + j % z :=
  ⟨(Nat.div_lt_iff_lt_mul hz).2 h, Nat.mod_lt _ hz, by rw [Nat.mul_comm]; exact (Nat.div_add_mod j z).symm⟩

/-- What becomes of an owned slice behind an append. -/
theorem append_sat {P : Program} {w : World} {t e sz m n : Nat} {c1 c2 : Nat → Nat → AV} {v1 v2 : Value} {F1 F2 : Nat → Prop} {i : TypeInfo} {z : Value} {ty : TypeId}
    (ht : P.underlying t = some (.slice e)) (hi : P.info? e = some i) (hz : i.zero = some z) (hsize : i.size = sz) (hzs : z.cells.size = sz) (hsz : 0 < sz)
    (h1 : OwnSat e n sz c1 v1 F1 w) (h2 : ReadsAs v2 m sz c2 F2 w) (hb : (n + m) * i.bytes ≤ 140737488355328) (hm : n + m ≤ maxLen) :
    ∃ v' w', (Builtin.append_ #[t, t] ty #[v1, v2]).run P w = .ok v' w' ∧ OwnSat e (n + m) sz (appC n c1 c2) v' (fun b => v'.ownBlock = some b) w' ∧
      FrameW F1 w w' ∧ (∀ b, v'.ownBlock = some b → F1 b ∨ w.heap.size ≤ b) := by
  obtain ⟨xs, hown, hF, hc⟩ := h1
  have same : ∀ {v' : Value} {w' : World} {ys : List Value}, w'.ownsRow 0 e sz v' (n + m) (xs ++ ys) → (∀ i c, i < m → c < sz → ∃ x, ys[i * sz + c]? = some x ∧ Clo (c2 i c) x) →
      OwnSat e (n + m) sz (appC n c1 c2) v' (fun b => v'.ownBlock = some b) w' := by
    intro v' w' ys ho hy
    refine ⟨xs ++ ys, ho, fun b => Iff.rfl, ?_⟩
    intro i c hi hcc
    have hxl := hown.1
    by_cases hin : i < n
    · obtain ⟨x, g1, g2⟩ := hc i c hin hcc
      refine ⟨x, ?_, by rw [appC_lt hin]; exact g2⟩
      have hlt : i * sz + c < xs.length := by
        rcases Nat.lt_or_ge (i * sz + c) xs.length with h | h
        · exact h
        · rw [List.getElem?_eq_none h] at g1; cases g1
      rw [List.getElem?_append_left hlt]; exact g1
    · obtain ⟨x, g1, g2⟩ := hy (i - n) c (by omega) hcc
      refine ⟨x, ?_, by rw [appC_ge (by omega)]; exact g2⟩
      have he : i * sz + c = xs.length + ((i - n) * sz + c) := by
        rw [hxl]
        have : i = n + (i - n) := by omega
        rw [← Nat.add_assoc, ← Nat.add_mul, ← this]
      rw [he, List.getElem?_append_right (by omega)]
      simpa using g1
  -- nothing to append
  have none0 : ∀ {p : Option Addr} {cap : Nat}, m = 0 → p = none → v2 = .slice p 0 cap → ∃ v' w', (Builtin.append_ #[t, t] ty #[v1, v2]).run P w = .ok v' w' ∧ OwnSat e (n + m) sz (appC n c1 c2) v' (fun b => v'.ownBlock = some b) w' ∧
      FrameW F1 w w' ∧ (∀ b, v'.ownBlock = some b → F1 b ∨ w.heap.size ≤ b) := by
    rintro p cap rfl rfl rfl
    refine ⟨v1, w, ?_, same (ys := []) (by simpa using hown) (by intro i c h; omega), FrameW.refl _ _, fun b hb => .inl ((hF b).2 hb)⟩
    rcases hown.2 with ⟨rfl, rfl⟩ | ⟨g, cp, cur, rfl, _, _, hnc, _⟩
    · simp [Builtin.append_, run_underlying ht, sizeOf, typeInfo, hi, Builtin.lenOf, Builtin.firstCells]
    · simp [Builtin.append_, run_underlying ht, sizeOf, typeInfo, hi, Builtin.lenOf, Builtin.firstCells, hnc, storeCells]
  have some1 : ∀ {a : Addr} {cap : Nat} {news : List Value}, v2 = .slice (some a) m cap → news.length = m * sz → (∀ (j : Nat) (u : Value), news[j]? = some u → w.cell? (a.add j) = some u) →
      (∀ i c, i < m → c < sz → ∃ x, news[i * sz + c]? = some x ∧ Clo (c2 i c) x) → ∃ v' w', (Builtin.append_ #[t, t] ty #[v1, v2]).run P w = .ok v' w' ∧ OwnSat e (n + m) sz (appC n c1 c2) v' (fun b => v'.ownBlock = some b) w' ∧
      FrameW F1 w w' ∧ (∀ b, v'.ownBlock = some b → F1 b ∨ w.heap.size ≤ b) := by
    rintro a cap news rfl hl hnews hcl
    have h1c : ∀ u ∈ news, u.oneCell' = true := by
      intro u hu
      obtain ⟨j, hj⟩ := List.getElem?_of_mem hu
      have hlt : j < m * sz := by
        rw [← hl]
        rcases Nat.lt_or_ge j news.length with h | h
        · exact h
        · rw [List.getElem?_eq_none h] at hj; cases hj
      obtain ⟨q1, q2, q3⟩ := split_idx hsz hlt
      obtain ⟨x, g1, g2⟩ := hcl (j / sz) (j % sz) q1 q2
      rw [← q3, hj] at g1
      cases g1; exact g2.1
    obtain ⟨v', w', hr, ho, hg, _⟩ := run_append_own (P := P) (w := w) 0 t ty e i z sz i.bytes ht hi hz hsize rfl hzs hsz v1 n xs hown a m cap news hl hnews h1c hm hb (Nat.zero_le _)
    refine ⟨v', w', hr, same ho hcl, ⟨hg.os, hg.tape, hg.output, hg.size, ?_⟩, ?_⟩
    · intro k hk hx
      exact hg.block k hk (fun e' => hx ((hF k).2 e'.symm))
    · -- where it lies now
      have hmax : ((n + m : Nat) : Int) ≤ 9223372036854775807 := by unfold maxLen at hm; omega
      intro k hk
      subst hsize
      rcases hown.2 with ⟨rfl, rfl⟩ | ⟨g, cp, cur, rfl, hbg, hgc, hnc, hcm, hcs, htake⟩
      · by_cases hm0 : m = 0
        · subst hm0
          have hn : news = [] := List.eq_nil_of_length_eq_zero (by simpa using hl)
          subst hn
          have hr2 : (Builtin.append_ #[t, t] ty #[.slice none 0 0, .slice (some a) 0 cap]).run P w = .ok (.slice none 0 0) w := by
            simp [Builtin.append_, run_underlying ht, sizeOf, typeInfo, hi, Builtin.lenOf, Builtin.firstCells, loadCells, loadCellsFrom]
          rw [hr2] at hr; cases hr
          simp [Value.ownBlock] at hk
        · have hr2 := run_append_nil (P := P) w t ty e i z ht hi hz a m cap news hl hnews (by omega) (by omega) (by simp only [Nat.zero_add] at hb; omega)
          rw [hr2] at hr; cases hr
          simp only [Value.ownBlock, Option.some.injEq] at hk
          exact .inr (by omega)
      · by_cases hroom : n + m ≤ cp
        · have hfit : n * i.size + news.length ≤ cur.size := by rw [hl, hcs, ← Nat.add_mul]; exact Nat.mul_le_mul_right _ hroom
          have hr2 := run_append_room (P := P) w t ty e i ht hi g n cp cur hgc a m cap news hl hnews h1c hroom hfit
          rw [hr2] at hr; cases hr
          exact .inl ((hF k).2 hk)
        · have holds : ∀ j u, xs[j]? = some u → w.cell? ((⟨g, 0, none⟩ : Addr).add j) = some u := hown.cells (g := g) rfl
          have hr2 := run_append_grow (P := P) w t ty e i z ht hi hz ⟨g, 0, none⟩ n cp xs hown.1 holds a m cap news hl hnews (by omega) hmax (growslice_fits (by omega) hb)
          rw [hr2] at hr; cases hr
          simp only [Value.ownBlock, Option.some.injEq] at hk
          exact .inr (by omega)
  rcases reads_list h2 hsz with ⟨rfl, p, cap, rfl⟩ | ⟨a, cap, news, rfl, hl, hnews, hcl⟩
  · cases p with
    | none => exact none0 rfl rfl rfl
    | some a => exact some1 (a := a) (cap := cap) (news := []) rfl (by simp) (by simp) (by intro i c h; omega)
  · exact some1 rfl hl hnews hcl

/-- So many cells a slice may have, for append. -/
def room : Nat := 4398046511104

theorem triple_append {P : Program} {T : Tab} (hT : TabOK P T) {o : Oper} {fr : Fr} {n h h2 l1 l2 t e sz : Nat} {ag : Bool} {z : List AV} {kk : TK} {x y : Operand} {A B : ARes} {j : Option Nat}
    (ho : o.op = .call { callee := .builtin .append, args := #[x, y], argTypes := #[t, t] }) (hx : ev fr x = some (.sl h l1)) (hy : ev fr y = some (.sl h2 l2)) (hk : kindOf T t = .slice e) (hr : T e = some ⟨ag, sz, z, kk⟩)
    (hA : A.tag = some (some e)) (hB : B.tag = some j) (hz1 : A.esz = sz) (hz2 : B.esz = sz) (hz0 : 0 < sz) (hzl : z.length = sz) (hne : h ≠ h2) (hroom : (A.len + B.len) * sz ≤ room) :
    Triple P o fr [(h2, .abs B)] [(h, .abs A)] n (n + 1) (.sl n (A.len + B.len)) [(h, .gone), (n, .abs (lst (some e) (A.len + B.len) sz (appC A.len A.cell B.cell)))] := by
  intro env F a w next Q hn hs hfresh hkk
  have hn' := hfresh n (Nat.le_refl _) (by omega)
  have hd1 := ev_den hn (by rw [ho]; simp [Op.operands, Call.operands]) hx
  have hd2 := ev_den hn (by rw [ho]; simp [Op.operands, Call.operands]) hy
  simp only [Den] at hd1 hd2
  obtain ⟨e1, _⟩ := hd1
  obtain ⟨e2, _⟩ := hd2
  have lA : look ([(h, Res.abs A)] ++ [(h2, Res.abs B)]) h = some (.abs A) := by simp [lookN, lookC, Nat.beq_refl]
  have lB : look ([(h, Res.abs A)] ++ [(h2, Res.abs B)]) h2 = some (.abs B) := by
    rw [look_append, look_cons, if_neg hne]; simp [lookN, lookC, Nat.beq_refl]
  obtain ⟨v1, hv1, s1⟩ := hs.sat lA
  obtain ⟨v2, hv2, s2⟩ := hs.sat lB
  rw [e1] at hv1; cases hv1
  rw [e2] at hv2; cases hv2
  have o1 := (A.own e hA).2.1 s1
  have r2 := B.reads j hB s2
  rw [hz1] at o1; rw [hz2] at r2
  obtain ⟨d, hu, h5⟩ := kindOf_ok hT hk (by simp)
  simp only [KindOK] at h5; subst h5
  obtain ⟨⟨i, zv, g1, g2, g3, g4, g5, g6⟩, _⟩ := hT e _ hr
  simp only at g2 g5
  have hzs : zv.cells.size = sz := by
    have := (g5 env).length
    rw [hzl] at this; simpa using this.symm
  have hb : (A.len + B.len) * i.bytes ≤ 140737488355328 := by
    have : (A.len + B.len) * i.bytes ≤ (A.len + B.len) * (32 * sz) := Nat.mul_le_mul_left _ (by rw [← g2]; exact g6)
    have h32 : (A.len + B.len) * (32 * sz) = 32 * ((A.len + B.len) * sz) := by rw [Nat.mul_left_comm]
    unfold room at hroom; omega
  have hm : A.len + B.len ≤ maxLen := by
    have : A.len + B.len ≤ (A.len + B.len) * sz := Nat.le_mul_of_pos_right _ hz0
    unfold room at hroom; unfold maxLen; omega
  obtain ⟨v', w', hrun, hsat, hfr, hown⟩ := append_sat (P := P) (ty := o.type) hu g1 g3 g2 hzs hz0 o1 r2 hb hm
  have hv' : ∃ p cap, v' = .slice p (A.len + B.len) cap ∧ (0 < A.len + B.len → ∃ b o, p = some ⟨b, o, none⟩) := by
    obtain ⟨p, cap, q1, _, q2⟩ := own_reads hsat
    refine ⟨p, cap, q1, fun hpos => ?_⟩
    rcases q2 with ⟨q2, _⟩ | ⟨b, o', _, _, _, q3, _⟩
    · omega
    · exact ⟨b, o', q3⟩
  unfold Oper.wp
  have hex : (execOp a.eval o).run P w = .ok (.value v') w' := by
    simp only [execOp, ho, resolve, invoke, builtin, Sem.run_bind, Sem.run_pure, Result.andThen_ok]
    simp only [List.map_toArray, List.map_cons, List.map_nil]
    rw [hrun]; rfl
  rw [hex]
  refine hkk (env.set n v') (fun k b => k = n ∧ v'.ownBlock = some b) v' w' ⟨Env.le_set hn', ?_, ⟨?_, ?_⟩, ?_, ?_⟩ ?_
  · intro k hk2; unfold Env.set; rw [if_neg (by omega)]
  · intro k r hl
    rw [look_cons] at hl
    split at hl
    · rename_i ek; subst ek; cases hl
      have hkn : h ≠ n := by rintro rfl; rw [hn'] at e1; cases e1
      exact ⟨_, Env.le_set hn' _ _ e1, fun b hb => hkn hb.1⟩
    · obtain ⟨rfl, rfl⟩ := look_one hl
      refine ⟨v', Env.set_same _ _ _, ?_⟩
      have : (fun b => k = k ∧ v'.ownBlock = some b) = fun b => v'.ownBlock = some b := by funext b; simp
      show OwnSat e (A.len + B.len) sz (appC A.len A.cell B.cell) v' (fun b => k = k ∧ v'.ownBlock = some b) w'
      rw [this]; exact hsat
  · intro k r k' r' hl hl' hne' _ b hb hb'
    exact hne' (hb.1.trans hb'.1.symm)
  · intro k r b hl hb
    rcases hown b hb.2 with q | q
    · exact .inl ⟨h, .abs A, by simp [lookN, lookC, Nat.beq_refl], q, fun _ => by simp [Res.excl, (A.own e hA).1]⟩
    · exact .inr (.inr q)
  · refine hfr.mono ?_
    intro b hb
    exact ⟨h, .abs A, by simp [lookN, lookC, Nat.beq_refl], by simp [Res.excl, (A.own e hA).1], hb⟩
  · simp only [Den]
    exact ⟨Env.set_same _ _ _, hv'⟩

/-- append to nil. -/
theorem triple_append_nil {P : Program} {T : Tab} (hT : TabOK P T) {o : Oper} {fr : Fr} {n h2 l2 t e sz : Nat} {ag : Bool} {z : List AV} {kk : TK} {x y : Operand} {B : ARes} {j : Option Nat}
    (ho : o.op = .call { callee := .builtin .append, args := #[x, y], argTypes := #[t, t] }) (hx : ev fr x = some .nils) (hy : ev fr y = some (.sl h2 l2)) (hk : kindOf T t = .slice e) (hr : T e = some ⟨ag, sz, z, kk⟩)
    (hB : B.tag = some j) (hz2 : B.esz = sz) (hz0 : 0 < sz) (hzl : z.length = sz) (hroom : B.len * sz ≤ room) :
    Triple P o fr [(h2, .abs B)] [] n (n + 1) (.sl n B.len) [(n, .abs (lst (some e) B.len sz B.cell))] := by
  intro env F a w next Q hn hs hfresh hkk
  have hn' := hfresh n (Nat.le_refl _) (by omega)
  have hd1 := ev_den hn (by rw [ho]; simp [Op.operands, Call.operands]) hx
  have hd2 := ev_den hn (by rw [ho]; simp [Op.operands, Call.operands]) hy
  simp only [Den] at hd1 hd2
  obtain ⟨e2, _⟩ := hd2
  obtain ⟨v2, hv2, s2⟩ := hs.sat (h := h2) (r := .abs B) (by simp [lookN, lookC, Nat.beq_refl])
  rw [e2] at hv2; cases hv2
  have r2 := B.reads j hB s2
  rw [hz2] at r2
  obtain ⟨d, hu, h5⟩ := kindOf_ok hT hk (by simp)
  simp only [KindOK] at h5; subst h5
  obtain ⟨⟨i, zv, g1, g2, g3, g4, g5, g6⟩, _⟩ := hT e _ hr
  simp only at g2 g5
  have hzs : zv.cells.size = sz := by
    have := (g5 env).length
    rw [hzl] at this; simpa using this.symm
  have hb : (0 + B.len) * i.bytes ≤ 140737488355328 := by
    have : B.len * i.bytes ≤ B.len * (32 * sz) := Nat.mul_le_mul_left _ (by rw [← g2]; exact g6)
    have h32 : B.len * (32 * sz) = 32 * (B.len * sz) := by rw [Nat.mul_left_comm]
    unfold room at hroom; rw [Nat.zero_add]; omega
  have hm : 0 + B.len ≤ maxLen := by
    have : B.len ≤ B.len * sz := Nat.le_mul_of_pos_right _ hz0
    unfold room at hroom; unfold maxLen; omega
  have o1 : OwnSat e 0 sz (fun _ _ => .nilp) (.slice none 0 0) (fun _ => False) w :=
    ⟨[], World.ownsRow_nil w 0 e sz, fun b => by simp [Value.ownBlock], by intro i c h; omega⟩
  obtain ⟨v', w', hrun, hsat, hfr, hown⟩ := append_sat (P := P) (ty := o.type) hu g1 g3 g2 hzs hz0 o1 r2 hb hm
  rw [Nat.zero_add] at hsat
  have hsat2 : OwnSat e B.len sz B.cell v' (fun b => v'.ownBlock = some b) w' := by
    obtain ⟨xs, q1, q2, q3⟩ := hsat
    exact ⟨xs, q1, q2, fun i c hi hc => by have := q3 i c hi hc; rwa [appC_ge (Nat.zero_le _), Nat.sub_zero] at this⟩
  have hv' : ∃ p cap, v' = .slice p B.len cap ∧ (0 < B.len → ∃ b o, p = some ⟨b, o, none⟩) := by
    obtain ⟨p, cap, q1, _, q2⟩ := own_reads hsat2
    refine ⟨p, cap, q1, fun hpos => ?_⟩
    rcases q2 with ⟨q2, _⟩ | ⟨b, o', _, _, _, q3, _⟩
    · omega
    · exact ⟨b, o', q3⟩
  unfold Oper.wp
  have hex : (execOp a.eval o).run P w = .ok (.value v') w' := by
    simp only [execOp, ho, resolve, invoke, builtin, Sem.run_bind, Sem.run_pure, Result.andThen_ok]
    simp only [List.map_toArray, List.map_cons, List.map_nil, hd1]
    rw [hrun]; rfl
  rw [hex]
  refine hkk (env.set n v') (fun k b => k = n ∧ v'.ownBlock = some b) v' w' ⟨Env.le_set hn', ?_, ⟨?_, ?_⟩, ?_, ?_⟩ ?_
  · intro k hk2; unfold Env.set; rw [if_neg (by omega)]
  · intro k r hl
    obtain ⟨rfl, rfl⟩ := look_one hl
    refine ⟨v', Env.set_same _ _ _, ?_⟩
    have : (fun b => k = k ∧ v'.ownBlock = some b) = fun b => v'.ownBlock = some b := by funext b; simp
    show OwnSat e B.len sz B.cell v' (fun b => k = k ∧ v'.ownBlock = some b) w'
    rw [this]; exact hsat2
  · intro k r k' r' hl hl' hne' _ b hb hb'
    exact hne' (hb.1.trans hb'.1.symm)
  · intro k r b hl hb
    rcases hown b hb.2 with q | q
    · exact q.elim
    · exact .inr (.inr q)
  · exact hfr.mono (fun b hb => hb.elim)
  · simp only [Den]
    exact ⟨Env.set_same _ _ _, hv'⟩

def subC (lo : Nat) (c : Nat → Nat → AV) (i o : Nat) : AV := c (lo + i) o

theorem slice_sat {P : Program} {w : World} {t e sz len lo hi : Nat} {c : Nat → Nat → AV} {v : Value} {F : Nat → Prop} {lv hv : Option Value} {i : TypeInfo} {kl kh : IntKind}
    (ht : P.underlying t = some (.slice e)) (hi' : P.info? e = some i) (hsize : i.size = sz) (h : ReadsAs v len sz c F w) (h1 : lo ≤ hi) (h2 : hi ≤ len)
    (hl : (lv = none ∧ lo = 0) ∨ lv = some (.int kl lo)) (hh : (hv = none ∧ hi = len) ∨ hv = some (.int kh hi)) :
    ∃ v', (Instr.sliceAt t v lv hv none).run P w = .ok v' w ∧ ∃ F', ReadsAs v' (hi - lo) sz (subC lo c) F' w ∧ ∀ b, F' b → F b := by
  obtain ⟨p, cap, rfl, hle, h⟩ := h
  have hbounds : (Instr.sliceBounds true len cap lv hv none).run P w = .ok (lo, hi, cap) w := by
    have a2 : hi ≤ cap := by omega
    rcases hl with ⟨rfl, rfl⟩ | rfl <;> rcases hh with ⟨rfl, rfl⟩ | rfl <;> simp [Instr.sliceBounds, Instr.sliceBound, asIntOf, a2, h1]
  refine ⟨.slice (if cap = lo then p else p.map (·.add (lo * sz))) (hi - lo) (cap - lo), ?_, ?_⟩
  · simp [Instr.sliceAt, Instr.slice, run_underlying ht, hbounds, sizeOf, typeInfo, hi', hsize]
  · by_cases h0 : hi - lo = 0
    · exact ⟨fun _ => False, ⟨_, _, rfl, by omega, .inl ⟨h0, fun _ h => h⟩⟩, fun _ h => h.elim⟩
    · rcases h with ⟨hz, _⟩ | ⟨b, o, arr, e', f, rfl, h4, h5, h6⟩
      · omega
      · refine ⟨F, ⟨_, _, rfl, by omega, .inr ⟨b, o + lo * sz, arr, e', f, ?_, h4, h5, ?_⟩⟩, fun _ h => h⟩
        · rw [if_neg (by omega)]; simp [addr_add]
        · intro j k hj hk
          obtain ⟨x, g1, g2⟩ := h6 (lo + j) k (by omega) hk
          refine ⟨x, ?_, g2⟩
          rw [← g1]; congr 1
          rw [Nat.add_mul]; omega

/-- A proposition that is decided. -/
structure DP where
  p : Prop
  d : Decidable p

/-- The bounds of a slice expression. -/
def sliceB (len : Nat) (lo hi : Option AV) : Option (DP × Nat × Nat) :=
  match lo, hi with
  | none, none => some (⟨True, inferInstance⟩, 0, len)
  | some (.int _ l), none => some (⟨0 ≤ l ∧ l ≤ len, inferInstance⟩, l.toNat, len)
  | none, some (.int _ h) => some (⟨0 ≤ h ∧ h ≤ len, inferInstance⟩, 0, h.toNat)
  | some (.int _ l), some (.int _ h) => some (⟨0 ≤ l ∧ l ≤ h ∧ h ≤ len, inferInstance⟩, l.toNat, h.toNat)
  | _, _ => none

theorem sliceB_ok {len : Nat} {l h : Option AV} {p : DP} {lo hi : Nat} {env : Env} {lv hv : Option Value} (hb : sliceB len l h = some (p, lo, hi)) (hp : p.p)
    (hl : ∀ x, l = some x → ∃ y, lv = some y ∧ Den env x y) (hln : l = none → lv = none) (hh : ∀ x, h = some x → ∃ y, hv = some y ∧ Den env x y) (hhn : h = none → hv = none) :
    lo ≤ hi ∧ hi ≤ len ∧ (∃ kl, (lv = none ∧ lo = 0) ∨ lv = some (.int kl lo)) ∧ (∃ kh, (hv = none ∧ hi = len) ∨ hv = some (.int kh hi)) := by
  unfold sliceB at hb
  split at hb
  · simp only [Option.some.injEq, Prod.mk.injEq] at hb
    obtain ⟨rfl, rfl, rfl⟩ := hb
    exact ⟨Nat.zero_le _, Nat.le_refl _, ⟨.i64, .inl ⟨hln rfl, rfl⟩⟩, ⟨.i64, .inl ⟨hhn rfl, rfl⟩⟩⟩
  · rename_i k n
    simp only [Option.some.injEq, Prod.mk.injEq] at hb
    obtain ⟨rfl, rfl, rfl⟩ := hb
    obtain ⟨y, rfl, hd⟩ := hl _ rfl
    simp only [Den] at hd; subst hd
    exact ⟨by omega, Nat.le_refl _, ⟨k, .inr (by rw [show ((n.toNat : Nat) : Int) = n by omega])⟩, ⟨.i64, .inl ⟨hhn rfl, rfl⟩⟩⟩
  · rename_i k n
    simp only [Option.some.injEq, Prod.mk.injEq] at hb
    obtain ⟨rfl, rfl, rfl⟩ := hb
    obtain ⟨y, rfl, hd⟩ := hh _ rfl
    simp only [Den] at hd; subst hd
    exact ⟨by omega, by omega, ⟨.i64, .inl ⟨hln rfl, rfl⟩⟩, ⟨k, .inr (by rw [show ((n.toNat : Nat) : Int) = n by omega])⟩⟩
  · rename_i k n k' m
    simp only [Option.some.injEq, Prod.mk.injEq] at hb
    obtain ⟨rfl, rfl, rfl⟩ := hb
    obtain ⟨y, rfl, hd⟩ := hl _ rfl
    obtain ⟨y', rfl, hd'⟩ := hh _ rfl
    simp only [Den] at hd hd'; subst hd; subst hd'
    exact ⟨by omega, by omega, ⟨k, .inr (by rw [show ((n.toNat : Nat) : Int) = n by omega])⟩, ⟨k', .inr (by rw [show ((m.toNat : Nat) : Int) = m by omega])⟩⟩
  · cases hb

theorem triple_slice {P : Program} {T : Tab} (hT : TabOK P T) {o : Oper} {fr : Fr} {n h len t e lo hi : Nat} {ag : Bool} {z : List AV} {kk : TK} {x : Operand} {lx hx : Option Operand} {l u : Option AV} {A : ARes} {p : DP}
    (ho : o.op = .slice t x lx hx none) (hxv : ev fr x = some (.sl h len)) (hl : evo fr lx = some l) (hu : evo fr hx = some u) (hk : kindOf T t = .slice e) (hr : T e = some ⟨ag, A.esz, z, kk⟩)
    (hA : A.tag = some none) (hb : sliceB A.len l u = some (p, lo, hi)) (hp : p.p) :
    Triple P o fr [(h, .abs A)] [] n (n + 1) (.sl n (hi - lo)) [(n, .abs (lst none (hi - lo) A.esz (subC lo A.cell)))] := by
  intro env F a w next Q hn hs hfresh hkk
  have hn' := hfresh n (Nat.le_refl _) (by omega)
  have hd1 := ev_den hn (by rw [ho]; simp [Op.operands]) hxv
  simp only [Den] at hd1
  obtain ⟨e1, _⟩ := hd1
  obtain ⟨v1, hv1, s1⟩ := hs.sat (h := h) (r := .abs A) (by simp [lookN, lookC, Nat.beq_refl])
  rw [e1] at hv1; cases hv1
  obtain ⟨hro, hsat⟩ := A.read hA
  have r1 := hsat.1 s1
  obtain ⟨d, hut, h5⟩ := kindOf_ok hT hk (by simp)
  simp only [KindOK] at h5; subst h5
  obtain ⟨⟨i, zv, g1, g2, _⟩, _⟩ := hT e _ hr
  have k1 := evo_den hn (by intro y hy; subst hy; rw [ho]; simp [Op.operands]) hl
  have k2 := evo_den hn (by intro y hy; subst hy; rw [ho]; simp [Op.operands]) hu
  obtain ⟨b1, b2, ⟨kl, b3⟩, ⟨kh, b4⟩⟩ := sliceB_ok hb hp k1.1 k1.2 k2.1 k2.2
  obtain ⟨v', hrun, F', hread, hsub⟩ := slice_sat (P := P) hut g1 g2 r1 b1 b2 b3 b4
  have hv' : ∃ p cap, v' = .slice p (hi - lo) cap ∧ (0 < hi - lo → ∃ b o, p = some ⟨b, o, none⟩) := by
    obtain ⟨p, cap, q1, _, q2⟩ := hread
    refine ⟨p, cap, q1, fun hpos => ?_⟩
    rcases q2 with ⟨q2, _⟩ | ⟨b, o', _, _, _, q3, _⟩
    · omega
    · exact ⟨b, o', q3⟩
  unfold Oper.wp
  have hex : (execOp a.eval o).run P w = .ok (.value v') w := by
    simp only [execOp, ho, Sem.run_bind, Option.map_none]
    rw [hrun]; rfl
  rw [hex]
  refine hkk (env.set n v') (fun _ b => F' b) v' w ⟨Env.le_set hn', ?_, ⟨?_, ?_⟩, ?_, FrameW.refl _ _⟩ ?_
  · intro k hk2; unfold Env.set; rw [if_neg (by omega)]
  · intro k r hl
    obtain ⟨rfl, rfl⟩ := look_one hl
    exact ⟨v', Env.set_same _ _ _, hread⟩
  · intro k r k' r' hl hl' hne'
    obtain ⟨rfl, rfl⟩ := look_one hl
    obtain ⟨rfl, rfl⟩ := look_one hl'
    exact absurd rfl hne'
  · intro k r b hl hbb
    obtain ⟨rfl, rfl⟩ := look_one hl
    exact .inr (.inl ⟨h, .abs A, by simp [lookN, lookC, Nat.beq_refl], hsub b hbb, by simp [Res.excl, hro], by simp [Res.excl, lst]⟩)
  · simp only [Den]
    exact ⟨Env.set_same _ _ _, hv'⟩

end
end Go.SX
