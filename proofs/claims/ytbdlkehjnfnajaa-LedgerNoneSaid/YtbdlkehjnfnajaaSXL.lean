/- SX, part L: a function from its beginning to its end; loops. -/
import Derived.Test.YtbdlkehjnfnajaaSXK
namespace Go.SX

mutual
/-- Its handles are below n. -/
def okA (n : Nat) : AV → Bool
  | .hd h => Nat.blt h n
  | .sl h _ => Nat.blt h n
  | .ptr h _ => Nat.blt h n
  | .el h _ _ _ => Nat.blt h n
  | .slc h _ _ _ => Nat.blt h n
  | .sv h _ _ _ _ => Nat.blt h n
  | .agg l => okL n l
  | .tup l => okL n l
  | .iface _ v => okA n v
  | .fn _ l m => okL n l && okL n m
  | .bool _ => true
  | .int _ _ => true
  | .str _ => true
  | .nilp => true
  | .nils => true
  | .nilm => true
  | .nilf => true
  | .nili => true
  | .raw _ => true
def okL (n : Nat) : List AV → Bool
  | [] => true
  | v :: l => okA n v && okL n l
end

mutual
theorem den_ok {n : Nat} {env env' : Env} (h : ∀ k, k < n → env' k = env k) : ∀ {v : AV} {x : Value}, okA n v = true → Den env v x → Den env' v x
  | .bool _, _, _, hd | .int _ _, _, _, hd | .str _, _, _, hd | .nilp, _, _, hd | .nils, _, _, hd | .nilm, _, _, hd | .nilf, _, _, hd | .nili, _, _, hd | .raw _, _, _, hd => by simpa only [Den] using hd
  | .hd k, _, ho, hd => by simp only [Den] at hd ⊢; rw [h k (by simpa [okA] using ho)]; exact hd
  | .sl k _, _, ho, hd => by simp only [Den] at hd ⊢; rw [h k (by simpa [okA] using ho)]; exact hd
  | .ptr k _, _, ho, hd => by simp only [Den] at hd ⊢; rw [h k (by simpa [okA] using ho)]; exact hd
  | .el k _ _ _, _, ho, hd => by simp only [Den] at hd ⊢; rw [h k (by simpa [okA] using ho)]; exact hd
  | .slc k _ _ _, _, ho, hd => by simp only [Den] at hd ⊢; rw [h k (by simpa [okA] using ho)]; exact hd
  | .sv k _ _ _ _, _, ho, hd => by simp only [Den] at hd ⊢; rw [h k (by simpa [okA] using ho)]; exact hd
  | .agg l, _, ho, hd => by simp only [Den] at hd ⊢; obtain ⟨xs, h1, h2⟩ := hd; exact ⟨xs, h1, dens_ok h (by simpa [okA] using ho) h2⟩
  | .tup l, _, ho, hd => by simp only [Den] at hd ⊢; obtain ⟨xs, h1, h2⟩ := hd; exact ⟨xs, h1, dens_ok h (by simpa [okA] using ho) h2⟩
  | .iface _ v, _, ho, hd => by simp only [Den] at hd ⊢; obtain ⟨xs, h1, h2⟩ := hd; exact ⟨xs, h1, den_ok h (by simpa [okA] using ho) h2⟩
  | .fn _ l m, _, ho, hd => by
    simp only [Den] at hd ⊢; obtain ⟨xs, ys, h1, h2, h3⟩ := hd
    simp only [okA, Bool.and_eq_true] at ho
    exact ⟨xs, ys, h1, dens_ok h ho.1 h2, dens_ok h ho.2 h3⟩
theorem dens_ok {n : Nat} {env env' : Env} (h : ∀ k, k < n → env' k = env k) : ∀ {l : List AV} {xs : List Value}, okL n l = true → Dens env l xs → Dens env' l xs
  | [], _, _, hd => by simpa only [Dens] using hd
  | v :: l, _, ho, hd => by
    simp only [Dens] at hd ⊢
    obtain ⟨y, ys, h1, h2, h3⟩ := hd
    simp only [okL, Bool.and_eq_true] at ho
    exact ⟨y, ys, h1, den_ok h ho.1 h2, dens_ok h ho.2 h3⟩
end

def okM (n : Nat) : List (AV × AV) → Bool
  | [] => true
  | (k, v) :: l => okA n k && (okA n v && okM n l)

theorem denM_ok {n : Nat} {env env' : Env} (h : ∀ k, k < n → env' k = env k) : ∀ {l : List (AV × AV)} {es : List MapEntry}, okM n l = true → DenM env l es → DenM env' l es
  | [], _, _, hd => hd
  | (k, v) :: l, es, ho, hd => by
    simp only [okM, Bool.and_eq_true] at ho
    simp only [DenM] at hd ⊢
    obtain ⟨e, t, h1, h2, h3, h4⟩ := hd
    exact ⟨e, t, h1, den_ok h ho.1 h2, den_ok h ho.2.1 h3, denM_ok h ho.2.2 h4⟩

def okR (n : Nat) : Res → Bool
  | .box _ cs => okL n cs
  | .map es => okM n es
  | .rmap es todo cur it => okM n es && (okM n todo && (okM n cur && Nat.blt it n))
  | .gone => true
  | .abs _ => true
  | .row _ _ cs _ => okL n cs
  | .iter _ => true

theorem sat_ok {n : Nat} {env env' : Env} (h : ∀ k, k < n → env' k = env k) {v : Value} {F : Nat → Prop} {w : World} : ∀ {r : Res}, okR n r = true → r.sat env v F w → r.sat env' v F w
  | .gone, _, hs => hs
  | .box _ _, ho, ⟨b, xs, h1, h2, h3, h4⟩ => ⟨b, xs, h1, h2, h3, dens_ok h ho h4⟩
  | .abs _, _, hs => hs
  | .row .., ho, ⟨b, o, m, C, xs, lo, hi, ys, tl, h1, h2, h3, h4, h5, h6, h7, h8⟩ => ⟨b, o, m, C, xs, lo, hi, ys, tl, h1, h2, h3, h4, h5, h6, dens_ok h ho h7, h8⟩
  | .map _, ho, ⟨b, xs, c, h1, h2, h3, h4, h5⟩ => ⟨b, xs, c, h1, h2, h3, denM_ok h ho h4, h5⟩
  | .rmap _ _ _ it, ho, ⟨b, r, xs, c, s, n, h1, h0, h2, h3, h4, h5, h6, h7, h8, h9, h10⟩ => by
    simp only [okR, Bool.and_eq_true] at ho
    exact ⟨b, r, xs, c, s, n, h1, h0, by rw [h it (by simpa using ho.2.2.2)]; exact h2, h3, h4, h5, denM_ok h ho.1 h6, h7, h8, denM_ok h ho.2.1 h9, denM_ok h ho.2.2.1 h10⟩
  | .iter _, _, hs => hs

def okH (n : Nat) (H : Heap) : Bool := H.all fun p => Nat.blt p.1 n && okR n p.2

theorem look_mem {α : Type} : ∀ {l : List (Nat × α)} {h : Nat} {x : α}, look l h = some x → (h, x) ∈ l
  | [], _, _, hl => by simp [look] at hl
  | (k, v) :: l, h, x, hl => by
    rw [look_cons] at hl
    split at hl
    · rename_i e; subst e; cases hl; exact List.mem_cons_self
    · exact List.mem_cons_of_mem _ (look_mem hl)

theorem okH_look {n : Nat} {H : Heap} (h : okH n H = true) {k : Nat} {r : Res} (hl : look H k = some r) : k < n ∧ okR n r = true := by
  have := List.all_eq_true.1 h _ (look_mem hl)
  simp only [Bool.and_eq_true] at this
  exact ⟨by simpa using this.1, this.2⟩

theorem SatH.ok {n : Nat} {env env' : Env} {H : Heap} {F : Foot} {w : World} (h : ∀ k, k < n → env' k = env k) (ho : okH n H = true) (s : SatH env H F w) : SatH env' H F w := by
  refine ⟨?_, s.apart⟩
  intro k r hl
  obtain ⟨v, hv, hs⟩ := s.sat hl
  obtain ⟨h1, h2⟩ := okH_look ho hl
  exact ⟨v, by rw [h k h1]; exact hv, sat_ok h h2 hs⟩

/-- The parameters, in their slots. -/
def frOf : Nat → List AV → Fr
  | _, [] => []
  | i, v :: l => (i, v) :: frOf (i + 1) l

def frK {α : Type} (A : Ans α) : Nat → List AV → (Fr → α) → α
  | _, [], K => K []
  | i, v :: l, K => frK A (i + 1) l fun fr => A.num i fun i => force A v fun v => K ((i, v) :: fr)

theorem frK_eq {α : Type} {A : Ans α} : ∀ {l : List AV} {i : Nat} {K : Fr → α}, frK A i l K = K (frOf i l)
  | [], _, _ => rfl
  | v :: l, i, K => by simp [frK, frOf, frK_eq, A.num_eq, force_eq]

theorem look_frOf : ∀ {l : List AV} {i t : Nat} {v : AV}, look (frOf i l) t = some v → i ≤ t ∧ l[t - i]? = some v
  | [], _, _, _, h => by simp [frOf, look] at h
  | u :: l, i, t, v, h => by
    simp only [frOf, look_cons] at h
    split at h
    · rename_i e; subst e; cases h; simp
    · obtain ⟨h1, h2⟩ := look_frOf h
      refine ⟨by omega, ?_⟩
      rw [show t - i = (t - (i + 1)) + 1 by omega]; simpa using h2

/-- A result. -/
def resA (T : Tab) (fr : Fr) (H : Heap) : ResultVar → Option AV
  | .tmp t => look fr t
  | .cell a ty => match look fr a, T ty with
    | some (.ptr h off), some ⟨ag, k, _, _⟩ => match look H h with
      | some (.box _ cs) => readA ag k cs off
      | _ => none
    | _, _ => none

def resL (T : Tab) (fr : Fr) (H : Heap) : List ResultVar → Option (List AV)
  | [] => some []
  | x :: l => match resA T fr H x, resL T fr H l with
    | some v, some r => some (v :: r)
    | _, _ => none

def outV : List AV → AV
  | [v] => v
  | l => .tup l

def fs (n : Nat) (σ : List Nat) (h : Nat) : Nat :=
  match Nat.blt h n with
  | true => h
  | false => match nth σ (h - n) with
    | some k => k
    | none => h

/-- What must hold at the end: σ says which handle of the run each new one is. -/
structure Fin (n n' : Nat) (r : AV) (post : Heap) (v : AV) (H : Heap) : Prop where
  ex : ∃ σ : List Nat, σ.length = n' - n ∧ nodupB σ = true ∧ σ.all (fun k => Nat.ble n k) = true ∧ okH n' post = true ∧ okA n' r = true ∧ v = renA (fs n σ) r ∧ HasAll H (fs n σ) post

/-- The end of a walk: σ, and that the value and the heap are as said. -/
theorem Fin.mk' {n n' : Nat} {r : AV} {post : Heap} {v : AV} {H : Heap} (σ : List Nat) (h1 : σ.length = n' - n) (h2 : nodupB σ = true) (h3 : σ.all (fun k => Nat.ble n k) = true) (h4 : okH n' post = true) (h5 : okA n' r = true)
    (hv : v = renA (fs n σ) r) (hh : HasAll H (fs n σ) post) : Fin n n' r post v H := ⟨σ, h1, h2, h3, h4, h5, hv, hh⟩

def endQ {α : Type} (A : Ans α) (T : Tab) (rs : List ResultVar) (K : AV → Heap → Nat → α) (s : St) : α :=
  match s with
  | ⟨fr, H, n, _, [], _, _⟩ => match resL T fr H rs with
    | some l => force A (outV l) fun v => K v H n
    | none => A.bad
  | _ => A.bad

def retQ {α : Type} (A : Ans α) (T : Tab) (rs : List ResultVar) (K : AV → Heap → Nat → α) (e : Exit) (s : St) : α :=
  match e with
  | .normal => endQ A T rs K s
  | .ret => endQ A T rs K s
  | _ => A.bad

/-- A value read out of a box, without an operation. -/
theorem read_box {P : Program} {T : Tab} (hT : TabOK P T) {H : Heap} {F : Foot} {env : Env} {w : World} {h off : Nat} {e t : TypeId} {cs : List AV} {r : TRow} {v : AV} {x : Value}
    (hs : SatH env H F w) (hl : look H h = some (.box e cs)) (hd : Den env (.ptr h off) x) (hr : T t = some r) (hv : readA r.agg r.size cs off = some v) :
    ∃ b, x = .pointer (some ⟨b, off, none⟩) ∧ ∃ y, (loadVar t ⟨b, off, none⟩).run P w = .ok y w ∧ Den env v y := by
  simp only [Den] at hd
  obtain ⟨b, hb, hx⟩ := hd
  refine ⟨b, hx, ?_⟩
  obtain ⟨v1, hv1, b1, xs, e1, e2, e3, e4⟩ := hs.sat hl
  rw [hb] at hv1
  cases hv1
  cases e1
  obtain ⟨ag, sz, z, k⟩ := r
  cases ag with
  | true =>
    simp only [readA] at hv
    split at hv
    · rename_i hle
      cases hv
      have hle := Nat.le_of_ble_eq_true hle
      refine run_loadVar_cells hT hr (cs := (cs.drop off).take sz) (by simp; omega) ?_ (.inl ⟨rfl, rfl⟩)
      intro i u hu
      rw [List.getElem?_take] at hu
      split at hu
      · rw [List.getElem?_drop] at hu
        obtain ⟨y, hy, hyd⟩ := e4.get hu
        exact ⟨y, by rw [cell_of e3]; simpa using hy, hyd⟩
      · cases hu
    · cases hv
  | false =>
    simp only [readA] at hv
    split at hv
    · rename_i hle
      have hle := Nat.eq_of_beq_eq_true hle
      subst hle
      rw [nth_eq] at hv
      refine run_loadVar_cells hT hr (cs := [v]) rfl ?_ (.inr ⟨rfl, rfl⟩)
      intro i u hu
      cases i with
      | zero =>
        simp at hu; subst hu
        obtain ⟨y, hy, hyd⟩ := e4.get hv
        exact ⟨y, by rw [cell_of e3]; simpa using hy, hyd⟩
      | succ i => simp at hu
    · cases hv

def resSem (tmps : Array Value) : ResultVar → Go.Sem Value
  | .tmp t => pure (tmps.getD t undef)
  | .cell c t => do loadVar t (← asAddr (tmps.getD c undef))

theorem results_eq (fn : Func) (tmps : Array Value) : results fn tmps = (do
    let vs ← fn.results.mapM (resSem tmps)
    pure (if h : vs.size = 1 then vs[0] else .tuple vs)) := by
  unfold results
  congr 1

theorem results_ok {P : Program} {T : Tab} (hT : TabOK P T) {fn : Func} {fr : Fr} {H : Heap} {F : Foot} {env : Env} {a : Act} {w : World} {l : List AV}
    (hf : DenF env fr a) (hs : SatH env H F w) (h : resL T fr H fn.results.toList = some l) : ∃ x, (results fn a.tmps).run P w = .ok x w ∧ Den env (outV l) x := by
  have one : ∀ (rv : ResultVar) (v : AV), resA T fr H rv = some v → ∃ x, (resSem a.tmps rv).run P w = .ok x w ∧ Den env v x := by
    intro rv v hv
    cases rv with
    | tmp t =>
      obtain ⟨x, hx, hd⟩ := hf t v hv
      exact ⟨x, by simp [resSem, Array.getD_eq_getD_getElem?, hx], hd⟩
    | cell c t =>
      simp only [resA] at hv
      split at hv
      · rename_i h off ag k z kk hl hr
        split at hv
        · rename_i e cs hlH
          obtain ⟨x, hx, hd⟩ := hf c _ hl
          obtain ⟨b, rfl, y, hy, hyd⟩ := read_box (P := P) hT hs hlH hd hr hv
          exact ⟨y, by simp [resSem, Array.getD_eq_getD_getElem?, hx, asAddr, hy], hyd⟩
        · cases hv
      · cases hv
  have all : ∀ (rs : List ResultVar) (l : List AV), resL T fr H rs = some l → ∃ xs, (rs.mapM (resSem a.tmps)).run P w = .ok xs w ∧ Dens env l xs := by
    intro rs
    induction rs with
    | nil => intro l hl; simp only [resL, Option.some.injEq] at hl; subst hl; exact ⟨[], by simp, by simp [Dens]⟩
    | cons rv rs ih =>
      intro l hl
      simp only [resL] at hl
      split at hl
      · rename_i v r h1 h2
        cases hl
        obtain ⟨x, hx, hd⟩ := one rv v h1
        obtain ⟨xs, hxs, hds⟩ := ih r h2
        refine ⟨x :: xs, ?_, by simp only [Dens]; exact ⟨x, xs, rfl, hd, hds⟩⟩
        rw [List.mapM_cons]
        simp only [Sem.run_bind, hx, Result.andThen_ok, hxs, Sem.run_pure]
      · cases hl
  obtain ⟨xs, hxs, hds⟩ := all _ _ h
  have hm : (fn.results.mapM (resSem a.tmps)).run P w = .ok xs.toArray w := by
    rw [Array.mapM_eq_mapM_toList, Sem.run_map, hxs]; rfl
  have hlen := hds.length
  rw [results_eq]
  simp only [Sem.run_bind, hm, Result.andThen_ok, Sem.run_pure]
  refine ⟨_, rfl, ?_⟩
  match l, xs, hds, hlen with
  | [v], [x], hds, _ =>
    simp only [Dens] at hds
    obtain ⟨y, ys, e1, e2, e3⟩ := hds
    cases e1
    simpa [outV] using e2
  | [], [], hds, _ => simp only [outV]; simp [Den, Dens]
  | v :: v' :: l, x :: x' :: xs, hds, _ =>
    simp only [outV]
    simp only [List.size_toArray, List.length_cons]
    rw [dif_neg (by omega)]
    simp only [Den]
    exact ⟨_, rfl, by simpa using hds⟩

def roB (R : Heap) : Bool := R.all fun p => !p.2.excl

theorem fs_inj {n : Nat} {σ : List Nat} {m : Nat} (hl : σ.length = m - n) (hn : nodupB σ = true) (hge : σ.all (fun k => Nat.ble n k) = true) :
    ∀ a b, a < m → b < m → fs n σ a = fs n σ b → a = b := by
  have hk : ∀ a, n ≤ a → a < m → ∃ k, σ[a - n]? = some k ∧ fs n σ a = k ∧ n ≤ k := by
    intro a h1 h2
    have hlt : a - n < σ.length := by omega
    refine ⟨σ[a - n], List.getElem?_eq_getElem hlt, ?_, ?_⟩
    · unfold fs
      have : Nat.blt a n = false := by
        cases hb : Nat.blt a n with
        | false => rfl
        | true => have : a < n := by simpa using hb
                  omega
      rw [this, nth_eq, List.getElem?_eq_getElem hlt]
    · have := List.all_eq_true.1 hge _ (List.getElem_mem hlt)
      exact Nat.le_of_ble_eq_true this
  have hlo : ∀ a, a < n → fs n σ a = a := by
    intro a h
    unfold fs
    have : Nat.blt a n = true := by simpa using h
    rw [this]
  intro a b ha hb e
  rcases Nat.lt_or_ge a n with h1 | h1 <;> rcases Nat.lt_or_ge b n with h2 | h2
  · rw [hlo a h1, hlo b h2] at e; exact e
  · obtain ⟨k, _, e2, e3⟩ := hk b h2 hb
    rw [hlo a h1, e2] at e; omega
  · obtain ⟨k, _, e2, e3⟩ := hk a h1 ha
    rw [hlo b h2, e2] at e; omega
  · obtain ⟨k, e1, e2, e3⟩ := hk a h1 ha
    obtain ⟨k', e1', e2', e3'⟩ := hk b h2 hb
    rw [e2, e2'] at e; subst e
    have := nodupB_inj hn e1 e1'
    omega

theorem Ctr.intro_sem {P : Program} {T : Tab} (hT : TabOK P T) {f : FuncId} {fn : Func} {c : Code} {args : List AV} {R pre post : Heap} {n n' : Nat} {r : AV}
    (hf : P.funcs[f]? = some fn) (hb : fn.body = some c) (hst : (staticC c && (HasBody P f && Nat.ble n n')) = true) (hlen0 : Nat.ble args.length fn.ntmps = true) (hok : okL n args = true) (hokH : okH n (pre ++ R) = true) (hro : (roB R && domB pre post) = true)
    (h : Sem P c (retQ (Ask P) T fn.results.toList (fun v H _ => Fin n n' r post v H)) ⟨frOf 0 args, pre ++ R, n, fn.ntmps, [], [], n⟩) : Ctr P f args R pre n n' r post := by
  have hlen := Nat.le_of_ble_eq_true hlen0
  simp only [Bool.and_eq_true] at hst hro
  obtain ⟨hst, hbody, hnn⟩ := hst
  have hnn := Nat.le_of_ble_eq_true hnn
  obtain ⟨hro, hdom⟩ := hro
  refine ⟨hbody, hnn, hdom, ?_⟩
  intro env F w xs hargs hs hfresh
  let envI : Env := fun k => if k < n then env k else none
  have hI : ∀ k, k < n → envI k = env k := fun k hk => by simp [envI, hk]
  have hargsI := dens_ok (env' := envI) hI hok hargs
  have hsI := hs.ok (env' := envI) hI hokH
  have hxl := hargs.length
  refine calls_of_wp hf hb ?_
  have hS : SatS envI ⟨frOf 0 args, pre ++ R, n, fn.ntmps, [], [], n⟩ F { tmps := xs ++ Array.replicate (fn.ntmps - xs.size) undef, defers := [] } w := by
    refine ⟨?_, rfl, ?_, hsI, ?_⟩
    · have : xs.size = args.length := by rw [hxl]; simp
      simp; omega
    · intro t v hl
      obtain ⟨_, h2⟩ := look_frOf hl
      obtain ⟨x, hx, hd⟩ := hargsI.get h2
      refine ⟨x, ?_, hd⟩
      simp only [Nat.sub_zero] at hx
      have hlt : t < xs.size := by
        rcases Nat.lt_or_ge t xs.size with h' | h'
        · exact h'
        · rw [List.getElem?_eq_none (by simpa using h')] at hx; cases hx
      rw [Array.getElem?_append_left hlt]; simpa using hx
    · intro k hk; simp only at hk; simp only [envI]; rw [if_neg (by omega)]
  refine h (Owned pre F) (fun b => ∃ h r0, look (pre ++ R) h = some r0 ∧ F h b ∧ ((∃ q, look pre h = some q) ∨ r0.excl = false)) w envI _ envI F _ w (Nat.le_refl _) (fun _ _ => rfl) hS ⟨FrameW.refl _ _, ?_⟩ ?_
  · intro k r0 b h1 h3
    cases he : r0.excl with
    | false => exact .inr (.inr ⟨rfl, k, r0, h1, h3, .inr he⟩)
    | true =>
      have h1' := h1
      rw [look_append] at h1
      cases hq : look pre k with
      | some y => rw [hq] at h1; simp at h1; subst h1; exact .inl ⟨k, y, hq, he, h3⟩
      | none =>
        rw [hq] at h1; simp at h1
        have := List.all_eq_true.1 hro _ (look_mem h1)
        simp only [he, Bool.not_true] at this; cases this
  · intro e s' env' F' a' w' hQ hb' hsz hbn hbase hs' hsi'
    have fin : endQ (Ask P) T fn.results.toList (fun v H _ => Fin n n' r post v H) s' →
        a'.defers = [] ∧ ∃ v, (results fn a'.tmps).run P w' = .ok v w' ∧ ∃ env1 F1 x, Ending.returned v = .returned x ∧ Turn n n' R pre post env F w env1 F1 w' ∧ Den env1 r x := by
      intro hQ
      obtain ⟨fr, H, n2, sz, df, log, b2⟩ := s'
      simp only at hb'
      subst hb'
      cases df with
      | cons d df => exact hQ.elim
      | nil =>
        simp only [endQ] at hQ
        split at hQ
        · rename_i l hl
          rw [force_eq] at hQ
          obtain ⟨σ, q1, q2, q3, q4, q5, q6, q7⟩ := hQ.ex
          obtain ⟨x, hx, hd⟩ := results_ok (P := P) hT hs'.val hs'.heap hl
          refine ⟨hs'.defers, x, hx, ?_⟩
          have hinj := fs_inj q1 q2 q3
          -- the caller's view of the new handles
          let env1 : Env := fun k => if b2 ≤ k ∧ k < n' then env' (fs b2 σ k) else env k
          have h1 : ∀ k, k < n' → env1 k = env' (fs b2 σ k) := by
            intro k hk
            simp only [env1]
            by_cases hkb : b2 ≤ k
            · rw [if_pos ⟨hkb, hk⟩]
            · rw [if_neg (by omega)]
              have : fs b2 σ k = k := by
                unfold fs
                have : Nat.blt k b2 = true := by simpa using hkb
                rw [this]
              rw [this, hbase k (by simp only; omega)]
              exact (hI k (by omega)).symm
          have hlook : ∀ {k : Nat} {r0 : Res}, look post k = some r0 → k < n' ∧ okR n' r0 = true ∧ look H (fs b2 σ k) = some (renR (fs b2 σ) r0) := by
            intro k r0 hl0
            obtain ⟨g1, g2⟩ := okH_look q4 hl0
            exact ⟨g1, g2, q7.sub hl0⟩
          refine ⟨env1, fun k => F' (fs b2 σ k), x, rfl, ⟨?_, ?_, ⟨?_, ?_⟩, ?_, hsi'.frame⟩, ?_⟩
          · intro k v hv
            simp only [env1]
            split
            · rename_i hk; rw [hfresh k hk.1 hk.2] at hv; cases hv
            · exact hv
          · intro k hk; simp only [env1]; rw [if_neg hk]
          · intro k r0 hl0
            obtain ⟨g1, g2, g3⟩ := hlook hl0
            obtain ⟨v, hv, hsat⟩ := hs'.heap.sat g3
            refine ⟨v, by rw [h1 k g1]; exact hv, ?_⟩
            exact sat_ok h1 g2 (sat_ren.1 hsat)
          · intro k r0 k' r1 hl0 hl1 hne he b0
            obtain ⟨g1, g2, g3⟩ := hlook hl0
            obtain ⟨g1', g2', g3'⟩ := hlook hl1
            exact hs'.heap.apart g3 g3' (fun e => hne (hinj _ _ g1 g1' e)) (by rw [excl_ren]; exact he) b0
          · intro k r0 b0 hl0 hb0
            obtain ⟨g1, g2, g3⟩ := hlook hl0
            rcases hsi'.own _ _ b0 g3 hb0 with ⟨k0, q, e1, e2, e3⟩ | hge | ⟨he, k0, q, e1, e2, e3⟩
            · exact .inl ⟨k0, q, e1, e3, fun _ => e2⟩
            · exact .inr (.inr hge)
            · rw [excl_ren] at he
              rw [look_append] at e1
              cases hq : look pre k0 with
              | some y =>
                rw [hq] at e1; simp at e1; subst e1
                exact .inl ⟨k0, y, hq, e2, fun h => by rw [he] at h; cases h⟩
              | none =>
                rw [hq] at e1; simp at e1
                rcases e3 with ⟨y, hy⟩ | e3
                · rw [hq] at hy; cases hy
                · exact .inr (.inl ⟨k0, q, e1, e2, e3, he⟩)
          · refine den_ok h1 q5 ?_
            rw [← den_ren, ← q6]; exact hd
        · exact hQ.elim
    cases e with
    | normal => exact fin hQ
    | ret => exact fin hQ
    | _ => exact hQ.elim

theorem Ctr.intro {P : Program} {T : Tab} (hT : TabOK P T) (hm : P.follows .mixedOrders = true) {f : FuncId} {fn : Func} {c : Code} {args : List AV} {R pre post : Heap} {n n' : Nat} {r : AV}
    (hf : P.funcs[f]? = some fn) (hb : fn.body = some c) (hst : (staticC c && (HasBody P f && Nat.ble n n')) = true) (hlen0 : Nat.ble args.length fn.ntmps = true) (hok : okL n args = true) (hokH : okH n (pre ++ R) = true) (hro : (roB R && domB pre post) = true)
    (h : frK (Ask P) 0 args fun fr => spine (pre ++ R) fun H => vcCode (Ask P) T c (retQ (Ask P) T fn.results.toList (fun v H _ => Fin n n' r post v H)) ⟨fr, H, n, fn.ntmps, [], [], n⟩) : Ctr P f args R pre n n' r post := by
  rw [frK_eq, spine_eq] at h
  have hst' := hst
  simp only [Bool.and_eq_true] at hst'
  exact Ctr.intro_sem hT hf hb hst hlen0 hok hokH hro (vcCode_sound hT hm c h hst'.1)

end Go.SX
