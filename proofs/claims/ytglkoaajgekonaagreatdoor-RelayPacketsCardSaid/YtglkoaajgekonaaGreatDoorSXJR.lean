/- SX, part JR: what lies behind one handle, taken together: contracts that speak of it as a whole. -/
import Derived.Test.YtglkoaajgekonaaGreatDoorSXS
namespace Go.SX
noncomputable section
def exP (H : Heap) : Bool := H.all fun p => p.2.excl
theorem exP_look {H : Heap} (h : exP H = true) {k : Nat} {r : Res} (hl : look H k = some r) : r.excl = true := List.all_eq_true.1 h _ (look_mem hl)
def pk (p : Heap → Prop) : ARes where
 ro := false
 tag := none
 flat := false
 len := 0
 esz := 0
 cell := fun _ _ => .nilp
 sat v F w := ∃ (H : Heap) (env : Env) (Fh : Foot), p H ∧ exP H = true ∧ env 0 = some v ∧ SatH env H Fh w ∧ ∀ b, F b ↔ Owned H Fh b
 stable := by
  rintro v F w w' ⟨H, env, Fh, h1, h2, h3, h4, h5⟩ hag
  refine ⟨H, env, Fh, h1, h2, h3, ⟨fun hl => ?_, h4.apart⟩, h5⟩
  obtain ⟨x, e1, e2⟩ := h4.sat hl
  exact ⟨x, e1, Res.sat_stable (Env.le.refl _) (fun b hb => hag b ((h5 b).2 ⟨_, _, hl, exP_look h2 hl, hb⟩)) e2⟩
 bound := by
  rintro v F w ⟨H, env, Fh, h1, h2, h3, h4, h5⟩ b hb
  obtain ⟨k, r, e1, _, e3⟩ := (h5 b).1 hb
  exact h4.bound e1 e3
 own := by intro e h; cases h
 reads := by intro k h; cases h
 read := by intro h; cases h
 cells := by intro h; cases h
def inn (n h : Nat) : Nat → Nat
 | 0 => h
 | k + 1 => n + k
theorem inn_inj {n h : Nat} (hh : h < n) : ∀ a b, inn n h a = inn n h b → a = b
 | 0, 0, _ => rfl
 | 0, b + 1, e => by simp only [inn] at e; omega
 | a + 1, 0, e => by simp only [inn] at e; omega
 | a + 1, b + 1, e => by simp only [inn] at e; omega
structure Back (q : Heap → Prop) (n n' h : Nat) (r : AV) (outer : Heap) (r2 : AV) (post2 : Heap) : Prop where
 ex : ∃ (Hq : Heap) (σ τ : Nat → Nat) (q0 : Res), q Hq ∧ exP Hq = true ∧ look Hq 0 = some q0 ∧ σ 0 = τ h ∧ (∀ k, k < n → τ k = k) ∧ nodupB ((keysOf Hq).map σ ++ (keysOf outer).map τ) = true ∧ okA n' r = true ∧ okH n' outer = true ∧ r2 = renA τ r ∧ HasAll post2 σ Hq ∧ HasAll post2 τ outer
theorem nodupB_app {l m : List Nat} (h : nodupB (l ++ m) = true) : nodupB l = true ∧ nodupB m = true ∧ ∀ a ∈ l, ∀ b ∈ m, a ≠ b := by
 induction l with
 | nil => exact ⟨rfl, h, fun a ha => by cases ha⟩
 | cons x l ih =>
  simp only [List.cons_append, nodupB, Bool.and_eq_true, Bool.not_eq_true'] at h
  obtain ⟨h1, h2⟩ := h
  obtain ⟨i1, i2, i3⟩ := ih h2
  rw [List.any_append, Bool.or_eq_false_iff] at h1
  refine ⟨by simp only [nodupB, Bool.and_eq_true, Bool.not_eq_true']; exact ⟨h1.1, i1⟩, i2, ?_⟩
  intro a ha b hb e
  rcases List.mem_cons.1 ha with rfl | ha
  ·subst e
   have := List.any_eq_false.1 h1.2 a hb
   simp at this
  ·exact i3 a ha b hb e
theorem back_turn {q : Heap → Prop} {n n' h : Nat} {r : AV} {outer : Heap} {r2 : AV} {post2 : Heap} (hb : Back q n n' h r outer r2 post2) (hh : h < n')
  {N2 N2' : Nat} {R pre pre2 : Heap} {env env2 env2' : Env} {F F2 F2' : Foot} {w w' : World} {x : Value}
  (he : ∀ k, k < n → env2 k = env k) (hN : n ≤ N2) (hfresh : ∀ k, n ≤ k → k < n' → env k = none)
  (hfr : ∀ b, Owned pre2 F2 b → Owned pre F b)
  (hpre : ∀ {k r b}, look pre2 k = some r → F2 k b → ∃ h0 r0, look pre h0 = some r0 ∧ F h0 b ∧ (r.excl = true → r0.excl = true))
  (hFR : ∀ k q, look R k = some q → F2 k = F k)
  (t : Turn N2 N2' R pre2 post2 env2 F2 w env2' F2' w') (hd : Den env2' r2 x) :
  ∃ env' F', Turn n n' R pre ((h, .abs (pk q)) :: outer) env F w env' F' w' ∧ Den env' r x := by
 classical
 obtain ⟨Hq, σ, τ, q0, hq, hex, hq0, hσ, hτ, hnd, hor, hoo, hr2, hA, hB⟩ := hb.ex
 obtain ⟨nd1, nd2, nd3⟩ := nodupB_app hnd
 have key : ∀ {H : Heap} {k : Nat} {r : Res}, look H k = some r → k ∈ keysOf H := fun hl => look_map_dom hl
 have inj1 := nodupB_map nd1
 have inj2 := nodupB_map nd2
 let env' : Env := fun k => if n ≤ k ∧ k < n' then env2' (τ k) else env k
 have henv : ∀ k, k < n' → env' k = env2' (τ k) := by
  intro k hk
  simp only [env']
  by_cases h1 : n ≤ k
  ·rw [if_pos ⟨h1, hk⟩]
  ·rw [if_neg (by omega), hτ k (by omega), t.only k (by omega), he k (by omega)]
 let F' : Foot := fun k => if k = h then fun b => Owned Hq (fun j => F2' (σ j)) b else F2' (τ k)
 have fh : F' h = fun b => Owned Hq (fun j => F2' (σ j)) b := by simp [F']
 have fo : ∀ k, k ≠ h → F' k = F2' (τ k) := fun k hk => by simp [F', hk]
 have satq : SatH (fun j => env2' (σ j)) Hq (fun j => F2' (σ j)) w' := by
  refine ⟨fun {k r} hl => ?_, fun {k r k' r'} hl hl' hne he b h1 h2 => ?_⟩
  ·obtain ⟨v, hv, hs⟩ := t.sat.sat (hA.sub hl)
   exact ⟨v, hv, sat_ren.1 hs⟩
  ·exact t.sat.apart (hA.sub hl) (hA.sub hl') (fun e => hne (inj1 _ (key hl) _ (key hl') e)) (by rw [excl_ren]; exact he) b h1 h2
 have lk : ∀ {k r}, look ((h, Res.abs (pk q)) :: outer) k = some r → (k = h ∧ r = .abs (pk q)) ∨ (k ≠ h ∧ look outer k = some r) := by
  intro k r hl
  rw [look_cons] at hl
  split at hl
  ·rename_i e; cases hl; exact .inl ⟨e.symm, rfl⟩
  ·rename_i e; exact .inr ⟨fun e' => e e'.symm, hl⟩
 have cross : ∀ {j r k r' b}, look Hq j = some r → look outer k = some r' → F2' (σ j) b → F2' (τ k) b → False := by
  intro j r k r' b hl hl' hb1 hb2
  exact t.sat.apart (hA.sub hl) (hB.sub hl') (nd3 _ (List.mem_map_of_mem (key hl)) _ (List.mem_map_of_mem (key hl'))) (by rw [excl_ren]; exact exP_look hex hl) b hb1 hb2
 have up : ∀ {k r b}, look post2 k = some r → F2' k b → ∀ {r' : Res}, r'.excl = r.excl → (∃ h0 r0, look pre h0 = some r0 ∧ F h0 b ∧ (r'.excl = true → r0.excl = true)) ∨
  (∃ h0 r0, look R h0 = some r0 ∧ F h0 b ∧ r0.excl = false ∧ r'.excl = false) ∨ w.heap.size ≤ b := by
  intro k r b hl hb r' hr
  rcases t.owns hl hb with ⟨h0, r0, e1, e2, e3⟩ | ⟨h0, r0, e1, e2, e3, e4⟩ | e
  ·obtain ⟨h1, r1, g1, g2, g3⟩ := hpre e1 e2
   exact .inl ⟨h1, r1, g1, g2, fun hx => g3 (e3 (hr ▸ hx))⟩
  ·exact .inr (.inl ⟨h0, r0, e1, by rw [← hFR h0 r0 e1]; exact e2, e3, hr.trans e4⟩)
  ·exact .inr (.inr e)
 refine ⟨env', F', ⟨?_, ?_, ⟨?_, ?_⟩, ?_, t.frame.mono hfr⟩, ?_⟩
 ·intro k v hv
  simp only [env']
  split
  ·rename_i hk; rw [hfresh k hk.1 hk.2] at hv; cases hv
  ·exact hv
 ·intro k hk; simp only [env']; rw [if_neg hk]
 ·intro k r hl
  rcases lk hl with ⟨rfl, rfl⟩ | ⟨hne, hl⟩
  ·obtain ⟨v, hv, _⟩ := satq.sat hq0
   refine ⟨v, by rw [henv _ hh, ← hσ]; exact hv, ?_⟩
   rw [fh]
   exact ⟨Hq, _, _, hq, hex, hv, satq, fun b => Iff.rfl⟩
  ·obtain ⟨hk, hok⟩ := okH_look hoo hl
   obtain ⟨v, hv, hs⟩ := t.sat.sat (hB.sub hl)
   refine ⟨v, by rw [henv k hk]; exact hv, ?_⟩
   rw [fo k hne]
   exact sat_ok (env := fun j => env2' (τ j)) (fun j hj => henv j hj) hok (sat_ren.1 hs)
 ·intro k r k' r' hl hl' hne he b h1 h2
  rcases lk hl with ⟨g1, g2⟩ | ⟨hk, hl1⟩
  ·subst g1
   rcases lk hl' with ⟨g3, g4⟩ | ⟨hk', hl2⟩
   ·exact hne g3.symm
   ·rw [fh] at h1; rw [fo k' hk'] at h2
    obtain ⟨j, rj, e1, _, e3⟩ := h1
    exact cross e1 hl2 e3 h2
  ·rcases lk hl' with ⟨g3, g4⟩ | ⟨hk', hl2⟩
   ·subst g3
    rw [fh] at h2; rw [fo k hk] at h1
    obtain ⟨j, rj, e1, _, e3⟩ := h2
    exact cross e1 hl1 e3 h1
   ·rw [fo k hk] at h1; rw [fo k' hk'] at h2
    exact t.sat.apart (hB.sub hl1) (hB.sub hl2) (fun e => hne (inj2 _ (key hl1) _ (key hl2) e)) (by rw [excl_ren]; exact he) b h1 h2
 ·intro k r b hl hb
  rcases lk hl with ⟨rfl, rfl⟩ | ⟨hk, hl⟩
  ·rw [fh] at hb
   obtain ⟨j, rj, e1, e2, e3⟩ := hb
   exact up (hA.sub e1) e3 (by rw [excl_ren, e2]; rfl)
  ·rw [fo k hk] at hb
   exact up (hB.sub hl) hb (by rw [excl_ren])
 ·rw [hr2, den_ren] at hd
  exact den_ok (env := fun j => env2' (τ j)) (fun j hj => henv j hj) hor hd
theorem Ctr.fold {P : Program} {f : FuncId} {args : List AV} {R pre post2 outer : Heap} {n n2 n' h : Nat} {r r2 : AV} {q : Heap → Prop} (c : Ctr P f args R pre n n2 r2 post2) (hn : n ≤ n') (hh : h < n')
  (ha : okL n args = true) (hp : okH n (pre ++ R) = true) (_hR : ∀ k x, look R k = some x → look pre k = none)
  (hb : Back q n n' h r outer r2 post2) (hdom : domB pre ((h, .abs (pk q)) :: outer) = true) : Ctr P f args R pre n n' r ((h, .abs (pk q)) :: outer) := by
 obtain ⟨hbody, hnn, _, spec⟩ := c
 refine ⟨hbody, hn, hdom, ?_⟩
 intro env F w xs hx hs hf
 have he : ∀ k, k < n → (fun k => if k < n then env k else none : Env) k = env k := fun k hk => by simp [hk]
 refine (spec (fun k => if k < n then env k else none) F w xs (dens_ok he ha hx) (hs.ok he hp) (fun k h1 _ => by rw [if_neg (by omega)])).mono ?_
 rintro e w' ⟨env', F', x, rfl, t, hd⟩
 obtain ⟨env3, F3, h1, h2⟩ := back_turn hb hh he (Nat.le_refl n) (fun k h1 h2 => hf k h1 h2) (fun b hb => hb) (fun {k r b} e1 e2 => ⟨k, r, e1, e2, id⟩) (fun _ _ _ => rfl) t hd
 exact ⟨env3, F3, x, rfl, h1, h2⟩
theorem Ctr.pack {P : Program} {f : FuncId} {args : List AV} {R rest outer : Heap} {n n' h : Nat} {r : AV} {p q : Heap → Prop} (hbody : HasBody P f = true) (hn : n ≤ n') (hh : h < n)
  (ha : okL n args = true) (hp : okH n (rest ++ R) = true) (hnh : look rest h = none) (hRh : look R h = none) (hR : ∀ k x, look R k = some x → look rest k = none)
  (hdom : domB ((h, .abs (pk p)) :: rest) ((h, .abs (pk q)) :: outer) = true)
  (c : ∀ H, p H → ∃ m n2 r2 post2, okH (m + 1) H = true ∧ Ctr P f args R (renH (inn n h) H ++ rest) (n + m) n2 r2 post2 ∧ Back q n n' h r outer r2 post2) :
  Ctr P f args R ((h, .abs (pk p)) :: rest) n n' r ((h, .abs (pk q)) :: outer) := by
 classical
 refine ⟨hbody, hn, hdom, ?_⟩
 intro env F w xs hx hs hf
 obtain ⟨v, hv, H, envi, Fi, hpH, hex, hvi, hsi, hFi⟩ := hs.sat (h := h) (r := .abs (pk p)) (by simp [lookC, Nat.beq_refl])
 obtain ⟨m, n2, r2, post2, hm, ⟨_, hnn, _, spec⟩, hb⟩ := c H hpH
 have hinj := inn_inj (n := n) hh
 have hrl : ∀ {k r}, look (rest ++ R) k = some r → k < n ∧ k ≠ h ∧ look (((h, Res.abs (pk p)) :: rest) ++ R) k = some r := by
  intro k r hl
  have hkn := (okH_look hp hl).1
  have hkh : k ≠ h := by
   rintro rfl
   rw [look_append, hnh, hRh] at hl; simp at hl
  refine ⟨hkn, hkh, ?_⟩
  rw [List.cons_append, look_cons, if_neg (fun e => hkh e.symm)]; exact hl
 let env2 : Env := fun k => if k < n then env k else if k < n + m then envi (k - n + 1) else none
 have he : ∀ k, k < n → env2 k = env k := fun k hk => by simp [env2, hk]
 have hei : ∀ k, k < m + 1 → env2 (inn n h k) = envi k := by
  intro k hk
  cases k with
  | zero => show env2 h = _; rw [he h hh, hv, hvi]
  | succ k => show env2 (n + k) = _; simp only [env2]; rw [if_neg (by omega), if_pos (by omega)]; congr 1; omega
 let F2 : Foot := fun k => if k = h then Fi 0 else if k < n then F k else Fi (k - n + 1)
 have fi : ∀ k, F2 (inn n h k) = Fi k := by
  intro k
  cases k with
  | zero => simp [F2, inn]
  | succ k =>
   show F2 (n + k) = _
   simp only [F2]
   rw [if_neg (by omega), if_neg (by omega)]; congr 1; omega
 have fo : ∀ k, k < n → k ≠ h → F2 k = F k := fun k h1 h2 => by simp only [F2]; rw [if_neg h2, if_pos h1]
 have lk : ∀ {k r}, look (renH (inn n h) H ++ rest ++ R) k = some r → (∃ j r0, k = inn n h j ∧ look H j = some r0 ∧ r = renR (inn n h) r0) ∨ (look (rest ++ R) k = some r) := by
  intro k r hl
  rw [List.append_assoc, look_append] at hl
  cases hq : look (renH (inn n h) H) k with
  | some y =>
   rw [hq] at hl
   simp only [Option.some_or, Option.some.injEq] at hl
   subst hl
   exact .inl (look_renH_of hinj hq)
  | none => rw [hq] at hl; exact .inr (by simpa using hl)
 have inF : ∀ {j r b}, look H j = some r → Fi j b → F h b := fun hl hb => (hFi _).2 ⟨_, _, hl, exP_look hex hl, hb⟩
 have top : look (((h, Res.abs (pk p)) :: rest) ++ R) h = some (.abs (pk p)) := by simp [lookC, Nat.beq_refl]
 have hs2 : SatH env2 (renH (inn n h) H ++ rest ++ R) F2 w := by
  refine ⟨fun {k r} hl => ?_, fun {k r k' r'} hl hl' hne hx2 b h1 h2 => ?_⟩
  ·rcases lk hl with ⟨j, r0, rfl, e1, rfl⟩ | e
   ·obtain ⟨hj, hok⟩ := okH_look hm e1
    obtain ⟨u, hu, hsu⟩ := hsi.sat e1
    refine ⟨u, by rw [hei j hj]; exact hu, ?_⟩
    rw [fi, sat_ren]
    exact sat_ok (n := m + 1) (env := envi) (env' := fun k => env2 (inn n h k)) (fun i hi => hei i hi) hok hsu
   ·obtain ⟨e1, e2, e3⟩ := hrl e
    obtain ⟨u, hu, hsu⟩ := hs.sat e3
    refine ⟨u, by rw [he k e1]; exact hu, ?_⟩
    rw [fo k e1 e2]
    exact sat_ok (n := n) (env := env) (env' := env2) (fun i hi => he i hi) (okH_look hp e).2 hsu
  ·rcases lk hl with ⟨j, r0, rfl, e1, rfl⟩ | e <;> rcases lk hl' with ⟨j', r0', rfl, e1', rfl⟩ | e'
   ·rw [fi] at h1 h2
    rw [excl_ren] at hx2
    exact hsi.apart e1 e1' (fun e => hne (by rw [e])) hx2 b h1 h2
   ·obtain ⟨g1, g2, g3⟩ := hrl e'
    rw [fi] at h1; rw [fo _ g1 g2] at h2
    exact hs.apart top g3 (fun e => g2 e.symm) rfl b (inF e1 h1) h2
   ·obtain ⟨g1, g2, g3⟩ := hrl e
    rw [fi] at h2; rw [fo _ g1 g2] at h1
    exact hs.apart g3 top g2 hx2 b h1 (inF e1' h2)
   ·obtain ⟨g1, g2, g3⟩ := hrl e
    obtain ⟨g1', g2', g3'⟩ := hrl e'
    rw [fo _ g1 g2] at h1; rw [fo _ g1' g2'] at h2
    exact hs.apart g3 g3' hne hx2 b h1 h2
 refine (spec env2 F2 w xs (dens_ok he ha hx) hs2 (fun k h1 _ => by simp only [env2]; rw [if_neg (by omega), if_neg (by omega)])).mono ?_
 rintro e w' ⟨env', F', x, rfl, t, hd⟩
 have lkp : ∀ {k r}, look (renH (inn n h) H ++ rest) k = some r → (∃ j r0, k = inn n h j ∧ look H j = some r0 ∧ r = renR (inn n h) r0) ∨ (k ≠ h ∧ k < n ∧ look rest k = some r) := by
  intro k r hl
  rw [look_append] at hl
  cases hq : look (renH (inn n h) H) k with
  | some y =>
   rw [hq] at hl
   simp only [Option.some_or, Option.some.injEq] at hl
   subst hl
   exact .inl (look_renH_of hinj hq)
  | none =>
   rw [hq] at hl
   have hl : look rest k = some r := by simpa using hl
   have := hrl (k := k) (r := r) (by rw [look_append, hl]; rfl)
   exact .inr ⟨this.2.1, this.1, hl⟩
 have hrest : ∀ {k r}, k ≠ h → look rest k = some r → look ((h, Res.abs (pk p)) :: rest) k = some r := by
  intro k r h1 h2
  rw [look_cons, if_neg (fun e => h1 e.symm)]; exact h2
 have tp : look ((h, Res.abs (pk p)) :: rest) h = some (.abs (pk p)) := by simp [lookC, Nat.beq_refl]
 obtain ⟨env3, F3, h1, h2⟩ := back_turn (pre := (h, .abs (pk p)) :: rest) hb (by omega) he (by omega) (fun k h1 h2 => hf k h1 h2)
  (by
   rintro b ⟨k, r0, e1, e2, e3⟩
   rcases lkp e1 with ⟨j, r1, rfl, g1, rfl⟩ | ⟨g1, g2, g3⟩
   ·rw [fi] at e3
    exact ⟨h, _, tp, rfl, inF g1 e3⟩
   ·rw [fo _ g2 g1] at e3
    exact ⟨k, r0, hrest g1 g3, e2, e3⟩)
  (fun {k r b} e1 e2 => by
   rcases lkp e1 with ⟨j, r1, rfl, g1, rfl⟩ | ⟨g1, g2, g3⟩
   ·rw [fi] at e2
    exact ⟨h, _, tp, inF g1 e2, fun _ => rfl⟩
   ·rw [fo _ g2 g1] at e2
    exact ⟨k, r, hrest g1 g3, e2, id⟩)
  (fun k q0 hl => by
   have := hrl (k := k) (r := q0) (by rw [look_append, hR k q0 hl, hl]; rfl)
   exact fo k this.1 this.2.1) t hd
 exact ⟨env3, F3, x, rfl, h1, h2⟩
theorem Env.set_other {e : Env} {n k : Nat} {v : Value} (h : k ≠ n) : (e.set n v) k = e k := by unfold Env.set; rw [if_neg h]
theorem Ctr.asLst {P : Program} {g : FuncId} {args : List AV} {R pre post post' : Heap} {n n1 len z k : Nat} {r : AV} {cell : Nat → Nat → AV} (c : Ctr P g args R pre n n1 r post)
  (hread : ∀ env' F' w' x, SatH env' post F' w' → Den env' r x → ∃ F0, ReadsAs x len z cell F0 w' ∧ ∀ b, F0 b → ∃ q, look post k = some q ∧ q.excl = true ∧ F' k b)
  (hp : ∀ j q, look post' j = some q → (q = .gone ∧ ∃ q0, look post j = some q0) ∨ (j ≠ k ∧ look post j = some q)) (hdom : domB pre ((n1, .abs (lst none len z cell)) :: post') = true) :
  Ctr P g args R pre n (n1 + 1) (.sl n1 len) ((n1, .abs (lst none len z cell)) :: post') := by
 classical
 obtain ⟨hb, hn, hd, spec⟩ := c
 refine ⟨hb, by omega, hdom, ?_⟩
 intro env F w xs hden hs hf
 refine (spec env F w xs hden hs fun k h1 h2 => hf k h1 (by omega)).mono ?_
 rintro e1 w' ⟨env', F', x, rfl, t, hx⟩
 obtain ⟨F0, hra, hF0⟩ := hread env' F' w' x t.sat hx
 have hnone : env' n1 = none := by rw [t.only n1 (by omega)]; exact hf n1 hn (by omega)
 have hne : ∀ {j q}, look post j = some q → j ≠ n1 := by
  rintro j q hl rfl
  obtain ⟨v, hv, _⟩ := t.sat.sat hl
  rw [hnone] at hv; cases hv
 have hle : env'.le (env'.set n1 x) := Env.le_set hnone
 let F'' : Foot := fun j => if j = n1 then F0 else if look post' j = some .gone then fun _ => False else F' j
 have fn : F'' n1 = F0 := by simp [F'']
 have fo : ∀ {j q}, look post' j = some q → j ≠ n1 → q ≠ .gone → F'' j = F' j := by
  intro j q h1 h2 h3
  simp only [F'']
  rw [if_neg h2, if_neg (by rw [h1]; intro e; exact h3 (Option.some.inj e))]
 have fg : ∀ {j}, look post' j = some .gone → j ≠ n1 → F'' j = fun _ => False := by
  intro j h1 h2; simp only [F'']; rw [if_neg h2, if_pos h1]
 have lk : ∀ {j q}, look ((n1, Res.abs (lst none len z cell)) :: post') j = some q → (j = n1 ∧ q = .abs (lst none len z cell)) ∨ (j ≠ n1 ∧ look post' j = some q) := by
  intro j q hl
  rw [look_cons] at hl
  split at hl
  ·rename_i e; cases hl; exact .inl ⟨e.symm, rfl⟩
  ·rename_i e; exact .inr ⟨fun e' => e e'.symm, hl⟩
 have old : ∀ {j q}, look post' j = some q → q ≠ .gone → j ≠ k ∧ look post j = some q := by
  intro j q hl hq
  rcases hp j q hl with ⟨h, _⟩ | h
  ·exact absurd h hq
  ·exact h
 refine ⟨env'.set n1 x, F'', x, rfl, ⟨t.le.trans hle, ?_, ⟨?_, ?_⟩, ?_, t.frame⟩, ?_⟩
 ·intro j hj
  rw [Env.set_other (by omega)]
  exact t.only j (by omega)
 ·intro j q hl
  rcases lk hl with ⟨rfl, rfl⟩ | ⟨h1, h2⟩
  ·exact ⟨x, Env.set_same _ _ _, by rw [fn]; exact hra⟩
  ·by_cases hg : q = .gone
   ·subst hg
    have : ∃ q0, look post j = some q0 := by
     rcases hp j _ h2 with ⟨_, h⟩ | ⟨_, h⟩
     ·exact h
     ·exact ⟨_, h⟩
    obtain ⟨q0, h0⟩ := this
    obtain ⟨v, hv, _⟩ := t.sat.sat h0
    exact ⟨v, hle _ _ hv, by rw [fg h2 h1]; exact fun b hb => hb⟩
   ·obtain ⟨_, h3⟩ := old h2 hg
    obtain ⟨v, hv, hsat⟩ := t.sat.sat h3
    refine ⟨v, hle _ _ hv, ?_⟩
    rw [fo h2 h1 hg]
    exact Res.sat_stable hle (fun _ _ => rfl) hsat
 ·intro j q j' q' hl hl' hjj he b h1 h2
  rcases lk hl with ⟨g1, g2⟩ | ⟨h3, h4⟩
  ·subst g2; cases he
  ·by_cases hg : q = .gone
   ·subst hg; rw [fg h4 h3] at h1; exact h1
   ·obtain ⟨hk, h5⟩ := old h4 hg
    rw [fo h4 h3 hg] at h1
    rcases lk hl' with ⟨g1, g2⟩ | ⟨h3', h4'⟩
    ·subst g1
     rw [fn] at h2
     obtain ⟨q0, e1, e2, e3⟩ := hF0 b h2
     exact t.sat.apart h5 e1 hk he b h1 e3
    ·by_cases hg' : q' = .gone
     ·subst hg'; rw [fg h4' h3'] at h2; exact h2
     ·obtain ⟨hk', h5'⟩ := old h4' hg'
      rw [fo h4' h3' hg'] at h2
      exact t.sat.apart h5 h5' hjj he b h1 h2
 ·intro j q b hl hb1
  rcases lk hl with ⟨g1, g2⟩ | ⟨h3, h4⟩
  ·subst g1; subst g2
   rw [fn] at hb1
   obtain ⟨q0, e1, e2, e3⟩ := hF0 b hb1
   rcases t.owns e1 e3 with ⟨h0, r0, a1, a2, a3⟩ | ⟨h0, r0, a1, a2, a3, a4⟩ | a
   ·exact .inl ⟨h0, r0, a1, a2, fun hh => by cases hh⟩
   ·exact .inr (.inl ⟨h0, r0, a1, a2, a3, rfl⟩)
   ·exact .inr (.inr a)
  ·by_cases hg : q = .gone
   ·subst hg; rw [fg h4 h3] at hb1; exact hb1.elim
   ·rw [fo h4 h3 hg] at hb1
    exact t.owns (old h4 hg).2 hb1
 ·simp only [Den]
  refine ⟨Env.set_same _ _ _, ?_⟩
  obtain ⟨p, cap, e1, e2, e3⟩ := hra
  refine ⟨p, cap, e1, fun hlen => ?_⟩
  rcases e3 with ⟨h0, _⟩ | ⟨b, o, arr, e, f, h1, _⟩
  ·omega
  ·exact ⟨b, o, h1⟩
theorem row_reads {env : Env} {H : Heap} {F : Foot} {w : World} {k e z len : Nat} {cs : List AV} {rc c : Option Nat} {x : Value} (hs : SatH env H F w) (hl : look H k = some (.row e z cs rc)) (hx : Den env (.sv k z 0 len c) x) (hb : cs.all bareA = true) (hlen : len * z ≤ cs.length) (_hz : 0 < z) :
  ∃ F0, ReadsAs x len z (fun i j => (cs[i * z + j]?).getD .nilp) F0 w ∧ ∀ b, F0 b → ∃ q, look H k = some q ∧ q.excl = true ∧ F k b := by
 obtain ⟨v0, e0, s0⟩ := hs.sat hl
 obtain ⟨b, o, m, C, ys, lo, hi, us, tl, rw0⟩ := rowAt.1 s0
 obtain ⟨b', o', m', C', p, cc, q1, q2, q3, q4, q5, q6, q7⟩ := den_sv.1 hx
 rw [e0, rw0.val] at q1
 simp only [Option.some.injEq, Value.slice.injEq, Addr.mk.injEq] at q1
 obtain ⟨⟨rfl, rfl, -⟩, rfl, rfl⟩ := q1
 by_cases h0 : len = 0
 ·subst h0
  exact ⟨fun _ => False, ⟨some p, cc, q2, q3, .inl ⟨rfl, fun _ h => h⟩⟩, fun _ h => h.elim⟩
 ·have hpp := q7 (by omega)
  refine ⟨fun j => j = b, ⟨some p, cc, q2, q3, .inr ⟨b, o, ys, e, (lo, hi), by rw [hpp]; simp, fun _ => Iff.rfl, rw0.at_, ?_⟩⟩, ?_⟩
  ·intro i j hi2 hj
   have hij : i * z + j < len * z := by
    have : (i + 1) * z ≤ len * z := Nat.mul_le_mul_right _ (by omega)
    rw [Nat.add_mul] at this; omega
   have hlt : i * z + j < cs.length := by omega
   have hcs : cs[i * z + j]? = some cs[i * z + j] := List.getElem?_eq_getElem hlt
   obtain ⟨y, hy, hyd⟩ := rw0.den.get hcs
   refine ⟨y, ?_, ?_⟩
   ·have hsplit := rw0.split
    have : ys.toList[o + (i * z + j)]? = some y := by
     rw [← List.getElem?_drop, hsplit, List.getElem?_append_left]
     ·exact hy
     ·exact (List.getElem?_eq_some_iff.1 hy).1
    simpa using this
   ·show Clo ((cs[i * z + j]?).getD .nilp) y
    rw [hcs]
    simp only [Option.getD_some]
    have hbare := List.all_eq_true.1 hb _ (List.getElem_mem hlt)
    cases hc : cs[i * z + j] <;> rw [hc] at hbare hyd <;> simp only [bareA] at hbare <;> first | (cases hbare; done) | skip
    all_goals
     simp only [Den] at hyd
     subst hyd
     exact ⟨rfl, fun env => by simp only [Den]⟩
  ·rintro j rfl
   exact ⟨_, hl, rfl, (rw0.foot _).2 rfl⟩
end
end Go.SX
-- SQUEEZED
