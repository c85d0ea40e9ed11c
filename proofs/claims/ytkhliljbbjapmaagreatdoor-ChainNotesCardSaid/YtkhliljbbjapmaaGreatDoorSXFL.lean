/- SX, part FL: a contract whose arguments are handles of cells, at whatever values these cells have. -/
import Derived.Test.YtkhliljbbjapmaaGreatDoorSXBF
namespace Go.SX
noncomputable section

mutual
/-- The values in the handles' places. -/
def instA (vals : List AV) : AV → AV
  | .hd h => match vals[h]? with | some v => v | none => .hd h
  | .agg l => .agg (instL vals l)
  | v => v
def instL (vals : List AV) : List AV → List AV
  | [] => []
  | v :: l => instA vals v :: instL vals l
end

mutual
/-- Handles of cells, texts and numbers alone. -/
def plainA (k : Nat) : AV → Bool
  | .hd h => Nat.blt h k
  | .agg l => plainL k l
  | .bool _ => true
  | .int _ _ => true
  | .str _ => true
  | .nilp => true
  | .nils => true
  | .nilf => true
  | .nili => true
  | _ => false
def plainL (k : Nat) : List AV → Bool
  | [] => true
  | v :: l => plainA k v && plainL k l
end

/-- The value of a bare one. -/
def bareV : AV → Value
  | .bool b => .bool b
  | .int k n => .int k n
  | .str s => .string s
  | _ => .nilIface

theorem bareV_den {v : AV} (h : bareA v = true) {env : Env} {x : Value} (hd : Den env v x) : x = bareV v ∧ leafV x := by
  cases v <;> simp only [bareA] at h <;> first | (cases h) | skip
  all_goals
    simp only [Den] at hd
    subst hd
    exact ⟨rfl, trivial⟩

theorem instE {vals : List AV} (hb : vals.all bareA = true) {env : Env} {h : Nat} {x : Value} (hk : h < vals.length) (hd : Den env (instA vals (.hd h)) x) : vals[h]?.map bareV = some x ∧ leafV x := by
  have he : vals[h]? = some vals[h] := List.getElem?_eq_getElem hk
  simp only [instA, he] at hd
  have hb' := List.all_eq_true.1 hb _ (List.getElem_mem hk)
  obtain ⟨h1, h2⟩ := bareV_den hb' hd
  exact ⟨by rw [he, h1]; rfl, h2⟩

mutual
theorem instA_den {vals : List AV} (hb : vals.all bareA = true) {env : Env} : ∀ {v : AV} {x : Value}, plainA vals.length v = true → Den env (instA vals v) x → Den (fun h => vals[h]?.map bareV) v x
  | .hd h, x, hp, hd => by
    simp only [plainA, Nat.blt_eq] at hp
    simp only [Den]
    exact instE hb hp hd
  | .agg l, x, hp, hd => by
    simp only [instA, Den, plainA] at hd hp ⊢
    obtain ⟨xs, h1, h2⟩ := hd
    exact ⟨xs, h1, instL_den hb hp h2⟩
  | .bool _, _, _, hd | .int _ _, _, _, hd | .str _, _, _, hd | .nilp, _, _, hd | .nils, _, _, hd | .nilf, _, _, hd | .nili, _, _, hd => by simpa only [instA, Den] using hd
  | .nilm, _, hp, _ | .raw _, _, hp, _ | .sl _ _, _, hp, _ | .ptr _ _, _, hp, _ | .el _ _ _ _, _, hp, _ | .slc _ _ _ _, _, hp, _ | .sv _ _ _ _ _, _, hp, _ | .yld _, _, hp, _ | .tup _, _, hp, _ | .iface _ _, _, hp, _ | .fn _ _ _, _, hp, _ => by simp [plainA] at hp
theorem instL_den {vals : List AV} (hb : vals.all bareA = true) {env : Env} : ∀ {l : List AV} {xs : List Value}, plainL vals.length l = true → Dens env (instL vals l) xs → Dens (fun h => vals[h]?.map bareV) l xs
  | [], xs, _, hd => by simpa only [instL, Dens] using hd
  | v :: l, xs, hp, hd => by
    simp only [instL, Dens, plainL, Bool.and_eq_true] at hd hp ⊢
    obtain ⟨y, ys, h1, h2, h3⟩ := hd
    exact ⟨y, ys, h1, instA_den hb hp.1 h2, instL_den hb hp.2 h3⟩
end

/-- A contract at whatever values its cells have: what it gives is closed, and its inner handles are nobody's. -/
theorem Ctr.fill {P : Program} {g : FuncId} {args : List AV} {m k : Nat} {v : AV} (c : Ctr P g args [] [] m k v []) (vals : List AV) (hm : vals.length = m) (hb : vals.all bareA = true) (hp : plainL m args = true) (hv : okA 0 v = true) (n : Nat) : Ctr P g (instL vals args) [] [] n n v [] := by
  subst hm
  obtain ⟨hbd, _, hd, spec⟩ := c
  refine ⟨hbd, Nat.le_refl _, hd, ?_⟩
  intro env F w xs hx hs _
  refine (spec (fun h => vals[h]?.map bareV) (fun _ _ => False) w xs (instL_den hb hp hx) ⟨fun hl => by simp [lookN] at hl, fun hl => by simp [lookN] at hl⟩ (fun h h1 _ => by simp [List.getElem?_eq_none h1])).mono ?_
  rintro e w' ⟨env', F', x, rfl, t, hd⟩
  refine ⟨env, fun _ _ => False, x, rfl, ⟨Env.le.refl _, fun _ _ => rfl, ⟨fun hl => by simp [lookN] at hl, fun hl => by simp [lookN] at hl⟩, fun hl => by simp [lookN] at hl, ?_⟩, den_ok (n := 0) (fun k hk => absurd hk (Nat.not_lt_zero k)) hv hd⟩
  have hf := t.frame
  have : Owned ([] : Heap) F = Owned ([] : Heap) (fun _ _ => False) := by
    funext b
    simp [Owned, lookN]
  rw [this]; exact hf

end
end Go.SX
