/- SX, part O: slices: those that are only read, and those that are owned. -/
import Derived.Test.YthmiaipampdegaaGreatDoorSXN
import Derived.Laws.AppendOwn
import Derived.Laws.OwnMore
namespace Go.SX
noncomputable section

/-- A contract, its results said otherwise. -/
structure Casts (A B : Res) : Prop where
  sat : ∀ {env v F w}, A.sat env v F w → B.sat env v F w
  ro : B.excl = true → A.excl = true

theorem Casts.refl (A : Res) : Casts A A := ⟨id, id⟩

theorem Casts.lst_cells {k : Option Nat} {len len' esz : Nat} {c c' : Nat → Nat → AV} (hl : len = len') (h : ∀ i o, i < len → o < esz → c i o = c' i o) : Casts (.abs (lst k len esz c)) (.abs (lst k len' esz c')) := by
  subst hl
  refine ⟨?_, fun h => h⟩
  intro env v F w hs
  cases k with
  | none =>
    obtain ⟨p, cap, h1, hle, h2⟩ := (show ReadsAs v len esz c F w from hs)
    refine show ReadsAs v len esz c' F w from ⟨p, cap, h1, hle, ?_⟩
    rcases h2 with h2 | ⟨b, o, arr, e, f, h3, h4, h5, h6⟩
    · exact .inl h2
    · exact .inr ⟨b, o, arr, e, f, h3, h4, h5, fun i k hi hk => by rw [← h i k hi hk]; exact h6 i k hi hk⟩
  | some e =>
    obtain ⟨xs, h1, h2, h3⟩ := hs
    exact ⟨xs, h1, h2, fun i k hi hk => by rw [← h i k hi hk]; exact h3 i k hi hk⟩

theorem Casts.lst_ro {k : Option Nat} {len esz : Nat} {c : Nat → Nat → AV} : Casts (.abs (lst k len esz c)) (.abs (lst none len esz c)) :=
  ⟨fun h => lst_reads h, fun h => by simp [Res.excl, lst] at h⟩

theorem Casts.trans {A B C : Res} (h : Casts A B) (k : Casts B C) : Casts A C := ⟨fun x => k.sat (h.sat x), fun x => h.ro (k.ro x)⟩

/-- Entry by entry. -/
inductive CastH : Heap → Heap → Prop
  | nil : CastH [] []
  | cons {h : Nat} {A B : Res} {l m : Heap} (hc : Casts A B) (t : CastH l m) : CastH ((h, A) :: l) ((h, B) :: m)

theorem CastH.look {l m : Heap} (h : CastH l m) : ∀ {k B}, look m k = some B → ∃ A, look l k = some A ∧ Casts A B := by
  induction h with
  | nil => intro k B hl; simp [Go.SX.look] at hl
  | @cons k' A B l m hc t ih =>
    intro k C hl
    rw [look_cons] at hl ⊢
    split at hl
    · rename_i e; cases hl; exact ⟨A, by simp [e], hc⟩
    · rename_i e; obtain ⟨A', h1, h2⟩ := ih hl; exact ⟨A', by simp [e, h1], h2⟩

theorem CastH.dom {l m : Heap} (h : CastH l m) : l.map (·.1) = m.map (·.1) := by
  induction h with
  | nil => rfl
  | cons _ _ ih => simp [ih]

theorem Ctr.relax {P : Program} {f : FuncId} {args : List AV} {R pre post post' : Heap} {n n' : Nat} {r : AV} (h : Ctr P f args R pre n n' r post) (hc : CastH post post') : Ctr P f args R pre n n' r post' := by
  obtain ⟨h1, h2, h3, h4⟩ := h
  refine ⟨h1, h2, ?_, ?_⟩
  · unfold domB at h3 ⊢
    have e : ∀ p : Nat × Res, (post'.any fun q => Nat.beq p.1 q.1) = (post.any fun q => Nat.beq p.1 q.1) := by
      intro p
      have : ∀ l : Heap, (l.any fun q => Nat.beq p.1 q.1) = ((l.map (·.1)).any fun q => Nat.beq p.1 q) := by intro l; simp [List.any_map]; rfl
      rw [this, this, hc.dom]
    simp only [e]; exact h3
  · intro env F w xs ha hs hf
    refine (h4 env F w xs ha hs hf).mono ?_
    rintro e w' ⟨env', F', x, he, t, hd⟩
    refine ⟨env', F', x, he, ⟨t.le, t.only, ⟨?_, ?_⟩, ?_, t.frame⟩, hd⟩
    · intro k B hl
      obtain ⟨A, g1, g2⟩ := hc.look hl
      obtain ⟨v, hv, hsat⟩ := t.sat.sat g1
      exact ⟨v, hv, g2.sat hsat⟩
    · intro k B k' B' hl hl' hne hex b
      obtain ⟨A, g1, g2⟩ := hc.look hl
      obtain ⟨A', g1', _⟩ := hc.look hl'
      exact t.sat.apart g1 g1' hne (g2.ro hex) b
    · intro k B b hl hb
      obtain ⟨A, g1, g2⟩ := hc.look hl
      rcases t.owns g1 hb with ⟨h0, r0, q1, q2, q3⟩ | ⟨h0, r0, q1, q2, q3, q4⟩ | q
      · exact .inl ⟨h0, r0, q1, q2, fun he => q3 (g2.ro he)⟩
      · refine .inr (.inl ⟨h0, r0, q1, q2, q3, ?_⟩)
        cases hB : B.excl with
        | false => rfl
        | true => rw [g2.ro hB] at q4; cases q4
      · exact .inr (.inr q)

end
end Go.SX
