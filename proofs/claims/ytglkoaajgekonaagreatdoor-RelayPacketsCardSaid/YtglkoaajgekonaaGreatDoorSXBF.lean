/- SX, part BF: a buffer of bytes that has at least so much room. -/
import Derived.Test.YtglkoaajgekonaaGreatDoorSXU
namespace Go.SX
noncomputable section
def u8A (l : List UInt8) : List AV := l.map fun b => .int .u8 b.toNat
theorem bytesA_u8 (s : ByteArray) : bytesA s = u8A s.data.toList := rfl
theorem u8A_bare (l : List UInt8) : (u8A l).all bareA = true := by simp [u8A, bareA]
theorem u8A_len (l : List UInt8) : (u8A l).length = l.length := by simp [u8A]
theorem u8A_app (l m : List UInt8) : u8A (l ++ m) = u8A l ++ u8A m := by simp [u8A]
theorem size_data (s : ByteArray) : s.data.toList.length = s.size := rfl
def rowY (e : Nat) (s : ByteArray) (ys : List UInt8) : Res := .row e 1 (u8A (s.data.toList ++ ys)) none
theorem rowY_ok (e : Nat) (s : ByteArray) (ys : List UInt8) (n : Nat) : okR n (rowY e s ys) = true := by
 simp only [rowY, okR]
 exact bare_ok (u8A_bare _)
def bufA (e : Nat) (s : ByteArray) (N : Nat) : ARes where
 ro := false
 tag := none
 flat := false
 len := 0
 esz := 0
 cell := fun _ _ => .nilp
 sat := fun v F w => ∃ ys : List UInt8, N ≤ s.size + ys.length ∧ (rowY e s ys).sat (fun _ => none) v F w
 stable := fun ⟨ys, h1, h2⟩ ha => ⟨ys, h1, Res.sat_stable (Env.le.refl _) ha h2⟩
 bound := fun ⟨_, _, h⟩ => Res.sat_bound h
 own := fun _ h => by cases h
 reads := fun _ h => by cases h
 read := fun h => by cases h
 cells := fun h => by cases h
def bufR (e : Nat) (s : ByteArray) (N : Nat) : Res := .abs (bufA e s N)
theorem bufR_ok (e : Nat) (s : ByteArray) (N n : Nat) : okR n (bufR e s N) = true := rfl
theorem rowY_env {env env' : Env} {e : Nat} {s : ByteArray} {ys : List UInt8} {v : Value} {F : Nat → Prop} {w : World} (h : (rowY e s ys).sat env v F w) : (rowY e s ys).sat env' v F w :=
 sat_ok (n := 0) (fun k hk => absurd hk (Nat.not_lt_zero k)) (rowY_ok e s ys 0) h
theorem Ctr.buf {P : Program} {g : FuncId} {args : List AV} {R pre post : Heap} {n n' h e N : Nat} {s : ByteArray} {r : AV}
  (hc : ∀ ys : List UInt8, N ≤ s.size + ys.length → Ctr P g args R ((h, rowY e s ys) :: pre) n n' r post) : Ctr P g args R ((h, bufR e s N) :: pre) n n' r post := by
 obtain ⟨hb, hn, hd, -⟩ := hc (List.replicate N 0) (by simp)
 refine ⟨hb, hn, hd, ?_⟩
 intro env F w xs hden hs hf
 obtain ⟨v0, e0, ys, hN, s0⟩ := hs.sat (h := h) (r := bufR e s N) (by rw [List.cons_append, look_cons, if_pos rfl])
 have up : ∀ {k r}, look ((h, rowY e s ys) :: pre ++ R) k = some r → ∃ r', look ((h, bufR e s N) :: pre ++ R) k = some r' ∧ r'.excl = r.excl := by
  intro k r hl
  rw [List.cons_append, look_cons] at hl ⊢
  split at hl
  ·rename_i ek
   cases hl
   exact ⟨bufR e s N, by rw [if_pos ek], rfl⟩
  ·rename_i ek
   exact ⟨r, by rw [if_neg ek]; exact hl, rfl⟩
 refine ((hc ys hN).2.2.2 env F w xs hden ⟨?_, ?_⟩ hf).mono ?_
 ·intro k r hl
  rw [List.cons_append, look_cons] at hl
  split at hl
  ·rename_i ek
   subst ek; cases hl
   exact ⟨v0, e0, rowY_env s0⟩
  ·rename_i ek
   exact hs.sat (h := k) (by rw [List.cons_append, look_cons, if_neg ek]; exact hl)
 ·intro k r k' r' hl hl' hne he b hb hb'
  obtain ⟨r1, u1, u2⟩ := up hl
  obtain ⟨r2, u3, u4⟩ := up hl'
  exact hs.apart u1 u3 hne (u2.trans he) b hb hb'
 ·rintro e1 w' ⟨env', F', y, h1, t, hy⟩
  refine ⟨env', F', y, h1, Turn.alike ?_ t, hy⟩
  intro k
  rw [look_cons, look_cons]
  by_cases ek : h = k
  ·rw [if_pos ek, if_pos ek]; rfl
  ·rw [if_neg ek, if_neg ek]
theorem Casts.buf {e N : Nat} {s : ByteArray} {ys : List UInt8} (hN : N ≤ s.size + ys.length) : Casts (rowY e s ys) (bufR e s N) :=
 ⟨fun h => ⟨ys, hN, rowY_env h⟩, fun _ => rfl⟩
theorem CastH.refl : ∀ l : Heap, CastH l l
 | [] => .nil
 | (_, A) :: l => .cons (Casts.refl A) (CastH.refl l)
theorem digits_bytes : ∀ (n t : Nat) (acc : Array Value) (l : List UInt8), acc.toList = l.map (fun b => Value.int .u8 b.toNat) →
  ∃ m : List UInt8, (Extern.BytealgMakeNoZero.digits n t acc).toList = m.map (fun b => Value.int .u8 b.toNat)
 | 0, t, acc, l, h => ⟨l, h⟩
 | n + 1, t, acc, l, h => by
  unfold Extern.BytealgMakeNoZero.digits
  refine digits_bytes n (t / 256) _ (l ++ [UInt8.ofNat (t % 256)]) ?_
  simp only [Array.toList_push, h, List.map_append, List.map_cons, List.map_nil]
  congr 2
  simp
theorem run_makeNoZero_bytes {P : Program} (w : World) (ps : Array TypeId) (t e : TypeId) (ht : P.underlying t = some (.slice e)) (n : Nat) (hn : n ≤ 281474976710656) :
  ∃ (cs : Array Value) (m : List UInt8), (Extern.BytealgMakeNoZero.makeNoZero ps #[t] #[.int .i64 n]).run P w = .ok (.slice (some ⟨w.heap.size, 0, none⟩) n cs.size) (w.drew.drew.alloc (.cells cs e)) ∧ n ≤ cs.size ∧ cs.toList = m.map (fun b => Value.int .u8 b.toNat) := by
 have hdef : Extern.BytealgMakeNoZero.makeNoZero ps #[t] #[.int .i64 n] =
   (do
    let .slice elem ← underlying t | stuck "bytealg.MakeNoZero: slice type expected"
    if (n : Int) < 0 || (n : Int) > 2 ^ 48 then runtimePanic (.error "makeslice: len out of range")
    let cap ← choose (.appendCap (n : Int).toNat 0 elem)
    askRoom cap
    let bytes ← choose (.extern "internal/bytealg.MakeNoZero.bytes" 0)
    let a ← newRow elem (Extern.BytealgMakeNoZero.digits cap bytes #[])
    pure (.slice (some a) (n : Int).toNat cap)) := rfl
 obtain ⟨m, hm⟩ := digits_bytes (grownCap w n 0 e) ((Question.extern "internal/bytealg.MakeNoZero.bytes" 0).cut (w.tape (w.drawn + 1) (.extern "internal/bytealg.MakeNoZero.bytes" 0))) #[] [] rfl
 refine ⟨Extern.BytealgMakeNoZero.digits (grownCap w n 0 e) ((Question.extern "internal/bytealg.MakeNoZero.bytes" 0).cut (w.tape (w.drawn + 1) (.extern "internal/bytealg.MakeNoZero.bytes" 0))) #[], m, ?_, ?_, hm⟩
 ·rw [hdef]
  have h1 : ¬ (n : Int) < 0 := by omega
  have h2 : ¬ (281474976710656 : Int) < (n : Int) := by omega
  simp [run_underlying ht, h1, h2, Question.forced, newRow, Lib.size_digits, grownCap]
 ·rw [Lib.size_digits]
  simpa using grownCap_ge w n 0 e
theorem triple_makeBuf {P : Program} {o : Oper} {fr : Fr} {n g t e k : Nat} {ps : Array TypeId} (hf : NoZeroFn P g ps t e) (hcall : IsCall o fr g [.int .i64 (k : Nat)]) (hk : k ≤ 281474976710656) :
  Triple P o fr [] [] n (n + 1) (.sv n 1 0 k none) [(n, bufR e ⟨#[]⟩ k)] := by
 intro env F a w next Q hneed hsat hfresh hkk
 have hn' := hfresh n (Nat.le_refl _) (by omega)
 obtain ⟨xs, hx, hrun⟩ := evs_call hneed hcall
 obtain ⟨ht, fn, f1, f2, f3, f4, f5⟩ := hf
 simp only [Dens, Den] at hx
 obtain ⟨x, xl, hxs, rfl, rfl⟩ := hx
 have hxe : xs = #[.int .i64 k] := by apply Array.ext'; simpa using hxs
 subst hxe
 obtain ⟨cs, m, h1, h2, h3⟩ := run_makeNoZero_bytes (P := P) w ps t e ht k hk
 unfold Oper.wp
 rw [hrun, run_callFunc_extern f1 f2 f3 f4 f5, h1]
 simp only [Result.andThen, Oper.upon]
 have tr : Turn n (n + 1) [] [] [(n, .row e 1 (u8A m) none)] env F w _ _ _ := Turn.row_new (w1 := w.drew.drew) (xs := cs) (ys := m.map (fun b => Value.int .u8 b.toNat)) (tl := []) (lo := 0) (hi := 0) (m := k) (C := cs.size) hn' ⟨rfl, rfl, rfl, rfl⟩ (by simp) (by simpa using h3) (bytesA_den m) (.inr (Nat.le_refl _)) (fun k hk => by cases hk)
 refine hkk _ (fun _ b => b = w.heap.size) _ _ ⟨tr.le, tr.only, ⟨?_, ?_⟩, ?_, tr.frame⟩ (sv_new h2 (fun k hk => by cases hk))
 ·intro h r hl
  obtain ⟨rfl, rfl⟩ := look_one hl
  obtain ⟨v, hv, hs⟩ := tr.sat.sat (look_self _ _)
  refine ⟨v, hv, m, ?_, ?_⟩
  ·have := congrArg List.length h3
   simp at this
   have e0 : (ByteArray.mk #[]).size = 0 := rfl
   rw [e0]; omega
  ·refine rowY_env (env := env.set h (.slice (some ⟨w.heap.size, 0, none⟩) k cs.size)) ?_
   have : (ByteArray.mk #[]).data.toList ++ m = m := rfl
   unfold rowY
   rw [this]; exact hs
 ·intro h r h' r' hl hl' hne
  obtain ⟨rfl, rfl⟩ := look_one hl
  obtain ⟨rfl, rfl⟩ := look_one hl'
  exact absurd rfl hne
 ·intro h r b hl hb
  obtain ⟨rfl, rfl⟩ := look_one hl
  rcases tr.owns (look_self _ _) hb with ⟨h0, r0, q1, _⟩ | ⟨h0, r0, q1, _⟩ | q
  ·simp [lookN] at q1
  ·simp [lookN] at q1
  ·exact .inr (.inr q)
def repl (c y : UInt8) (l : List UInt8) : List UInt8 := l.flatMap fun b => if b = c then [37, y] else [b]
theorem repl_app (c y : UInt8) (l m : List UInt8) : repl c y (l ++ m) = repl c y l ++ repl c y m := by simp [repl]
theorem repl_no {c y : UInt8} : ∀ {l : List UInt8}, c ∉ l → repl c y l = l
 | [], _ => rfl
 | x :: l, h => by
  simp only [List.mem_cons, not_or] at h
  show (if x = c then [37, y] else [x]) ++ repl c y l = _
  rw [if_neg (fun e => h.1 e.symm), repl_no h.2]; rfl
theorem repl_one (c y : UInt8) : repl c y [c] = [37, y] := by simp [repl]
theorem repl_len (c y : UInt8) : ∀ l : List UInt8, (repl c y l).length = l.length + l.count c
 | [] => rfl
 | x :: l => by
  show ((if x = c then [37, y] else [x]) ++ repl c y l).length = _
  rw [List.length_append, repl_len c y l, List.count_cons]
  by_cases h : x = c
  ·subst h; simp; omega
  ·rw [if_neg h]; simp [h]; omega
theorem cntA_eq (c : UInt8) (l : List UInt8) : cntA l c.toNat 0 = l.count c := by
 have h := cnt_eq c.toNat l 0
 rw [Nat.mod_eq_of_lt c.toNat_lt] at h
 rw [h, Nat.zero_add]
 unfold Lib.countByte
 rw [UInt8.ofNat_toNat]
theorem idxA_eq (c : UInt8) : ∀ (l : List UInt8) (i : Nat), 0 < l.count c → ∃ k, idxA l c.toNat i = ((i + k : Nat) : Int) ∧ k < l.length ∧ l.take (k + 1) = l.take k ++ [c] ∧ c ∉ l.take k
 | [], i, h => by simp at h
 | x :: l, i, h => by
  unfold idxA
  cases hb : Nat.beq x.toNat c.toNat with
  | true =>
   have hx : x = c := UInt8.toNat_inj.1 (Nat.eq_of_beq_eq_true hb)
   subst hx
   exact ⟨0, rfl, by simp, by simp, by simp⟩
  | false =>
   have hx : x ≠ c := by rintro rfl; rw [Nat.beq_refl] at hb; cases hb
   rw [List.count_cons_of_ne (fun e => hx e)] at h
   obtain ⟨k, h1, h2, h3, h4⟩ := idxA_eq c l (i + 1) h
   refine ⟨k + 1, ?_, by simp; omega, ?_, ?_⟩
   ·simp only; rw [h1]; congr 1; omega
   ·simp only [List.take_succ_cons, List.cons_append]; rw [h3]
   ·simp only [List.take_succ_cons, List.mem_cons, not_or]; exact ⟨fun e => hx e.symm, h4⟩
def ofL (l : List UInt8) : ByteArray := ⟨⟨l⟩⟩
theorem ofL_size (l : List UInt8) : (ofL l).size = l.length := rfl
theorem ofL_app (l m : List UInt8) : ofL l ++ ofL m = ofL (l ++ m) := by
 apply ByteArray.ext
 rw [ByteArray.data_append]
 show (⟨l⟩ : Array UInt8) ++ (⟨m⟩ : Array UInt8) = ⟨l ++ m⟩
 simp
theorem subB_ofL (s : ByteArray) (l h : Nat) : subB s l h = ofL ((s.data.toList.drop l).take (h - l)) := rfl
theorem wrap_nat {n : Nat} (h : n < 9223372036854775808) : IntKind.i64.wrap (n : Int) = n := wrap_small (by omega) (by omega)
theorem repl_count {c d y : UInt8} (h1 : d ≠ 37) (h2 : d ≠ y) (h3 : d ≠ c) : ∀ l : List UInt8, List.count d (repl c y l) = List.count d l
 | [] => rfl
 | x :: l => by
  show List.count d ((if x = c then [37, y] else [x]) ++ repl c y l) = _
  rw [List.count_append, repl_count h1 h2 h3 l, List.count_cons]
  by_cases h : x = c
  ·subst h
   rw [if_pos rfl]
   have e1 : List.count d [37, y] = 0 := by
    rw [List.count_eq_zero]
    simp [h1, h2]
   have e2 : (x == d) = false := by simp; exact fun e => h3 e.symm
   rw [e1, e2]; simp
  ·rw [if_neg h]
   simp [List.count_cons]
   omega
theorem count_two {c d : UInt8} (h : c ≠ d) : ∀ l : List UInt8, List.count c l + List.count d l ≤ l.length
 | [] => by simp
 | x :: l => by
  have ih := count_two h l
  rw [List.count_cons, List.count_cons, List.length_cons]
  by_cases h1 : x = c
  ·subst h1
   have : (x == d) = false := by simpa using h
   simp [this]; omega
  ·have : (x == c) = false := by simpa using h1
   rw [this]
   simp only [Bool.false_eq_true, if_false]
   split <;> omega
def hid (s : ByteArray) : ByteArray := ofL (repl 47 115 (repl 37 112 s.data.toList))
theorem hid_size (s : ByteArray) : (hid s).size = s.size + s.data.toList.count 37 + s.data.toList.count 47 := by
 unfold hid
 rw [ofL_size, repl_len, repl_len, repl_count (by decide) (by decide) (by decide)]
 rfl
theorem hid_le (s : ByteArray) : (hid s).size ≤ 2 * s.size := by
 rw [hid_size]
 have := count_two (c := 37) (d := 47) (by decide) s.data.toList
 have e : s.data.toList.length = s.size := rfl
 omega
def joinB (w : ByteArray) (l : List ByteArray) : ByteArray := l.foldl (fun o p => catB o (catB ⟨#[47]⟩ (hid p))) (hid w)
theorem joinB_snoc (w : ByteArray) (l : List ByteArray) (p : ByteArray) : joinB w (l ++ [p]) = catB (joinB w l) (catB ⟨#[47]⟩ (hid p)) := by
 simp [joinB]
def strsA (l : List ByteArray) : List AV := l.map AV.str
theorem strsA_bare (l : List ByteArray) : (strsA l).all bareA = true := by simp [strsA, bareA]
end
end Go.SX
-- SQUEEZED
