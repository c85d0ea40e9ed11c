/- OutboxNone: what the functions give at no journal, and the law. -/
import Derived.Test.YtkhngehncijgdaaGreatDoorPK
import Derived.Test.YtkhngehncijgdaaGreatDoorOv
import Derived.Test.YtkhngehncijgdaaGreatDoorSXFL
import Derived.Test.YtkhngehncijgdaaGreatDoorSXSM
namespace Go.Proofs.YtkhngehncijgdaaGreatDoor
open Go.SX
noncomputable def pktV (n : Int) (a b c d e : ByteArray) (h t : Int) : AV := .agg [.int .i64 n, .str a, .str b, .str c, .str d, .str e, .int .i64 h, .int .i64 t]
noncomputable def noPkt : AV := .agg [.int .i64 0, .str ⟨⟨[]⟩⟩, .str ⟨⟨[]⟩⟩, .str ⟨⟨[]⟩⟩, .str ⟨⟨[]⟩⟩, .str ⟨⟨[]⟩⟩, .int .i64 0, .int .i64 0]

theorem obSend_run : Tryz.evo Tryz.ovA 80 5 [.nilp, .agg [.hd 0, .hd 1], .agg [.hd 2, .hd 3, .hd 4, .hd 5, .hd 6, .hd 7, .hd 8, .hd 9]] [] [] 10 = .ok (.tup [noPkt, .int .i64 2], [], 13) := by kernel_rfl
theorem obSend (p q : ByteArray) (n : Int) (a b c d e : ByteArray) (h t : Int) : Ctr Tryz.prog 5 [.nilp, .agg [.str p, .str q], pktV n a b c d e h t] [] [] 0 0 (.tup [noPkt, .int .i64 2]) [] :=
  (Tryz.ovA_ok 80 obSend_run).fill [.str p, .str q, .int .i64 n, .str a, .str b, .str c, .str d, .str e, .int .i64 h, .int .i64 t] rfl rfl rfl rfl 0
theorem obGet_run : Tryz.evo Tryz.ovA 80 21 [.nilp, .hd 0] [] [] 1 = .ok (.tup [.str ⟨⟨[]⟩⟩, .bool false], [], 1) := by kernel_rfl
theorem obGet (s : ByteArray) : Ctr Tryz.prog 21 [.nilp, .str s] [] [] 0 0 (.tup [.str ⟨⟨[]⟩⟩, .bool false]) [] := (Tryz.ovA_ok 80 obGet_run).fill [.str s] rfl rfl rfl rfl 0

set_option maxRecDepth 20000 in
theorem obWaits (n : Int) (a b c d e : ByteArray) (h t : Int) (ha : a.size ≤ 140737488355328) (hb : b.size ≤ 140737488355328) : Ctr Tryz.prog 6 [.nilp, pktV n a b c d e h t] [] [] 0 0 (.bool false) [] := by
  obtain ⟨k, hk⟩ := packetKey1 ⟨⟨[99, 111, 109, 109, 105, 116]⟩⟩ a b n (by decide) ha hb
  refine Ctr.shut (m := 0) (k := 2) ?_ rfl rfl
  refine Ctr.introR (T := Tryz.T) Tryz.hT Tryz.hM Tryz.hE Tryz.func6 rfl (by kernel_rfl) rfl rfl rfl rfl ?_
  conv => whnf
  refine callR [] hk rfl rfl rfl rfl trivial trivial ?_
  conv => whnf
  refine callR [] (obGet k) rfl rfl rfl rfl trivial trivial ?_
  conv => whnf
  exact Fin.same rfl rfl (by simp)

set_option maxRecDepth 20000 in
theorem outboxNone1 (aw : Ctr Tryz.prog 7 [] [] [] 0 0 (.bool true) []) (p q : ByteArray) (n : Int) (a b c d e : ByteArray) (h t : Int) (ha : a.size ≤ 140737488355328) (hb : b.size ≤ 140737488355328) :
    Ctr Tryz.prog 3 [.agg [.str p, .str q], pktV n a b c d e h t] [] [] 0 0 (.bool true) [] := by
  refine Ctr.shut (m := 0) (k := 2) ?_ rfl rfl
  refine Ctr.introR (T := Tryz.T) Tryz.hT Tryz.hM Tryz.hE Tryz.func3 rfl (by kernel_rfl) rfl rfl rfl rfl ?_
  conv => whnf
  refine callR [] (obSend p q n a b c d e h t) rfl rfl rfl rfl trivial trivial ?_
  conv => whnf
  refine callR [] (obWaits n a b c d e h t ha hb) rfl rfl rfl rfl trivial trivial ?_
  conv => whnf
  refine callR [] aw rfl rfl rfl rfl trivial trivial ?_
  conv => whnf
  exact Fin.same rfl rfl (by simp)

theorem pkt_of {vs : List AV} {ks : List TyK} (hv : okT2 (.agg [.i .i64, .s, .s, .s, .s, .s, .i .i64, .i .i64] :: ks) vs) (hs : ∀ a ∈ vs, smallA a) : ∃ n a b c d e h t vs', vs = pktV n a b c d e h t :: vs' ∧ okT2 ks vs' ∧
    a.size ≤ 140737488355328 ∧ b.size ≤ 140737488355328 ∧ c.size ≤ 140737488355328 ∧ d.size ≤ 140737488355328 := by
  obtain ⟨a1, vs', rfl, h1, g0⟩ := okT2_agg hv
  obtain ⟨n, _, rfl, _, e1⟩ := okL2_i h1
  obtain ⟨a, _, rfl, _, e2⟩ := okL2_s e1
  obtain ⟨b, _, rfl, _, e3⟩ := okL2_s e2
  obtain ⟨c, _, rfl, _, e4⟩ := okL2_s e3
  obtain ⟨d, _, rfl, _, e5⟩ := okL2_s e4
  obtain ⟨e, _, rfl, _, e6⟩ := okL2_s e5
  obtain ⟨h, _, rfl, _, e7⟩ := okL2_i e6
  obtain ⟨t, _, rfl, _, e8⟩ := okL2_i e7
  obtain rfl := okL2_nil e8
  have hA : smallA (pktV n a b c d e h t) := hs _ List.mem_cons_self
  have hr : reachBytes ≤ 140737488355328 := by decide
  exact ⟨n, a, b, c, d, e, h, t, vs', rfl, g0, Nat.le_trans (hA a (by simp)) hr, Nat.le_trans (hA b (by simp)) hr, Nat.le_trans (hA c (by simp)) hr, Nat.le_trans (hA d (by simp)) hr⟩

theorem outboxNone_law (aw : Ctr Tryz.prog 7 [] [] [] 0 0 (.bool true) []) : ∀ vs, okT2 [.agg [.s, .s], .agg [.i .i64, .s, .s, .s, .s, .s, .i .i64, .i .i64]] vs → (∀ a ∈ vs, smallA a) → ∃ n', Ctr Tryz.prog 3 vs [] [] 0 n' (.bool true) [] := by
  intro vs hv hs
  obtain ⟨a1, _, rfl, h1, g0⟩ := okT2_agg hv
  obtain ⟨p, _, rfl, _, e1⟩ := okL2_s h1
  obtain ⟨q, _, rfl, _, e2⟩ := okL2_s e1
  obtain rfl := okL2_nil e2
  obtain ⟨n, a, b, c, d, e, h, t, _, rfl, g1, ha, hb, _, _⟩ := pkt_of g0 (fun x hx => hs x (List.mem_cons_of_mem _ hx))
  obtain rfl := okT2_nil g1
  exact ⟨0, outboxNone1 aw p q n a b c d e h t ha hb⟩
end Go.Proofs.YtkhngehncijgdaaGreatDoor
