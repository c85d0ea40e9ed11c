/- InboxNone: what the functions give at no journal, and the law. -/
import Derived.Test.YtkhngehncijgdaaGreatDoorOB
namespace Go.Proofs.YtkhngehncijgdaaGreatDoor
open Go.SX
noncomputable def atNo : AV := .agg [.int .i64 0, .str ⟨⟨[]⟩⟩]

theorem ibRecv_run : Tryz.evo Tryz.ovA 80 8 [.nilp, .agg [.int .i64 0, .int .i64 0], .agg [.hd 0, .hd 1, .hd 2, .hd 3, .hd 4, .hd 5, .hd 6, .hd 7], atNo] [] [] 8 = .ok (.int .i64 2, [], 15) := by kernel_rfl
theorem ibRecv (n : Int) (a b c d e : ByteArray) (h t : Int) : Ctr Tryz.prog 8 [.nilp, .agg [.int .i64 0, .int .i64 0], pktV n a b c d e h t, atNo] [] [] 0 0 (.int .i64 2) [] :=
  (Tryz.ovA_ok 80 ibRecv_run).fill [.int .i64 n, .str a, .str b, .str c, .str d, .str e, .int .i64 h, .int .i64 t] rfl rfl rfl rfl 0
theorem ibReceived_run : Tryz.evo Tryz.ovA 80 10 [.nilp, .agg [.hd 0, .hd 1, .hd 2, .hd 3, .hd 4, .hd 5, .hd 6, .hd 7]] [] [] 8 = .ok (.bool false, [], 14) := by kernel_rfl
theorem ibReceived (n : Int) (a b c d e : ByteArray) (h t : Int) : Ctr Tryz.prog 10 [.nilp, pktV n a b c d e h t] [] [] 0 0 (.bool false) [] :=
  (Tryz.ovA_ok 80 ibReceived_run).fill [.int .i64 n, .str a, .str b, .str c, .str d, .str e, .int .i64 h, .int .i64 t] rfl rfl rfl rfl 0

set_option maxRecDepth 20000 in
theorem ibTo (n : Int) (a b c d e : ByteArray) (h t : Int) : ∃ m, Ctr Tryz.prog 27 [pktV n a b c d e h t] [] [] 0 m (.agg [.str c, .str d]) [] := by
  refine ⟨2, ?_⟩
  refine Ctr.introR (T := Tryz.T) Tryz.hT Tryz.hM Tryz.hE Tryz.func27 rfl (by kernel_rfl) rfl rfl rfl rfl ?_
  conv => whnf
  exact Fin.same rfl rfl (by simp)

set_option maxRecDepth 20000 in
theorem ibAnswer (n : Int) (a b c d e : ByteArray) (h t : Int) (s : ByteArray) (hc : c.size ≤ 140737488355328) (hd : d.size ≤ 140737488355328) : Ctr Tryz.prog 9 [.nilp, pktV n a b c d e h t, .str s] [] [] 0 0 (.int .i64 2) [] := by
  obtain ⟨k, hk⟩ := packetKey1 ⟨⟨[97, 99, 107]⟩⟩ c d n (by decide) hc hd
  obtain ⟨m, hm⟩ := ibTo n a b c d e h t
  have hto := hm.shut rfl rfl
  refine Ctr.shut (m := 0) (k := 1) ?_ rfl rfl
  refine Ctr.introR (T := Tryz.T) Tryz.hT Tryz.hM Tryz.hE Tryz.func9 rfl (by kernel_rfl) rfl rfl rfl rfl ?_
  conv => whnf
  refine callR [] hto rfl rfl rfl rfl trivial trivial ?_
  conv => whnf
  refine callR [] hk rfl rfl rfl rfl trivial trivial ?_
  conv => whnf
  exact Fin.same rfl rfl (by simp)

set_option maxRecDepth 20000 in
theorem inboxNone1 (aw : Ctr Tryz.prog 11 [] [] [] 0 0 (.bool true) []) (n : Int) (a b c d e : ByteArray) (h t : Int) (s : ByteArray) (hc : c.size ≤ 140737488355328) (hd : d.size ≤ 140737488355328) :
    Ctr Tryz.prog 4 [pktV n a b c d e h t, .str s] [] [] 0 0 (.bool true) [] := by
  refine Ctr.shut (m := 0) (k := 1) ?_ rfl rfl
  refine Ctr.introR (T := Tryz.T) Tryz.hT Tryz.hM Tryz.hE Tryz.func4 rfl (by kernel_rfl) rfl rfl rfl rfl ?_
  conv => whnf
  refine callR [] (ibRecv n a b c d e h t) rfl rfl rfl rfl trivial trivial ?_
  conv => whnf
  refine callR [] (ibAnswer n a b c d e h t s hc hd) rfl rfl rfl rfl trivial trivial ?_
  conv => whnf
  refine callR [] (ibReceived n a b c d e h t) rfl rfl rfl rfl trivial trivial ?_
  conv => whnf
  refine callR [] aw rfl rfl rfl rfl trivial trivial ?_
  conv => whnf
  exact Fin.same rfl rfl (by simp)

theorem inboxNone_law (aw : Ctr Tryz.prog 11 [] [] [] 0 0 (.bool true) []) : ∀ vs, okT2 [.agg [.i .i64, .s, .s, .s, .s, .s, .i .i64, .i .i64], .one .s] vs → (∀ a ∈ vs, smallA a) → ∃ n', Ctr Tryz.prog 4 vs [] [] 0 n' (.bool true) [] := by
  intro vs hv hs
  obtain ⟨n, a, b, c, d, e, h, t, vs', rfl, g0, _, _, hc, hd⟩ := pkt_of hv hs
  obtain ⟨v, _, rfl, ⟨s, rfl, _⟩, g1⟩ := okT2_one g0
  obtain rfl := okT2_nil g1
  exact ⟨0, inboxNone1 aw n a b c d e h t s hc hd⟩
end Go.Proofs.YtkhngehncijgdaaGreatDoor
