/- A run of four validators: a vote. -/
import Derived.Test.YtckhcmdjgkoocaaRulesB
namespace Go.Proofs.Ytckhcmdjgkoocaa
open Go.RowKit Go.Sx
set_option linter.unusedVariables false
set_option linter.unusedSimpArgs false


set_option maxHeartbeats 4000000 in
theorem vote3_any (r : Run) (cap : Nat) (rest : List Value) (hr : r.ok cap rest) (b : Nat) (hb : b < r.n) (w : World) (ρ : Nat → Nat) (hH : HeapAt ρ [(100000, ⟨(cRun 100001 r.n cap r.s0 r.s1 r.s2), 51⟩), (100001, ⟨[.vals (rowV gB r.L ++ rest)], 47⟩)] w) :
    Calls Try.prog 28 ([sL 100000 0, sI .i64 3, sI .i64 ((b : Nat) : Int)].map (SV.conc ρ)).toArray w fun r' w' => ∃ (x0 : Unit) (σ : Nat → Nat), True ∧ r' = .returned (EV.conc σ (.t [])) ∧ Ran ρ [(100000, ⟨(cRun 100001 r.n cap r.s0 r.s1 r.s2), 51⟩), (100001, ⟨[.vals (rowV gB r.L ++ rest)], 47⟩)] [(100000, ⟨[.one (.ls 100001 0 ((voteR r 3 b).n) cap), cI .i64 (voteR r 3 b).s0.e, cI .i64 (voteR r 3 b).s0.v, cI .i64 (voteR r 3 b).s0.l, .ints .u8 32 ((voteR r 3 b).s0.d), cI .i64 (voteR r 3 b).s1.e, cI .i64 (voteR r 3 b).s1.v, cI .i64 (voteR r 3 b).s1.l, .ints .u8 32 ((voteR r 3 b).s1.d), cI .i64 (voteR r 3 b).s2.e, cI .i64 (voteR r 3 b).s2.v, cI .i64 (voteR r 3 b).s2.l, .ints .u8 32 ((voteR r 3 b).s2.d)], 51⟩), (100001, ⟨[.vals (rowV gB (voteR r 3 b).L ++ rest)], 47⟩)] w w' σ := by
  refine calls_enter (vs := [sL 100000 0, sI .i64 3, sI .i64 ((b : Nat) : Int)]) (N := 100) [(100000, ⟨(cRun 100001 r.n cap r.s0 r.s1 r.s2), 51⟩), (100001, ⟨[.vals (rowV gB r.L ++ rest)], 47⟩)] ρ Try.func28 rfl rfl (Nat.le_of_ble_eq_true rfl) (okv_a (okv_a (okv_a (okv_nil)))) hH.hp hH.inj ?_ _ rfl
  refine wc_seq ?_
  refine wc_seq ?_
  refine wc_reg [0, 1] (by kernel_rfl) ?_
  refine wo_run [0, 1] [0, 1, 2, 11] [100000, 100001] (l' := [(0, eL 100000 0), (1, eI .i64 3), (2, eI .i64 ((b : Nat) : Int)), (11, eB true)]) (H' := [(100000, ⟨(cRun 100001 r.n cap r.s0 r.s1 r.s2), 51⟩), (100001, ⟨[.vals (rowV gB r.L ++ rest)], 47⟩)]) (by kernel_rfl) ?_
  refine wo_nil ?_
  refine we_then ?_
  refine wc_true rfl ?_
  refine wc_seq ?_
  refine wc_reg [0, 1, 2, 3, 4, 5, 6, 7, 8] (by kernel_rfl) ?_
  refine wo_run [0, 1, 2, 3, 4] [15, 16] [100000, 100001] (l' := [(15, .s (.a (.ls 100001 0 r.n cap))), (16, eI .i64 ((b : Nat) : Int))]) (H' := [(100000, ⟨(cRun 100001 r.n cap r.s0 r.s1 r.s2), 51⟩), (100001, ⟨[.vals (rowV gB r.L ++ rest)], 47⟩)]) (by kernel_rfl) ?_
  refine wo_op rfl rfl (ot_rd rfl (rd_indexL (e := 47) 6 b ((b : Nat) : Int) rfl (by kernel_rfl) (by kernel_rfl) rfl rfl (rfl) (hb))) ?_
  refine wo_run [6] [18] [100000, 100001] (l' := [(18, eL 100001 ((0 + b * 6) + 2))]) (H' := [(100000, ⟨(cRun 100001 r.n cap r.s0 r.s1 r.s2), 51⟩), (100001, ⟨[.vals (rowV gB r.L ++ rest)], 47⟩)]) (by kernel_rfl) ?_
  refine wo_op rfl rfl (ot_rd rfl (rd_indexA (e := 4) (n := 4) 1 3 3 rfl (by kernel_rfl) (by kernel_rfl) rfl rfl (rfl) (by omega))) ?_
  refine wo_op rfl rfl (ot_storeS (b := ⟨[.vals (rowV gB r.L ++ rest)], 47⟩) (v := (sB true)) [.vals (rowV gB (setVote r.L b 3) ++ rest)] rfl rfl rfl rfl rfl rfl (by kernel_rfl) (okCs_vals _) (fun ρ => put_lt (hr.ln (hb)) (by omega) ρ) (fun ρ => put_eq (hr.ln (hb)) (by omega) ρ)) ?_
  refine wo_nil ?_
  refine we_then ?_
  refine wc_ret ?_
  refine we_then_ret ?_
  refine we_rest [] [100000, 100001] (l' := []) (H' := [(100000, ⟨(cRun 100001 r.n cap r.s0 r.s1 r.s2), 51⟩), (100001, ⟨[.vals (rowV gB (setVote r.L b 3) ++ rest)], 47⟩)]) (by kernel_rfl) (by kernel_rfl) ?_
  refine we_ret (.inl rfl) (v := .t []) (by kernel_rfl) ?_
  intro σ w' hf
  have hq : voteR r 3 b = (⟨r.n, (setVote r.L b 3), r.s0, r.s1, r.s2⟩ : Run) := rfl
  rw [hq]
  exact ⟨(), σ, trivial, rfl, hf.ran rfl rfl⟩

end Go.Proofs.Ytckhcmdjgkoocaa
