/- In one view at most one block gets three votes: the walk. -/
import Derived.Test.YtckhcmdjgkoocaaRulesW
namespace Go.Proofs.Ytckhcmdjgkoocaa
open Go.RowKit Go.Sx
set_option linter.unusedVariables false
set_option linter.unusedSimpArgs false
abbrev z51 : List Chunk := [cV (.slice none 0 0), cI .i64 0, cI .i64 0, cI .i64 0, .ints .u8 32 (List.replicate 32 0), cI .i64 0, cI .i64 0, cI .i64 0, .ints .u8 32 (List.replicate 32 0), cI .i64 0, cI .i64 0, cI .i64 0, .ints .u8 32 (List.replicate 32 0)]
theorem z51_zero' : (Try.prog.info? 51).bind (·.zero) = some (SV.conc (fun _ => 0) (.agg z51)) := by kernel_rfl
theorem z51_zero : (Try.prog.info? 51).bind (·.zero) = some (SV.conc (fun _ => 0) (.agg z51)) ∨ ∃ v, (Try.prog.info? 51).bind (·.zero) = some v ∧ z51 = [.one (.v v)] ∧ v.oneCell' = true := .inl z51_zero'
theorem z51_ok : okCs z51 := okc_one (okc_one (okc_one (okc_one (okc_ints (List.length_replicate) (okc_one (okc_one (okc_one (okc_ints (List.length_replicate) (okc_one (okc_one (okc_one (okc_ints (List.length_replicate) (okc_nil)))))))))))))

set_option maxHeartbeats 4000000 in
theorem rulesView_any (a0 : Option Addr) (len0 cap0 b0 off0 : Nat) (x : Nat → Mv) (hlc0 : len0 ≤ cap0) (hcap0 : cap0 ≤ maxLen) (w : World) (hb0 : 0 < len0 → a0 = some ⟨b0, off0, none⟩ ∧ b0 < w.heap.size) (hc0 : ∀ i, i < len0 → CellsAt w b0 (off0 + i * 4) (cM (x i))) (ρ : Nat → Nat) :
    Calls Try.prog 7 ([sV (.slice a0 len0 cap0)].map (SV.conc ρ)).toArray w fun r w' => r = .returned (EV.conc ρ (eB true)) ∧ Below w.heap.size w w' := by
  refine calls_enter (vs := [sV (.slice a0 len0 cap0)]) (N := 82) [] ρ Try.func7 rfl rfl (Nat.le_of_ble_eq_true rfl) (okv_a (okv_nil)) noH noH2 ?_ _ rfl
  refine wc_seq ?_
  refine wc_reg [0] (by kernel_rfl) ?_
  refine wo_run [0] [0] [] (l' := [(0, eV (.slice a0 len0 cap0))]) (H' := []) (by kernel_rfl) ?_
  refine wo_nil ?_
  refine we_then ?_
  refine wc_seq ?_
  refine wc_seq ?_
  refine wc_reg [0, 1] (by kernel_rfl) ?_
  refine wo_op rfl rfl (ot_call (vs := []) rfl rfl rfl Try.func15 (by kernel_rfl) (by kernel_rfl) (by kernel_rfl) (eB true) (trivial) (fun ρ w _ => awake_any w ρ)) ?_
  refine wo_run [1] [0, 9] [] (l' := [(0, eV (.slice a0 len0 cap0)), (9, eB false)]) (H' := []) (by kernel_rfl) ?_
  refine wo_nil ?_
  refine we_then ?_
  refine wc_false rfl ?_
  refine wc_skip ?_
  refine we_then ?_
  refine wc_seq ?_
  refine wc_reg [0, 1, 2, 3, 4] (by kernel_rfl) ?_
  refine wo_op rfl rfl (ot_rd rfl (rd_build (zc := z47) [cI .i64 0, cI .i64 0, cB false, cB false, cB false, cB false] rfl z47_zero' z47_ok (fun _ => rfl) (by kernel_rfl) (by kernel_rfl))) ?_
  refine wo_op rfl rfl (ot_bslice (e := 47) (d := 11) (n := 1) (size := 6) [cI .i64 0, cI .i64 0, cB false, cB false, cB false, cB false] [cI .i64 0, cI .i64 0, cB false, cB false, cB false, cB false] rfl rfl rfl (by kernel_rfl) rfl (by kernel_rfl) (okc_one (okc_one (okc_one (okc_one (okc_one (okc_one (okc_nil))))))) (fun _ => rfl) (by kernel_rfl) (by kernel_rfl)) ?_
  refine wo_op rfl rfl (ot_rd rfl (rd_build (zc := z51) [.one (.ls 11 0 1 1), cI .i64 0, cI .i64 0, cI .i64 0, .ints .u8 32 (List.replicate 32 0), cI .i64 0, cI .i64 0, cI .i64 0, .ints .u8 32 (List.replicate 32 0), cI .i64 0, cI .i64 0, cI .i64 0, .ints .u8 32 (List.replicate 32 0)] rfl z51_zero' z51_ok (fun _ => rfl) (by kernel_rfl) (by kernel_rfl))) ?_
  refine wo_run [3, 4] [0, 3] [11, 13] (l' := [(0, eV (.slice a0 len0 cap0)), (3, eL 13 0)]) (H' := [(11, ⟨[cI .i64 0, cI .i64 0, cB false, cB false, cB false, cB false], 47⟩), (13, ⟨[.one (.ls 11 0 1 1), cI .i64 0, cI .i64 0, cI .i64 0, .ints .u8 32 (List.replicate 32 0), cI .i64 0, cI .i64 0, cI .i64 0, .ints .u8 32 (List.replicate 32 0), cI .i64 0, cI .i64 0, cI .i64 0, .ints .u8 32 (List.replicate 32 0)], 51⟩)]) (by kernel_rfl) ?_
  refine wo_nil ?_
  refine we_then ?_
  refine wc_seq ?_
  refine wc_seq ?_
  refine wc_reg [0] (by kernel_rfl) ?_
  refine wo_run [0] [0, 3, 14] [11, 13] (l' := [(0, eV (.slice a0 len0 cap0)), (3, eL 13 0), (14, eI .i64 0)]) (H' := [(11, ⟨[cI .i64 0, cI .i64 0, cB false, cB false, cB false, cB false], 47⟩), (13, ⟨[.one (.ls 11 0 1 1), cI .i64 0, cI .i64 0, cI .i64 0, .ints .u8 32 (List.replicate 32 0), cI .i64 0, cI .i64 0, cI .i64 0, .ints .u8 32 (List.replicate 32 0), cI .i64 0, cI .i64 0, cI .i64 0, .ints .u8 32 (List.replicate 32 0)], 51⟩)]) (by kernel_rfl) ?_
  refine wo_nil ?_
  refine we_then ?_
  refine wc_block ?_
  refine wc_loopn 4 ?_
  refine wr_go ?_
  refine wc_seq ?_
  refine wc_reg [0] (by kernel_rfl) ?_
  refine wo_run [0] [0, 3, 14, 15] [11, 13] (l' := [(0, eV (.slice a0 len0 cap0)), (3, eL 13 0), (14, eI .i64 0), (15, eB true)]) (H' := [(11, ⟨[cI .i64 0, cI .i64 0, cB false, cB false, cB false, cB false], 47⟩), (13, ⟨[.one (.ls 11 0 1 1), cI .i64 0, cI .i64 0, cI .i64 0, .ints .u8 32 (List.replicate 32 0), cI .i64 0, cI .i64 0, cI .i64 0, .ints .u8 32 (List.replicate 32 0), cI .i64 0, cI .i64 0, cI .i64 0, .ints .u8 32 (List.replicate 32 0)], 51⟩)]) (by kernel_rfl) ?_
  refine wo_nil ?_
  refine we_then ?_
  refine wc_seq ?_
  refine wc_true rfl ?_
  refine wc_skip ?_
  refine we_then ?_
  refine wc_seq ?_
  refine wc_block ?_
  refine wc_seq ?_
  refine wc_reg [0, 1] (by kernel_rfl) ?_
  refine wo_run [0, 1] [0, 3, 4, 14] [11, 13] (l' := [(0, eV (.slice a0 len0 cap0)), (3, eL 13 0), (4, eI .i64 0), (14, eI .i64 0)]) (H' := [(11, ⟨[cI .i64 0, cI .i64 0, cB false, cB false, cB false, cB false], 47⟩), (13, ⟨[.one (.ls 11 0 1 1), cI .i64 0, cI .i64 0, cI .i64 0, .ints .u8 32 (List.replicate 32 0), cI .i64 0, cI .i64 0, cI .i64 0, .ints .u8 32 (List.replicate 32 0), cI .i64 0, cI .i64 0, cI .i64 0, .ints .u8 32 (List.replicate 32 0)], 51⟩)]) (by kernel_rfl) ?_
  refine wo_nil ?_
  refine we_then ?_
  refine wc_draw (n := 8) [(11, ⟨[cI .i64 0, cI .i64 0, cB false, cB false, cB false, cB false], 47⟩)] (by kernel_rfl) rfl (sub_of [11] (by kernel_rfl)) (fun ρ0 => ?_)
  refine wa_takes (fuel := 4) [0, 1, 4, 5] [0, 3, 14, 18, 22] (listed' := #[true, true, false, false, true, true, false, false]) (l' := [(0, eV (.slice a0 len0 cap0)), (3, eL 13 0), (14, eI .i64 0), (18, eI .i64 0), (22, eL 13 1)]) (pk_block (pk_then (pk_then (pk_block (pk_then pk_body))))) rfl (by kernel_rfl) ?_
  refine wa_all [2] (by kernel_rfl) rfl (all1 ?_)
  refine wi_op rfl rfl (ot_call (vs := [sI .i64 0]) rfl rfl rfl Try.func23 (by kernel_rfl) (by kernel_rfl) (by kernel_rfl) (eA [.ints .u8 32 (idD 0)]) (okc_ints (idD_len _) (okc_nil)) (fun ρ w _ => id_any 0 w ρ)) (sub_of [11] (by kernel_rfl)) ?_
  refine wa_all [3] (by kernel_rfl) rfl (all1 ?_)
  refine wi_op rfl rfl (ot_call (vs := [sI .i64 0, .agg [.ints .u8 32 (idD 0)]]) rfl rfl rfl Try.func20 (by kernel_rfl) (by kernel_rfl) (by kernel_rfl) (eA [cI .i64 0, cI .i64 0, cI .i64 0, .ints .u8 32 (idD 0)]) (okc_one (okc_one (okc_one (okc_ints (idD_len _) (okc_nil))))) (fun ρ w _ => new_any 0 (idD 0) (idD_len _) w ρ)) (sub_of [11] (by kernel_rfl)) ?_
  refine wa_takes (fuel := 1) [6] [0, 3, 14, 20, 23] (listed' := #[true, true, true, true, true, true, true, false]) (l' := [(0, eV (.slice a0 len0 cap0)), (3, eL 13 0), (14, eI .i64 0), (20, eA [cI .i64 0, cI .i64 0, cI .i64 0, .ints .u8 32 (idD 0)]), (23, eL 13 1)]) (pk_block (pk_then (pk_then (pk_block (pk_then pk_body))))) rfl (by kernel_rfl) ?_
  refine wa_all [7] (by kernel_rfl) rfl (all1 ?_)
  refine wi_op rfl rfl (ot_eff (l' := [(0, eV (.slice a0 len0 cap0)), (3, eL 13 0), (14, eI .i64 0), (20, eA [cI .i64 0, cI .i64 0, cI .i64 0, .ints .u8 32 (idD 0)]), (23, eL 13 1)]) (H' := [(11, ⟨[cI .i64 0, cI .i64 0, cB false, cB false, cB false, cB false], 47⟩), (13, ⟨[.one (.ls 11 0 1 1), cI .i64 0, cI .i64 0, cI .i64 0, .ints .u8 32 (idD 0), cI .i64 0, cI .i64 0, cI .i64 0, .ints .u8 32 (List.replicate 32 0), cI .i64 0, cI .i64 0, cI .i64 0, .ints .u8 32 (List.replicate 32 0)], 51⟩)]) (by kernel_rfl)) (sub_of [11] (by kernel_rfl)) ?_
  refine wa_done (by kernel_rfl) ?_
  refine we_rest [0, 3, 14] [11, 13] (l' := [(0, eV (.slice a0 len0 cap0)), (3, eL 13 0), (14, eI .i64 0)]) (H' := [(11, ⟨[cI .i64 0, cI .i64 0, cB false, cB false, cB false, cB false], 47⟩), (13, ⟨[.one (.ls 11 0 1 1), cI .i64 0, cI .i64 0, cI .i64 0, .ints .u8 32 (idD 0), cI .i64 0, cI .i64 0, cI .i64 0, .ints .u8 32 (List.replicate 32 0), cI .i64 0, cI .i64 0, cI .i64 0, .ints .u8 32 (List.replicate 32 0)], 51⟩)]) (by kernel_rfl) (by kernel_rfl) ?_
  refine we_block ?_
  refine we_then ?_
  refine wc_reg [0, 1] (by kernel_rfl) ?_
  refine wo_run [0, 1] [0, 3, 14] [11, 13] (l' := [(0, eV (.slice a0 len0 cap0)), (3, eL 13 0), (14, eI .i64 1)]) (H' := [(11, ⟨[cI .i64 0, cI .i64 0, cB false, cB false, cB false, cB false], 47⟩), (13, ⟨[.one (.ls 11 0 1 1), cI .i64 0, cI .i64 0, cI .i64 0, .ints .u8 32 (idD 0), cI .i64 0, cI .i64 0, cI .i64 0, .ints .u8 32 (List.replicate 32 0), cI .i64 0, cI .i64 0, cI .i64 0, .ints .u8 32 (List.replicate 32 0)], 51⟩)]) (by kernel_rfl) ?_
  refine wo_nil ?_
  refine we_unr ?_
  refine wr_go ?_
  refine wc_seq ?_
  refine wc_reg [0] (by kernel_rfl) ?_
  refine wo_run [0] [0, 3, 14, 15] [11, 13] (l' := [(0, eV (.slice a0 len0 cap0)), (3, eL 13 0), (14, eI .i64 1), (15, eB true)]) (H' := [(11, ⟨[cI .i64 0, cI .i64 0, cB false, cB false, cB false, cB false], 47⟩), (13, ⟨[.one (.ls 11 0 1 1), cI .i64 0, cI .i64 0, cI .i64 0, .ints .u8 32 (idD 0), cI .i64 0, cI .i64 0, cI .i64 0, .ints .u8 32 (List.replicate 32 0), cI .i64 0, cI .i64 0, cI .i64 0, .ints .u8 32 (List.replicate 32 0)], 51⟩)]) (by kernel_rfl) ?_
  refine wo_nil ?_
  refine we_then ?_
  refine wc_seq ?_
  refine wc_true rfl ?_
  refine wc_skip ?_
  refine we_then ?_
  refine wc_seq ?_
  refine wc_block ?_
  refine wc_seq ?_
  refine wc_reg [0, 1] (by kernel_rfl) ?_
  refine wo_run [0, 1] [0, 3, 4, 14] [11, 13] (l' := [(0, eV (.slice a0 len0 cap0)), (3, eL 13 0), (4, eI .i64 1), (14, eI .i64 1)]) (H' := [(11, ⟨[cI .i64 0, cI .i64 0, cB false, cB false, cB false, cB false], 47⟩), (13, ⟨[.one (.ls 11 0 1 1), cI .i64 0, cI .i64 0, cI .i64 0, .ints .u8 32 (idD 0), cI .i64 0, cI .i64 0, cI .i64 0, .ints .u8 32 (List.replicate 32 0), cI .i64 0, cI .i64 0, cI .i64 0, .ints .u8 32 (List.replicate 32 0)], 51⟩)]) (by kernel_rfl) ?_
  refine wo_nil ?_
  refine we_then ?_
  refine wc_draw (n := 8) [(11, ⟨[cI .i64 0, cI .i64 0, cB false, cB false, cB false, cB false], 47⟩)] (by kernel_rfl) rfl (sub_of [11] (by kernel_rfl)) (fun ρ0 => ?_)
  refine wa_takes (fuel := 4) [0, 1, 4, 5] [0, 3, 14, 18, 22] (listed' := #[true, true, false, false, true, true, false, false]) (l' := [(0, eV (.slice a0 len0 cap0)), (3, eL 13 0), (14, eI .i64 1), (18, eI .i64 1), (22, eL 13 1)]) (pk_block (pk_then (pk_then (pk_block (pk_then pk_body))))) rfl (by kernel_rfl) ?_
  refine wa_all [2] (by kernel_rfl) rfl (all1 ?_)
  refine wi_op rfl rfl (ot_call (vs := [sI .i64 0]) rfl rfl rfl Try.func23 (by kernel_rfl) (by kernel_rfl) (by kernel_rfl) (eA [.ints .u8 32 (idD 0)]) (okc_ints (idD_len _) (okc_nil)) (fun ρ w _ => id_any 0 w ρ)) (sub_of [11] (by kernel_rfl)) ?_
  refine wa_all [3] (by kernel_rfl) rfl (all1 ?_)
  refine wi_op rfl rfl (ot_call (vs := [sI .i64 0, .agg [.ints .u8 32 (idD 0)]]) rfl rfl rfl Try.func20 (by kernel_rfl) (by kernel_rfl) (by kernel_rfl) (eA [cI .i64 0, cI .i64 0, cI .i64 0, .ints .u8 32 (idD 0)]) (okc_one (okc_one (okc_one (okc_ints (idD_len _) (okc_nil))))) (fun ρ w _ => new_any 0 (idD 0) (idD_len _) w ρ)) (sub_of [11] (by kernel_rfl)) ?_
  refine wa_takes (fuel := 1) [6] [0, 3, 14, 20, 23] (listed' := #[true, true, true, true, true, true, true, false]) (l' := [(0, eV (.slice a0 len0 cap0)), (3, eL 13 0), (14, eI .i64 1), (20, eA [cI .i64 0, cI .i64 0, cI .i64 0, .ints .u8 32 (idD 0)]), (23, eL 13 36)]) (pk_block (pk_then (pk_then (pk_block (pk_then pk_body))))) rfl (by kernel_rfl) ?_
  refine wa_all [7] (by kernel_rfl) rfl (all1 ?_)
  refine wi_op rfl rfl (ot_eff (l' := [(0, eV (.slice a0 len0 cap0)), (3, eL 13 0), (14, eI .i64 1), (20, eA [cI .i64 0, cI .i64 0, cI .i64 0, .ints .u8 32 (idD 0)]), (23, eL 13 36)]) (H' := [(11, ⟨[cI .i64 0, cI .i64 0, cB false, cB false, cB false, cB false], 47⟩), (13, ⟨[.one (.ls 11 0 1 1), cI .i64 0, cI .i64 0, cI .i64 0, .ints .u8 32 (idD 0), cI .i64 0, cI .i64 0, cI .i64 0, .ints .u8 32 (idD 0), cI .i64 0, cI .i64 0, cI .i64 0, .ints .u8 32 (List.replicate 32 0)], 51⟩)]) (by kernel_rfl)) (sub_of [11] (by kernel_rfl)) ?_
  refine wa_done (by kernel_rfl) ?_
  refine we_rest [0, 3, 14] [11, 13] (l' := [(0, eV (.slice a0 len0 cap0)), (3, eL 13 0), (14, eI .i64 1)]) (H' := [(11, ⟨[cI .i64 0, cI .i64 0, cB false, cB false, cB false, cB false], 47⟩), (13, ⟨[.one (.ls 11 0 1 1), cI .i64 0, cI .i64 0, cI .i64 0, .ints .u8 32 (idD 0), cI .i64 0, cI .i64 0, cI .i64 0, .ints .u8 32 (idD 0), cI .i64 0, cI .i64 0, cI .i64 0, .ints .u8 32 (List.replicate 32 0)], 51⟩)]) (by kernel_rfl) (by kernel_rfl) ?_
  refine we_block ?_
  refine we_then ?_
  refine wc_reg [0, 1] (by kernel_rfl) ?_
  refine wo_run [0, 1] [0, 3, 14] [11, 13] (l' := [(0, eV (.slice a0 len0 cap0)), (3, eL 13 0), (14, eI .i64 2)]) (H' := [(11, ⟨[cI .i64 0, cI .i64 0, cB false, cB false, cB false, cB false], 47⟩), (13, ⟨[.one (.ls 11 0 1 1), cI .i64 0, cI .i64 0, cI .i64 0, .ints .u8 32 (idD 0), cI .i64 0, cI .i64 0, cI .i64 0, .ints .u8 32 (idD 0), cI .i64 0, cI .i64 0, cI .i64 0, .ints .u8 32 (List.replicate 32 0)], 51⟩)]) (by kernel_rfl) ?_
  refine wo_nil ?_
  refine we_unr ?_
  refine wr_go ?_
  refine wc_seq ?_
  refine wc_reg [0] (by kernel_rfl) ?_
  refine wo_run [0] [0, 3, 14, 15] [11, 13] (l' := [(0, eV (.slice a0 len0 cap0)), (3, eL 13 0), (14, eI .i64 2), (15, eB true)]) (H' := [(11, ⟨[cI .i64 0, cI .i64 0, cB false, cB false, cB false, cB false], 47⟩), (13, ⟨[.one (.ls 11 0 1 1), cI .i64 0, cI .i64 0, cI .i64 0, .ints .u8 32 (idD 0), cI .i64 0, cI .i64 0, cI .i64 0, .ints .u8 32 (idD 0), cI .i64 0, cI .i64 0, cI .i64 0, .ints .u8 32 (List.replicate 32 0)], 51⟩)]) (by kernel_rfl) ?_
  refine wo_nil ?_
  refine we_then ?_
  refine wc_seq ?_
  refine wc_true rfl ?_
  refine wc_skip ?_
  refine we_then ?_
  refine wc_seq ?_
  refine wc_block ?_
  refine wc_seq ?_
  refine wc_reg [0, 1] (by kernel_rfl) ?_
  refine wo_run [0, 1] [0, 3, 4, 14] [11, 13] (l' := [(0, eV (.slice a0 len0 cap0)), (3, eL 13 0), (4, eI .i64 2), (14, eI .i64 2)]) (H' := [(11, ⟨[cI .i64 0, cI .i64 0, cB false, cB false, cB false, cB false], 47⟩), (13, ⟨[.one (.ls 11 0 1 1), cI .i64 0, cI .i64 0, cI .i64 0, .ints .u8 32 (idD 0), cI .i64 0, cI .i64 0, cI .i64 0, .ints .u8 32 (idD 0), cI .i64 0, cI .i64 0, cI .i64 0, .ints .u8 32 (List.replicate 32 0)], 51⟩)]) (by kernel_rfl) ?_
  refine wo_nil ?_
  refine we_then ?_
  refine wc_draw (n := 8) [(11, ⟨[cI .i64 0, cI .i64 0, cB false, cB false, cB false, cB false], 47⟩)] (by kernel_rfl) rfl (sub_of [11] (by kernel_rfl)) (fun ρ0 => ?_)
  refine wa_takes (fuel := 4) [0, 1, 4, 5] [0, 3, 14, 18, 22] (listed' := #[true, true, false, false, true, true, false, false]) (l' := [(0, eV (.slice a0 len0 cap0)), (3, eL 13 0), (14, eI .i64 2), (18, eI .i64 2), (22, eL 13 1)]) (pk_block (pk_then (pk_then (pk_block (pk_then pk_body))))) rfl (by kernel_rfl) ?_
  refine wa_all [2] (by kernel_rfl) rfl (all1 ?_)
  refine wi_op rfl rfl (ot_call (vs := [sI .i64 0]) rfl rfl rfl Try.func23 (by kernel_rfl) (by kernel_rfl) (by kernel_rfl) (eA [.ints .u8 32 (idD 0)]) (okc_ints (idD_len _) (okc_nil)) (fun ρ w _ => id_any 0 w ρ)) (sub_of [11] (by kernel_rfl)) ?_
  refine wa_all [3] (by kernel_rfl) rfl (all1 ?_)
  refine wi_op rfl rfl (ot_call (vs := [sI .i64 0, .agg [.ints .u8 32 (idD 0)]]) rfl rfl rfl Try.func20 (by kernel_rfl) (by kernel_rfl) (by kernel_rfl) (eA [cI .i64 0, cI .i64 0, cI .i64 0, .ints .u8 32 (idD 0)]) (okc_one (okc_one (okc_one (okc_ints (idD_len _) (okc_nil))))) (fun ρ w _ => new_any 0 (idD 0) (idD_len _) w ρ)) (sub_of [11] (by kernel_rfl)) ?_
  refine wa_takes (fuel := 1) [6] [0, 3, 14, 20, 23] (listed' := #[true, true, true, true, true, true, true, false]) (l' := [(0, eV (.slice a0 len0 cap0)), (3, eL 13 0), (14, eI .i64 2), (20, eA [cI .i64 0, cI .i64 0, cI .i64 0, .ints .u8 32 (idD 0)]), (23, eL 13 71)]) (pk_block (pk_then (pk_then (pk_block (pk_then pk_body))))) rfl (by kernel_rfl) ?_
  refine wa_all [7] (by kernel_rfl) rfl (all1 ?_)
  refine wi_op rfl rfl (ot_eff (l' := [(0, eV (.slice a0 len0 cap0)), (3, eL 13 0), (14, eI .i64 2), (20, eA [cI .i64 0, cI .i64 0, cI .i64 0, .ints .u8 32 (idD 0)]), (23, eL 13 71)]) (H' := [(11, ⟨[cI .i64 0, cI .i64 0, cB false, cB false, cB false, cB false], 47⟩), (13, ⟨[.one (.ls 11 0 1 1), cI .i64 0, cI .i64 0, cI .i64 0, .ints .u8 32 (idD 0), cI .i64 0, cI .i64 0, cI .i64 0, .ints .u8 32 (idD 0), cI .i64 0, cI .i64 0, cI .i64 0, .ints .u8 32 (idD 0)], 51⟩)]) (by kernel_rfl)) (sub_of [11] (by kernel_rfl)) ?_
  refine wa_done (by kernel_rfl) ?_
  refine we_rest [0, 3, 14] [11, 13] (l' := [(0, eV (.slice a0 len0 cap0)), (3, eL 13 0), (14, eI .i64 2)]) (H' := [(11, ⟨[cI .i64 0, cI .i64 0, cB false, cB false, cB false, cB false], 47⟩), (13, ⟨[.one (.ls 11 0 1 1), cI .i64 0, cI .i64 0, cI .i64 0, .ints .u8 32 (idD 0), cI .i64 0, cI .i64 0, cI .i64 0, .ints .u8 32 (idD 0), cI .i64 0, cI .i64 0, cI .i64 0, .ints .u8 32 (idD 0)], 51⟩)]) (by kernel_rfl) (by kernel_rfl) ?_
  refine we_block ?_
  refine we_then ?_
  refine wc_reg [0, 1] (by kernel_rfl) ?_
  refine wo_run [0, 1] [0, 3, 14] [11, 13] (l' := [(0, eV (.slice a0 len0 cap0)), (3, eL 13 0), (14, eI .i64 3)]) (H' := [(11, ⟨[cI .i64 0, cI .i64 0, cB false, cB false, cB false, cB false], 47⟩), (13, ⟨[.one (.ls 11 0 1 1), cI .i64 0, cI .i64 0, cI .i64 0, .ints .u8 32 (idD 0), cI .i64 0, cI .i64 0, cI .i64 0, .ints .u8 32 (idD 0), cI .i64 0, cI .i64 0, cI .i64 0, .ints .u8 32 (idD 0)], 51⟩)]) (by kernel_rfl) ?_
  refine wo_nil ?_
  refine we_unr ?_
  refine wr_go ?_
  refine wc_seq ?_
  refine wc_reg [0] (by kernel_rfl) ?_
  refine wo_run [0] [0, 3, 14, 15] [11, 13] (l' := [(0, eV (.slice a0 len0 cap0)), (3, eL 13 0), (14, eI .i64 3), (15, eB false)]) (H' := [(11, ⟨[cI .i64 0, cI .i64 0, cB false, cB false, cB false, cB false], 47⟩), (13, ⟨[.one (.ls 11 0 1 1), cI .i64 0, cI .i64 0, cI .i64 0, .ints .u8 32 (idD 0), cI .i64 0, cI .i64 0, cI .i64 0, .ints .u8 32 (idD 0), cI .i64 0, cI .i64 0, cI .i64 0, .ints .u8 32 (idD 0)], 51⟩)]) (by kernel_rfl) ?_
  refine wo_nil ?_
  refine we_then ?_
  refine wc_seq ?_
  refine wc_false rfl ?_
  refine wc_exit ?_
  refine we_then_exit ?_
  refine we_then_exit ?_
  refine we_block_exit ?_
  refine we_then ?_
  refine wc_seq ?_
  refine wc_seq ?_
  refine wc_reg [0] (by kernel_rfl) ?_
  refine wo_run [0] [0, 3, 5] [11, 13] (l' := [(0, eV (.slice a0 len0 cap0)), (3, eL 13 0), (5, eI .i64 0)]) (H' := [(11, ⟨[cI .i64 0, cI .i64 0, cB false, cB false, cB false, cB false], 47⟩), (13, ⟨[.one (.ls 11 0 1 1), cI .i64 0, cI .i64 0, cI .i64 0, .ints .u8 32 (idD 0), cI .i64 0, cI .i64 0, cI .i64 0, .ints .u8 32 (idD 0), cI .i64 0, cI .i64 0, cI .i64 0, .ints .u8 32 (idD 0)], 51⟩)]) (by kernel_rfl) ?_
  refine wo_nil ?_
  refine we_then ?_
  refine wc_block ?_
  refine wc_flat 11 [.vals (rowV gB run0.L ++ [])] rfl (fun _ => rfl) (okCs_vals _) ?_
  refine wc_rest [0, 3, 5] [13, 11] (l' := [(0, eV (.slice a0 len0 cap0)), (3, eL 13 0), (5, eI .i64 0)]) (H' := [(13, ⟨[.one (.ls 11 0 run0.n 1), cI .i64 run0.s0.e, cI .i64 run0.s0.v, cI .i64 run0.s0.l, .ints .u8 32 run0.s0.d, cI .i64 run0.s1.e, cI .i64 run0.s1.v, cI .i64 run0.s1.l, .ints .u8 32 run0.s1.d, cI .i64 run0.s2.e, cI .i64 run0.s2.v, cI .i64 run0.s2.l, .ints .u8 32 run0.s2.d], 51⟩), (11, ⟨[.vals (rowV gB run0.L ++ [])], 47⟩)]) (by kernel_rfl) ?_
  refine wc_rest [0, 3, 5] [11, 13] (l' := [(0, eV (.slice a0 len0 cap0)), (3, eL 13 0), (5, eI .i64 0)]) (H' := [(11, ⟨[.vals (rowV gB run0.L ++ [])], 47⟩), (13, ⟨[.one (.ls 11 0 run0.n 1), cI .i64 run0.s0.e, cI .i64 run0.s0.v, cI .i64 run0.s0.l, .ints .u8 32 run0.s0.d, cI .i64 run0.s1.e, cI .i64 run0.s1.v, cI .i64 run0.s1.l, .ints .u8 32 run0.s1.d, cI .i64 run0.s2.e, cI .i64 run0.s2.v, cI .i64 run0.s2.l, .ints .u8 32 run0.s2.d], 51⟩)]) (by kernel_rfl) ?_
  refine wc_loop (τ := Run × Nat × List Value × Nat) (fun ⟨r, cap, rest, k⟩ => r.ok cap rest ∧ Good r ∧ k ≤ len0) (fun ⟨r, cap, rest, k⟩ => len0 - k) (fun _ => _) (fun ⟨r, cap, rest, k⟩ => [(0, eV (.slice a0 len0 cap0)), (3, eL 13 0), (5, eI .i64 ((k : Nat) : Int))]) (fun ⟨r, cap, rest, k⟩ => [(11, ⟨[.vals (rowV gB r.L ++ rest)], 47⟩), (13, ⟨(cRun 11 r.n cap r.s0 r.s1 r.s2), 51⟩)]) (run0, 1, [], 0) (⟨run0_ok, run0_good, Nat.zero_le _⟩) rfl rfl rfl ?_
  rintro ⟨r, cap, rest, k⟩ hj
  obtain ⟨hr, hG, hk⟩ := hj
  refine wc_seq ?_
  refine wc_seq ?_
  refine wc_reg [0, 1, 2, 3, 4, 5, 6, 7] (by kernel_rfl) ?_
  refine wo_run [0, 1, 2, 3, 4] [0, 3, 5, 29] [11, 13] (l' := [(0, eV (.slice a0 len0 cap0)), (3, eL 13 0), (5, eI .i64 ((k : Nat) : Int)), (29, eB (decide (((k : Nat) : Int) < ((len0 : Nat) : Int))))]) (H' := [(11, ⟨[.vals (rowV gB r.L ++ rest)], 47⟩), (13, ⟨(cRun 11 r.n cap r.s0 r.s1 r.s2), 51⟩)]) (by kernel_rfl) ?_
  refine wo_bool 29 rfl (fun h1 => ?_) (fun h1 => ?_)
  · replace h1 := of_decide_eq_true h1
    refine wo_run [5, 6, 7] [0, 3, 5, 32] [11, 13] (l' := [(0, eV (.slice a0 len0 cap0)), (3, eL 13 0), (5, eI .i64 ((k : Nat) : Int)), (32, eB (decide (((k : Nat) : Int) < 2000)))]) (H' := [(11, ⟨[.vals (rowV gB r.L ++ rest)], 47⟩), (13, ⟨(cRun 11 r.n cap r.s0 r.s1 r.s2), 51⟩)]) (by kernel_rfl) ?_
    refine wo_nil ?_
    refine we_then ?_
    refine wc_cond rfl (fun h2 => ?_) (fun h2 => ?_)
    · replace h2 := of_decide_eq_true h2
      refine wc_skip ?_
      refine we_then ?_
      refine wc_seq ?_
      refine wc_block ?_
      refine wc_reg [0, 1, 2, 3, 4, 5] (by kernel_rfl) ?_
      refine wo_run [0, 1, 2] [0, 3, 5, 35, 36, 37] [11, 13] (l' := [(0, eV (.slice a0 len0 cap0)), (3, eL 13 0), (5, eI .i64 ((k : Nat) : Int)), (35, eL 13 0), (36, eV (.slice a0 len0 cap0)), (37, eI .i64 ((k : Nat) : Int))]) (H' := [(11, ⟨[.vals (rowV gB r.L ++ rest)], 47⟩), (13, ⟨(cRun 11 r.n cap r.s0 r.s1 r.s2), 51⟩)]) (by kernel_rfl) ?_
      refine wo_op rfl rfl (ot_rd rfl (rd_index (e := 55) b0 off0 4 k rfl (by kernel_rfl) (by kernel_rfl) rfl rfl ((Int.ofNat_lt.1 h1)) ((hb0 (Nat.zero_lt_of_lt (Int.ofNat_lt.1 h1))).1))) ?_
      refine wo_op rfl rfl (ot_rd rfl (rd_load (v := .agg [cI .i64 (x k).kind, cI .i64 (x k).who, cI .i64 (x k).block, cI .i64 (x k).view]) b0 (off0 + k * 4) 0 [cI .i64 (x k).kind, cI .i64 (x k).who, cI .i64 (x k).block, cI .i64 (x k).view] rfl (off0 + k * 4) rfl rfl ((xI (hb0 (Nat.zero_lt_of_lt (Int.ofNat_lt.1 h1))).2)) (hc0 k (Int.ofNat_lt.1 h1)) (okc_one (okc_one (okc_one (okc_one okc_nil)))) (fun _ => rfl) (by kernel_rfl))) ?_
      refine wo_ox rfl rfl (ox_callm (τ := Option (Nat × List Value)) (φ := playOk r (x k)) [sL 100000 0, .agg [cI .i64 (x k).kind, cI .i64 (x k).who, cI .i64 (x k).block, cI .i64 (x k).view]] [(100000, ⟨(cRun 100001 r.n cap r.s0 r.s1 r.s2), 51⟩), (100001, ⟨[.vals (rowV gB r.L ++ rest)], 47⟩)] [(100000, 13), (100001, 11)] [(77, 40)] [] (fun _ => .t []) (fun y => playH r (x k) (mwho (x k)) cap rest y) rfl (by kernel_rfl) rfl Try.func24 (by kernel_rfl) (by kernel_rfl) (by kernel_rfl) (by kernel_rfl) (by kernel_rfl) (by kernel_rfl) (⟨⟨by kernel_rfl, by kernel_rfl, by kernel_rfl⟩, ⟨by kernel_rfl, by kernel_rfl, by kernel_rfl⟩, trivial⟩) (fun y => by rcases y with _ | ⟨_, _⟩ <;> kernel_rfl) (fun _ => by kernel_rfl) (fun _ _ => okv_nil) (fun ρ w _ hh => play_any r cap rest hr (x k) w _ hh)) (fun y hy _ => ?_)
      rcases y with _ | ⟨c1, r1⟩
      · refine wo_run [] [0, 3, 5] [11, 13] (l' := [(0, eV (.slice a0 len0 cap0)), (3, eL 13 0), (5, eI .i64 ((k : Nat) : Int))]) (H' := [(11, ⟨[.vals (rowV gB (playR r (x k) (mwho (x k))).L ++ rest)], 47⟩), (13, ⟨[.one (.ls 11 0 ((playR r (x k) (mwho (x k))).n) cap), cI .i64 (playR r (x k) (mwho (x k))).s0.e, cI .i64 (playR r (x k) (mwho (x k))).s0.v, cI .i64 (playR r (x k) (mwho (x k))).s0.l, .ints .u8 32 ((playR r (x k) (mwho (x k))).s0.d), cI .i64 (playR r (x k) (mwho (x k))).s1.e, cI .i64 (playR r (x k) (mwho (x k))).s1.v, cI .i64 (playR r (x k) (mwho (x k))).s1.l, .ints .u8 32 ((playR r (x k) (mwho (x k))).s1.d), cI .i64 (playR r (x k) (mwho (x k))).s2.e, cI .i64 (playR r (x k) (mwho (x k))).s2.v, cI .i64 (playR r (x k) (mwho (x k))).s2.l, .ints .u8 32 ((playR r (x k) (mwho (x k))).s2.d)], 51⟩)]) (by kernel_rfl) ?_
        refine wo_nil ?_
        refine we_block ?_
        refine we_then ?_
        refine wc_reg [0, 1, 2] (by kernel_rfl) ?_
        refine wo_run [0, 1, 2] [0, 3, 5] [11, 13] (l' := [(0, eV (.slice a0 len0 cap0)), (3, eL 13 0), (5, eI .i64 (IntKind.wrap .i64 (((k : Nat) : Int) + 1)))]) (H' := [(11, ⟨[.vals (rowV gB (playR r (x k) (mwho (x k))).L ++ rest)], 47⟩), (13, ⟨[.one (.ls 11 0 ((playR r (x k) (mwho (x k))).n) cap), cI .i64 (playR r (x k) (mwho (x k))).s0.e, cI .i64 (playR r (x k) (mwho (x k))).s0.v, cI .i64 (playR r (x k) (mwho (x k))).s0.l, .ints .u8 32 ((playR r (x k) (mwho (x k))).s0.d), cI .i64 (playR r (x k) (mwho (x k))).s1.e, cI .i64 (playR r (x k) (mwho (x k))).s1.v, cI .i64 (playR r (x k) (mwho (x k))).s1.l, .ints .u8 32 ((playR r (x k) (mwho (x k))).s1.d), cI .i64 (playR r (x k) (mwho (x k))).s2.e, cI .i64 (playR r (x k) (mwho (x k))).s2.v, cI .i64 (playR r (x k) (mwho (x k))).s2.l, .ints .u8 32 ((playR r (x k) (mwho (x k))).s2.d)], 51⟩)]) (by kernel_rfl) ?_
        refine wo_nil ?_
        refine we_rest [0, 3, 5] [11, 13] (l' := [(0, eV (.slice a0 len0 cap0)), (3, eL 13 0), (5, eI .i64 (IntKind.wrap .i64 (((k : Nat) : Int) + 1)))]) (H' := [(11, ⟨[.vals (rowV gB (playR r (x k) (mwho (x k))).L ++ rest)], 47⟩), (13, ⟨[.one (.ls 11 0 ((playR r (x k) (mwho (x k))).n) cap), cI .i64 (playR r (x k) (mwho (x k))).s0.e, cI .i64 (playR r (x k) (mwho (x k))).s0.v, cI .i64 (playR r (x k) (mwho (x k))).s0.l, .ints .u8 32 ((playR r (x k) (mwho (x k))).s0.d), cI .i64 (playR r (x k) (mwho (x k))).s1.e, cI .i64 (playR r (x k) (mwho (x k))).s1.v, cI .i64 (playR r (x k) (mwho (x k))).s1.l, .ints .u8 32 ((playR r (x k) (mwho (x k))).s1.d), cI .i64 (playR r (x k) (mwho (x k))).s2.e, cI .i64 (playR r (x k) (mwho (x k))).s2.v, cI .i64 (playR r (x k) (mwho (x k))).s2.l, .ints .u8 32 ((playR r (x k) (mwho (x k))).s2.d)], 51⟩)]) (by kernel_rfl) (by kernel_rfl) ?_
        rw [show (IntKind.wrap .i64 (((k : Nat) : Int) + 1)) = ((k + 1 : Nat) : Int) from wrap_succ (by simp only [maxLen] at hcap0; omega)]
        exact we_round ((playR r (x k) (mwho (x k))), cap, rest, k + 1) (⟨playR_ok (x := none) hr hy, hG.play hr _ (mwho_lt _), by omega⟩) (by show len0 - (k + 1) < len0 - k; omega) rfl (sub_ofE [0, 3, 5] rfl) (sub_of [11, 13] rfl)
      · refine wo_run [] [0, 3, 5] [13, 40] (l' := [(0, eV (.slice a0 len0 cap0)), (3, eL 13 0), (5, eI .i64 ((k : Nat) : Int))]) (H' := [(13, ⟨[.one (.ls 40 0 ((playR r (x k) (mwho (x k))).n) c1), cI .i64 (playR r (x k) (mwho (x k))).s0.e, cI .i64 (playR r (x k) (mwho (x k))).s0.v, cI .i64 (playR r (x k) (mwho (x k))).s0.l, .ints .u8 32 ((playR r (x k) (mwho (x k))).s0.d), cI .i64 (playR r (x k) (mwho (x k))).s1.e, cI .i64 (playR r (x k) (mwho (x k))).s1.v, cI .i64 (playR r (x k) (mwho (x k))).s1.l, .ints .u8 32 ((playR r (x k) (mwho (x k))).s1.d), cI .i64 (playR r (x k) (mwho (x k))).s2.e, cI .i64 (playR r (x k) (mwho (x k))).s2.v, cI .i64 (playR r (x k) (mwho (x k))).s2.l, .ints .u8 32 ((playR r (x k) (mwho (x k))).s2.d)], 51⟩), (40, ⟨[.vals (rowV gB (playR r (x k) (mwho (x k))).L ++ r1)], 47⟩)]) (by kernel_rfl) ?_
        refine wo_nil ?_
        refine we_block ?_
        refine we_then ?_
        refine wc_reg [0, 1, 2] (by kernel_rfl) ?_
        refine wo_run [0, 1, 2] [0, 3, 5] [13, 40] (l' := [(0, eV (.slice a0 len0 cap0)), (3, eL 13 0), (5, eI .i64 (IntKind.wrap .i64 (((k : Nat) : Int) + 1)))]) (H' := [(13, ⟨[.one (.ls 40 0 ((playR r (x k) (mwho (x k))).n) c1), cI .i64 (playR r (x k) (mwho (x k))).s0.e, cI .i64 (playR r (x k) (mwho (x k))).s0.v, cI .i64 (playR r (x k) (mwho (x k))).s0.l, .ints .u8 32 ((playR r (x k) (mwho (x k))).s0.d), cI .i64 (playR r (x k) (mwho (x k))).s1.e, cI .i64 (playR r (x k) (mwho (x k))).s1.v, cI .i64 (playR r (x k) (mwho (x k))).s1.l, .ints .u8 32 ((playR r (x k) (mwho (x k))).s1.d), cI .i64 (playR r (x k) (mwho (x k))).s2.e, cI .i64 (playR r (x k) (mwho (x k))).s2.v, cI .i64 (playR r (x k) (mwho (x k))).s2.l, .ints .u8 32 ((playR r (x k) (mwho (x k))).s2.d)], 51⟩), (40, ⟨[.vals (rowV gB (playR r (x k) (mwho (x k))).L ++ r1)], 47⟩)]) (by kernel_rfl) ?_
        refine wo_nil ?_
        refine we_rest [0, 3, 5] [13, 40] (l' := [(0, eV (.slice a0 len0 cap0)), (3, eL 13 0), (5, eI .i64 (IntKind.wrap .i64 (((k : Nat) : Int) + 1)))]) (H' := [(13, ⟨[.one (.ls 40 0 ((playR r (x k) (mwho (x k))).n) c1), cI .i64 (playR r (x k) (mwho (x k))).s0.e, cI .i64 (playR r (x k) (mwho (x k))).s0.v, cI .i64 (playR r (x k) (mwho (x k))).s0.l, .ints .u8 32 ((playR r (x k) (mwho (x k))).s0.d), cI .i64 (playR r (x k) (mwho (x k))).s1.e, cI .i64 (playR r (x k) (mwho (x k))).s1.v, cI .i64 (playR r (x k) (mwho (x k))).s1.l, .ints .u8 32 ((playR r (x k) (mwho (x k))).s1.d), cI .i64 (playR r (x k) (mwho (x k))).s2.e, cI .i64 (playR r (x k) (mwho (x k))).s2.v, cI .i64 (playR r (x k) (mwho (x k))).s2.l, .ints .u8 32 ((playR r (x k) (mwho (x k))).s2.d)], 51⟩), (40, ⟨[.vals (rowV gB (playR r (x k) (mwho (x k))).L ++ r1)], 47⟩)]) (by kernel_rfl) (by kernel_rfl) ?_
        refine we_ren [(13, 13), (40, 11)] (l' := [(0, eV (.slice a0 len0 cap0)), (3, eL 13 0), (5, eI .i64 (IntKind.wrap .i64 (((k : Nat) : Int) + 1)))]) (H' := [(13, ⟨[.one (.ls 11 0 ((playR r (x k) (mwho (x k))).n) c1), cI .i64 (playR r (x k) (mwho (x k))).s0.e, cI .i64 (playR r (x k) (mwho (x k))).s0.v, cI .i64 (playR r (x k) (mwho (x k))).s0.l, .ints .u8 32 ((playR r (x k) (mwho (x k))).s0.d), cI .i64 (playR r (x k) (mwho (x k))).s1.e, cI .i64 (playR r (x k) (mwho (x k))).s1.v, cI .i64 (playR r (x k) (mwho (x k))).s1.l, .ints .u8 32 ((playR r (x k) (mwho (x k))).s1.d), cI .i64 (playR r (x k) (mwho (x k))).s2.e, cI .i64 (playR r (x k) (mwho (x k))).s2.v, cI .i64 (playR r (x k) (mwho (x k))).s2.l, .ints .u8 32 ((playR r (x k) (mwho (x k))).s2.d)], 51⟩), (11, ⟨[.vals (rowV gB (playR r (x k) (mwho (x k))).L ++ r1)], 47⟩)]) (by kernel_rfl) (by kernel_rfl) (by kernel_rfl) ?_
        refine we_rest [0, 3, 5] [11, 13] (l' := [(0, eV (.slice a0 len0 cap0)), (3, eL 13 0), (5, eI .i64 (IntKind.wrap .i64 (((k : Nat) : Int) + 1)))]) (H' := [(11, ⟨[.vals (rowV gB (playR r (x k) (mwho (x k))).L ++ r1)], 47⟩), (13, ⟨[.one (.ls 11 0 ((playR r (x k) (mwho (x k))).n) c1), cI .i64 (playR r (x k) (mwho (x k))).s0.e, cI .i64 (playR r (x k) (mwho (x k))).s0.v, cI .i64 (playR r (x k) (mwho (x k))).s0.l, .ints .u8 32 ((playR r (x k) (mwho (x k))).s0.d), cI .i64 (playR r (x k) (mwho (x k))).s1.e, cI .i64 (playR r (x k) (mwho (x k))).s1.v, cI .i64 (playR r (x k) (mwho (x k))).s1.l, .ints .u8 32 ((playR r (x k) (mwho (x k))).s1.d), cI .i64 (playR r (x k) (mwho (x k))).s2.e, cI .i64 (playR r (x k) (mwho (x k))).s2.v, cI .i64 (playR r (x k) (mwho (x k))).s2.l, .ints .u8 32 ((playR r (x k) (mwho (x k))).s2.d)], 51⟩)]) (by kernel_rfl) (by kernel_rfl) ?_
        rw [show (IntKind.wrap .i64 (((k : Nat) : Int) + 1)) = ((k + 1 : Nat) : Int) from wrap_succ (by simp only [maxLen] at hcap0; omega)]
        exact we_round ((playR r (x k) (mwho (x k))), c1, r1, k + 1) (⟨playR_ok (x := some (c1, r1)) hr hy, hG.play hr _ (mwho_lt _), by omega⟩) (by show len0 - (k + 1) < len0 - k; omega) rfl (sub_ofE [0, 3, 5] rfl) (sub_of [11, 13] rfl)
    · replace h2 := of_decide_eq_false h2
      refine wc_exit ?_
      refine we_then_exit ?_
      refine we_then_exit ?_
      refine we_block_exit ?_
      refine we_then ?_
      refine wc_seq ?_
      refine wc_seq ?_
      refine wc_reg [0] (by kernel_rfl) ?_
      refine wo_run [0] [3, 6] [11, 13] (l' := [(3, eL 13 0), (6, eI .i64 1)]) (H' := [(11, ⟨[.vals (rowV gB r.L ++ rest)], 47⟩), (13, ⟨(cRun 11 r.n cap r.s0 r.s1 r.s2), 51⟩)]) (by kernel_rfl) ?_
      refine wo_nil ?_
      refine we_then ?_
      refine wc_block ?_
      refine wc_rest [3, 6] [11, 13] (l' := [(3, eL 13 0), (6, eI .i64 1)]) (H' := [(11, ⟨[.vals (rowV gB r.L ++ rest)], 47⟩), (13, ⟨(cRun 11 r.n cap r.s0 r.s1 r.s2), 51⟩)]) (by kernel_rfl) ?_
      refine wc_loop (τ := Nat) (fun i => 1 ≤ i ∧ i ≤ r.n) (fun i => r.n - i) (fun _ => _) (fun i => [(3, eL 13 0), (6, eI .i64 ((i : Nat) : Int))]) (fun i => [(11, ⟨[.vals (rowV gB r.L ++ rest)], 47⟩), (13, ⟨(cRun 11 r.n cap r.s0 r.s1 r.s2), 51⟩)]) 1 (⟨Nat.le_refl _, n_pos hr⟩) rfl rfl rfl ?_
      rintro i hj
      obtain ⟨hi1, hi2⟩ := hj
      refine wc_seq ?_
      refine wc_seq ?_
      refine wc_reg [0, 1, 2, 3, 4, 5, 6] (by kernel_rfl) ?_
      refine wo_run [0, 1, 2, 3, 4] [3, 6, 41, 45] [11, 13] (l' := [(3, eL 13 0), (6, eI .i64 ((i : Nat) : Int)), (41, eI .i64 ((i : Nat) : Int)), (45, .s (.a (.ls 11 0 r.n cap)))]) (H' := [(11, ⟨[.vals (rowV gB r.L ++ rest)], 47⟩), (13, ⟨(cRun 11 r.n cap r.s0 r.s1 r.s2), 51⟩)]) (by kernel_rfl) ?_
      refine wo_op rfl rfl (ot_rd rfl (rd_len rfl rfl rfl rfl (fun _ => by kernel_rfl))) ?_
      refine wo_run [6] [3, 6, 47] [11, 13] (l' := [(3, eL 13 0), (6, eI .i64 ((i : Nat) : Int)), (47, eB (decide (((i : Nat) : Int) < ((r.n : Nat) : Int))))]) (H' := [(11, ⟨[.vals (rowV gB r.L ++ rest)], 47⟩), (13, ⟨(cRun 11 r.n cap r.s0 r.s1 r.s2), 51⟩)]) (by kernel_rfl) ?_
      refine wo_nil ?_
      refine we_then ?_
      refine wc_cond rfl (fun h3 => ?_) (fun h3 => ?_)
      · replace h3 := of_decide_eq_true h3
        refine wc_skip ?_
        refine we_then ?_
        refine wc_seq ?_
        refine wc_block ?_
        refine wc_seq ?_
        refine wc_reg [0] (by kernel_rfl) ?_
        refine wo_run [0] [3, 6, 7] [11, 13] (l' := [(3, eL 13 0), (6, eI .i64 ((i : Nat) : Int)), (7, eI .i64 1)]) (H' := [(11, ⟨[.vals (rowV gB r.L ++ rest)], 47⟩), (13, ⟨(cRun 11 r.n cap r.s0 r.s1 r.s2), 51⟩)]) (by kernel_rfl) ?_
        refine wo_nil ?_
        refine we_then ?_
        refine wc_block ?_
        refine wc_rest [3, 6, 7] [11, 13] (l' := [(3, eL 13 0), (6, eI .i64 ((i : Nat) : Int)), (7, eI .i64 1)]) (H' := [(11, ⟨[.vals (rowV gB r.L ++ rest)], 47⟩), (13, ⟨(cRun 11 r.n cap r.s0 r.s1 r.s2), 51⟩)]) (by kernel_rfl) ?_
        refine wc_loop (τ := Nat) (fun j => 1 ≤ j ∧ j ≤ i) (fun j => i - j) (fun _ => _) (fun j => [(3, eL 13 0), (6, eI .i64 ((i : Nat) : Int)), (7, eI .i64 ((j : Nat) : Int))]) (fun j => [(11, ⟨[.vals (rowV gB r.L ++ rest)], 47⟩), (13, ⟨(cRun 11 r.n cap r.s0 r.s1 r.s2), 51⟩)]) 1 (⟨Nat.le_refl _, hi1⟩) rfl rfl rfl ?_
        rintro j hj
        obtain ⟨hj1, hj2⟩ := hj
        refine wc_seq ?_
        refine wc_seq ?_
        refine wc_reg [0, 1, 2] (by kernel_rfl) ?_
        refine wo_run [0, 1, 2] [3, 6, 7, 52] [11, 13] (l' := [(3, eL 13 0), (6, eI .i64 ((i : Nat) : Int)), (7, eI .i64 ((j : Nat) : Int)), (52, eB (decide (((j : Nat) : Int) < ((i : Nat) : Int))))]) (H' := [(11, ⟨[.vals (rowV gB r.L ++ rest)], 47⟩), (13, ⟨(cRun 11 r.n cap r.s0 r.s1 r.s2), 51⟩)]) (by kernel_rfl) ?_
        refine wo_nil ?_
        refine we_then ?_
        refine wc_cond rfl (fun h4 => ?_) (fun h4 => ?_)
        · replace h4 := of_decide_eq_true h4
          refine wc_skip ?_
          refine we_then ?_
          refine wc_seq ?_
          refine wc_block ?_
          refine wc_seq ?_
          refine wc_rest [3, 6, 7] [11, 13] (l' := [(3, eL 13 0), (6, eI .i64 ((i : Nat) : Int)), (7, eI .i64 ((j : Nat) : Int))]) (H' := [(11, ⟨[.vals (rowV gB r.L ++ rest)], 47⟩), (13, ⟨(cRun 11 r.n cap r.s0 r.s1 r.s2), 51⟩)]) (by kernel_rfl) ?_
          refine wc_draw (n := 27) [(11, ⟨[.vals (rowV gB r.L ++ rest)], 47⟩), (13, ⟨(cRun 11 r.n cap r.s0 r.s1 r.s2), 51⟩)] (by kernel_rfl) rfl (sub_of [11, 13] (by kernel_rfl)) (fun ρ0 => ?_)
          refine wa_takes (fuel := 17) [0, 1, 2, 3, 4, 8, 9, 10, 11, 12] [3, 6, 7, 58, 59, 66, 67] (listed' := #[true, true, true, true, true, false, false, false, true, true, true, true, true, false, false, false, false, false, false, false, false, false, false, false, false, false, false]) (l' := [(3, eL 13 0), (6, eI .i64 ((i : Nat) : Int)), (7, eI .i64 ((j : Nat) : Int)), (58, .s (.a (.ls 11 0 r.n cap))), (59, eI .i64 ((i : Nat) : Int)), (66, .s (.a (.ls 11 0 r.n cap))), (67, eI .i64 ((j : Nat) : Int))]) (pk_then (pk_block (pk_then (pk_then (pk_block (pk_block (pk_then (pk_then (pk_block (pk_then pk_body)))))))))) rfl (by kernel_rfl) ?_
          refine wa_take 5 (pk_then (pk_block (pk_then (pk_then (pk_block (pk_block (pk_then (pk_then (pk_block (pk_then pk_body)))))))))) rfl (by kernel_rfl) rfl rfl (rd_indexL (e := 47) 6 i ((i : Nat) : Int) rfl (by kernel_rfl) (by kernel_rfl) rfl rfl (rfl) (by omega)) ?_
          refine wa_takes (fuel := 15) [6] [3, 6, 7, 61, 66, 67] (listed' := #[true, true, true, true, true, true, true, false, true, true, true, true, true, false, false, false, false, false, false, false, false, false, false, false, false, false, false]) (l' := [(3, eL 13 0), (6, eI .i64 ((i : Nat) : Int)), (7, eI .i64 ((j : Nat) : Int)), (61, eL 11 ((0 + i * 6) + 1)), (66, .s (.a (.ls 11 0 r.n cap))), (67, eI .i64 ((j : Nat) : Int))]) (pk_then (pk_block (pk_then (pk_then (pk_block (pk_block (pk_then (pk_then (pk_block (pk_then pk_body)))))))))) rfl (by kernel_rfl) ?_
          refine wa_take 7 (pk_then (pk_block (pk_then (pk_then (pk_block (pk_block (pk_then (pk_then (pk_block (pk_then pk_body)))))))))) rfl (by kernel_rfl) rfl rfl (rd_cellS (b := ⟨[.vals (rowV gB r.L ++ rest)], 47⟩) (.v (.int .i64 (bk r.L i).view)) rfl rfl rfl (by kernel_rfl) (fun ρ => view_at (hr.ln (by omega)) ρ)) ?_
          refine wa_take 13 (pk_then (pk_block (pk_then (pk_then (pk_block (pk_block (pk_then (pk_then (pk_block (pk_then pk_body)))))))))) rfl (by kernel_rfl) rfl rfl (rd_indexL (e := 47) 6 j ((j : Nat) : Int) rfl (by kernel_rfl) (by kernel_rfl) rfl rfl (rfl) (by omega)) ?_
          refine wa_takes (fuel := 12) [14] [3, 6, 7, 62, 69] (listed' := #[true, true, true, true, true, true, true, true, true, true, true, true, true, true, true, false, false, false, false, false, false, false, false, false, false, false, false]) (l' := [(3, eL 13 0), (6, eI .i64 ((i : Nat) : Int)), (7, eI .i64 ((j : Nat) : Int)), (62, eI .i64 (bk r.L i).view), (69, eL 11 ((0 + j * 6) + 1))]) (pk_then (pk_block (pk_then (pk_then (pk_block (pk_block (pk_then (pk_then (pk_block (pk_then pk_body)))))))))) rfl (by kernel_rfl) ?_
          refine wa_take 15 (pk_then (pk_block (pk_then (pk_then (pk_block (pk_block (pk_then (pk_then (pk_block (pk_then pk_body)))))))))) rfl (by kernel_rfl) rfl rfl (rd_cellS (b := ⟨[.vals (rowV gB r.L ++ rest)], 47⟩) (.v (.int .i64 (bk r.L j).view)) rfl rfl rfl (by kernel_rfl) (fun ρ => view_at (hr.ln (by omega)) ρ)) ?_
          refine wa_takes (fuel := 9) [16, 17] [3, 6, 7, 72] (listed' := #[true, true, true, true, true, true, true, true, true, true, true, true, true, true, true, true, true, true, false, false, false, false, false, false, false, false, false]) (l' := [(3, eL 13 0), (6, eI .i64 ((i : Nat) : Int)), (7, eI .i64 ((j : Nat) : Int)), (72, eB ((bk r.L i).view == (bk r.L j).view))]) (pk_then (pk_block (pk_then (pk_then (pk_block (pk_block (pk_then (pk_then (pk_block (pk_then pk_body)))))))))) rfl (by kernel_rfl) ?_
          refine wa_bool 72 rfl (fun h5 => ?_) (fun h5 => ?_)
          · replace h5 := eq_of_beq h5
            refine wa_takes (fuel := 7) [18, 19] [3, 6, 7, 72, 73, 74] (listed' := #[true, true, true, true, true, true, true, true, true, true, true, true, true, true, true, true, true, true, true, true, false, false, false, false, false, false, false]) (l' := [(3, eL 13 0), (6, eI .i64 ((i : Nat) : Int)), (7, eI .i64 ((j : Nat) : Int)), (72, eB true), (73, eL 13 0), (74, eI .i64 ((i : Nat) : Int))]) (pk_then (pk_block (pk_then (pk_then (pk_block (pk_block (pk_then (pk_then (pk_block (pk_then pk_body)))))))))) rfl (by kernel_rfl) ?_
            refine wa_all [20] (by kernel_rfl) rfl (all1 ?_)
            refine wi_op rfl rfl (ot_call (vs := [sL 13 0, sI .i64 ((i : Nat) : Int)]) rfl rfl rfl Try.func27 (by kernel_rfl) (by kernel_rfl) (by kernel_rfl) (eB (certB r.L i)) (trivial) (fun ρ w h => certified_any r cap rest hr i (by omega) w (fun k => ρ (Sx.look [(100000, 13), (100001, 11)] k)) (h.heap (π := [(100000, 13), (100001, 11)]) (Hc := [(100000, ⟨(cRun 100001 r.n cap r.s0 r.s1 r.s2), 51⟩), (100001, ⟨[.vals (rowV gB r.L ++ rest)], 47⟩)]) rfl ⟨⟨by kernel_rfl, by kernel_rfl, by kernel_rfl⟩, ⟨by kernel_rfl, by kernel_rfl, by kernel_rfl⟩, trivial⟩))) (sub_of [11, 13] (by kernel_rfl)) ?_
            refine wa_takes (fuel := 4) [21, 22] [3, 6, 7, 77] (listed' := #[true, true, true, true, true, true, true, true, true, true, true, true, true, true, true, true, true, true, true, true, true, true, true, false, false, false, false]) (l' := [(3, eL 13 0), (6, eI .i64 ((i : Nat) : Int)), (7, eI .i64 ((j : Nat) : Int)), (77, eB (certB r.L i))]) (pk_then (pk_block (pk_then (pk_then (pk_block (pk_block (pk_then (pk_then (pk_block (pk_then pk_body)))))))))) rfl (by kernel_rfl) ?_
            refine wa_bool 77 rfl (fun h6 => ?_) (fun h6 => ?_)
            · refine wa_takes (fuel := 2) [23, 24] [3, 6, 7, 77, 78, 79] (listed' := #[true, true, true, true, true, true, true, true, true, true, true, true, true, true, true, true, true, true, true, true, true, true, true, true, true, false, false]) (l' := [(3, eL 13 0), (6, eI .i64 ((i : Nat) : Int)), (7, eI .i64 ((j : Nat) : Int)), (77, eB true), (78, eL 13 0), (79, eI .i64 ((j : Nat) : Int))]) (pk_then (pk_block (pk_then (pk_then (pk_block (pk_block (pk_then (pk_then (pk_block (pk_then pk_body)))))))))) rfl (by kernel_rfl) ?_
              refine wa_all [25] (by kernel_rfl) rfl (all1 ?_)
              refine wi_op rfl rfl (ot_call (vs := [sL 13 0, sI .i64 ((j : Nat) : Int)]) rfl rfl rfl Try.func27 (by kernel_rfl) (by kernel_rfl) (by kernel_rfl) (eB (certB r.L j)) (trivial) (fun ρ w h => certified_any r cap rest hr j (by omega) w (fun k => ρ (Sx.look [(100000, 13), (100001, 11)] k)) (h.heap (π := [(100000, 13), (100001, 11)]) (Hc := [(100000, ⟨(cRun 100001 r.n cap r.s0 r.s1 r.s2), 51⟩), (100001, ⟨[.vals (rowV gB r.L ++ rest)], 47⟩)]) rfl ⟨⟨by kernel_rfl, by kernel_rfl, by kernel_rfl⟩, ⟨by kernel_rfl, by kernel_rfl, by kernel_rfl⟩, trivial⟩))) (sub_of [11, 13] (by kernel_rfl)) ?_
              refine wa_takes (fuel := 0) [26] [3, 6, 7, 81] (listed' := #[true, true, true, true, true, true, true, true, true, true, true, true, true, true, true, true, true, true, true, true, true, true, true, true, true, true, true]) (l' := [(3, eL 13 0), (6, eI .i64 ((i : Nat) : Int)), (7, eI .i64 ((j : Nat) : Int)), (81, eB (certB r.L j))]) (pk_then (pk_block (pk_then (pk_then (pk_block (pk_block (pk_then (pk_then (pk_block (pk_then pk_body)))))))))) rfl (by kernel_rfl) ?_
              refine wa_done (by kernel_rfl) ?_
              refine we_rest [3, 6, 7, 81] [11, 13] (l' := [(3, eL 13 0), (6, eI .i64 ((i : Nat) : Int)), (7, eI .i64 ((j : Nat) : Int)), (81, eB (certB r.L j))]) (H' := [(11, ⟨[.vals (rowV gB r.L ++ rest)], 47⟩), (13, ⟨(cRun 11 r.n cap r.s0 r.s1 r.s2), 51⟩)]) (by kernel_rfl) (by kernel_rfl) ?_
              refine we_then ?_
              refine wc_cond rfl (fun h7 => ?_) (fun h7 => ?_)
              · exact (hG.view hr (by omega) (by omega) (by omega) h5 h6 h7).elim
              · refine wc_skip ?_
                refine we_block ?_
                refine we_then ?_
                refine wc_reg [0, 1, 2] (by kernel_rfl) ?_
                refine wo_run [0, 1, 2] [3, 6, 7] [11, 13] (l' := [(3, eL 13 0), (6, eI .i64 ((i : Nat) : Int)), (7, eI .i64 (IntKind.wrap .i64 (((j : Nat) : Int) + 1)))]) (H' := [(11, ⟨[.vals (rowV gB r.L ++ rest)], 47⟩), (13, ⟨(cRun 11 r.n cap r.s0 r.s1 r.s2), 51⟩)]) (by kernel_rfl) ?_
                refine wo_nil ?_
                refine we_rest [3, 6, 7] [11, 13] (l' := [(3, eL 13 0), (6, eI .i64 ((i : Nat) : Int)), (7, eI .i64 (IntKind.wrap .i64 (((j : Nat) : Int) + 1)))]) (H' := [(11, ⟨[.vals (rowV gB r.L ++ rest)], 47⟩), (13, ⟨(cRun 11 r.n cap r.s0 r.s1 r.s2), 51⟩)]) (by kernel_rfl) (by kernel_rfl) ?_
                rw [show (IntKind.wrap .i64 (((j : Nat) : Int) + 1)) = ((j + 1 : Nat) : Int) from wrap_succ (by have := hr.small; omega)]
                exact we_round (j + 1) (⟨by omega, by omega⟩) (by show i - (j + 1) < i - j; omega) rfl (sub_ofE [3, 6, 7] rfl) (sub_of [11, 13] rfl)
            · refine wa_takes (fuel := 0) [23, 24, 25, 26] [3, 6, 7, 81] (listed' := #[true, true, true, true, true, true, true, true, true, true, true, true, true, true, true, true, true, true, true, true, true, true, true, true, true, true, true]) (l' := [(3, eL 13 0), (6, eI .i64 ((i : Nat) : Int)), (7, eI .i64 ((j : Nat) : Int)), (81, eB false)]) (pk_then (pk_block (pk_then (pk_then (pk_block (pk_block (pk_then (pk_then (pk_block (pk_then pk_body)))))))))) rfl (by kernel_rfl) ?_
              refine wa_done (by kernel_rfl) ?_
              refine we_rest [3, 6, 7, 81] [11, 13] (l' := [(3, eL 13 0), (6, eI .i64 ((i : Nat) : Int)), (7, eI .i64 ((j : Nat) : Int)), (81, eB false)]) (H' := [(11, ⟨[.vals (rowV gB r.L ++ rest)], 47⟩), (13, ⟨(cRun 11 r.n cap r.s0 r.s1 r.s2), 51⟩)]) (by kernel_rfl) (by kernel_rfl) ?_
              refine we_then ?_
              refine wc_false rfl ?_
              refine wc_skip ?_
              refine we_block ?_
              refine we_then ?_
              refine wc_reg [0, 1, 2] (by kernel_rfl) ?_
              refine wo_run [0, 1, 2] [3, 6, 7] [11, 13] (l' := [(3, eL 13 0), (6, eI .i64 ((i : Nat) : Int)), (7, eI .i64 (IntKind.wrap .i64 (((j : Nat) : Int) + 1)))]) (H' := [(11, ⟨[.vals (rowV gB r.L ++ rest)], 47⟩), (13, ⟨(cRun 11 r.n cap r.s0 r.s1 r.s2), 51⟩)]) (by kernel_rfl) ?_
              refine wo_nil ?_
              refine we_rest [3, 6, 7] [11, 13] (l' := [(3, eL 13 0), (6, eI .i64 ((i : Nat) : Int)), (7, eI .i64 (IntKind.wrap .i64 (((j : Nat) : Int) + 1)))]) (H' := [(11, ⟨[.vals (rowV gB r.L ++ rest)], 47⟩), (13, ⟨(cRun 11 r.n cap r.s0 r.s1 r.s2), 51⟩)]) (by kernel_rfl) (by kernel_rfl) ?_
              rw [show (IntKind.wrap .i64 (((j : Nat) : Int) + 1)) = ((j + 1 : Nat) : Int) from wrap_succ (by have := hr.small; omega)]
              exact we_round (j + 1) (⟨by omega, by omega⟩) (by show i - (j + 1) < i - j; omega) rfl (sub_ofE [3, 6, 7] rfl) (sub_of [11, 13] rfl)
          · replace h5 := ne_of_beq_false h5
            refine wa_takes (fuel := 0) [18, 19, 20, 21, 22, 23, 24, 25, 26] [3, 6, 7, 81] (listed' := #[true, true, true, true, true, true, true, true, true, true, true, true, true, true, true, true, true, true, true, true, true, true, true, true, true, true, true]) (l' := [(3, eL 13 0), (6, eI .i64 ((i : Nat) : Int)), (7, eI .i64 ((j : Nat) : Int)), (81, eB false)]) (pk_then (pk_block (pk_then (pk_then (pk_block (pk_block (pk_then (pk_then (pk_block (pk_then pk_body)))))))))) rfl (by kernel_rfl) ?_
            refine wa_done (by kernel_rfl) ?_
            refine we_rest [3, 6, 7, 81] [11, 13] (l' := [(3, eL 13 0), (6, eI .i64 ((i : Nat) : Int)), (7, eI .i64 ((j : Nat) : Int)), (81, eB false)]) (H' := [(11, ⟨[.vals (rowV gB r.L ++ rest)], 47⟩), (13, ⟨(cRun 11 r.n cap r.s0 r.s1 r.s2), 51⟩)]) (by kernel_rfl) (by kernel_rfl) ?_
            refine we_then ?_
            refine wc_false rfl ?_
            refine wc_skip ?_
            refine we_block ?_
            refine we_then ?_
            refine wc_reg [0, 1, 2] (by kernel_rfl) ?_
            refine wo_run [0, 1, 2] [3, 6, 7] [11, 13] (l' := [(3, eL 13 0), (6, eI .i64 ((i : Nat) : Int)), (7, eI .i64 (IntKind.wrap .i64 (((j : Nat) : Int) + 1)))]) (H' := [(11, ⟨[.vals (rowV gB r.L ++ rest)], 47⟩), (13, ⟨(cRun 11 r.n cap r.s0 r.s1 r.s2), 51⟩)]) (by kernel_rfl) ?_
            refine wo_nil ?_
            refine we_rest [3, 6, 7] [11, 13] (l' := [(3, eL 13 0), (6, eI .i64 ((i : Nat) : Int)), (7, eI .i64 (IntKind.wrap .i64 (((j : Nat) : Int) + 1)))]) (H' := [(11, ⟨[.vals (rowV gB r.L ++ rest)], 47⟩), (13, ⟨(cRun 11 r.n cap r.s0 r.s1 r.s2), 51⟩)]) (by kernel_rfl) (by kernel_rfl) ?_
            rw [show (IntKind.wrap .i64 (((j : Nat) : Int) + 1)) = ((j + 1 : Nat) : Int) from wrap_succ (by have := hr.small; omega)]
            exact we_round (j + 1) (⟨by omega, by omega⟩) (by show i - (j + 1) < i - j; omega) rfl (sub_ofE [3, 6, 7] rfl) (sub_of [11, 13] rfl)
        · replace h4 := of_decide_eq_false h4
          refine wc_exit ?_
          refine we_then_exit ?_
          refine we_then_exit ?_
          refine we_block_exit ?_
          refine we_block ?_
          refine we_then ?_
          refine wc_reg [0, 1, 2] (by kernel_rfl) ?_
          refine wo_run [0, 1, 2] [3, 6] [11, 13] (l' := [(3, eL 13 0), (6, eI .i64 (IntKind.wrap .i64 (((i : Nat) : Int) + 1)))]) (H' := [(11, ⟨[.vals (rowV gB r.L ++ rest)], 47⟩), (13, ⟨(cRun 11 r.n cap r.s0 r.s1 r.s2), 51⟩)]) (by kernel_rfl) ?_
          refine wo_nil ?_
          refine we_rest [3, 6] [11, 13] (l' := [(3, eL 13 0), (6, eI .i64 (IntKind.wrap .i64 (((i : Nat) : Int) + 1)))]) (H' := [(11, ⟨[.vals (rowV gB r.L ++ rest)], 47⟩), (13, ⟨(cRun 11 r.n cap r.s0 r.s1 r.s2), 51⟩)]) (by kernel_rfl) (by kernel_rfl) ?_
          rw [show (IntKind.wrap .i64 (((i : Nat) : Int) + 1)) = ((i + 1 : Nat) : Int) from wrap_succ (by have := hr.small; omega)]
          exact we_round (i + 1) (⟨by omega, by omega⟩) (by show r.n - (i + 1) < r.n - i; omega) rfl (sub_ofE [3, 6] rfl) (sub_of [11, 13] rfl)
      · replace h3 := of_decide_eq_false h3
        refine wc_exit ?_
        refine we_then_exit ?_
        refine we_then_exit ?_
        refine we_block_exit ?_
        refine we_then ?_
        refine wc_seq ?_
        refine wc_reg [0] (by kernel_rfl) ?_
        refine wo_run [0] [2] [] (l' := [(2, eB true)]) (H' := []) (by kernel_rfl) ?_
        refine wo_nil ?_
        refine we_then ?_
        refine wc_ret ?_
        refine we_ret (.inl rfl) (v := eB true) (by kernel_rfl) ?_
        intro ρ' w' hf'
        refine ⟨?_, hf'.below noS⟩
        rfl
  · replace h1 := of_decide_eq_false h1
    refine wo_run [5, 6, 7] [0, 3, 5, 32] [11, 13] (l' := [(0, eV (.slice a0 len0 cap0)), (3, eL 13 0), (5, eI .i64 ((k : Nat) : Int)), (32, eB false)]) (H' := [(11, ⟨[.vals (rowV gB r.L ++ rest)], 47⟩), (13, ⟨(cRun 11 r.n cap r.s0 r.s1 r.s2), 51⟩)]) (by kernel_rfl) ?_
    refine wo_nil ?_
    refine we_then ?_
    refine wc_false rfl ?_
    refine wc_exit ?_
    refine we_then_exit ?_
    refine we_then_exit ?_
    refine we_block_exit ?_
    refine we_then ?_
    refine wc_seq ?_
    refine wc_seq ?_
    refine wc_reg [0] (by kernel_rfl) ?_
    refine wo_run [0] [3, 6] [11, 13] (l' := [(3, eL 13 0), (6, eI .i64 1)]) (H' := [(11, ⟨[.vals (rowV gB r.L ++ rest)], 47⟩), (13, ⟨(cRun 11 r.n cap r.s0 r.s1 r.s2), 51⟩)]) (by kernel_rfl) ?_
    refine wo_nil ?_
    refine we_then ?_
    refine wc_block ?_
    refine wc_rest [3, 6] [11, 13] (l' := [(3, eL 13 0), (6, eI .i64 1)]) (H' := [(11, ⟨[.vals (rowV gB r.L ++ rest)], 47⟩), (13, ⟨(cRun 11 r.n cap r.s0 r.s1 r.s2), 51⟩)]) (by kernel_rfl) ?_
    refine wc_loop (τ := Nat) (fun i => 1 ≤ i ∧ i ≤ r.n) (fun i => r.n - i) (fun _ => _) (fun i => [(3, eL 13 0), (6, eI .i64 ((i : Nat) : Int))]) (fun i => [(11, ⟨[.vals (rowV gB r.L ++ rest)], 47⟩), (13, ⟨(cRun 11 r.n cap r.s0 r.s1 r.s2), 51⟩)]) 1 (⟨Nat.le_refl _, n_pos hr⟩) rfl rfl rfl ?_
    rintro i hj
    obtain ⟨hi1, hi2⟩ := hj
    refine wc_seq ?_
    refine wc_seq ?_
    refine wc_reg [0, 1, 2, 3, 4, 5, 6] (by kernel_rfl) ?_
    refine wo_run [0, 1, 2, 3, 4] [3, 6, 41, 45] [11, 13] (l' := [(3, eL 13 0), (6, eI .i64 ((i : Nat) : Int)), (41, eI .i64 ((i : Nat) : Int)), (45, .s (.a (.ls 11 0 r.n cap)))]) (H' := [(11, ⟨[.vals (rowV gB r.L ++ rest)], 47⟩), (13, ⟨(cRun 11 r.n cap r.s0 r.s1 r.s2), 51⟩)]) (by kernel_rfl) ?_
    refine wo_op rfl rfl (ot_rd rfl (rd_len rfl rfl rfl rfl (fun _ => by kernel_rfl))) ?_
    refine wo_run [6] [3, 6, 47] [11, 13] (l' := [(3, eL 13 0), (6, eI .i64 ((i : Nat) : Int)), (47, eB (decide (((i : Nat) : Int) < ((r.n : Nat) : Int))))]) (H' := [(11, ⟨[.vals (rowV gB r.L ++ rest)], 47⟩), (13, ⟨(cRun 11 r.n cap r.s0 r.s1 r.s2), 51⟩)]) (by kernel_rfl) ?_
    refine wo_nil ?_
    refine we_then ?_
    refine wc_cond rfl (fun h8 => ?_) (fun h8 => ?_)
    · replace h8 := of_decide_eq_true h8
      refine wc_skip ?_
      refine we_then ?_
      refine wc_seq ?_
      refine wc_block ?_
      refine wc_seq ?_
      refine wc_reg [0] (by kernel_rfl) ?_
      refine wo_run [0] [3, 6, 7] [11, 13] (l' := [(3, eL 13 0), (6, eI .i64 ((i : Nat) : Int)), (7, eI .i64 1)]) (H' := [(11, ⟨[.vals (rowV gB r.L ++ rest)], 47⟩), (13, ⟨(cRun 11 r.n cap r.s0 r.s1 r.s2), 51⟩)]) (by kernel_rfl) ?_
      refine wo_nil ?_
      refine we_then ?_
      refine wc_block ?_
      refine wc_rest [3, 6, 7] [11, 13] (l' := [(3, eL 13 0), (6, eI .i64 ((i : Nat) : Int)), (7, eI .i64 1)]) (H' := [(11, ⟨[.vals (rowV gB r.L ++ rest)], 47⟩), (13, ⟨(cRun 11 r.n cap r.s0 r.s1 r.s2), 51⟩)]) (by kernel_rfl) ?_
      refine wc_loop (τ := Nat) (fun j => 1 ≤ j ∧ j ≤ i) (fun j => i - j) (fun _ => _) (fun j => [(3, eL 13 0), (6, eI .i64 ((i : Nat) : Int)), (7, eI .i64 ((j : Nat) : Int))]) (fun j => [(11, ⟨[.vals (rowV gB r.L ++ rest)], 47⟩), (13, ⟨(cRun 11 r.n cap r.s0 r.s1 r.s2), 51⟩)]) 1 (⟨Nat.le_refl _, hi1⟩) rfl rfl rfl ?_
      rintro j hj
      obtain ⟨hj1, hj2⟩ := hj
      refine wc_seq ?_
      refine wc_seq ?_
      refine wc_reg [0, 1, 2] (by kernel_rfl) ?_
      refine wo_run [0, 1, 2] [3, 6, 7, 52] [11, 13] (l' := [(3, eL 13 0), (6, eI .i64 ((i : Nat) : Int)), (7, eI .i64 ((j : Nat) : Int)), (52, eB (decide (((j : Nat) : Int) < ((i : Nat) : Int))))]) (H' := [(11, ⟨[.vals (rowV gB r.L ++ rest)], 47⟩), (13, ⟨(cRun 11 r.n cap r.s0 r.s1 r.s2), 51⟩)]) (by kernel_rfl) ?_
      refine wo_nil ?_
      refine we_then ?_
      refine wc_cond rfl (fun h9 => ?_) (fun h9 => ?_)
      · replace h9 := of_decide_eq_true h9
        refine wc_skip ?_
        refine we_then ?_
        refine wc_seq ?_
        refine wc_block ?_
        refine wc_seq ?_
        refine wc_rest [3, 6, 7] [11, 13] (l' := [(3, eL 13 0), (6, eI .i64 ((i : Nat) : Int)), (7, eI .i64 ((j : Nat) : Int))]) (H' := [(11, ⟨[.vals (rowV gB r.L ++ rest)], 47⟩), (13, ⟨(cRun 11 r.n cap r.s0 r.s1 r.s2), 51⟩)]) (by kernel_rfl) ?_
        refine wc_draw (n := 27) [(11, ⟨[.vals (rowV gB r.L ++ rest)], 47⟩), (13, ⟨(cRun 11 r.n cap r.s0 r.s1 r.s2), 51⟩)] (by kernel_rfl) rfl (sub_of [11, 13] (by kernel_rfl)) (fun ρ0 => ?_)
        refine wa_takes (fuel := 17) [0, 1, 2, 3, 4, 8, 9, 10, 11, 12] [3, 6, 7, 58, 59, 66, 67] (listed' := #[true, true, true, true, true, false, false, false, true, true, true, true, true, false, false, false, false, false, false, false, false, false, false, false, false, false, false]) (l' := [(3, eL 13 0), (6, eI .i64 ((i : Nat) : Int)), (7, eI .i64 ((j : Nat) : Int)), (58, .s (.a (.ls 11 0 r.n cap))), (59, eI .i64 ((i : Nat) : Int)), (66, .s (.a (.ls 11 0 r.n cap))), (67, eI .i64 ((j : Nat) : Int))]) (pk_then (pk_block (pk_then (pk_then (pk_block (pk_block (pk_then (pk_then (pk_block (pk_then pk_body)))))))))) rfl (by kernel_rfl) ?_
        refine wa_take 5 (pk_then (pk_block (pk_then (pk_then (pk_block (pk_block (pk_then (pk_then (pk_block (pk_then pk_body)))))))))) rfl (by kernel_rfl) rfl rfl (rd_indexL (e := 47) 6 i ((i : Nat) : Int) rfl (by kernel_rfl) (by kernel_rfl) rfl rfl (rfl) (by omega)) ?_
        refine wa_takes (fuel := 15) [6] [3, 6, 7, 61, 66, 67] (listed' := #[true, true, true, true, true, true, true, false, true, true, true, true, true, false, false, false, false, false, false, false, false, false, false, false, false, false, false]) (l' := [(3, eL 13 0), (6, eI .i64 ((i : Nat) : Int)), (7, eI .i64 ((j : Nat) : Int)), (61, eL 11 ((0 + i * 6) + 1)), (66, .s (.a (.ls 11 0 r.n cap))), (67, eI .i64 ((j : Nat) : Int))]) (pk_then (pk_block (pk_then (pk_then (pk_block (pk_block (pk_then (pk_then (pk_block (pk_then pk_body)))))))))) rfl (by kernel_rfl) ?_
        refine wa_take 7 (pk_then (pk_block (pk_then (pk_then (pk_block (pk_block (pk_then (pk_then (pk_block (pk_then pk_body)))))))))) rfl (by kernel_rfl) rfl rfl (rd_cellS (b := ⟨[.vals (rowV gB r.L ++ rest)], 47⟩) (.v (.int .i64 (bk r.L i).view)) rfl rfl rfl (by kernel_rfl) (fun ρ => view_at (hr.ln (by omega)) ρ)) ?_
        refine wa_take 13 (pk_then (pk_block (pk_then (pk_then (pk_block (pk_block (pk_then (pk_then (pk_block (pk_then pk_body)))))))))) rfl (by kernel_rfl) rfl rfl (rd_indexL (e := 47) 6 j ((j : Nat) : Int) rfl (by kernel_rfl) (by kernel_rfl) rfl rfl (rfl) (by omega)) ?_
        refine wa_takes (fuel := 12) [14] [3, 6, 7, 62, 69] (listed' := #[true, true, true, true, true, true, true, true, true, true, true, true, true, true, true, false, false, false, false, false, false, false, false, false, false, false, false]) (l' := [(3, eL 13 0), (6, eI .i64 ((i : Nat) : Int)), (7, eI .i64 ((j : Nat) : Int)), (62, eI .i64 (bk r.L i).view), (69, eL 11 ((0 + j * 6) + 1))]) (pk_then (pk_block (pk_then (pk_then (pk_block (pk_block (pk_then (pk_then (pk_block (pk_then pk_body)))))))))) rfl (by kernel_rfl) ?_
        refine wa_take 15 (pk_then (pk_block (pk_then (pk_then (pk_block (pk_block (pk_then (pk_then (pk_block (pk_then pk_body)))))))))) rfl (by kernel_rfl) rfl rfl (rd_cellS (b := ⟨[.vals (rowV gB r.L ++ rest)], 47⟩) (.v (.int .i64 (bk r.L j).view)) rfl rfl rfl (by kernel_rfl) (fun ρ => view_at (hr.ln (by omega)) ρ)) ?_
        refine wa_takes (fuel := 9) [16, 17] [3, 6, 7, 72] (listed' := #[true, true, true, true, true, true, true, true, true, true, true, true, true, true, true, true, true, true, false, false, false, false, false, false, false, false, false]) (l' := [(3, eL 13 0), (6, eI .i64 ((i : Nat) : Int)), (7, eI .i64 ((j : Nat) : Int)), (72, eB ((bk r.L i).view == (bk r.L j).view))]) (pk_then (pk_block (pk_then (pk_then (pk_block (pk_block (pk_then (pk_then (pk_block (pk_then pk_body)))))))))) rfl (by kernel_rfl) ?_
        refine wa_bool 72 rfl (fun h10 => ?_) (fun h10 => ?_)
        · replace h10 := eq_of_beq h10
          refine wa_takes (fuel := 7) [18, 19] [3, 6, 7, 72, 73, 74] (listed' := #[true, true, true, true, true, true, true, true, true, true, true, true, true, true, true, true, true, true, true, true, false, false, false, false, false, false, false]) (l' := [(3, eL 13 0), (6, eI .i64 ((i : Nat) : Int)), (7, eI .i64 ((j : Nat) : Int)), (72, eB true), (73, eL 13 0), (74, eI .i64 ((i : Nat) : Int))]) (pk_then (pk_block (pk_then (pk_then (pk_block (pk_block (pk_then (pk_then (pk_block (pk_then pk_body)))))))))) rfl (by kernel_rfl) ?_
          refine wa_all [20] (by kernel_rfl) rfl (all1 ?_)
          refine wi_op rfl rfl (ot_call (vs := [sL 13 0, sI .i64 ((i : Nat) : Int)]) rfl rfl rfl Try.func27 (by kernel_rfl) (by kernel_rfl) (by kernel_rfl) (eB (certB r.L i)) (trivial) (fun ρ w h => certified_any r cap rest hr i (by omega) w (fun k => ρ (Sx.look [(100000, 13), (100001, 11)] k)) (h.heap (π := [(100000, 13), (100001, 11)]) (Hc := [(100000, ⟨(cRun 100001 r.n cap r.s0 r.s1 r.s2), 51⟩), (100001, ⟨[.vals (rowV gB r.L ++ rest)], 47⟩)]) rfl ⟨⟨by kernel_rfl, by kernel_rfl, by kernel_rfl⟩, ⟨by kernel_rfl, by kernel_rfl, by kernel_rfl⟩, trivial⟩))) (sub_of [11, 13] (by kernel_rfl)) ?_
          refine wa_takes (fuel := 4) [21, 22] [3, 6, 7, 77] (listed' := #[true, true, true, true, true, true, true, true, true, true, true, true, true, true, true, true, true, true, true, true, true, true, true, false, false, false, false]) (l' := [(3, eL 13 0), (6, eI .i64 ((i : Nat) : Int)), (7, eI .i64 ((j : Nat) : Int)), (77, eB (certB r.L i))]) (pk_then (pk_block (pk_then (pk_then (pk_block (pk_block (pk_then (pk_then (pk_block (pk_then pk_body)))))))))) rfl (by kernel_rfl) ?_
          refine wa_bool 77 rfl (fun h11 => ?_) (fun h11 => ?_)
          · refine wa_takes (fuel := 2) [23, 24] [3, 6, 7, 77, 78, 79] (listed' := #[true, true, true, true, true, true, true, true, true, true, true, true, true, true, true, true, true, true, true, true, true, true, true, true, true, false, false]) (l' := [(3, eL 13 0), (6, eI .i64 ((i : Nat) : Int)), (7, eI .i64 ((j : Nat) : Int)), (77, eB true), (78, eL 13 0), (79, eI .i64 ((j : Nat) : Int))]) (pk_then (pk_block (pk_then (pk_then (pk_block (pk_block (pk_then (pk_then (pk_block (pk_then pk_body)))))))))) rfl (by kernel_rfl) ?_
            refine wa_all [25] (by kernel_rfl) rfl (all1 ?_)
            refine wi_op rfl rfl (ot_call (vs := [sL 13 0, sI .i64 ((j : Nat) : Int)]) rfl rfl rfl Try.func27 (by kernel_rfl) (by kernel_rfl) (by kernel_rfl) (eB (certB r.L j)) (trivial) (fun ρ w h => certified_any r cap rest hr j (by omega) w (fun k => ρ (Sx.look [(100000, 13), (100001, 11)] k)) (h.heap (π := [(100000, 13), (100001, 11)]) (Hc := [(100000, ⟨(cRun 100001 r.n cap r.s0 r.s1 r.s2), 51⟩), (100001, ⟨[.vals (rowV gB r.L ++ rest)], 47⟩)]) rfl ⟨⟨by kernel_rfl, by kernel_rfl, by kernel_rfl⟩, ⟨by kernel_rfl, by kernel_rfl, by kernel_rfl⟩, trivial⟩))) (sub_of [11, 13] (by kernel_rfl)) ?_
            refine wa_takes (fuel := 0) [26] [3, 6, 7, 81] (listed' := #[true, true, true, true, true, true, true, true, true, true, true, true, true, true, true, true, true, true, true, true, true, true, true, true, true, true, true]) (l' := [(3, eL 13 0), (6, eI .i64 ((i : Nat) : Int)), (7, eI .i64 ((j : Nat) : Int)), (81, eB (certB r.L j))]) (pk_then (pk_block (pk_then (pk_then (pk_block (pk_block (pk_then (pk_then (pk_block (pk_then pk_body)))))))))) rfl (by kernel_rfl) ?_
            refine wa_done (by kernel_rfl) ?_
            refine we_rest [3, 6, 7, 81] [11, 13] (l' := [(3, eL 13 0), (6, eI .i64 ((i : Nat) : Int)), (7, eI .i64 ((j : Nat) : Int)), (81, eB (certB r.L j))]) (H' := [(11, ⟨[.vals (rowV gB r.L ++ rest)], 47⟩), (13, ⟨(cRun 11 r.n cap r.s0 r.s1 r.s2), 51⟩)]) (by kernel_rfl) (by kernel_rfl) ?_
            refine we_then ?_
            refine wc_cond rfl (fun h12 => ?_) (fun h12 => ?_)
            · exact (hG.view hr (by omega) (by omega) (by omega) h10 h11 h12).elim
            · refine wc_skip ?_
              refine we_block ?_
              refine we_then ?_
              refine wc_reg [0, 1, 2] (by kernel_rfl) ?_
              refine wo_run [0, 1, 2] [3, 6, 7] [11, 13] (l' := [(3, eL 13 0), (6, eI .i64 ((i : Nat) : Int)), (7, eI .i64 (IntKind.wrap .i64 (((j : Nat) : Int) + 1)))]) (H' := [(11, ⟨[.vals (rowV gB r.L ++ rest)], 47⟩), (13, ⟨(cRun 11 r.n cap r.s0 r.s1 r.s2), 51⟩)]) (by kernel_rfl) ?_
              refine wo_nil ?_
              refine we_rest [3, 6, 7] [11, 13] (l' := [(3, eL 13 0), (6, eI .i64 ((i : Nat) : Int)), (7, eI .i64 (IntKind.wrap .i64 (((j : Nat) : Int) + 1)))]) (H' := [(11, ⟨[.vals (rowV gB r.L ++ rest)], 47⟩), (13, ⟨(cRun 11 r.n cap r.s0 r.s1 r.s2), 51⟩)]) (by kernel_rfl) (by kernel_rfl) ?_
              rw [show (IntKind.wrap .i64 (((j : Nat) : Int) + 1)) = ((j + 1 : Nat) : Int) from wrap_succ (by have := hr.small; omega)]
              exact we_round (j + 1) (⟨by omega, by omega⟩) (by show i - (j + 1) < i - j; omega) rfl (sub_ofE [3, 6, 7] rfl) (sub_of [11, 13] rfl)
          · refine wa_takes (fuel := 0) [23, 24, 25, 26] [3, 6, 7, 81] (listed' := #[true, true, true, true, true, true, true, true, true, true, true, true, true, true, true, true, true, true, true, true, true, true, true, true, true, true, true]) (l' := [(3, eL 13 0), (6, eI .i64 ((i : Nat) : Int)), (7, eI .i64 ((j : Nat) : Int)), (81, eB false)]) (pk_then (pk_block (pk_then (pk_then (pk_block (pk_block (pk_then (pk_then (pk_block (pk_then pk_body)))))))))) rfl (by kernel_rfl) ?_
            refine wa_done (by kernel_rfl) ?_
            refine we_rest [3, 6, 7, 81] [11, 13] (l' := [(3, eL 13 0), (6, eI .i64 ((i : Nat) : Int)), (7, eI .i64 ((j : Nat) : Int)), (81, eB false)]) (H' := [(11, ⟨[.vals (rowV gB r.L ++ rest)], 47⟩), (13, ⟨(cRun 11 r.n cap r.s0 r.s1 r.s2), 51⟩)]) (by kernel_rfl) (by kernel_rfl) ?_
            refine we_then ?_
            refine wc_false rfl ?_
            refine wc_skip ?_
            refine we_block ?_
            refine we_then ?_
            refine wc_reg [0, 1, 2] (by kernel_rfl) ?_
            refine wo_run [0, 1, 2] [3, 6, 7] [11, 13] (l' := [(3, eL 13 0), (6, eI .i64 ((i : Nat) : Int)), (7, eI .i64 (IntKind.wrap .i64 (((j : Nat) : Int) + 1)))]) (H' := [(11, ⟨[.vals (rowV gB r.L ++ rest)], 47⟩), (13, ⟨(cRun 11 r.n cap r.s0 r.s1 r.s2), 51⟩)]) (by kernel_rfl) ?_
            refine wo_nil ?_
            refine we_rest [3, 6, 7] [11, 13] (l' := [(3, eL 13 0), (6, eI .i64 ((i : Nat) : Int)), (7, eI .i64 (IntKind.wrap .i64 (((j : Nat) : Int) + 1)))]) (H' := [(11, ⟨[.vals (rowV gB r.L ++ rest)], 47⟩), (13, ⟨(cRun 11 r.n cap r.s0 r.s1 r.s2), 51⟩)]) (by kernel_rfl) (by kernel_rfl) ?_
            rw [show (IntKind.wrap .i64 (((j : Nat) : Int) + 1)) = ((j + 1 : Nat) : Int) from wrap_succ (by have := hr.small; omega)]
            exact we_round (j + 1) (⟨by omega, by omega⟩) (by show i - (j + 1) < i - j; omega) rfl (sub_ofE [3, 6, 7] rfl) (sub_of [11, 13] rfl)
        · replace h10 := ne_of_beq_false h10
          refine wa_takes (fuel := 0) [18, 19, 20, 21, 22, 23, 24, 25, 26] [3, 6, 7, 81] (listed' := #[true, true, true, true, true, true, true, true, true, true, true, true, true, true, true, true, true, true, true, true, true, true, true, true, true, true, true]) (l' := [(3, eL 13 0), (6, eI .i64 ((i : Nat) : Int)), (7, eI .i64 ((j : Nat) : Int)), (81, eB false)]) (pk_then (pk_block (pk_then (pk_then (pk_block (pk_block (pk_then (pk_then (pk_block (pk_then pk_body)))))))))) rfl (by kernel_rfl) ?_
          refine wa_done (by kernel_rfl) ?_
          refine we_rest [3, 6, 7, 81] [11, 13] (l' := [(3, eL 13 0), (6, eI .i64 ((i : Nat) : Int)), (7, eI .i64 ((j : Nat) : Int)), (81, eB false)]) (H' := [(11, ⟨[.vals (rowV gB r.L ++ rest)], 47⟩), (13, ⟨(cRun 11 r.n cap r.s0 r.s1 r.s2), 51⟩)]) (by kernel_rfl) (by kernel_rfl) ?_
          refine we_then ?_
          refine wc_false rfl ?_
          refine wc_skip ?_
          refine we_block ?_
          refine we_then ?_
          refine wc_reg [0, 1, 2] (by kernel_rfl) ?_
          refine wo_run [0, 1, 2] [3, 6, 7] [11, 13] (l' := [(3, eL 13 0), (6, eI .i64 ((i : Nat) : Int)), (7, eI .i64 (IntKind.wrap .i64 (((j : Nat) : Int) + 1)))]) (H' := [(11, ⟨[.vals (rowV gB r.L ++ rest)], 47⟩), (13, ⟨(cRun 11 r.n cap r.s0 r.s1 r.s2), 51⟩)]) (by kernel_rfl) ?_
          refine wo_nil ?_
          refine we_rest [3, 6, 7] [11, 13] (l' := [(3, eL 13 0), (6, eI .i64 ((i : Nat) : Int)), (7, eI .i64 (IntKind.wrap .i64 (((j : Nat) : Int) + 1)))]) (H' := [(11, ⟨[.vals (rowV gB r.L ++ rest)], 47⟩), (13, ⟨(cRun 11 r.n cap r.s0 r.s1 r.s2), 51⟩)]) (by kernel_rfl) (by kernel_rfl) ?_
          rw [show (IntKind.wrap .i64 (((j : Nat) : Int) + 1)) = ((j + 1 : Nat) : Int) from wrap_succ (by have := hr.small; omega)]
          exact we_round (j + 1) (⟨by omega, by omega⟩) (by show i - (j + 1) < i - j; omega) rfl (sub_ofE [3, 6, 7] rfl) (sub_of [11, 13] rfl)
      · replace h9 := of_decide_eq_false h9
        refine wc_exit ?_
        refine we_then_exit ?_
        refine we_then_exit ?_
        refine we_block_exit ?_
        refine we_block ?_
        refine we_then ?_
        refine wc_reg [0, 1, 2] (by kernel_rfl) ?_
        refine wo_run [0, 1, 2] [3, 6] [11, 13] (l' := [(3, eL 13 0), (6, eI .i64 (IntKind.wrap .i64 (((i : Nat) : Int) + 1)))]) (H' := [(11, ⟨[.vals (rowV gB r.L ++ rest)], 47⟩), (13, ⟨(cRun 11 r.n cap r.s0 r.s1 r.s2), 51⟩)]) (by kernel_rfl) ?_
        refine wo_nil ?_
        refine we_rest [3, 6] [11, 13] (l' := [(3, eL 13 0), (6, eI .i64 (IntKind.wrap .i64 (((i : Nat) : Int) + 1)))]) (H' := [(11, ⟨[.vals (rowV gB r.L ++ rest)], 47⟩), (13, ⟨(cRun 11 r.n cap r.s0 r.s1 r.s2), 51⟩)]) (by kernel_rfl) (by kernel_rfl) ?_
        rw [show (IntKind.wrap .i64 (((i : Nat) : Int) + 1)) = ((i + 1 : Nat) : Int) from wrap_succ (by have := hr.small; omega)]
        exact we_round (i + 1) (⟨by omega, by omega⟩) (by show r.n - (i + 1) < r.n - i; omega) rfl (sub_ofE [3, 6] rfl) (sub_of [11, 13] rfl)
    · replace h8 := of_decide_eq_false h8
      refine wc_exit ?_
      refine we_then_exit ?_
      refine we_then_exit ?_
      refine we_block_exit ?_
      refine we_then ?_
      refine wc_seq ?_
      refine wc_reg [0] (by kernel_rfl) ?_
      refine wo_run [0] [2] [] (l' := [(2, eB true)]) (H' := []) (by kernel_rfl) ?_
      refine wo_nil ?_
      refine we_then ?_
      refine wc_ret ?_
      refine we_ret (.inl rfl) (v := eB true) (by kernel_rfl) ?_
      intro ρ' w' hf'
      refine ⟨?_, hf'.below noS⟩
      rfl

end Go.Proofs.Ytckhcmdjgkoocaa
