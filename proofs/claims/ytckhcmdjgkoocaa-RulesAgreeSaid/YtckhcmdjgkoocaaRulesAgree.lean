/- Three of four who keep to the rules agree: the walk. -/
import Derived.Test.YtckhcmdjgkoocaaRulesW
namespace Go.Proofs.Ytckhcmdjgkoocaa
open Go.RowKit Go.Sx
set_option linter.unusedVariables false
set_option linter.unusedSimpArgs false
abbrev z51 : List Chunk := [cV (.slice none 0 0), cI .i64 0, cI .i64 0, cI .i64 0, .ints .u8 32 (List.replicate 32 0), cI .i64 0, cI .i64 0, cI .i64 0, .ints .u8 32 (List.replicate 32 0), cI .i64 0, cI .i64 0, cI .i64 0, .ints .u8 32 (List.replicate 32 0)]
theorem z51_zero' : (Try.prog.info? 51).bind (·.zero) = some (SV.conc (fun _ => 0) (.agg z51)) := by kernel_rfl
theorem z51_zero : (Try.prog.info? 51).bind (·.zero) = some (SV.conc (fun _ => 0) (.agg z51)) ∨ ∃ v, (Try.prog.info? 51).bind (·.zero) = some v ∧ z51 = [.one (.v v)] ∧ v.oneCell' = true := .inl z51_zero'
theorem z51_ok : okCs z51 := okc_one (okc_one (okc_one (okc_one (okc_ints (List.length_replicate) (okc_one (okc_one (okc_one (okc_ints (List.length_replicate) (okc_one (okc_one (okc_one (okc_ints (List.length_replicate) (okc_nil)))))))))))))

set_option maxHeartbeats 4000000 in
theorem rulesAgree_any (a0 : Option Addr) (len0 cap0 b0 off0 : Nat) (x : Nat → Mv) (hlc0 : len0 ≤ cap0) (hcap0 : cap0 ≤ maxLen) (w : World) (hb0 : 0 < len0 → a0 = some ⟨b0, off0, none⟩ ∧ b0 < w.heap.size) (hc0 : ∀ i, i < len0 → CellsAt w b0 (off0 + i * 4) (cM (x i))) (ρ : Nat → Nat) :
    Calls Try.prog 6 ([sV (.slice a0 len0 cap0)].map (SV.conc ρ)).toArray w fun r w' => r = .returned (EV.conc ρ (eB true)) ∧ Below w.heap.size w w' := by
  refine calls_enter (vs := [sV (.slice a0 len0 cap0)]) (N := 98) [] ρ Try.func6 rfl rfl (Nat.le_of_ble_eq_true rfl) (okv_a (okv_nil)) noH noH2 ?_ _ rfl
  refine wc_seq ?_
  refine wc_reg [0] (by kernel_rfl) ?_
  refine wo_run [0] [0] [] (l' := [(0, eV (.slice a0 len0 cap0))]) (H' := []) (by kernel_rfl) ?_
  refine wo_nil ?_
  refine we_then ?_
  refine wc_seq ?_
  refine wc_seq ?_
  refine wc_reg [0, 1] (by kernel_rfl) ?_
  refine wo_op rfl rfl (ot_call (vs := []) rfl rfl rfl Try.func15 (by kernel_rfl) (by kernel_rfl) (by kernel_rfl) (eB true) (trivial) (fun ρ w _ => awake_any w ρ)) ?_
  refine wo_run [1] [0, 12] [] (l' := [(0, eV (.slice a0 len0 cap0)), (12, eB false)]) (H' := []) (by kernel_rfl) ?_
  refine wo_nil ?_
  refine we_then ?_
  refine wc_false rfl ?_
  refine wc_skip ?_
  refine we_then ?_
  refine wc_seq ?_
  refine wc_reg [0, 1, 2, 3, 4] (by kernel_rfl) ?_
  refine wo_op rfl rfl (ot_rd rfl (rd_build (zc := z47) [cI .i64 0, cI .i64 0, cB false, cB false, cB false, cB false] rfl z47_zero' z47_ok (fun _ => rfl) (by kernel_rfl) (by kernel_rfl))) ?_
  refine wo_op rfl rfl (ot_bslice (e := 47) (d := 14) (n := 1) (size := 6) [cI .i64 0, cI .i64 0, cB false, cB false, cB false, cB false] [cI .i64 0, cI .i64 0, cB false, cB false, cB false, cB false] rfl rfl rfl (by kernel_rfl) rfl (by kernel_rfl) (okc_one (okc_one (okc_one (okc_one (okc_one (okc_one (okc_nil))))))) (fun _ => rfl) (by kernel_rfl) (by kernel_rfl)) ?_
  refine wo_op rfl rfl (ot_rd rfl (rd_build (zc := z51) [.one (.ls 14 0 1 1), cI .i64 0, cI .i64 0, cI .i64 0, .ints .u8 32 (List.replicate 32 0), cI .i64 0, cI .i64 0, cI .i64 0, .ints .u8 32 (List.replicate 32 0), cI .i64 0, cI .i64 0, cI .i64 0, .ints .u8 32 (List.replicate 32 0)] rfl z51_zero' z51_ok (fun _ => rfl) (by kernel_rfl) (by kernel_rfl))) ?_
  refine wo_run [3, 4] [0, 3] [14, 16] (l' := [(0, eV (.slice a0 len0 cap0)), (3, eL 16 0)]) (H' := [(14, ⟨[cI .i64 0, cI .i64 0, cB false, cB false, cB false, cB false], 47⟩), (16, ⟨[.one (.ls 14 0 1 1), cI .i64 0, cI .i64 0, cI .i64 0, .ints .u8 32 (List.replicate 32 0), cI .i64 0, cI .i64 0, cI .i64 0, .ints .u8 32 (List.replicate 32 0), cI .i64 0, cI .i64 0, cI .i64 0, .ints .u8 32 (List.replicate 32 0)], 51⟩)]) (by kernel_rfl) ?_
  refine wo_nil ?_
  refine we_then ?_
  refine wc_seq ?_
  refine wc_seq ?_
  refine wc_reg [0] (by kernel_rfl) ?_
  refine wo_run [0] [0, 3, 17] [14, 16] (l' := [(0, eV (.slice a0 len0 cap0)), (3, eL 16 0), (17, eI .i64 0)]) (H' := [(14, ⟨[cI .i64 0, cI .i64 0, cB false, cB false, cB false, cB false], 47⟩), (16, ⟨[.one (.ls 14 0 1 1), cI .i64 0, cI .i64 0, cI .i64 0, .ints .u8 32 (List.replicate 32 0), cI .i64 0, cI .i64 0, cI .i64 0, .ints .u8 32 (List.replicate 32 0), cI .i64 0, cI .i64 0, cI .i64 0, .ints .u8 32 (List.replicate 32 0)], 51⟩)]) (by kernel_rfl) ?_
  refine wo_nil ?_
  refine we_then ?_
  refine wc_block ?_
  refine wc_loopn 4 ?_
  refine wr_go ?_
  refine wc_seq ?_
  refine wc_reg [0] (by kernel_rfl) ?_
  refine wo_run [0] [0, 3, 17, 18] [14, 16] (l' := [(0, eV (.slice a0 len0 cap0)), (3, eL 16 0), (17, eI .i64 0), (18, eB true)]) (H' := [(14, ⟨[cI .i64 0, cI .i64 0, cB false, cB false, cB false, cB false], 47⟩), (16, ⟨[.one (.ls 14 0 1 1), cI .i64 0, cI .i64 0, cI .i64 0, .ints .u8 32 (List.replicate 32 0), cI .i64 0, cI .i64 0, cI .i64 0, .ints .u8 32 (List.replicate 32 0), cI .i64 0, cI .i64 0, cI .i64 0, .ints .u8 32 (List.replicate 32 0)], 51⟩)]) (by kernel_rfl) ?_
  refine wo_nil ?_
  refine we_then ?_
  refine wc_seq ?_
  refine wc_true rfl ?_
  refine wc_skip ?_
  refine we_then ?_
  refine wc_seq ?_
  refine wc_block ?_
  refine wc_seq ?_
  refine wc_reg [0, 1] (by kernel_rfl) ?_
  refine wo_run [0, 1] [0, 3, 4, 17] [14, 16] (l' := [(0, eV (.slice a0 len0 cap0)), (3, eL 16 0), (4, eI .i64 0), (17, eI .i64 0)]) (H' := [(14, ⟨[cI .i64 0, cI .i64 0, cB false, cB false, cB false, cB false], 47⟩), (16, ⟨[.one (.ls 14 0 1 1), cI .i64 0, cI .i64 0, cI .i64 0, .ints .u8 32 (List.replicate 32 0), cI .i64 0, cI .i64 0, cI .i64 0, .ints .u8 32 (List.replicate 32 0), cI .i64 0, cI .i64 0, cI .i64 0, .ints .u8 32 (List.replicate 32 0)], 51⟩)]) (by kernel_rfl) ?_
  refine wo_nil ?_
  refine we_then ?_
  refine wc_draw (n := 8) [(14, ⟨[cI .i64 0, cI .i64 0, cB false, cB false, cB false, cB false], 47⟩)] (by kernel_rfl) rfl (sub_of [14] (by kernel_rfl)) (fun ρ0 => ?_)
  refine wa_takes (fuel := 4) [0, 1, 4, 5] [0, 3, 17, 21, 25] (listed' := #[true, true, false, false, true, true, false, false]) (l' := [(0, eV (.slice a0 len0 cap0)), (3, eL 16 0), (17, eI .i64 0), (21, eI .i64 0), (25, eL 16 1)]) (pk_block (pk_then (pk_then (pk_block (pk_then pk_body))))) rfl (by kernel_rfl) ?_
  refine wa_all [2] (by kernel_rfl) rfl (all1 ?_)
  refine wi_op rfl rfl (ot_call (vs := [sI .i64 0]) rfl rfl rfl Try.func23 (by kernel_rfl) (by kernel_rfl) (by kernel_rfl) (eA [.ints .u8 32 (idD 0)]) (okc_ints (idD_len _) (okc_nil)) (fun ρ w _ => id_any 0 w ρ)) (sub_of [14] (by kernel_rfl)) ?_
  refine wa_all [3] (by kernel_rfl) rfl (all1 ?_)
  refine wi_op rfl rfl (ot_call (vs := [sI .i64 0, .agg [.ints .u8 32 (idD 0)]]) rfl rfl rfl Try.func20 (by kernel_rfl) (by kernel_rfl) (by kernel_rfl) (eA [cI .i64 0, cI .i64 0, cI .i64 0, .ints .u8 32 (idD 0)]) (okc_one (okc_one (okc_one (okc_ints (idD_len _) (okc_nil))))) (fun ρ w _ => new_any 0 (idD 0) (idD_len _) w ρ)) (sub_of [14] (by kernel_rfl)) ?_
  refine wa_takes (fuel := 1) [6] [0, 3, 17, 23, 26] (listed' := #[true, true, true, true, true, true, true, false]) (l' := [(0, eV (.slice a0 len0 cap0)), (3, eL 16 0), (17, eI .i64 0), (23, eA [cI .i64 0, cI .i64 0, cI .i64 0, .ints .u8 32 (idD 0)]), (26, eL 16 1)]) (pk_block (pk_then (pk_then (pk_block (pk_then pk_body))))) rfl (by kernel_rfl) ?_
  refine wa_all [7] (by kernel_rfl) rfl (all1 ?_)
  refine wi_op rfl rfl (ot_eff (l' := [(0, eV (.slice a0 len0 cap0)), (3, eL 16 0), (17, eI .i64 0), (23, eA [cI .i64 0, cI .i64 0, cI .i64 0, .ints .u8 32 (idD 0)]), (26, eL 16 1)]) (H' := [(14, ⟨[cI .i64 0, cI .i64 0, cB false, cB false, cB false, cB false], 47⟩), (16, ⟨[.one (.ls 14 0 1 1), cI .i64 0, cI .i64 0, cI .i64 0, .ints .u8 32 (idD 0), cI .i64 0, cI .i64 0, cI .i64 0, .ints .u8 32 (List.replicate 32 0), cI .i64 0, cI .i64 0, cI .i64 0, .ints .u8 32 (List.replicate 32 0)], 51⟩)]) (by kernel_rfl)) (sub_of [14] (by kernel_rfl)) ?_
  refine wa_done (by kernel_rfl) ?_
  refine we_rest [0, 3, 17] [14, 16] (l' := [(0, eV (.slice a0 len0 cap0)), (3, eL 16 0), (17, eI .i64 0)]) (H' := [(14, ⟨[cI .i64 0, cI .i64 0, cB false, cB false, cB false, cB false], 47⟩), (16, ⟨[.one (.ls 14 0 1 1), cI .i64 0, cI .i64 0, cI .i64 0, .ints .u8 32 (idD 0), cI .i64 0, cI .i64 0, cI .i64 0, .ints .u8 32 (List.replicate 32 0), cI .i64 0, cI .i64 0, cI .i64 0, .ints .u8 32 (List.replicate 32 0)], 51⟩)]) (by kernel_rfl) (by kernel_rfl) ?_
  refine we_block ?_
  refine we_then ?_
  refine wc_reg [0, 1] (by kernel_rfl) ?_
  refine wo_run [0, 1] [0, 3, 17] [14, 16] (l' := [(0, eV (.slice a0 len0 cap0)), (3, eL 16 0), (17, eI .i64 1)]) (H' := [(14, ⟨[cI .i64 0, cI .i64 0, cB false, cB false, cB false, cB false], 47⟩), (16, ⟨[.one (.ls 14 0 1 1), cI .i64 0, cI .i64 0, cI .i64 0, .ints .u8 32 (idD 0), cI .i64 0, cI .i64 0, cI .i64 0, .ints .u8 32 (List.replicate 32 0), cI .i64 0, cI .i64 0, cI .i64 0, .ints .u8 32 (List.replicate 32 0)], 51⟩)]) (by kernel_rfl) ?_
  refine wo_nil ?_
  refine we_unr ?_
  refine wr_go ?_
  refine wc_seq ?_
  refine wc_reg [0] (by kernel_rfl) ?_
  refine wo_run [0] [0, 3, 17, 18] [14, 16] (l' := [(0, eV (.slice a0 len0 cap0)), (3, eL 16 0), (17, eI .i64 1), (18, eB true)]) (H' := [(14, ⟨[cI .i64 0, cI .i64 0, cB false, cB false, cB false, cB false], 47⟩), (16, ⟨[.one (.ls 14 0 1 1), cI .i64 0, cI .i64 0, cI .i64 0, .ints .u8 32 (idD 0), cI .i64 0, cI .i64 0, cI .i64 0, .ints .u8 32 (List.replicate 32 0), cI .i64 0, cI .i64 0, cI .i64 0, .ints .u8 32 (List.replicate 32 0)], 51⟩)]) (by kernel_rfl) ?_
  refine wo_nil ?_
  refine we_then ?_
  refine wc_seq ?_
  refine wc_true rfl ?_
  refine wc_skip ?_
  refine we_then ?_
  refine wc_seq ?_
  refine wc_block ?_
  refine wc_seq ?_
  refine wc_reg [0, 1] (by kernel_rfl) ?_
  refine wo_run [0, 1] [0, 3, 4, 17] [14, 16] (l' := [(0, eV (.slice a0 len0 cap0)), (3, eL 16 0), (4, eI .i64 1), (17, eI .i64 1)]) (H' := [(14, ⟨[cI .i64 0, cI .i64 0, cB false, cB false, cB false, cB false], 47⟩), (16, ⟨[.one (.ls 14 0 1 1), cI .i64 0, cI .i64 0, cI .i64 0, .ints .u8 32 (idD 0), cI .i64 0, cI .i64 0, cI .i64 0, .ints .u8 32 (List.replicate 32 0), cI .i64 0, cI .i64 0, cI .i64 0, .ints .u8 32 (List.replicate 32 0)], 51⟩)]) (by kernel_rfl) ?_
  refine wo_nil ?_
  refine we_then ?_
  refine wc_draw (n := 8) [(14, ⟨[cI .i64 0, cI .i64 0, cB false, cB false, cB false, cB false], 47⟩)] (by kernel_rfl) rfl (sub_of [14] (by kernel_rfl)) (fun ρ0 => ?_)
  refine wa_takes (fuel := 4) [0, 1, 4, 5] [0, 3, 17, 21, 25] (listed' := #[true, true, false, false, true, true, false, false]) (l' := [(0, eV (.slice a0 len0 cap0)), (3, eL 16 0), (17, eI .i64 1), (21, eI .i64 1), (25, eL 16 1)]) (pk_block (pk_then (pk_then (pk_block (pk_then pk_body))))) rfl (by kernel_rfl) ?_
  refine wa_all [2] (by kernel_rfl) rfl (all1 ?_)
  refine wi_op rfl rfl (ot_call (vs := [sI .i64 0]) rfl rfl rfl Try.func23 (by kernel_rfl) (by kernel_rfl) (by kernel_rfl) (eA [.ints .u8 32 (idD 0)]) (okc_ints (idD_len _) (okc_nil)) (fun ρ w _ => id_any 0 w ρ)) (sub_of [14] (by kernel_rfl)) ?_
  refine wa_all [3] (by kernel_rfl) rfl (all1 ?_)
  refine wi_op rfl rfl (ot_call (vs := [sI .i64 0, .agg [.ints .u8 32 (idD 0)]]) rfl rfl rfl Try.func20 (by kernel_rfl) (by kernel_rfl) (by kernel_rfl) (eA [cI .i64 0, cI .i64 0, cI .i64 0, .ints .u8 32 (idD 0)]) (okc_one (okc_one (okc_one (okc_ints (idD_len _) (okc_nil))))) (fun ρ w _ => new_any 0 (idD 0) (idD_len _) w ρ)) (sub_of [14] (by kernel_rfl)) ?_
  refine wa_takes (fuel := 1) [6] [0, 3, 17, 23, 26] (listed' := #[true, true, true, true, true, true, true, false]) (l' := [(0, eV (.slice a0 len0 cap0)), (3, eL 16 0), (17, eI .i64 1), (23, eA [cI .i64 0, cI .i64 0, cI .i64 0, .ints .u8 32 (idD 0)]), (26, eL 16 36)]) (pk_block (pk_then (pk_then (pk_block (pk_then pk_body))))) rfl (by kernel_rfl) ?_
  refine wa_all [7] (by kernel_rfl) rfl (all1 ?_)
  refine wi_op rfl rfl (ot_eff (l' := [(0, eV (.slice a0 len0 cap0)), (3, eL 16 0), (17, eI .i64 1), (23, eA [cI .i64 0, cI .i64 0, cI .i64 0, .ints .u8 32 (idD 0)]), (26, eL 16 36)]) (H' := [(14, ⟨[cI .i64 0, cI .i64 0, cB false, cB false, cB false, cB false], 47⟩), (16, ⟨[.one (.ls 14 0 1 1), cI .i64 0, cI .i64 0, cI .i64 0, .ints .u8 32 (idD 0), cI .i64 0, cI .i64 0, cI .i64 0, .ints .u8 32 (idD 0), cI .i64 0, cI .i64 0, cI .i64 0, .ints .u8 32 (List.replicate 32 0)], 51⟩)]) (by kernel_rfl)) (sub_of [14] (by kernel_rfl)) ?_
  refine wa_done (by kernel_rfl) ?_
  refine we_rest [0, 3, 17] [14, 16] (l' := [(0, eV (.slice a0 len0 cap0)), (3, eL 16 0), (17, eI .i64 1)]) (H' := [(14, ⟨[cI .i64 0, cI .i64 0, cB false, cB false, cB false, cB false], 47⟩), (16, ⟨[.one (.ls 14 0 1 1), cI .i64 0, cI .i64 0, cI .i64 0, .ints .u8 32 (idD 0), cI .i64 0, cI .i64 0, cI .i64 0, .ints .u8 32 (idD 0), cI .i64 0, cI .i64 0, cI .i64 0, .ints .u8 32 (List.replicate 32 0)], 51⟩)]) (by kernel_rfl) (by kernel_rfl) ?_
  refine we_block ?_
  refine we_then ?_
  refine wc_reg [0, 1] (by kernel_rfl) ?_
  refine wo_run [0, 1] [0, 3, 17] [14, 16] (l' := [(0, eV (.slice a0 len0 cap0)), (3, eL 16 0), (17, eI .i64 2)]) (H' := [(14, ⟨[cI .i64 0, cI .i64 0, cB false, cB false, cB false, cB false], 47⟩), (16, ⟨[.one (.ls 14 0 1 1), cI .i64 0, cI .i64 0, cI .i64 0, .ints .u8 32 (idD 0), cI .i64 0, cI .i64 0, cI .i64 0, .ints .u8 32 (idD 0), cI .i64 0, cI .i64 0, cI .i64 0, .ints .u8 32 (List.replicate 32 0)], 51⟩)]) (by kernel_rfl) ?_
  refine wo_nil ?_
  refine we_unr ?_
  refine wr_go ?_
  refine wc_seq ?_
  refine wc_reg [0] (by kernel_rfl) ?_
  refine wo_run [0] [0, 3, 17, 18] [14, 16] (l' := [(0, eV (.slice a0 len0 cap0)), (3, eL 16 0), (17, eI .i64 2), (18, eB true)]) (H' := [(14, ⟨[cI .i64 0, cI .i64 0, cB false, cB false, cB false, cB false], 47⟩), (16, ⟨[.one (.ls 14 0 1 1), cI .i64 0, cI .i64 0, cI .i64 0, .ints .u8 32 (idD 0), cI .i64 0, cI .i64 0, cI .i64 0, .ints .u8 32 (idD 0), cI .i64 0, cI .i64 0, cI .i64 0, .ints .u8 32 (List.replicate 32 0)], 51⟩)]) (by kernel_rfl) ?_
  refine wo_nil ?_
  refine we_then ?_
  refine wc_seq ?_
  refine wc_true rfl ?_
  refine wc_skip ?_
  refine we_then ?_
  refine wc_seq ?_
  refine wc_block ?_
  refine wc_seq ?_
  refine wc_reg [0, 1] (by kernel_rfl) ?_
  refine wo_run [0, 1] [0, 3, 4, 17] [14, 16] (l' := [(0, eV (.slice a0 len0 cap0)), (3, eL 16 0), (4, eI .i64 2), (17, eI .i64 2)]) (H' := [(14, ⟨[cI .i64 0, cI .i64 0, cB false, cB false, cB false, cB false], 47⟩), (16, ⟨[.one (.ls 14 0 1 1), cI .i64 0, cI .i64 0, cI .i64 0, .ints .u8 32 (idD 0), cI .i64 0, cI .i64 0, cI .i64 0, .ints .u8 32 (idD 0), cI .i64 0, cI .i64 0, cI .i64 0, .ints .u8 32 (List.replicate 32 0)], 51⟩)]) (by kernel_rfl) ?_
  refine wo_nil ?_
  refine we_then ?_
  refine wc_draw (n := 8) [(14, ⟨[cI .i64 0, cI .i64 0, cB false, cB false, cB false, cB false], 47⟩)] (by kernel_rfl) rfl (sub_of [14] (by kernel_rfl)) (fun ρ0 => ?_)
  refine wa_takes (fuel := 4) [0, 1, 4, 5] [0, 3, 17, 21, 25] (listed' := #[true, true, false, false, true, true, false, false]) (l' := [(0, eV (.slice a0 len0 cap0)), (3, eL 16 0), (17, eI .i64 2), (21, eI .i64 2), (25, eL 16 1)]) (pk_block (pk_then (pk_then (pk_block (pk_then pk_body))))) rfl (by kernel_rfl) ?_
  refine wa_all [2] (by kernel_rfl) rfl (all1 ?_)
  refine wi_op rfl rfl (ot_call (vs := [sI .i64 0]) rfl rfl rfl Try.func23 (by kernel_rfl) (by kernel_rfl) (by kernel_rfl) (eA [.ints .u8 32 (idD 0)]) (okc_ints (idD_len _) (okc_nil)) (fun ρ w _ => id_any 0 w ρ)) (sub_of [14] (by kernel_rfl)) ?_
  refine wa_all [3] (by kernel_rfl) rfl (all1 ?_)
  refine wi_op rfl rfl (ot_call (vs := [sI .i64 0, .agg [.ints .u8 32 (idD 0)]]) rfl rfl rfl Try.func20 (by kernel_rfl) (by kernel_rfl) (by kernel_rfl) (eA [cI .i64 0, cI .i64 0, cI .i64 0, .ints .u8 32 (idD 0)]) (okc_one (okc_one (okc_one (okc_ints (idD_len _) (okc_nil))))) (fun ρ w _ => new_any 0 (idD 0) (idD_len _) w ρ)) (sub_of [14] (by kernel_rfl)) ?_
  refine wa_takes (fuel := 1) [6] [0, 3, 17, 23, 26] (listed' := #[true, true, true, true, true, true, true, false]) (l' := [(0, eV (.slice a0 len0 cap0)), (3, eL 16 0), (17, eI .i64 2), (23, eA [cI .i64 0, cI .i64 0, cI .i64 0, .ints .u8 32 (idD 0)]), (26, eL 16 71)]) (pk_block (pk_then (pk_then (pk_block (pk_then pk_body))))) rfl (by kernel_rfl) ?_
  refine wa_all [7] (by kernel_rfl) rfl (all1 ?_)
  refine wi_op rfl rfl (ot_eff (l' := [(0, eV (.slice a0 len0 cap0)), (3, eL 16 0), (17, eI .i64 2), (23, eA [cI .i64 0, cI .i64 0, cI .i64 0, .ints .u8 32 (idD 0)]), (26, eL 16 71)]) (H' := [(14, ⟨[cI .i64 0, cI .i64 0, cB false, cB false, cB false, cB false], 47⟩), (16, ⟨[.one (.ls 14 0 1 1), cI .i64 0, cI .i64 0, cI .i64 0, .ints .u8 32 (idD 0), cI .i64 0, cI .i64 0, cI .i64 0, .ints .u8 32 (idD 0), cI .i64 0, cI .i64 0, cI .i64 0, .ints .u8 32 (idD 0)], 51⟩)]) (by kernel_rfl)) (sub_of [14] (by kernel_rfl)) ?_
  refine wa_done (by kernel_rfl) ?_
  refine we_rest [0, 3, 17] [14, 16] (l' := [(0, eV (.slice a0 len0 cap0)), (3, eL 16 0), (17, eI .i64 2)]) (H' := [(14, ⟨[cI .i64 0, cI .i64 0, cB false, cB false, cB false, cB false], 47⟩), (16, ⟨[.one (.ls 14 0 1 1), cI .i64 0, cI .i64 0, cI .i64 0, .ints .u8 32 (idD 0), cI .i64 0, cI .i64 0, cI .i64 0, .ints .u8 32 (idD 0), cI .i64 0, cI .i64 0, cI .i64 0, .ints .u8 32 (idD 0)], 51⟩)]) (by kernel_rfl) (by kernel_rfl) ?_
  refine we_block ?_
  refine we_then ?_
  refine wc_reg [0, 1] (by kernel_rfl) ?_
  refine wo_run [0, 1] [0, 3, 17] [14, 16] (l' := [(0, eV (.slice a0 len0 cap0)), (3, eL 16 0), (17, eI .i64 3)]) (H' := [(14, ⟨[cI .i64 0, cI .i64 0, cB false, cB false, cB false, cB false], 47⟩), (16, ⟨[.one (.ls 14 0 1 1), cI .i64 0, cI .i64 0, cI .i64 0, .ints .u8 32 (idD 0), cI .i64 0, cI .i64 0, cI .i64 0, .ints .u8 32 (idD 0), cI .i64 0, cI .i64 0, cI .i64 0, .ints .u8 32 (idD 0)], 51⟩)]) (by kernel_rfl) ?_
  refine wo_nil ?_
  refine we_unr ?_
  refine wr_go ?_
  refine wc_seq ?_
  refine wc_reg [0] (by kernel_rfl) ?_
  refine wo_run [0] [0, 3, 17, 18] [14, 16] (l' := [(0, eV (.slice a0 len0 cap0)), (3, eL 16 0), (17, eI .i64 3), (18, eB false)]) (H' := [(14, ⟨[cI .i64 0, cI .i64 0, cB false, cB false, cB false, cB false], 47⟩), (16, ⟨[.one (.ls 14 0 1 1), cI .i64 0, cI .i64 0, cI .i64 0, .ints .u8 32 (idD 0), cI .i64 0, cI .i64 0, cI .i64 0, .ints .u8 32 (idD 0), cI .i64 0, cI .i64 0, cI .i64 0, .ints .u8 32 (idD 0)], 51⟩)]) (by kernel_rfl) ?_
  refine wo_nil ?_
  refine we_then ?_
  refine wc_seq ?_
  refine wc_false rfl ?_
  refine wc_exit ?_
  refine we_then_exit ?_
  refine we_then_exit ?_
  refine we_block_exit ?_
  refine we_then ?_
  refine wc_seq ?_
  refine wc_seq ?_
  refine wc_reg [0] (by kernel_rfl) ?_
  refine wo_run [0] [0, 3, 5] [14, 16] (l' := [(0, eV (.slice a0 len0 cap0)), (3, eL 16 0), (5, eI .i64 0)]) (H' := [(14, ⟨[cI .i64 0, cI .i64 0, cB false, cB false, cB false, cB false], 47⟩), (16, ⟨[.one (.ls 14 0 1 1), cI .i64 0, cI .i64 0, cI .i64 0, .ints .u8 32 (idD 0), cI .i64 0, cI .i64 0, cI .i64 0, .ints .u8 32 (idD 0), cI .i64 0, cI .i64 0, cI .i64 0, .ints .u8 32 (idD 0)], 51⟩)]) (by kernel_rfl) ?_
  refine wo_nil ?_
  refine we_then ?_
  refine wc_block ?_
  refine wc_flat 14 [.vals (rowV gB run0.L ++ [])] rfl (fun _ => rfl) (okCs_vals _) ?_
  refine wc_rest [0, 3, 5] [16, 14] (l' := [(0, eV (.slice a0 len0 cap0)), (3, eL 16 0), (5, eI .i64 0)]) (H' := [(16, ⟨[.one (.ls 14 0 run0.n 1), cI .i64 run0.s0.e, cI .i64 run0.s0.v, cI .i64 run0.s0.l, .ints .u8 32 run0.s0.d, cI .i64 run0.s1.e, cI .i64 run0.s1.v, cI .i64 run0.s1.l, .ints .u8 32 run0.s1.d, cI .i64 run0.s2.e, cI .i64 run0.s2.v, cI .i64 run0.s2.l, .ints .u8 32 run0.s2.d], 51⟩), (14, ⟨[.vals (rowV gB run0.L ++ [])], 47⟩)]) (by kernel_rfl) ?_
  refine wc_rest [0, 3, 5] [14, 16] (l' := [(0, eV (.slice a0 len0 cap0)), (3, eL 16 0), (5, eI .i64 0)]) (H' := [(14, ⟨[.vals (rowV gB run0.L ++ [])], 47⟩), (16, ⟨[.one (.ls 14 0 run0.n 1), cI .i64 run0.s0.e, cI .i64 run0.s0.v, cI .i64 run0.s0.l, .ints .u8 32 run0.s0.d, cI .i64 run0.s1.e, cI .i64 run0.s1.v, cI .i64 run0.s1.l, .ints .u8 32 run0.s1.d, cI .i64 run0.s2.e, cI .i64 run0.s2.v, cI .i64 run0.s2.l, .ints .u8 32 run0.s2.d], 51⟩)]) (by kernel_rfl) ?_
  refine wc_loop (τ := Run × Nat × List Value × Nat) (fun ⟨r, cap, rest, k⟩ => r.ok cap rest ∧ Good r ∧ k ≤ len0) (fun ⟨r, cap, rest, k⟩ => len0 - k) (fun _ => _) (fun ⟨r, cap, rest, k⟩ => [(0, eV (.slice a0 len0 cap0)), (3, eL 16 0), (5, eI .i64 ((k : Nat) : Int))]) (fun ⟨r, cap, rest, k⟩ => [(14, ⟨[.vals (rowV gB r.L ++ rest)], 47⟩), (16, ⟨(cRun 14 r.n cap r.s0 r.s1 r.s2), 51⟩)]) (run0, 1, [], 0) (⟨run0_ok, run0_good, Nat.zero_le _⟩) rfl rfl rfl ?_
  rintro ⟨r, cap, rest, k⟩ hj
  obtain ⟨hr, hG, hk⟩ := hj
  refine wc_seq ?_
  refine wc_seq ?_
  refine wc_reg [0, 1, 2, 3, 4, 5, 6, 7] (by kernel_rfl) ?_
  refine wo_run [0, 1, 2, 3, 4] [0, 3, 5, 32] [14, 16] (l' := [(0, eV (.slice a0 len0 cap0)), (3, eL 16 0), (5, eI .i64 ((k : Nat) : Int)), (32, eB (decide (((k : Nat) : Int) < ((len0 : Nat) : Int))))]) (H' := [(14, ⟨[.vals (rowV gB r.L ++ rest)], 47⟩), (16, ⟨(cRun 14 r.n cap r.s0 r.s1 r.s2), 51⟩)]) (by kernel_rfl) ?_
  refine wo_bool 32 rfl (fun h1 => ?_) (fun h1 => ?_)
  · replace h1 := of_decide_eq_true h1
    refine wo_run [5, 6, 7] [0, 3, 5, 35] [14, 16] (l' := [(0, eV (.slice a0 len0 cap0)), (3, eL 16 0), (5, eI .i64 ((k : Nat) : Int)), (35, eB (decide (((k : Nat) : Int) < 2000)))]) (H' := [(14, ⟨[.vals (rowV gB r.L ++ rest)], 47⟩), (16, ⟨(cRun 14 r.n cap r.s0 r.s1 r.s2), 51⟩)]) (by kernel_rfl) ?_
    refine wo_nil ?_
    refine we_then ?_
    refine wc_cond rfl (fun h2 => ?_) (fun h2 => ?_)
    · replace h2 := of_decide_eq_true h2
      refine wc_skip ?_
      refine we_then ?_
      refine wc_seq ?_
      refine wc_block ?_
      refine wc_reg [0, 1, 2, 3, 4, 5] (by kernel_rfl) ?_
      refine wo_run [0, 1, 2] [0, 3, 5, 38, 39, 40] [14, 16] (l' := [(0, eV (.slice a0 len0 cap0)), (3, eL 16 0), (5, eI .i64 ((k : Nat) : Int)), (38, eL 16 0), (39, eV (.slice a0 len0 cap0)), (40, eI .i64 ((k : Nat) : Int))]) (H' := [(14, ⟨[.vals (rowV gB r.L ++ rest)], 47⟩), (16, ⟨(cRun 14 r.n cap r.s0 r.s1 r.s2), 51⟩)]) (by kernel_rfl) ?_
      refine wo_op rfl rfl (ot_rd rfl (rd_index (e := 55) b0 off0 4 k rfl (by kernel_rfl) (by kernel_rfl) rfl rfl ((Int.ofNat_lt.1 h1)) ((hb0 (Nat.zero_lt_of_lt (Int.ofNat_lt.1 h1))).1))) ?_
      refine wo_op rfl rfl (ot_rd rfl (rd_load (v := .agg [cI .i64 (x k).kind, cI .i64 (x k).who, cI .i64 (x k).block, cI .i64 (x k).view]) b0 (off0 + k * 4) 0 [cI .i64 (x k).kind, cI .i64 (x k).who, cI .i64 (x k).block, cI .i64 (x k).view] rfl (off0 + k * 4) rfl rfl ((xI (hb0 (Nat.zero_lt_of_lt (Int.ofNat_lt.1 h1))).2)) (hc0 k (Int.ofNat_lt.1 h1)) (okc_one (okc_one (okc_one (okc_one okc_nil)))) (fun _ => rfl) (by kernel_rfl))) ?_
      refine wo_ox rfl rfl (ox_callm (τ := Option (Nat × List Value)) (φ := playOk r (x k)) [sL 100000 0, .agg [cI .i64 (x k).kind, cI .i64 (x k).who, cI .i64 (x k).block, cI .i64 (x k).view]] [(100000, ⟨(cRun 100001 r.n cap r.s0 r.s1 r.s2), 51⟩), (100001, ⟨[.vals (rowV gB r.L ++ rest)], 47⟩)] [(100000, 16), (100001, 14)] [(77, 43)] [] (fun _ => .t []) (fun y => playH r (x k) (mwho (x k)) cap rest y) rfl (by kernel_rfl) rfl Try.func24 (by kernel_rfl) (by kernel_rfl) (by kernel_rfl) (by kernel_rfl) (by kernel_rfl) (by kernel_rfl) (⟨⟨by kernel_rfl, by kernel_rfl, by kernel_rfl⟩, ⟨by kernel_rfl, by kernel_rfl, by kernel_rfl⟩, trivial⟩) (fun y => by rcases y with _ | ⟨_, _⟩ <;> kernel_rfl) (fun _ => by kernel_rfl) (fun _ _ => okv_nil) (fun ρ w _ hh => play_any r cap rest hr (x k) w _ hh)) (fun y hy _ => ?_)
      rcases y with _ | ⟨c1, r1⟩
      · refine wo_run [] [0, 3, 5] [14, 16] (l' := [(0, eV (.slice a0 len0 cap0)), (3, eL 16 0), (5, eI .i64 ((k : Nat) : Int))]) (H' := [(14, ⟨[.vals (rowV gB (playR r (x k) (mwho (x k))).L ++ rest)], 47⟩), (16, ⟨[.one (.ls 14 0 ((playR r (x k) (mwho (x k))).n) cap), cI .i64 (playR r (x k) (mwho (x k))).s0.e, cI .i64 (playR r (x k) (mwho (x k))).s0.v, cI .i64 (playR r (x k) (mwho (x k))).s0.l, .ints .u8 32 ((playR r (x k) (mwho (x k))).s0.d), cI .i64 (playR r (x k) (mwho (x k))).s1.e, cI .i64 (playR r (x k) (mwho (x k))).s1.v, cI .i64 (playR r (x k) (mwho (x k))).s1.l, .ints .u8 32 ((playR r (x k) (mwho (x k))).s1.d), cI .i64 (playR r (x k) (mwho (x k))).s2.e, cI .i64 (playR r (x k) (mwho (x k))).s2.v, cI .i64 (playR r (x k) (mwho (x k))).s2.l, .ints .u8 32 ((playR r (x k) (mwho (x k))).s2.d)], 51⟩)]) (by kernel_rfl) ?_
        refine wo_nil ?_
        refine we_block ?_
        refine we_then ?_
        refine wc_reg [0, 1, 2] (by kernel_rfl) ?_
        refine wo_run [0, 1, 2] [0, 3, 5] [14, 16] (l' := [(0, eV (.slice a0 len0 cap0)), (3, eL 16 0), (5, eI .i64 (IntKind.wrap .i64 (((k : Nat) : Int) + 1)))]) (H' := [(14, ⟨[.vals (rowV gB (playR r (x k) (mwho (x k))).L ++ rest)], 47⟩), (16, ⟨[.one (.ls 14 0 ((playR r (x k) (mwho (x k))).n) cap), cI .i64 (playR r (x k) (mwho (x k))).s0.e, cI .i64 (playR r (x k) (mwho (x k))).s0.v, cI .i64 (playR r (x k) (mwho (x k))).s0.l, .ints .u8 32 ((playR r (x k) (mwho (x k))).s0.d), cI .i64 (playR r (x k) (mwho (x k))).s1.e, cI .i64 (playR r (x k) (mwho (x k))).s1.v, cI .i64 (playR r (x k) (mwho (x k))).s1.l, .ints .u8 32 ((playR r (x k) (mwho (x k))).s1.d), cI .i64 (playR r (x k) (mwho (x k))).s2.e, cI .i64 (playR r (x k) (mwho (x k))).s2.v, cI .i64 (playR r (x k) (mwho (x k))).s2.l, .ints .u8 32 ((playR r (x k) (mwho (x k))).s2.d)], 51⟩)]) (by kernel_rfl) ?_
        refine wo_nil ?_
        refine we_rest [0, 3, 5] [14, 16] (l' := [(0, eV (.slice a0 len0 cap0)), (3, eL 16 0), (5, eI .i64 (IntKind.wrap .i64 (((k : Nat) : Int) + 1)))]) (H' := [(14, ⟨[.vals (rowV gB (playR r (x k) (mwho (x k))).L ++ rest)], 47⟩), (16, ⟨[.one (.ls 14 0 ((playR r (x k) (mwho (x k))).n) cap), cI .i64 (playR r (x k) (mwho (x k))).s0.e, cI .i64 (playR r (x k) (mwho (x k))).s0.v, cI .i64 (playR r (x k) (mwho (x k))).s0.l, .ints .u8 32 ((playR r (x k) (mwho (x k))).s0.d), cI .i64 (playR r (x k) (mwho (x k))).s1.e, cI .i64 (playR r (x k) (mwho (x k))).s1.v, cI .i64 (playR r (x k) (mwho (x k))).s1.l, .ints .u8 32 ((playR r (x k) (mwho (x k))).s1.d), cI .i64 (playR r (x k) (mwho (x k))).s2.e, cI .i64 (playR r (x k) (mwho (x k))).s2.v, cI .i64 (playR r (x k) (mwho (x k))).s2.l, .ints .u8 32 ((playR r (x k) (mwho (x k))).s2.d)], 51⟩)]) (by kernel_rfl) (by kernel_rfl) ?_
        rw [show (IntKind.wrap .i64 (((k : Nat) : Int) + 1)) = ((k + 1 : Nat) : Int) from wrap_succ (by simp only [maxLen] at hcap0; omega)]
        exact we_round ((playR r (x k) (mwho (x k))), cap, rest, k + 1) (⟨playR_ok (x := none) hr hy, hG.play hr _ (mwho_lt _), by omega⟩) (by show len0 - (k + 1) < len0 - k; omega) rfl (sub_ofE [0, 3, 5] rfl) (sub_of [14, 16] rfl)
      · refine wo_run [] [0, 3, 5] [16, 43] (l' := [(0, eV (.slice a0 len0 cap0)), (3, eL 16 0), (5, eI .i64 ((k : Nat) : Int))]) (H' := [(16, ⟨[.one (.ls 43 0 ((playR r (x k) (mwho (x k))).n) c1), cI .i64 (playR r (x k) (mwho (x k))).s0.e, cI .i64 (playR r (x k) (mwho (x k))).s0.v, cI .i64 (playR r (x k) (mwho (x k))).s0.l, .ints .u8 32 ((playR r (x k) (mwho (x k))).s0.d), cI .i64 (playR r (x k) (mwho (x k))).s1.e, cI .i64 (playR r (x k) (mwho (x k))).s1.v, cI .i64 (playR r (x k) (mwho (x k))).s1.l, .ints .u8 32 ((playR r (x k) (mwho (x k))).s1.d), cI .i64 (playR r (x k) (mwho (x k))).s2.e, cI .i64 (playR r (x k) (mwho (x k))).s2.v, cI .i64 (playR r (x k) (mwho (x k))).s2.l, .ints .u8 32 ((playR r (x k) (mwho (x k))).s2.d)], 51⟩), (43, ⟨[.vals (rowV gB (playR r (x k) (mwho (x k))).L ++ r1)], 47⟩)]) (by kernel_rfl) ?_
        refine wo_nil ?_
        refine we_block ?_
        refine we_then ?_
        refine wc_reg [0, 1, 2] (by kernel_rfl) ?_
        refine wo_run [0, 1, 2] [0, 3, 5] [16, 43] (l' := [(0, eV (.slice a0 len0 cap0)), (3, eL 16 0), (5, eI .i64 (IntKind.wrap .i64 (((k : Nat) : Int) + 1)))]) (H' := [(16, ⟨[.one (.ls 43 0 ((playR r (x k) (mwho (x k))).n) c1), cI .i64 (playR r (x k) (mwho (x k))).s0.e, cI .i64 (playR r (x k) (mwho (x k))).s0.v, cI .i64 (playR r (x k) (mwho (x k))).s0.l, .ints .u8 32 ((playR r (x k) (mwho (x k))).s0.d), cI .i64 (playR r (x k) (mwho (x k))).s1.e, cI .i64 (playR r (x k) (mwho (x k))).s1.v, cI .i64 (playR r (x k) (mwho (x k))).s1.l, .ints .u8 32 ((playR r (x k) (mwho (x k))).s1.d), cI .i64 (playR r (x k) (mwho (x k))).s2.e, cI .i64 (playR r (x k) (mwho (x k))).s2.v, cI .i64 (playR r (x k) (mwho (x k))).s2.l, .ints .u8 32 ((playR r (x k) (mwho (x k))).s2.d)], 51⟩), (43, ⟨[.vals (rowV gB (playR r (x k) (mwho (x k))).L ++ r1)], 47⟩)]) (by kernel_rfl) ?_
        refine wo_nil ?_
        refine we_rest [0, 3, 5] [16, 43] (l' := [(0, eV (.slice a0 len0 cap0)), (3, eL 16 0), (5, eI .i64 (IntKind.wrap .i64 (((k : Nat) : Int) + 1)))]) (H' := [(16, ⟨[.one (.ls 43 0 ((playR r (x k) (mwho (x k))).n) c1), cI .i64 (playR r (x k) (mwho (x k))).s0.e, cI .i64 (playR r (x k) (mwho (x k))).s0.v, cI .i64 (playR r (x k) (mwho (x k))).s0.l, .ints .u8 32 ((playR r (x k) (mwho (x k))).s0.d), cI .i64 (playR r (x k) (mwho (x k))).s1.e, cI .i64 (playR r (x k) (mwho (x k))).s1.v, cI .i64 (playR r (x k) (mwho (x k))).s1.l, .ints .u8 32 ((playR r (x k) (mwho (x k))).s1.d), cI .i64 (playR r (x k) (mwho (x k))).s2.e, cI .i64 (playR r (x k) (mwho (x k))).s2.v, cI .i64 (playR r (x k) (mwho (x k))).s2.l, .ints .u8 32 ((playR r (x k) (mwho (x k))).s2.d)], 51⟩), (43, ⟨[.vals (rowV gB (playR r (x k) (mwho (x k))).L ++ r1)], 47⟩)]) (by kernel_rfl) (by kernel_rfl) ?_
        refine we_ren [(16, 16), (43, 14)] (l' := [(0, eV (.slice a0 len0 cap0)), (3, eL 16 0), (5, eI .i64 (IntKind.wrap .i64 (((k : Nat) : Int) + 1)))]) (H' := [(16, ⟨[.one (.ls 14 0 ((playR r (x k) (mwho (x k))).n) c1), cI .i64 (playR r (x k) (mwho (x k))).s0.e, cI .i64 (playR r (x k) (mwho (x k))).s0.v, cI .i64 (playR r (x k) (mwho (x k))).s0.l, .ints .u8 32 ((playR r (x k) (mwho (x k))).s0.d), cI .i64 (playR r (x k) (mwho (x k))).s1.e, cI .i64 (playR r (x k) (mwho (x k))).s1.v, cI .i64 (playR r (x k) (mwho (x k))).s1.l, .ints .u8 32 ((playR r (x k) (mwho (x k))).s1.d), cI .i64 (playR r (x k) (mwho (x k))).s2.e, cI .i64 (playR r (x k) (mwho (x k))).s2.v, cI .i64 (playR r (x k) (mwho (x k))).s2.l, .ints .u8 32 ((playR r (x k) (mwho (x k))).s2.d)], 51⟩), (14, ⟨[.vals (rowV gB (playR r (x k) (mwho (x k))).L ++ r1)], 47⟩)]) (by kernel_rfl) (by kernel_rfl) (by kernel_rfl) ?_
        refine we_rest [0, 3, 5] [14, 16] (l' := [(0, eV (.slice a0 len0 cap0)), (3, eL 16 0), (5, eI .i64 (IntKind.wrap .i64 (((k : Nat) : Int) + 1)))]) (H' := [(14, ⟨[.vals (rowV gB (playR r (x k) (mwho (x k))).L ++ r1)], 47⟩), (16, ⟨[.one (.ls 14 0 ((playR r (x k) (mwho (x k))).n) c1), cI .i64 (playR r (x k) (mwho (x k))).s0.e, cI .i64 (playR r (x k) (mwho (x k))).s0.v, cI .i64 (playR r (x k) (mwho (x k))).s0.l, .ints .u8 32 ((playR r (x k) (mwho (x k))).s0.d), cI .i64 (playR r (x k) (mwho (x k))).s1.e, cI .i64 (playR r (x k) (mwho (x k))).s1.v, cI .i64 (playR r (x k) (mwho (x k))).s1.l, .ints .u8 32 ((playR r (x k) (mwho (x k))).s1.d), cI .i64 (playR r (x k) (mwho (x k))).s2.e, cI .i64 (playR r (x k) (mwho (x k))).s2.v, cI .i64 (playR r (x k) (mwho (x k))).s2.l, .ints .u8 32 ((playR r (x k) (mwho (x k))).s2.d)], 51⟩)]) (by kernel_rfl) (by kernel_rfl) ?_
        rw [show (IntKind.wrap .i64 (((k : Nat) : Int) + 1)) = ((k + 1 : Nat) : Int) from wrap_succ (by simp only [maxLen] at hcap0; omega)]
        exact we_round ((playR r (x k) (mwho (x k))), c1, r1, k + 1) (⟨playR_ok (x := some (c1, r1)) hr hy, hG.play hr _ (mwho_lt _), by omega⟩) (by show len0 - (k + 1) < len0 - k; omega) rfl (sub_ofE [0, 3, 5] rfl) (sub_of [14, 16] rfl)
    · replace h2 := of_decide_eq_false h2
      refine wc_exit ?_
      refine we_then_exit ?_
      refine we_then_exit ?_
      refine we_block_exit ?_
      refine we_then ?_
      refine wc_seq ?_
      refine wc_reg [0, 1] (by kernel_rfl) ?_
      refine wo_op rfl rfl (ot_bslice (e := 3) (d := 44) (n := 0) (size := 1) [] [] rfl rfl rfl (by kernel_rfl) rfl (by kernel_rfl) (okc_nil) (fun _ => rfl) (by kernel_rfl) (by kernel_rfl)) ?_
      refine wo_run [1] [3, 6] [14, 16, 44] (l' := [(3, eL 16 0), (6, .s (.a (.ls 44 0 0 0)))]) (H' := [(14, ⟨[.vals (rowV gB r.L ++ rest)], 47⟩), (16, ⟨(cRun 14 r.n cap r.s0 r.s1 r.s2), 51⟩), (44, ⟨[], 3⟩)]) (by kernel_rfl) ?_
      refine wo_nil ?_
      refine we_then ?_
      refine wc_seq ?_
      refine wc_seq ?_
      refine wc_reg [0, 1, 2, 3, 4, 5] (by kernel_rfl) ?_
      refine wo_run [0, 1, 2, 3] [3, 6, 48] [14, 16, 44] (l' := [(3, eL 16 0), (6, .s (.a (.ls 44 0 0 0))), (48, .s (.a (.ls 14 0 r.n cap)))]) (H' := [(14, ⟨[.vals (rowV gB r.L ++ rest)], 47⟩), (16, ⟨(cRun 14 r.n cap r.s0 r.s1 r.s2), 51⟩), (44, ⟨[], 3⟩)]) (by kernel_rfl) ?_
      refine wo_op rfl rfl (ot_rd rfl (rd_len rfl rfl rfl rfl (fun _ => by kernel_rfl))) ?_
      refine wo_run [5] [3, 6, 49, 50] [14, 16, 44] (l' := [(3, eL 16 0), (6, .s (.a (.ls 44 0 0 0))), (49, eI .i64 ((r.n : Nat) : Int)), (50, eI .i64 0)]) (H' := [(14, ⟨[.vals (rowV gB r.L ++ rest)], 47⟩), (16, ⟨(cRun 14 r.n cap r.s0 r.s1 r.s2), 51⟩), (44, ⟨[], 3⟩)]) (by kernel_rfl) ?_
      refine wo_nil ?_
      refine we_then ?_
      refine wc_block ?_
      refine wc_flat 44 [.vals (rowV gD [] ++ [])] rfl (fun _ => rfl) (okCs_vals _) ?_
      refine wc_rest [3, 6, 49, 50] [14, 16, 44] (l' := [(3, eL 16 0), (6, .s (.a (.ls 44 0 0 0))), (49, eI .i64 ((r.n : Nat) : Int)), (50, eI .i64 0)]) (H' := [(14, ⟨[.vals (rowV gB r.L ++ rest)], 47⟩), (16, ⟨(cRun 14 r.n cap r.s0 r.s1 r.s2), 51⟩), (44, ⟨[.vals (rowV gD [] ++ [])], 3⟩)]) (by kernel_rfl) ?_
      refine wc_rest [3, 6, 49, 50] [14, 16, 44] (l' := [(3, eL 16 0), (6, .s (.a (.ls 44 0 0 0))), (49, eI .i64 ((r.n : Nat) : Int)), (50, eI .i64 0)]) (H' := [(14, ⟨[.vals (rowV gB r.L ++ rest)], 47⟩), (16, ⟨(cRun 14 r.n cap r.s0 r.s1 r.s2), 51⟩), (44, ⟨[.vals (rowV gD [] ++ [])], 3⟩)]) (by kernel_rfl) ?_
      refine wc_loop (τ := Nat × List Nat × Nat × List Value) (fun ⟨i, D, c2, r2⟩ => i ≤ r.n ∧ D.length ≤ i ∧ D.length ≤ c2 ∧ c2 ≤ maxLen ∧ r2.length = (c2 - D.length) * 1 ∧ ∀ d, d ∈ D → Head r d) (fun ⟨i, D, c2, r2⟩ => r.n - i) (fun _ => _) (fun ⟨i, D, c2, r2⟩ => [(3, eL 16 0), (6, .s (.a (.ls 44 0 D.length c2))), (49, eI .i64 ((r.n : Nat) : Int)), (50, eI .i64 ((i : Nat) : Int))]) (fun ⟨i, D, c2, r2⟩ => [(14, ⟨[.vals (rowV gB r.L ++ rest)], 47⟩), (16, ⟨(cRun 14 r.n cap r.s0 r.s1 r.s2), 51⟩), (44, ⟨[.vals (rowV gD D ++ r2)], 3⟩)]) (0, [], 0, []) (⟨Nat.zero_le _, Nat.le_refl _, Nat.le_refl _, Nat.zero_le _, rfl, fun d hd => absurd hd (by simp)⟩) rfl rfl rfl ?_
      rintro ⟨i, D, c2, r2⟩ hj
      obtain ⟨hi, hDi, hc1, hc2, hl, hD⟩ := hj
      refine wc_seq ?_
      refine wc_reg [0] (by kernel_rfl) ?_
      refine wo_run [0] [3, 6, 49, 50, 51] [14, 16, 44] (l' := [(3, eL 16 0), (6, .s (.a (.ls 44 0 D.length c2))), (49, eI .i64 ((r.n : Nat) : Int)), (50, eI .i64 ((i : Nat) : Int)), (51, eB (decide (((i : Nat) : Int) < ((r.n : Nat) : Int))))]) (H' := [(14, ⟨[.vals (rowV gB r.L ++ rest)], 47⟩), (16, ⟨(cRun 14 r.n cap r.s0 r.s1 r.s2), 51⟩), (44, ⟨[.vals (rowV gD D ++ r2)], 3⟩)]) (by kernel_rfl) ?_
      refine wo_nil ?_
      refine we_then ?_
      refine wc_seq ?_
      refine wc_cond rfl (fun h3 => ?_) (fun h3 => ?_)
      · replace h3 := of_decide_eq_true h3
        refine wc_skip ?_
        refine we_then ?_
        refine wc_seq ?_
        refine wc_block ?_
        refine wc_seq ?_
        refine wc_reg [0, 1] (by kernel_rfl) ?_
        refine wo_run [0, 1] [3, 6, 7, 49, 50] [14, 16, 44] (l' := [(3, eL 16 0), (6, .s (.a (.ls 44 0 D.length c2))), (7, eI .i64 ((i : Nat) : Int)), (49, eI .i64 ((r.n : Nat) : Int)), (50, eI .i64 ((i : Nat) : Int))]) (H' := [(14, ⟨[.vals (rowV gB r.L ++ rest)], 47⟩), (16, ⟨(cRun 14 r.n cap r.s0 r.s1 r.s2), 51⟩), (44, ⟨[.vals (rowV gD D ++ r2)], 3⟩)]) (by kernel_rfl) ?_
        refine wo_nil ?_
        refine we_then ?_
        refine wc_seq ?_
        refine wc_reg [0, 1, 2, 3] (by kernel_rfl) ?_
        refine wo_run [0, 1] [3, 6, 49, 50, 53, 54] [14, 16, 44] (l' := [(3, eL 16 0), (6, .s (.a (.ls 44 0 D.length c2))), (49, eI .i64 ((r.n : Nat) : Int)), (50, eI .i64 ((i : Nat) : Int)), (53, eL 16 0), (54, eI .i64 ((i : Nat) : Int))]) (H' := [(14, ⟨[.vals (rowV gB r.L ++ rest)], 47⟩), (16, ⟨(cRun 14 r.n cap r.s0 r.s1 r.s2), 51⟩), (44, ⟨[.vals (rowV gD D ++ r2)], 3⟩)]) (by kernel_rfl) ?_
        refine wo_op rfl rfl (ot_call (vs := [sL 16 0, sI .i64 ((i : Nat) : Int)]) rfl rfl rfl Try.func25 (by kernel_rfl) (by kernel_rfl) (by kernel_rfl) (eI .i64 (firstI r.L i)) (trivial) (fun ρ w h => first_any r cap rest hr i (by omega) w (fun k => ρ (Sx.look [(100000, 16), (100001, 14)] k)) (h.heap (π := [(100000, 16), (100001, 14)]) (Hc := [(100000, ⟨(cRun 100001 r.n cap r.s0 r.s1 r.s2), 51⟩), (100001, ⟨[.vals (rowV gB r.L ++ rest)], 47⟩)]) rfl ⟨⟨by kernel_rfl, by kernel_rfl, by kernel_rfl⟩, ⟨by kernel_rfl, by kernel_rfl, by kernel_rfl⟩, trivial⟩))) ?_
        refine wo_run [3] [3, 6, 8, 49, 50] [14, 16, 44] (l' := [(3, eL 16 0), (6, .s (.a (.ls 44 0 D.length c2))), (8, eI .i64 (firstI r.L i)), (49, eI .i64 ((r.n : Nat) : Int)), (50, eI .i64 ((i : Nat) : Int))]) (H' := [(14, ⟨[.vals (rowV gB r.L ++ rest)], 47⟩), (16, ⟨(cRun 14 r.n cap r.s0 r.s1 r.s2), 51⟩), (44, ⟨[.vals (rowV gD D ++ r2)], 3⟩)]) (by kernel_rfl) ?_
        refine wo_nil ?_
        refine we_then ?_
        refine wc_seq ?_
        refine wc_reg [0, 1] (by kernel_rfl) ?_
        refine wo_run [0, 1] [3, 6, 8, 49, 50, 57] [14, 16, 44] (l' := [(3, eL 16 0), (6, .s (.a (.ls 44 0 D.length c2))), (8, eI .i64 (firstI r.L i)), (49, eI .i64 ((r.n : Nat) : Int)), (50, eI .i64 ((i : Nat) : Int)), (57, eB (decide ((firstI r.L i) > 0)))]) (H' := [(14, ⟨[.vals (rowV gB r.L ++ rest)], 47⟩), (16, ⟨(cRun 14 r.n cap r.s0 r.s1 r.s2), 51⟩), (44, ⟨[.vals (rowV gD D ++ r2)], 3⟩)]) (by kernel_rfl) ?_
        refine wo_nil ?_
        refine we_then ?_
        refine wc_cond rfl (fun h4 => ?_) (fun h4 => ?_)
        · replace h4 := of_decide_eq_true h4
          refine wc_reg [0, 1, 2, 3, 4] (by kernel_rfl) ?_
          refine wo_run [0, 1] [3, 49, 50, 58, 59] [14, 16, 44] (l' := [(3, eL 16 0), (49, eI .i64 ((r.n : Nat) : Int)), (50, eI .i64 ((i : Nat) : Int)), (58, .s (.a (.ls 44 0 D.length c2))), (59, eI .i64 (firstI r.L i))]) (H' := [(14, ⟨[.vals (rowV gB r.L ++ rest)], 47⟩), (16, ⟨(cRun 14 r.n cap r.s0 r.s1 r.s2), 51⟩), (44, ⟨[.vals (rowV gD D ++ r2)], 3⟩)]) (by kernel_rfl) ?_
          refine wo_op rfl rfl (ot_bslice (e := 3) (d := 60) (n := 1) (size := 1) [.ints .i64 1 (List.replicate 1 0)] [cI .i64 (firstI r.L i)] rfl rfl rfl (by kernel_rfl) rfl (by kernel_rfl) (okc_ints (List.length_replicate) (okc_nil)) (fun _ => rfl) (by kernel_rfl) (by kernel_rfl)) ?_
          refine wo_ox rfl rfl (ox_append (t := 56) (e := 3) (size := 1) (bytes := 8) (m := 1) 61 44 D.length c2 (rowV gD D) ([.int .i64 (firstI r.L i)]) r2 [60, 14, 16] rfl rfl (by kernel_rfl) (by kernel_rfl) (by kernel_rfl) (by decide) rfl rfl (by rw [rowV_length gD_len]) (hl) (hc1) (hc2) (rfl) (fun u hu => by simp at hu; subst hu; rfl) (news_own 60 [.int .i64 (firstI r.L i)] rfl rfl (fun _ => rfl)) (by have := hr.small; simp only [maxLen]; omega) (by have := hr.small; omega) (by kernel_rfl)) (fun ⟨c3, r3⟩ hx3 _ => ?_)
          refine wo_run [] [3, 49, 50, 61] [14, 16, 61] (l' := [(3, eL 16 0), (49, eI .i64 ((r.n : Nat) : Int)), (50, eI .i64 ((i : Nat) : Int)), (61, .s (.a (.ls 61 0 (D.length + 1) c3)))]) (H' := [(14, ⟨[.vals (rowV gB r.L ++ rest)], 47⟩), (16, ⟨(cRun 14 r.n cap r.s0 r.s1 r.s2), 51⟩), (61, ⟨[.vals (rowV gD D ++ [.int .i64 (firstI r.L i)] ++ r3)], 3⟩)]) (by kernel_rfl) ?_
          refine wo_run [4] [3, 6, 49, 50] [14, 16, 61] (l' := [(3, eL 16 0), (6, .s (.a (.ls 61 0 (D.length + 1) c3))), (49, eI .i64 ((r.n : Nat) : Int)), (50, eI .i64 ((i : Nat) : Int))]) (H' := [(14, ⟨[.vals (rowV gB r.L ++ rest)], 47⟩), (16, ⟨(cRun 14 r.n cap r.s0 r.s1 r.s2), 51⟩), (61, ⟨[.vals (rowV gD D ++ [.int .i64 (firstI r.L i)] ++ r3)], 3⟩)]) (by kernel_rfl) ?_
          refine wo_nil ?_
          refine we_block ?_
          refine we_then ?_
          refine wc_reg [0, 1] (by kernel_rfl) ?_
          refine wo_run [0, 1] [3, 6, 49, 50] [14, 16, 61] (l' := [(3, eL 16 0), (6, .s (.a (.ls 61 0 (D.length + 1) c3))), (49, eI .i64 ((r.n : Nat) : Int)), (50, eI .i64 (IntKind.wrap .i64 (((i : Nat) : Int) + 1)))]) (H' := [(14, ⟨[.vals (rowV gB r.L ++ rest)], 47⟩), (16, ⟨(cRun 14 r.n cap r.s0 r.s1 r.s2), 51⟩), (61, ⟨[.vals (rowV gD D ++ [.int .i64 (firstI r.L i)] ++ r3)], 3⟩)]) (by kernel_rfl) ?_
          refine wo_nil ?_
          refine we_rest [3, 6, 49, 50] [14, 16, 61] (l' := [(3, eL 16 0), (6, .s (.a (.ls 61 0 (D.length + 1) c3))), (49, eI .i64 ((r.n : Nat) : Int)), (50, eI .i64 (IntKind.wrap .i64 (((i : Nat) : Int) + 1)))]) (H' := [(14, ⟨[.vals (rowV gB r.L ++ rest)], 47⟩), (16, ⟨(cRun 14 r.n cap r.s0 r.s1 r.s2), 51⟩), (61, ⟨[.vals (rowV gD D ++ [.int .i64 (firstI r.L i)] ++ r3)], 3⟩)]) (by kernel_rfl) (by kernel_rfl) ?_
          refine we_ren [(14, 14), (16, 16), (61, 44)] (l' := [(3, eL 16 0), (6, .s (.a (.ls 44 0 (D.length + 1) c3))), (49, eI .i64 ((r.n : Nat) : Int)), (50, eI .i64 (IntKind.wrap .i64 (((i : Nat) : Int) + 1)))]) (H' := [(14, ⟨[.vals (rowV gB r.L ++ rest)], 47⟩), (16, ⟨(cRun 14 r.n cap r.s0 r.s1 r.s2), 51⟩), (44, ⟨[.vals (rowV gD D ++ [.int .i64 (firstI r.L i)] ++ r3)], 3⟩)]) (by kernel_rfl) (by kernel_rfl) (by kernel_rfl) ?_
          refine we_rest [3, 6, 49, 50] [14, 16, 44] (l' := [(3, eL 16 0), (6, .s (.a (.ls 44 0 (D.length + 1) c3))), (49, eI .i64 ((r.n : Nat) : Int)), (50, eI .i64 (IntKind.wrap .i64 (((i : Nat) : Int) + 1)))]) (H' := [(14, ⟨[.vals (rowV gB r.L ++ rest)], 47⟩), (16, ⟨(cRun 14 r.n cap r.s0 r.s1 r.s2), 51⟩), (44, ⟨[.vals (rowV gD D ++ [.int .i64 (firstI r.L i)] ++ r3)], 3⟩)]) (by kernel_rfl) (by kernel_rfl) ?_
          rw [show (rowV gD D ++ [.int .i64 (firstI r.L i)] ++ r3) = (rowV gD (D ++ [(firstI r.L i).toNat]) ++ r3) from rowD_push D (by omega) r3]
          rw [show (D.length + 1) = (D ++ [(firstI r.L i).toNat]).length from by simp]
          rw [show (IntKind.wrap .i64 (((i : Nat) : Int) + 1)) = ((i + 1 : Nat) : Int) from wrap_succ (by have := hr.small; omega)]
          exact we_round (i + 1, (D ++ [(firstI r.L i).toNat]), c3, r3) (⟨by omega, by simp; omega, by simpa using hx3.1, hx3.2.1, by simpa using hx3.2.2, head_push hD (by omega) h4⟩) (by show r.n - (i + 1) < r.n - i; omega) rfl (sub_ofE [3, 6, 49, 50] rfl) (sub_of [14, 16, 44] rfl)
        · replace h4 := of_decide_eq_false h4
          refine wc_skip ?_
          refine we_block ?_
          refine we_then ?_
          refine wc_reg [0, 1] (by kernel_rfl) ?_
          refine wo_run [0, 1] [3, 6, 49, 50] [14, 16, 44] (l' := [(3, eL 16 0), (6, .s (.a (.ls 44 0 D.length c2))), (49, eI .i64 ((r.n : Nat) : Int)), (50, eI .i64 (IntKind.wrap .i64 (((i : Nat) : Int) + 1)))]) (H' := [(14, ⟨[.vals (rowV gB r.L ++ rest)], 47⟩), (16, ⟨(cRun 14 r.n cap r.s0 r.s1 r.s2), 51⟩), (44, ⟨[.vals (rowV gD D ++ r2)], 3⟩)]) (by kernel_rfl) ?_
          refine wo_nil ?_
          refine we_rest [3, 6, 49, 50] [14, 16, 44] (l' := [(3, eL 16 0), (6, .s (.a (.ls 44 0 D.length c2))), (49, eI .i64 ((r.n : Nat) : Int)), (50, eI .i64 (IntKind.wrap .i64 (((i : Nat) : Int) + 1)))]) (H' := [(14, ⟨[.vals (rowV gB r.L ++ rest)], 47⟩), (16, ⟨(cRun 14 r.n cap r.s0 r.s1 r.s2), 51⟩), (44, ⟨[.vals (rowV gD D ++ r2)], 3⟩)]) (by kernel_rfl) (by kernel_rfl) ?_
          rw [show (IntKind.wrap .i64 (((i : Nat) : Int) + 1)) = ((i + 1 : Nat) : Int) from wrap_succ (by have := hr.small; omega)]
          exact we_round (i + 1, D, c2, r2) (⟨by omega, by omega, hc1, hc2, hl, hD⟩) (by show r.n - (i + 1) < r.n - i; omega) rfl (sub_ofE [3, 6, 49, 50] rfl) (sub_of [14, 16, 44] rfl)
      · replace h3 := of_decide_eq_false h3
        refine wc_exit ?_
        refine we_then_exit ?_
        refine we_then_exit ?_
        refine we_block_exit ?_
        refine we_then ?_
        refine wc_seq ?_
        refine wc_seq ?_
        refine wc_reg [0, 1, 2] (by kernel_rfl) ?_
        refine wo_run [0] [3, 6, 63] [14, 16, 44] (l' := [(3, eL 16 0), (6, .s (.a (.ls 44 0 D.length c2))), (63, .s (.a (.ls 44 0 D.length c2)))]) (H' := [(14, ⟨[.vals (rowV gB r.L ++ rest)], 47⟩), (16, ⟨(cRun 14 r.n cap r.s0 r.s1 r.s2), 51⟩), (44, ⟨[.vals (rowV gD D ++ r2)], 3⟩)]) (by kernel_rfl) ?_
        refine wo_op rfl rfl (ot_rd rfl (rd_len rfl rfl rfl rfl (fun _ => by kernel_rfl))) ?_
        refine wo_run [2] [3, 6, 64, 65] [14, 16, 44] (l' := [(3, eL 16 0), (6, .s (.a (.ls 44 0 D.length c2))), (64, eI .i64 ((D.length : Nat) : Int)), (65, eI .i64 0)]) (H' := [(14, ⟨[.vals (rowV gB r.L ++ rest)], 47⟩), (16, ⟨(cRun 14 r.n cap r.s0 r.s1 r.s2), 51⟩), (44, ⟨[.vals (rowV gD D ++ r2)], 3⟩)]) (by kernel_rfl) ?_
        refine wo_nil ?_
        refine we_then ?_
        refine wc_block ?_
        refine wc_rest [3, 6, 64, 65] [14, 16, 44] (l' := [(3, eL 16 0), (6, .s (.a (.ls 44 0 D.length c2))), (64, eI .i64 ((D.length : Nat) : Int)), (65, eI .i64 0)]) (H' := [(14, ⟨[.vals (rowV gB r.L ++ rest)], 47⟩), (16, ⟨(cRun 14 r.n cap r.s0 r.s1 r.s2), 51⟩), (44, ⟨[.vals (rowV gD D ++ r2)], 3⟩)]) (by kernel_rfl) ?_
        refine wc_loop (τ := Nat) (fun p => p ≤ D.length) (fun p => D.length - p) (fun _ => _) (fun p => [(3, eL 16 0), (6, .s (.a (.ls 44 0 D.length c2))), (64, eI .i64 ((D.length : Nat) : Int)), (65, eI .i64 ((p : Nat) : Int))]) (fun p => [(14, ⟨[.vals (rowV gB r.L ++ rest)], 47⟩), (16, ⟨(cRun 14 r.n cap r.s0 r.s1 r.s2), 51⟩), (44, ⟨[.vals (rowV gD D ++ r2)], 3⟩)]) 0 (Nat.zero_le _) rfl rfl rfl ?_
        rintro p hj
        refine wc_seq ?_
        refine wc_reg [0] (by kernel_rfl) ?_
        refine wo_run [0] [3, 6, 64, 65, 66] [14, 16, 44] (l' := [(3, eL 16 0), (6, .s (.a (.ls 44 0 D.length c2))), (64, eI .i64 ((D.length : Nat) : Int)), (65, eI .i64 ((p : Nat) : Int)), (66, eB (decide (((p : Nat) : Int) < ((D.length : Nat) : Int))))]) (H' := [(14, ⟨[.vals (rowV gB r.L ++ rest)], 47⟩), (16, ⟨(cRun 14 r.n cap r.s0 r.s1 r.s2), 51⟩), (44, ⟨[.vals (rowV gD D ++ r2)], 3⟩)]) (by kernel_rfl) ?_
        refine wo_nil ?_
        refine we_then ?_
        refine wc_seq ?_
        refine wc_cond rfl (fun h5 => ?_) (fun h5 => ?_)
        · replace h5 := of_decide_eq_true h5
          refine wc_skip ?_
          refine we_then ?_
          refine wc_seq ?_
          refine wc_block ?_
          refine wc_seq ?_
          refine wc_reg [0, 1] (by kernel_rfl) ?_
          refine wo_run [0, 1] [3, 6, 9, 64, 65] [14, 16, 44] (l' := [(3, eL 16 0), (6, .s (.a (.ls 44 0 D.length c2))), (9, eI .i64 ((p : Nat) : Int)), (64, eI .i64 ((D.length : Nat) : Int)), (65, eI .i64 ((p : Nat) : Int))]) (H' := [(14, ⟨[.vals (rowV gB r.L ++ rest)], 47⟩), (16, ⟨(cRun 14 r.n cap r.s0 r.s1 r.s2), 51⟩), (44, ⟨[.vals (rowV gD D ++ r2)], 3⟩)]) (by kernel_rfl) ?_
          refine wo_nil ?_
          refine we_then ?_
          refine wc_seq ?_
          refine wc_reg [0] (by kernel_rfl) ?_
          refine wo_run [0] [3, 6, 9, 10, 64, 65] [14, 16, 44] (l' := [(3, eL 16 0), (6, .s (.a (.ls 44 0 D.length c2))), (9, eI .i64 ((p : Nat) : Int)), (10, eI .i64 0), (64, eI .i64 ((D.length : Nat) : Int)), (65, eI .i64 ((p : Nat) : Int))]) (H' := [(14, ⟨[.vals (rowV gB r.L ++ rest)], 47⟩), (16, ⟨(cRun 14 r.n cap r.s0 r.s1 r.s2), 51⟩), (44, ⟨[.vals (rowV gD D ++ r2)], 3⟩)]) (by kernel_rfl) ?_
          refine wo_nil ?_
          refine we_then ?_
          refine wc_block ?_
          refine wc_rest [3, 6, 9, 10, 64, 65] [14, 16, 44] (l' := [(3, eL 16 0), (6, .s (.a (.ls 44 0 D.length c2))), (9, eI .i64 ((p : Nat) : Int)), (10, eI .i64 0), (64, eI .i64 ((D.length : Nat) : Int)), (65, eI .i64 ((p : Nat) : Int))]) (H' := [(14, ⟨[.vals (rowV gB r.L ++ rest)], 47⟩), (16, ⟨(cRun 14 r.n cap r.s0 r.s1 r.s2), 51⟩), (44, ⟨[.vals (rowV gD D ++ r2)], 3⟩)]) (by kernel_rfl) ?_
          refine wc_loop (τ := Nat) (fun q => q ≤ p) (fun q => p - q) (fun _ => _) (fun q => [(3, eL 16 0), (6, .s (.a (.ls 44 0 D.length c2))), (9, eI .i64 ((p : Nat) : Int)), (10, eI .i64 ((q : Nat) : Int)), (64, eI .i64 ((D.length : Nat) : Int)), (65, eI .i64 ((p : Nat) : Int))]) (fun q => [(14, ⟨[.vals (rowV gB r.L ++ rest)], 47⟩), (16, ⟨(cRun 14 r.n cap r.s0 r.s1 r.s2), 51⟩), (44, ⟨[.vals (rowV gD D ++ r2)], 3⟩)]) 0 (Nat.zero_le _) rfl rfl rfl ?_
          rintro q hj
          have hqp := hj
          refine wc_seq ?_
          refine wc_seq ?_
          refine wc_reg [0, 1, 2] (by kernel_rfl) ?_
          refine wo_run [0, 1, 2] [3, 6, 9, 10, 64, 65, 70] [14, 16, 44] (l' := [(3, eL 16 0), (6, .s (.a (.ls 44 0 D.length c2))), (9, eI .i64 ((p : Nat) : Int)), (10, eI .i64 ((q : Nat) : Int)), (64, eI .i64 ((D.length : Nat) : Int)), (65, eI .i64 ((p : Nat) : Int)), (70, eB (decide (((q : Nat) : Int) < ((p : Nat) : Int))))]) (H' := [(14, ⟨[.vals (rowV gB r.L ++ rest)], 47⟩), (16, ⟨(cRun 14 r.n cap r.s0 r.s1 r.s2), 51⟩), (44, ⟨[.vals (rowV gD D ++ r2)], 3⟩)]) (by kernel_rfl) ?_
          refine wo_nil ?_
          refine we_then ?_
          refine wc_cond rfl (fun h6 => ?_) (fun h6 => ?_)
          · replace h6 := of_decide_eq_true h6
            refine wc_skip ?_
            refine we_then ?_
            refine wc_seq ?_
            refine wc_block ?_
            refine wc_seq ?_
            refine wc_rest [3, 6, 9, 10, 64, 65] [14, 16, 44] (l' := [(3, eL 16 0), (6, .s (.a (.ls 44 0 D.length c2))), (9, eI .i64 ((p : Nat) : Int)), (10, eI .i64 ((q : Nat) : Int)), (64, eI .i64 ((D.length : Nat) : Int)), (65, eI .i64 ((p : Nat) : Int))]) (H' := [(14, ⟨[.vals (rowV gB r.L ++ rest)], 47⟩), (16, ⟨(cRun 14 r.n cap r.s0 r.s1 r.s2), 51⟩), (44, ⟨[.vals (rowV gD D ++ r2)], 3⟩)]) (by kernel_rfl) ?_
            refine wc_draw (n := 24) [(14, ⟨[.vals (rowV gB r.L ++ rest)], 47⟩), (16, ⟨(cRun 14 r.n cap r.s0 r.s1 r.s2), 51⟩), (44, ⟨[.vals (rowV gD D ++ r2)], 3⟩)] (by kernel_rfl) rfl (sub_of [14, 16, 44] (by kernel_rfl)) (fun ρ0 => ?_)
            refine wa_takes (fuel := 19) [0, 1, 2, 5, 6] [3, 6, 9, 10, 64, 65, 73, 74, 75, 78, 79] (listed' := #[true, true, true, false, false, true, true, false, false, false, false, false, false, false, false, false, false, false, false, false, false, false, false, false]) (l' := [(3, eL 16 0), (6, .s (.a (.ls 44 0 D.length c2))), (9, eI .i64 ((p : Nat) : Int)), (10, eI .i64 ((q : Nat) : Int)), (64, eI .i64 ((D.length : Nat) : Int)), (65, eI .i64 ((p : Nat) : Int)), (73, eL 16 0), (74, .s (.a (.ls 44 0 D.length c2))), (75, eI .i64 ((p : Nat) : Int)), (78, .s (.a (.ls 44 0 D.length c2))), (79, eI .i64 ((q : Nat) : Int))]) (pk_then (pk_block (pk_then (pk_then (pk_block (pk_block (pk_then (pk_then (pk_block (pk_then pk_body)))))))))) rfl (by kernel_rfl) ?_
            refine wa_take 3 (pk_then (pk_block (pk_then (pk_then (pk_block (pk_block (pk_then (pk_then (pk_block (pk_then pk_body)))))))))) rfl (by kernel_rfl) rfl rfl (rd_indexL (e := 3) 1 p ((p : Nat) : Int) rfl (by kernel_rfl) (by kernel_rfl) rfl rfl (rfl) (by omega)) ?_
            refine wa_take 4 (pk_then (pk_block (pk_then (pk_then (pk_block (pk_block (pk_then (pk_then (pk_block (pk_then pk_body)))))))))) rfl (by kernel_rfl) rfl rfl (rd_cellS (b := ⟨[.vals (rowV gD D ++ r2)], 3⟩) (.v (.int .i64 ((D.getD p 0 : Nat) : Int))) rfl rfl rfl (by kernel_rfl) (fun ρ => d_at (by omega) ρ)) ?_
            refine wa_take 7 (pk_then (pk_block (pk_then (pk_then (pk_block (pk_block (pk_then (pk_then (pk_block (pk_then pk_body)))))))))) rfl (by kernel_rfl) rfl rfl (rd_indexL (e := 3) 1 q ((q : Nat) : Int) rfl (by kernel_rfl) (by kernel_rfl) rfl rfl (rfl) (by omega)) ?_
            refine wa_take 8 (pk_then (pk_block (pk_then (pk_then (pk_block (pk_block (pk_then (pk_then (pk_block (pk_then pk_body)))))))))) rfl (by kernel_rfl) rfl rfl (rd_cellS (b := ⟨[.vals (rowV gD D ++ r2)], 3⟩) (.v (.int .i64 ((D.getD q 0 : Nat) : Int))) rfl rfl rfl (by kernel_rfl) (fun ρ => d_at (by omega) ρ)) ?_
            refine wa_all [9] (by kernel_rfl) rfl (all1 ?_)
            refine wi_op rfl rfl (ot_call (vs := [sL 16 0, sI .i64 ((D.getD p 0 : Nat) : Int), sI .i64 ((D.getD q 0 : Nat) : Int)]) rfl rfl rfl Try.func26 (by kernel_rfl) (by kernel_rfl) (by kernel_rfl) (eB (ext r.L (D.getD p 0) (D.getD p 0) (D.getD q 0))) (trivial) (fun ρ w h => extends_any r cap rest hr (D.getD p 0) ((hD _ (getD_mem (i := p) (by omega))).lt hr hG) (D.getD q 0) w (fun k => ρ (Sx.look [(100000, 16), (100001, 14)] k)) (h.heap (π := [(100000, 16), (100001, 14)]) (Hc := [(100000, ⟨(cRun 100001 r.n cap r.s0 r.s1 r.s2), 51⟩), (100001, ⟨[.vals (rowV gB r.L ++ rest)], 47⟩)]) rfl ⟨⟨by kernel_rfl, by kernel_rfl, by kernel_rfl⟩, ⟨by kernel_rfl, by kernel_rfl, by kernel_rfl⟩, trivial⟩))) (sub_of [14, 16, 44] (by kernel_rfl)) ?_
            refine wa_takes (fuel := 12) [10, 11] [3, 6, 9, 10, 64, 65, 84] (listed' := #[true, true, true, true, true, true, true, true, true, true, true, true, false, false, false, false, false, false, false, false, false, false, false, false]) (l' := [(3, eL 16 0), (6, .s (.a (.ls 44 0 D.length c2))), (9, eI .i64 ((p : Nat) : Int)), (10, eI .i64 ((q : Nat) : Int)), (64, eI .i64 ((D.length : Nat) : Int)), (65, eI .i64 ((p : Nat) : Int)), (84, eB (!(ext r.L (D.getD p 0) (D.getD p 0) (D.getD q 0))))]) (pk_then (pk_block (pk_then (pk_then (pk_block (pk_block (pk_then (pk_then (pk_block (pk_then pk_body)))))))))) rfl (by kernel_rfl) ?_
            refine wa_bool 84 rfl (fun h7 => ?_) (fun h7 => ?_)
            · replace h7 := not_t h7
              refine wa_takes (fuel := 7) [12, 13, 14, 17, 18] [3, 6, 9, 10, 64, 65, 84, 85, 86, 87, 90, 91] (listed' := #[true, true, true, true, true, true, true, true, true, true, true, true, true, true, true, false, false, true, true, false, false, false, false, false]) (l' := [(3, eL 16 0), (6, .s (.a (.ls 44 0 D.length c2))), (9, eI .i64 ((p : Nat) : Int)), (10, eI .i64 ((q : Nat) : Int)), (64, eI .i64 ((D.length : Nat) : Int)), (65, eI .i64 ((p : Nat) : Int)), (84, eB true), (85, eL 16 0), (86, .s (.a (.ls 44 0 D.length c2))), (87, eI .i64 ((q : Nat) : Int)), (90, .s (.a (.ls 44 0 D.length c2))), (91, eI .i64 ((p : Nat) : Int))]) (pk_then (pk_block (pk_then (pk_then (pk_block (pk_block (pk_then (pk_then (pk_block (pk_then pk_body)))))))))) rfl (by kernel_rfl) ?_
              refine wa_take 15 (pk_then (pk_block (pk_then (pk_then (pk_block (pk_block (pk_then (pk_then (pk_block (pk_then pk_body)))))))))) rfl (by kernel_rfl) rfl rfl (rd_indexL (e := 3) 1 q ((q : Nat) : Int) rfl (by kernel_rfl) (by kernel_rfl) rfl rfl (rfl) (by omega)) ?_
              refine wa_take 16 (pk_then (pk_block (pk_then (pk_then (pk_block (pk_block (pk_then (pk_then (pk_block (pk_then pk_body)))))))))) rfl (by kernel_rfl) rfl rfl (rd_cellS (b := ⟨[.vals (rowV gD D ++ r2)], 3⟩) (.v (.int .i64 ((D.getD q 0 : Nat) : Int))) rfl rfl rfl (by kernel_rfl) (fun ρ => d_at (by omega) ρ)) ?_
              refine wa_take 19 (pk_then (pk_block (pk_then (pk_then (pk_block (pk_block (pk_then (pk_then (pk_block (pk_then pk_body)))))))))) rfl (by kernel_rfl) rfl rfl (rd_indexL (e := 3) 1 p ((p : Nat) : Int) rfl (by kernel_rfl) (by kernel_rfl) rfl rfl (rfl) (by omega)) ?_
              refine wa_take 20 (pk_then (pk_block (pk_then (pk_then (pk_block (pk_block (pk_then (pk_then (pk_block (pk_then pk_body)))))))))) rfl (by kernel_rfl) rfl rfl (rd_cellS (b := ⟨[.vals (rowV gD D ++ r2)], 3⟩) (.v (.int .i64 ((D.getD p 0 : Nat) : Int))) rfl rfl rfl (by kernel_rfl) (fun ρ => d_at (by omega) ρ)) ?_
              refine wa_all [21] (by kernel_rfl) rfl (all1 ?_)
              refine wi_op rfl rfl (ot_call (vs := [sL 16 0, sI .i64 ((D.getD q 0 : Nat) : Int), sI .i64 ((D.getD p 0 : Nat) : Int)]) rfl rfl rfl Try.func26 (by kernel_rfl) (by kernel_rfl) (by kernel_rfl) (eB (ext r.L (D.getD q 0) (D.getD q 0) (D.getD p 0))) (trivial) (fun ρ w h => extends_any r cap rest hr (D.getD q 0) ((hD _ (getD_mem (i := q) (by omega))).lt hr hG) (D.getD p 0) w (fun k => ρ (Sx.look [(100000, 16), (100001, 14)] k)) (h.heap (π := [(100000, 16), (100001, 14)]) (Hc := [(100000, ⟨(cRun 100001 r.n cap r.s0 r.s1 r.s2), 51⟩), (100001, ⟨[.vals (rowV gB r.L ++ rest)], 47⟩)]) rfl ⟨⟨by kernel_rfl, by kernel_rfl, by kernel_rfl⟩, ⟨by kernel_rfl, by kernel_rfl, by kernel_rfl⟩, trivial⟩))) (sub_of [14, 16, 44] (by kernel_rfl)) ?_
              refine wa_takes (fuel := 0) [22, 23] [3, 6, 9, 10, 64, 65, 96] (listed' := #[true, true, true, true, true, true, true, true, true, true, true, true, true, true, true, true, true, true, true, true, true, true, true, true]) (l' := [(3, eL 16 0), (6, .s (.a (.ls 44 0 D.length c2))), (9, eI .i64 ((p : Nat) : Int)), (10, eI .i64 ((q : Nat) : Int)), (64, eI .i64 ((D.length : Nat) : Int)), (65, eI .i64 ((p : Nat) : Int)), (96, eB (!(ext r.L (D.getD q 0) (D.getD q 0) (D.getD p 0))))]) (pk_then (pk_block (pk_then (pk_then (pk_block (pk_block (pk_then (pk_then (pk_block (pk_then pk_body)))))))))) rfl (by kernel_rfl) ?_
              refine wa_done (by kernel_rfl) ?_
              refine we_rest [3, 6, 9, 10, 64, 65, 96] [14, 16, 44] (l' := [(3, eL 16 0), (6, .s (.a (.ls 44 0 D.length c2))), (9, eI .i64 ((p : Nat) : Int)), (10, eI .i64 ((q : Nat) : Int)), (64, eI .i64 ((D.length : Nat) : Int)), (65, eI .i64 ((p : Nat) : Int)), (96, eB (!(ext r.L (D.getD q 0) (D.getD q 0) (D.getD p 0))))]) (H' := [(14, ⟨[.vals (rowV gB r.L ++ rest)], 47⟩), (16, ⟨(cRun 14 r.n cap r.s0 r.s1 r.s2), 51⟩), (44, ⟨[.vals (rowV gD D ++ r2)], 3⟩)]) (by kernel_rfl) (by kernel_rfl) ?_
              refine we_then ?_
              refine wc_cond rfl (fun h8 => ?_) (fun h8 => ?_)
              · replace h8 := not_t h8
                exact absurd (heads_agree hr hG (hD _ (getD_mem (i := p) (by omega))) (hD _ (getD_mem (i := q) (by omega)))) (by rw [h7, h8]; decide)
              · replace h8 := not_f h8
                refine wc_skip ?_
                refine we_block ?_
                refine we_then ?_
                refine wc_reg [0, 1, 2] (by kernel_rfl) ?_
                refine wo_run [0, 1, 2] [3, 6, 9, 10, 64, 65] [14, 16, 44] (l' := [(3, eL 16 0), (6, .s (.a (.ls 44 0 D.length c2))), (9, eI .i64 ((p : Nat) : Int)), (10, eI .i64 (IntKind.wrap .i64 (((q : Nat) : Int) + 1))), (64, eI .i64 ((D.length : Nat) : Int)), (65, eI .i64 ((p : Nat) : Int))]) (H' := [(14, ⟨[.vals (rowV gB r.L ++ rest)], 47⟩), (16, ⟨(cRun 14 r.n cap r.s0 r.s1 r.s2), 51⟩), (44, ⟨[.vals (rowV gD D ++ r2)], 3⟩)]) (by kernel_rfl) ?_
                refine wo_nil ?_
                refine we_rest [3, 6, 9, 10, 64, 65] [14, 16, 44] (l' := [(3, eL 16 0), (6, .s (.a (.ls 44 0 D.length c2))), (9, eI .i64 ((p : Nat) : Int)), (10, eI .i64 (IntKind.wrap .i64 (((q : Nat) : Int) + 1))), (64, eI .i64 ((D.length : Nat) : Int)), (65, eI .i64 ((p : Nat) : Int))]) (H' := [(14, ⟨[.vals (rowV gB r.L ++ rest)], 47⟩), (16, ⟨(cRun 14 r.n cap r.s0 r.s1 r.s2), 51⟩), (44, ⟨[.vals (rowV gD D ++ r2)], 3⟩)]) (by kernel_rfl) (by kernel_rfl) ?_
                rw [show (IntKind.wrap .i64 (((q : Nat) : Int) + 1)) = ((q + 1 : Nat) : Int) from wrap_succ (by have := hr.small; omega)]
                exact we_round (q + 1) (by show q + 1 ≤ p; omega) (by show p - (q + 1) < p - q; omega) rfl (sub_ofE [3, 6, 9, 10, 64, 65] rfl) (sub_of [14, 16, 44] rfl)
            · replace h7 := not_f h7
              refine wa_takes (fuel := 0) [12, 13, 14, 15, 16, 17, 18, 19, 20, 21, 22, 23] [3, 6, 9, 10, 64, 65, 96] (listed' := #[true, true, true, true, true, true, true, true, true, true, true, true, true, true, true, true, true, true, true, true, true, true, true, true]) (l' := [(3, eL 16 0), (6, .s (.a (.ls 44 0 D.length c2))), (9, eI .i64 ((p : Nat) : Int)), (10, eI .i64 ((q : Nat) : Int)), (64, eI .i64 ((D.length : Nat) : Int)), (65, eI .i64 ((p : Nat) : Int)), (96, eB false)]) (pk_then (pk_block (pk_then (pk_then (pk_block (pk_block (pk_then (pk_then (pk_block (pk_then pk_body)))))))))) rfl (by kernel_rfl) ?_
              refine wa_done (by kernel_rfl) ?_
              refine we_rest [3, 6, 9, 10, 64, 65, 96] [14, 16, 44] (l' := [(3, eL 16 0), (6, .s (.a (.ls 44 0 D.length c2))), (9, eI .i64 ((p : Nat) : Int)), (10, eI .i64 ((q : Nat) : Int)), (64, eI .i64 ((D.length : Nat) : Int)), (65, eI .i64 ((p : Nat) : Int)), (96, eB false)]) (H' := [(14, ⟨[.vals (rowV gB r.L ++ rest)], 47⟩), (16, ⟨(cRun 14 r.n cap r.s0 r.s1 r.s2), 51⟩), (44, ⟨[.vals (rowV gD D ++ r2)], 3⟩)]) (by kernel_rfl) (by kernel_rfl) ?_
              refine we_then ?_
              refine wc_false rfl ?_
              refine wc_skip ?_
              refine we_block ?_
              refine we_then ?_
              refine wc_reg [0, 1, 2] (by kernel_rfl) ?_
              refine wo_run [0, 1, 2] [3, 6, 9, 10, 64, 65] [14, 16, 44] (l' := [(3, eL 16 0), (6, .s (.a (.ls 44 0 D.length c2))), (9, eI .i64 ((p : Nat) : Int)), (10, eI .i64 (IntKind.wrap .i64 (((q : Nat) : Int) + 1))), (64, eI .i64 ((D.length : Nat) : Int)), (65, eI .i64 ((p : Nat) : Int))]) (H' := [(14, ⟨[.vals (rowV gB r.L ++ rest)], 47⟩), (16, ⟨(cRun 14 r.n cap r.s0 r.s1 r.s2), 51⟩), (44, ⟨[.vals (rowV gD D ++ r2)], 3⟩)]) (by kernel_rfl) ?_
              refine wo_nil ?_
              refine we_rest [3, 6, 9, 10, 64, 65] [14, 16, 44] (l' := [(3, eL 16 0), (6, .s (.a (.ls 44 0 D.length c2))), (9, eI .i64 ((p : Nat) : Int)), (10, eI .i64 (IntKind.wrap .i64 (((q : Nat) : Int) + 1))), (64, eI .i64 ((D.length : Nat) : Int)), (65, eI .i64 ((p : Nat) : Int))]) (H' := [(14, ⟨[.vals (rowV gB r.L ++ rest)], 47⟩), (16, ⟨(cRun 14 r.n cap r.s0 r.s1 r.s2), 51⟩), (44, ⟨[.vals (rowV gD D ++ r2)], 3⟩)]) (by kernel_rfl) (by kernel_rfl) ?_
              rw [show (IntKind.wrap .i64 (((q : Nat) : Int) + 1)) = ((q + 1 : Nat) : Int) from wrap_succ (by have := hr.small; omega)]
              exact we_round (q + 1) (by show q + 1 ≤ p; omega) (by show p - (q + 1) < p - q; omega) rfl (sub_ofE [3, 6, 9, 10, 64, 65] rfl) (sub_of [14, 16, 44] rfl)
          · replace h6 := of_decide_eq_false h6
            refine wc_exit ?_
            refine we_then_exit ?_
            refine we_then_exit ?_
            refine we_block_exit ?_
            refine we_block ?_
            refine we_then ?_
            refine wc_reg [0, 1] (by kernel_rfl) ?_
            refine wo_run [0, 1] [3, 6, 64, 65] [14, 16, 44] (l' := [(3, eL 16 0), (6, .s (.a (.ls 44 0 D.length c2))), (64, eI .i64 ((D.length : Nat) : Int)), (65, eI .i64 (IntKind.wrap .i64 (((p : Nat) : Int) + 1)))]) (H' := [(14, ⟨[.vals (rowV gB r.L ++ rest)], 47⟩), (16, ⟨(cRun 14 r.n cap r.s0 r.s1 r.s2), 51⟩), (44, ⟨[.vals (rowV gD D ++ r2)], 3⟩)]) (by kernel_rfl) ?_
            refine wo_nil ?_
            refine we_rest [3, 6, 64, 65] [14, 16, 44] (l' := [(3, eL 16 0), (6, .s (.a (.ls 44 0 D.length c2))), (64, eI .i64 ((D.length : Nat) : Int)), (65, eI .i64 (IntKind.wrap .i64 (((p : Nat) : Int) + 1)))]) (H' := [(14, ⟨[.vals (rowV gB r.L ++ rest)], 47⟩), (16, ⟨(cRun 14 r.n cap r.s0 r.s1 r.s2), 51⟩), (44, ⟨[.vals (rowV gD D ++ r2)], 3⟩)]) (by kernel_rfl) (by kernel_rfl) ?_
            rw [show (IntKind.wrap .i64 (((p : Nat) : Int) + 1)) = ((p + 1 : Nat) : Int) from wrap_succ (by have := hr.small; omega)]
            exact we_round (p + 1) (by show p + 1 ≤ D.length; omega) (by show D.length - (p + 1) < D.length - p; omega) rfl (sub_ofE [3, 6, 64, 65] rfl) (sub_of [14, 16, 44] rfl)
        · replace h5 := of_decide_eq_false h5
          refine wc_exit ?_
          refine we_then_exit ?_
          refine we_then_exit ?_
          refine we_block_exit ?_
          refine we_then ?_
          refine wc_seq ?_
          refine wc_reg [0] (by kernel_rfl) ?_
          refine wo_run [0] [2] [] (l' := [(2, eB true)]) (H' := []) (by kernel_rfl) ?_
          refine wo_nil ?_
          refine we_then ?_
          refine wc_ret ?_
          refine we_ret (.inl rfl) (v := eB true) (by kernel_rfl) ?_
          intro ρ' w' hf'
          refine ⟨?_, hf'.below noS⟩
          rfl
  · replace h1 := of_decide_eq_false h1
    refine wo_run [5, 6, 7] [0, 3, 5, 35] [14, 16] (l' := [(0, eV (.slice a0 len0 cap0)), (3, eL 16 0), (5, eI .i64 ((k : Nat) : Int)), (35, eB false)]) (H' := [(14, ⟨[.vals (rowV gB r.L ++ rest)], 47⟩), (16, ⟨(cRun 14 r.n cap r.s0 r.s1 r.s2), 51⟩)]) (by kernel_rfl) ?_
    refine wo_nil ?_
    refine we_then ?_
    refine wc_false rfl ?_
    refine wc_exit ?_
    refine we_then_exit ?_
    refine we_then_exit ?_
    refine we_block_exit ?_
    refine we_then ?_
    refine wc_seq ?_
    refine wc_reg [0, 1] (by kernel_rfl) ?_
    refine wo_op rfl rfl (ot_bslice (e := 3) (d := 44) (n := 0) (size := 1) [] [] rfl rfl rfl (by kernel_rfl) rfl (by kernel_rfl) (okc_nil) (fun _ => rfl) (by kernel_rfl) (by kernel_rfl)) ?_
    refine wo_run [1] [3, 6] [14, 16, 44] (l' := [(3, eL 16 0), (6, .s (.a (.ls 44 0 0 0)))]) (H' := [(14, ⟨[.vals (rowV gB r.L ++ rest)], 47⟩), (16, ⟨(cRun 14 r.n cap r.s0 r.s1 r.s2), 51⟩), (44, ⟨[], 3⟩)]) (by kernel_rfl) ?_
    refine wo_nil ?_
    refine we_then ?_
    refine wc_seq ?_
    refine wc_seq ?_
    refine wc_reg [0, 1, 2, 3, 4, 5] (by kernel_rfl) ?_
    refine wo_run [0, 1, 2, 3] [3, 6, 48] [14, 16, 44] (l' := [(3, eL 16 0), (6, .s (.a (.ls 44 0 0 0))), (48, .s (.a (.ls 14 0 r.n cap)))]) (H' := [(14, ⟨[.vals (rowV gB r.L ++ rest)], 47⟩), (16, ⟨(cRun 14 r.n cap r.s0 r.s1 r.s2), 51⟩), (44, ⟨[], 3⟩)]) (by kernel_rfl) ?_
    refine wo_op rfl rfl (ot_rd rfl (rd_len rfl rfl rfl rfl (fun _ => by kernel_rfl))) ?_
    refine wo_run [5] [3, 6, 49, 50] [14, 16, 44] (l' := [(3, eL 16 0), (6, .s (.a (.ls 44 0 0 0))), (49, eI .i64 ((r.n : Nat) : Int)), (50, eI .i64 0)]) (H' := [(14, ⟨[.vals (rowV gB r.L ++ rest)], 47⟩), (16, ⟨(cRun 14 r.n cap r.s0 r.s1 r.s2), 51⟩), (44, ⟨[], 3⟩)]) (by kernel_rfl) ?_
    refine wo_nil ?_
    refine we_then ?_
    refine wc_block ?_
    refine wc_flat 44 [.vals (rowV gD [] ++ [])] rfl (fun _ => rfl) (okCs_vals _) ?_
    refine wc_rest [3, 6, 49, 50] [14, 16, 44] (l' := [(3, eL 16 0), (6, .s (.a (.ls 44 0 0 0))), (49, eI .i64 ((r.n : Nat) : Int)), (50, eI .i64 0)]) (H' := [(14, ⟨[.vals (rowV gB r.L ++ rest)], 47⟩), (16, ⟨(cRun 14 r.n cap r.s0 r.s1 r.s2), 51⟩), (44, ⟨[.vals (rowV gD [] ++ [])], 3⟩)]) (by kernel_rfl) ?_
    refine wc_rest [3, 6, 49, 50] [14, 16, 44] (l' := [(3, eL 16 0), (6, .s (.a (.ls 44 0 0 0))), (49, eI .i64 ((r.n : Nat) : Int)), (50, eI .i64 0)]) (H' := [(14, ⟨[.vals (rowV gB r.L ++ rest)], 47⟩), (16, ⟨(cRun 14 r.n cap r.s0 r.s1 r.s2), 51⟩), (44, ⟨[.vals (rowV gD [] ++ [])], 3⟩)]) (by kernel_rfl) ?_
    refine wc_loop (τ := Nat × List Nat × Nat × List Value) (fun ⟨i, D, c2, r2⟩ => i ≤ r.n ∧ D.length ≤ i ∧ D.length ≤ c2 ∧ c2 ≤ maxLen ∧ r2.length = (c2 - D.length) * 1 ∧ ∀ d, d ∈ D → Head r d) (fun ⟨i, D, c2, r2⟩ => r.n - i) (fun _ => _) (fun ⟨i, D, c2, r2⟩ => [(3, eL 16 0), (6, .s (.a (.ls 44 0 D.length c2))), (49, eI .i64 ((r.n : Nat) : Int)), (50, eI .i64 ((i : Nat) : Int))]) (fun ⟨i, D, c2, r2⟩ => [(14, ⟨[.vals (rowV gB r.L ++ rest)], 47⟩), (16, ⟨(cRun 14 r.n cap r.s0 r.s1 r.s2), 51⟩), (44, ⟨[.vals (rowV gD D ++ r2)], 3⟩)]) (0, [], 0, []) (⟨Nat.zero_le _, Nat.le_refl _, Nat.le_refl _, Nat.zero_le _, rfl, fun d hd => absurd hd (by simp)⟩) rfl rfl rfl ?_
    rintro ⟨i, D, c2, r2⟩ hj
    obtain ⟨hi, hDi, hc1, hc2, hl, hD⟩ := hj
    refine wc_seq ?_
    refine wc_reg [0] (by kernel_rfl) ?_
    refine wo_run [0] [3, 6, 49, 50, 51] [14, 16, 44] (l' := [(3, eL 16 0), (6, .s (.a (.ls 44 0 D.length c2))), (49, eI .i64 ((r.n : Nat) : Int)), (50, eI .i64 ((i : Nat) : Int)), (51, eB (decide (((i : Nat) : Int) < ((r.n : Nat) : Int))))]) (H' := [(14, ⟨[.vals (rowV gB r.L ++ rest)], 47⟩), (16, ⟨(cRun 14 r.n cap r.s0 r.s1 r.s2), 51⟩), (44, ⟨[.vals (rowV gD D ++ r2)], 3⟩)]) (by kernel_rfl) ?_
    refine wo_nil ?_
    refine we_then ?_
    refine wc_seq ?_
    refine wc_cond rfl (fun h9 => ?_) (fun h9 => ?_)
    · replace h9 := of_decide_eq_true h9
      refine wc_skip ?_
      refine we_then ?_
      refine wc_seq ?_
      refine wc_block ?_
      refine wc_seq ?_
      refine wc_reg [0, 1] (by kernel_rfl) ?_
      refine wo_run [0, 1] [3, 6, 7, 49, 50] [14, 16, 44] (l' := [(3, eL 16 0), (6, .s (.a (.ls 44 0 D.length c2))), (7, eI .i64 ((i : Nat) : Int)), (49, eI .i64 ((r.n : Nat) : Int)), (50, eI .i64 ((i : Nat) : Int))]) (H' := [(14, ⟨[.vals (rowV gB r.L ++ rest)], 47⟩), (16, ⟨(cRun 14 r.n cap r.s0 r.s1 r.s2), 51⟩), (44, ⟨[.vals (rowV gD D ++ r2)], 3⟩)]) (by kernel_rfl) ?_
      refine wo_nil ?_
      refine we_then ?_
      refine wc_seq ?_
      refine wc_reg [0, 1, 2, 3] (by kernel_rfl) ?_
      refine wo_run [0, 1] [3, 6, 49, 50, 53, 54] [14, 16, 44] (l' := [(3, eL 16 0), (6, .s (.a (.ls 44 0 D.length c2))), (49, eI .i64 ((r.n : Nat) : Int)), (50, eI .i64 ((i : Nat) : Int)), (53, eL 16 0), (54, eI .i64 ((i : Nat) : Int))]) (H' := [(14, ⟨[.vals (rowV gB r.L ++ rest)], 47⟩), (16, ⟨(cRun 14 r.n cap r.s0 r.s1 r.s2), 51⟩), (44, ⟨[.vals (rowV gD D ++ r2)], 3⟩)]) (by kernel_rfl) ?_
      refine wo_op rfl rfl (ot_call (vs := [sL 16 0, sI .i64 ((i : Nat) : Int)]) rfl rfl rfl Try.func25 (by kernel_rfl) (by kernel_rfl) (by kernel_rfl) (eI .i64 (firstI r.L i)) (trivial) (fun ρ w h => first_any r cap rest hr i (by omega) w (fun k => ρ (Sx.look [(100000, 16), (100001, 14)] k)) (h.heap (π := [(100000, 16), (100001, 14)]) (Hc := [(100000, ⟨(cRun 100001 r.n cap r.s0 r.s1 r.s2), 51⟩), (100001, ⟨[.vals (rowV gB r.L ++ rest)], 47⟩)]) rfl ⟨⟨by kernel_rfl, by kernel_rfl, by kernel_rfl⟩, ⟨by kernel_rfl, by kernel_rfl, by kernel_rfl⟩, trivial⟩))) ?_
      refine wo_run [3] [3, 6, 8, 49, 50] [14, 16, 44] (l' := [(3, eL 16 0), (6, .s (.a (.ls 44 0 D.length c2))), (8, eI .i64 (firstI r.L i)), (49, eI .i64 ((r.n : Nat) : Int)), (50, eI .i64 ((i : Nat) : Int))]) (H' := [(14, ⟨[.vals (rowV gB r.L ++ rest)], 47⟩), (16, ⟨(cRun 14 r.n cap r.s0 r.s1 r.s2), 51⟩), (44, ⟨[.vals (rowV gD D ++ r2)], 3⟩)]) (by kernel_rfl) ?_
      refine wo_nil ?_
      refine we_then ?_
      refine wc_seq ?_
      refine wc_reg [0, 1] (by kernel_rfl) ?_
      refine wo_run [0, 1] [3, 6, 8, 49, 50, 57] [14, 16, 44] (l' := [(3, eL 16 0), (6, .s (.a (.ls 44 0 D.length c2))), (8, eI .i64 (firstI r.L i)), (49, eI .i64 ((r.n : Nat) : Int)), (50, eI .i64 ((i : Nat) : Int)), (57, eB (decide ((firstI r.L i) > 0)))]) (H' := [(14, ⟨[.vals (rowV gB r.L ++ rest)], 47⟩), (16, ⟨(cRun 14 r.n cap r.s0 r.s1 r.s2), 51⟩), (44, ⟨[.vals (rowV gD D ++ r2)], 3⟩)]) (by kernel_rfl) ?_
      refine wo_nil ?_
      refine we_then ?_
      refine wc_cond rfl (fun h10 => ?_) (fun h10 => ?_)
      · replace h10 := of_decide_eq_true h10
        refine wc_reg [0, 1, 2, 3, 4] (by kernel_rfl) ?_
        refine wo_run [0, 1] [3, 49, 50, 58, 59] [14, 16, 44] (l' := [(3, eL 16 0), (49, eI .i64 ((r.n : Nat) : Int)), (50, eI .i64 ((i : Nat) : Int)), (58, .s (.a (.ls 44 0 D.length c2))), (59, eI .i64 (firstI r.L i))]) (H' := [(14, ⟨[.vals (rowV gB r.L ++ rest)], 47⟩), (16, ⟨(cRun 14 r.n cap r.s0 r.s1 r.s2), 51⟩), (44, ⟨[.vals (rowV gD D ++ r2)], 3⟩)]) (by kernel_rfl) ?_
        refine wo_op rfl rfl (ot_bslice (e := 3) (d := 60) (n := 1) (size := 1) [.ints .i64 1 (List.replicate 1 0)] [cI .i64 (firstI r.L i)] rfl rfl rfl (by kernel_rfl) rfl (by kernel_rfl) (okc_ints (List.length_replicate) (okc_nil)) (fun _ => rfl) (by kernel_rfl) (by kernel_rfl)) ?_
        refine wo_ox rfl rfl (ox_append (t := 56) (e := 3) (size := 1) (bytes := 8) (m := 1) 61 44 D.length c2 (rowV gD D) ([.int .i64 (firstI r.L i)]) r2 [60, 14, 16] rfl rfl (by kernel_rfl) (by kernel_rfl) (by kernel_rfl) (by decide) rfl rfl (by rw [rowV_length gD_len]) (hl) (hc1) (hc2) (rfl) (fun u hu => by simp at hu; subst hu; rfl) (news_own 60 [.int .i64 (firstI r.L i)] rfl rfl (fun _ => rfl)) (by have := hr.small; simp only [maxLen]; omega) (by have := hr.small; omega) (by kernel_rfl)) (fun ⟨c3, r3⟩ hx3 _ => ?_)
        refine wo_run [] [3, 49, 50, 61] [14, 16, 61] (l' := [(3, eL 16 0), (49, eI .i64 ((r.n : Nat) : Int)), (50, eI .i64 ((i : Nat) : Int)), (61, .s (.a (.ls 61 0 (D.length + 1) c3)))]) (H' := [(14, ⟨[.vals (rowV gB r.L ++ rest)], 47⟩), (16, ⟨(cRun 14 r.n cap r.s0 r.s1 r.s2), 51⟩), (61, ⟨[.vals (rowV gD D ++ [.int .i64 (firstI r.L i)] ++ r3)], 3⟩)]) (by kernel_rfl) ?_
        refine wo_run [4] [3, 6, 49, 50] [14, 16, 61] (l' := [(3, eL 16 0), (6, .s (.a (.ls 61 0 (D.length + 1) c3))), (49, eI .i64 ((r.n : Nat) : Int)), (50, eI .i64 ((i : Nat) : Int))]) (H' := [(14, ⟨[.vals (rowV gB r.L ++ rest)], 47⟩), (16, ⟨(cRun 14 r.n cap r.s0 r.s1 r.s2), 51⟩), (61, ⟨[.vals (rowV gD D ++ [.int .i64 (firstI r.L i)] ++ r3)], 3⟩)]) (by kernel_rfl) ?_
        refine wo_nil ?_
        refine we_block ?_
        refine we_then ?_
        refine wc_reg [0, 1] (by kernel_rfl) ?_
        refine wo_run [0, 1] [3, 6, 49, 50] [14, 16, 61] (l' := [(3, eL 16 0), (6, .s (.a (.ls 61 0 (D.length + 1) c3))), (49, eI .i64 ((r.n : Nat) : Int)), (50, eI .i64 (IntKind.wrap .i64 (((i : Nat) : Int) + 1)))]) (H' := [(14, ⟨[.vals (rowV gB r.L ++ rest)], 47⟩), (16, ⟨(cRun 14 r.n cap r.s0 r.s1 r.s2), 51⟩), (61, ⟨[.vals (rowV gD D ++ [.int .i64 (firstI r.L i)] ++ r3)], 3⟩)]) (by kernel_rfl) ?_
        refine wo_nil ?_
        refine we_rest [3, 6, 49, 50] [14, 16, 61] (l' := [(3, eL 16 0), (6, .s (.a (.ls 61 0 (D.length + 1) c3))), (49, eI .i64 ((r.n : Nat) : Int)), (50, eI .i64 (IntKind.wrap .i64 (((i : Nat) : Int) + 1)))]) (H' := [(14, ⟨[.vals (rowV gB r.L ++ rest)], 47⟩), (16, ⟨(cRun 14 r.n cap r.s0 r.s1 r.s2), 51⟩), (61, ⟨[.vals (rowV gD D ++ [.int .i64 (firstI r.L i)] ++ r3)], 3⟩)]) (by kernel_rfl) (by kernel_rfl) ?_
        refine we_ren [(14, 14), (16, 16), (61, 44)] (l' := [(3, eL 16 0), (6, .s (.a (.ls 44 0 (D.length + 1) c3))), (49, eI .i64 ((r.n : Nat) : Int)), (50, eI .i64 (IntKind.wrap .i64 (((i : Nat) : Int) + 1)))]) (H' := [(14, ⟨[.vals (rowV gB r.L ++ rest)], 47⟩), (16, ⟨(cRun 14 r.n cap r.s0 r.s1 r.s2), 51⟩), (44, ⟨[.vals (rowV gD D ++ [.int .i64 (firstI r.L i)] ++ r3)], 3⟩)]) (by kernel_rfl) (by kernel_rfl) (by kernel_rfl) ?_
        refine we_rest [3, 6, 49, 50] [14, 16, 44] (l' := [(3, eL 16 0), (6, .s (.a (.ls 44 0 (D.length + 1) c3))), (49, eI .i64 ((r.n : Nat) : Int)), (50, eI .i64 (IntKind.wrap .i64 (((i : Nat) : Int) + 1)))]) (H' := [(14, ⟨[.vals (rowV gB r.L ++ rest)], 47⟩), (16, ⟨(cRun 14 r.n cap r.s0 r.s1 r.s2), 51⟩), (44, ⟨[.vals (rowV gD D ++ [.int .i64 (firstI r.L i)] ++ r3)], 3⟩)]) (by kernel_rfl) (by kernel_rfl) ?_
        rw [show (rowV gD D ++ [.int .i64 (firstI r.L i)] ++ r3) = (rowV gD (D ++ [(firstI r.L i).toNat]) ++ r3) from rowD_push D (by omega) r3]
        rw [show (D.length + 1) = (D ++ [(firstI r.L i).toNat]).length from by simp]
        rw [show (IntKind.wrap .i64 (((i : Nat) : Int) + 1)) = ((i + 1 : Nat) : Int) from wrap_succ (by have := hr.small; omega)]
        exact we_round (i + 1, (D ++ [(firstI r.L i).toNat]), c3, r3) (⟨by omega, by simp; omega, by simpa using hx3.1, hx3.2.1, by simpa using hx3.2.2, head_push hD (by omega) h10⟩) (by show r.n - (i + 1) < r.n - i; omega) rfl (sub_ofE [3, 6, 49, 50] rfl) (sub_of [14, 16, 44] rfl)
      · replace h10 := of_decide_eq_false h10
        refine wc_skip ?_
        refine we_block ?_
        refine we_then ?_
        refine wc_reg [0, 1] (by kernel_rfl) ?_
        refine wo_run [0, 1] [3, 6, 49, 50] [14, 16, 44] (l' := [(3, eL 16 0), (6, .s (.a (.ls 44 0 D.length c2))), (49, eI .i64 ((r.n : Nat) : Int)), (50, eI .i64 (IntKind.wrap .i64 (((i : Nat) : Int) + 1)))]) (H' := [(14, ⟨[.vals (rowV gB r.L ++ rest)], 47⟩), (16, ⟨(cRun 14 r.n cap r.s0 r.s1 r.s2), 51⟩), (44, ⟨[.vals (rowV gD D ++ r2)], 3⟩)]) (by kernel_rfl) ?_
        refine wo_nil ?_
        refine we_rest [3, 6, 49, 50] [14, 16, 44] (l' := [(3, eL 16 0), (6, .s (.a (.ls 44 0 D.length c2))), (49, eI .i64 ((r.n : Nat) : Int)), (50, eI .i64 (IntKind.wrap .i64 (((i : Nat) : Int) + 1)))]) (H' := [(14, ⟨[.vals (rowV gB r.L ++ rest)], 47⟩), (16, ⟨(cRun 14 r.n cap r.s0 r.s1 r.s2), 51⟩), (44, ⟨[.vals (rowV gD D ++ r2)], 3⟩)]) (by kernel_rfl) (by kernel_rfl) ?_
        rw [show (IntKind.wrap .i64 (((i : Nat) : Int) + 1)) = ((i + 1 : Nat) : Int) from wrap_succ (by have := hr.small; omega)]
        exact we_round (i + 1, D, c2, r2) (⟨by omega, by omega, hc1, hc2, hl, hD⟩) (by show r.n - (i + 1) < r.n - i; omega) rfl (sub_ofE [3, 6, 49, 50] rfl) (sub_of [14, 16, 44] rfl)
    · replace h9 := of_decide_eq_false h9
      refine wc_exit ?_
      refine we_then_exit ?_
      refine we_then_exit ?_
      refine we_block_exit ?_
      refine we_then ?_
      refine wc_seq ?_
      refine wc_seq ?_
      refine wc_reg [0, 1, 2] (by kernel_rfl) ?_
      refine wo_run [0] [3, 6, 63] [14, 16, 44] (l' := [(3, eL 16 0), (6, .s (.a (.ls 44 0 D.length c2))), (63, .s (.a (.ls 44 0 D.length c2)))]) (H' := [(14, ⟨[.vals (rowV gB r.L ++ rest)], 47⟩), (16, ⟨(cRun 14 r.n cap r.s0 r.s1 r.s2), 51⟩), (44, ⟨[.vals (rowV gD D ++ r2)], 3⟩)]) (by kernel_rfl) ?_
      refine wo_op rfl rfl (ot_rd rfl (rd_len rfl rfl rfl rfl (fun _ => by kernel_rfl))) ?_
      refine wo_run [2] [3, 6, 64, 65] [14, 16, 44] (l' := [(3, eL 16 0), (6, .s (.a (.ls 44 0 D.length c2))), (64, eI .i64 ((D.length : Nat) : Int)), (65, eI .i64 0)]) (H' := [(14, ⟨[.vals (rowV gB r.L ++ rest)], 47⟩), (16, ⟨(cRun 14 r.n cap r.s0 r.s1 r.s2), 51⟩), (44, ⟨[.vals (rowV gD D ++ r2)], 3⟩)]) (by kernel_rfl) ?_
      refine wo_nil ?_
      refine we_then ?_
      refine wc_block ?_
      refine wc_rest [3, 6, 64, 65] [14, 16, 44] (l' := [(3, eL 16 0), (6, .s (.a (.ls 44 0 D.length c2))), (64, eI .i64 ((D.length : Nat) : Int)), (65, eI .i64 0)]) (H' := [(14, ⟨[.vals (rowV gB r.L ++ rest)], 47⟩), (16, ⟨(cRun 14 r.n cap r.s0 r.s1 r.s2), 51⟩), (44, ⟨[.vals (rowV gD D ++ r2)], 3⟩)]) (by kernel_rfl) ?_
      refine wc_loop (τ := Nat) (fun p => p ≤ D.length) (fun p => D.length - p) (fun _ => _) (fun p => [(3, eL 16 0), (6, .s (.a (.ls 44 0 D.length c2))), (64, eI .i64 ((D.length : Nat) : Int)), (65, eI .i64 ((p : Nat) : Int))]) (fun p => [(14, ⟨[.vals (rowV gB r.L ++ rest)], 47⟩), (16, ⟨(cRun 14 r.n cap r.s0 r.s1 r.s2), 51⟩), (44, ⟨[.vals (rowV gD D ++ r2)], 3⟩)]) 0 (Nat.zero_le _) rfl rfl rfl ?_
      rintro p hj
      refine wc_seq ?_
      refine wc_reg [0] (by kernel_rfl) ?_
      refine wo_run [0] [3, 6, 64, 65, 66] [14, 16, 44] (l' := [(3, eL 16 0), (6, .s (.a (.ls 44 0 D.length c2))), (64, eI .i64 ((D.length : Nat) : Int)), (65, eI .i64 ((p : Nat) : Int)), (66, eB (decide (((p : Nat) : Int) < ((D.length : Nat) : Int))))]) (H' := [(14, ⟨[.vals (rowV gB r.L ++ rest)], 47⟩), (16, ⟨(cRun 14 r.n cap r.s0 r.s1 r.s2), 51⟩), (44, ⟨[.vals (rowV gD D ++ r2)], 3⟩)]) (by kernel_rfl) ?_
      refine wo_nil ?_
      refine we_then ?_
      refine wc_seq ?_
      refine wc_cond rfl (fun h11 => ?_) (fun h11 => ?_)
      · replace h11 := of_decide_eq_true h11
        refine wc_skip ?_
        refine we_then ?_
        refine wc_seq ?_
        refine wc_block ?_
        refine wc_seq ?_
        refine wc_reg [0, 1] (by kernel_rfl) ?_
        refine wo_run [0, 1] [3, 6, 9, 64, 65] [14, 16, 44] (l' := [(3, eL 16 0), (6, .s (.a (.ls 44 0 D.length c2))), (9, eI .i64 ((p : Nat) : Int)), (64, eI .i64 ((D.length : Nat) : Int)), (65, eI .i64 ((p : Nat) : Int))]) (H' := [(14, ⟨[.vals (rowV gB r.L ++ rest)], 47⟩), (16, ⟨(cRun 14 r.n cap r.s0 r.s1 r.s2), 51⟩), (44, ⟨[.vals (rowV gD D ++ r2)], 3⟩)]) (by kernel_rfl) ?_
        refine wo_nil ?_
        refine we_then ?_
        refine wc_seq ?_
        refine wc_reg [0] (by kernel_rfl) ?_
        refine wo_run [0] [3, 6, 9, 10, 64, 65] [14, 16, 44] (l' := [(3, eL 16 0), (6, .s (.a (.ls 44 0 D.length c2))), (9, eI .i64 ((p : Nat) : Int)), (10, eI .i64 0), (64, eI .i64 ((D.length : Nat) : Int)), (65, eI .i64 ((p : Nat) : Int))]) (H' := [(14, ⟨[.vals (rowV gB r.L ++ rest)], 47⟩), (16, ⟨(cRun 14 r.n cap r.s0 r.s1 r.s2), 51⟩), (44, ⟨[.vals (rowV gD D ++ r2)], 3⟩)]) (by kernel_rfl) ?_
        refine wo_nil ?_
        refine we_then ?_
        refine wc_block ?_
        refine wc_rest [3, 6, 9, 10, 64, 65] [14, 16, 44] (l' := [(3, eL 16 0), (6, .s (.a (.ls 44 0 D.length c2))), (9, eI .i64 ((p : Nat) : Int)), (10, eI .i64 0), (64, eI .i64 ((D.length : Nat) : Int)), (65, eI .i64 ((p : Nat) : Int))]) (H' := [(14, ⟨[.vals (rowV gB r.L ++ rest)], 47⟩), (16, ⟨(cRun 14 r.n cap r.s0 r.s1 r.s2), 51⟩), (44, ⟨[.vals (rowV gD D ++ r2)], 3⟩)]) (by kernel_rfl) ?_
        refine wc_loop (τ := Nat) (fun q => q ≤ p) (fun q => p - q) (fun _ => _) (fun q => [(3, eL 16 0), (6, .s (.a (.ls 44 0 D.length c2))), (9, eI .i64 ((p : Nat) : Int)), (10, eI .i64 ((q : Nat) : Int)), (64, eI .i64 ((D.length : Nat) : Int)), (65, eI .i64 ((p : Nat) : Int))]) (fun q => [(14, ⟨[.vals (rowV gB r.L ++ rest)], 47⟩), (16, ⟨(cRun 14 r.n cap r.s0 r.s1 r.s2), 51⟩), (44, ⟨[.vals (rowV gD D ++ r2)], 3⟩)]) 0 (Nat.zero_le _) rfl rfl rfl ?_
        rintro q hj
        have hqp := hj
        refine wc_seq ?_
        refine wc_seq ?_
        refine wc_reg [0, 1, 2] (by kernel_rfl) ?_
        refine wo_run [0, 1, 2] [3, 6, 9, 10, 64, 65, 70] [14, 16, 44] (l' := [(3, eL 16 0), (6, .s (.a (.ls 44 0 D.length c2))), (9, eI .i64 ((p : Nat) : Int)), (10, eI .i64 ((q : Nat) : Int)), (64, eI .i64 ((D.length : Nat) : Int)), (65, eI .i64 ((p : Nat) : Int)), (70, eB (decide (((q : Nat) : Int) < ((p : Nat) : Int))))]) (H' := [(14, ⟨[.vals (rowV gB r.L ++ rest)], 47⟩), (16, ⟨(cRun 14 r.n cap r.s0 r.s1 r.s2), 51⟩), (44, ⟨[.vals (rowV gD D ++ r2)], 3⟩)]) (by kernel_rfl) ?_
        refine wo_nil ?_
        refine we_then ?_
        refine wc_cond rfl (fun h12 => ?_) (fun h12 => ?_)
        · replace h12 := of_decide_eq_true h12
          refine wc_skip ?_
          refine we_then ?_
          refine wc_seq ?_
          refine wc_block ?_
          refine wc_seq ?_
          refine wc_rest [3, 6, 9, 10, 64, 65] [14, 16, 44] (l' := [(3, eL 16 0), (6, .s (.a (.ls 44 0 D.length c2))), (9, eI .i64 ((p : Nat) : Int)), (10, eI .i64 ((q : Nat) : Int)), (64, eI .i64 ((D.length : Nat) : Int)), (65, eI .i64 ((p : Nat) : Int))]) (H' := [(14, ⟨[.vals (rowV gB r.L ++ rest)], 47⟩), (16, ⟨(cRun 14 r.n cap r.s0 r.s1 r.s2), 51⟩), (44, ⟨[.vals (rowV gD D ++ r2)], 3⟩)]) (by kernel_rfl) ?_
          refine wc_draw (n := 24) [(14, ⟨[.vals (rowV gB r.L ++ rest)], 47⟩), (16, ⟨(cRun 14 r.n cap r.s0 r.s1 r.s2), 51⟩), (44, ⟨[.vals (rowV gD D ++ r2)], 3⟩)] (by kernel_rfl) rfl (sub_of [14, 16, 44] (by kernel_rfl)) (fun ρ0 => ?_)
          refine wa_takes (fuel := 19) [0, 1, 2, 5, 6] [3, 6, 9, 10, 64, 65, 73, 74, 75, 78, 79] (listed' := #[true, true, true, false, false, true, true, false, false, false, false, false, false, false, false, false, false, false, false, false, false, false, false, false]) (l' := [(3, eL 16 0), (6, .s (.a (.ls 44 0 D.length c2))), (9, eI .i64 ((p : Nat) : Int)), (10, eI .i64 ((q : Nat) : Int)), (64, eI .i64 ((D.length : Nat) : Int)), (65, eI .i64 ((p : Nat) : Int)), (73, eL 16 0), (74, .s (.a (.ls 44 0 D.length c2))), (75, eI .i64 ((p : Nat) : Int)), (78, .s (.a (.ls 44 0 D.length c2))), (79, eI .i64 ((q : Nat) : Int))]) (pk_then (pk_block (pk_then (pk_then (pk_block (pk_block (pk_then (pk_then (pk_block (pk_then pk_body)))))))))) rfl (by kernel_rfl) ?_
          refine wa_take 3 (pk_then (pk_block (pk_then (pk_then (pk_block (pk_block (pk_then (pk_then (pk_block (pk_then pk_body)))))))))) rfl (by kernel_rfl) rfl rfl (rd_indexL (e := 3) 1 p ((p : Nat) : Int) rfl (by kernel_rfl) (by kernel_rfl) rfl rfl (rfl) (by omega)) ?_
          refine wa_take 4 (pk_then (pk_block (pk_then (pk_then (pk_block (pk_block (pk_then (pk_then (pk_block (pk_then pk_body)))))))))) rfl (by kernel_rfl) rfl rfl (rd_cellS (b := ⟨[.vals (rowV gD D ++ r2)], 3⟩) (.v (.int .i64 ((D.getD p 0 : Nat) : Int))) rfl rfl rfl (by kernel_rfl) (fun ρ => d_at (by omega) ρ)) ?_
          refine wa_take 7 (pk_then (pk_block (pk_then (pk_then (pk_block (pk_block (pk_then (pk_then (pk_block (pk_then pk_body)))))))))) rfl (by kernel_rfl) rfl rfl (rd_indexL (e := 3) 1 q ((q : Nat) : Int) rfl (by kernel_rfl) (by kernel_rfl) rfl rfl (rfl) (by omega)) ?_
          refine wa_take 8 (pk_then (pk_block (pk_then (pk_then (pk_block (pk_block (pk_then (pk_then (pk_block (pk_then pk_body)))))))))) rfl (by kernel_rfl) rfl rfl (rd_cellS (b := ⟨[.vals (rowV gD D ++ r2)], 3⟩) (.v (.int .i64 ((D.getD q 0 : Nat) : Int))) rfl rfl rfl (by kernel_rfl) (fun ρ => d_at (by omega) ρ)) ?_
          refine wa_all [9] (by kernel_rfl) rfl (all1 ?_)
          refine wi_op rfl rfl (ot_call (vs := [sL 16 0, sI .i64 ((D.getD p 0 : Nat) : Int), sI .i64 ((D.getD q 0 : Nat) : Int)]) rfl rfl rfl Try.func26 (by kernel_rfl) (by kernel_rfl) (by kernel_rfl) (eB (ext r.L (D.getD p 0) (D.getD p 0) (D.getD q 0))) (trivial) (fun ρ w h => extends_any r cap rest hr (D.getD p 0) ((hD _ (getD_mem (i := p) (by omega))).lt hr hG) (D.getD q 0) w (fun k => ρ (Sx.look [(100000, 16), (100001, 14)] k)) (h.heap (π := [(100000, 16), (100001, 14)]) (Hc := [(100000, ⟨(cRun 100001 r.n cap r.s0 r.s1 r.s2), 51⟩), (100001, ⟨[.vals (rowV gB r.L ++ rest)], 47⟩)]) rfl ⟨⟨by kernel_rfl, by kernel_rfl, by kernel_rfl⟩, ⟨by kernel_rfl, by kernel_rfl, by kernel_rfl⟩, trivial⟩))) (sub_of [14, 16, 44] (by kernel_rfl)) ?_
          refine wa_takes (fuel := 12) [10, 11] [3, 6, 9, 10, 64, 65, 84] (listed' := #[true, true, true, true, true, true, true, true, true, true, true, true, false, false, false, false, false, false, false, false, false, false, false, false]) (l' := [(3, eL 16 0), (6, .s (.a (.ls 44 0 D.length c2))), (9, eI .i64 ((p : Nat) : Int)), (10, eI .i64 ((q : Nat) : Int)), (64, eI .i64 ((D.length : Nat) : Int)), (65, eI .i64 ((p : Nat) : Int)), (84, eB (!(ext r.L (D.getD p 0) (D.getD p 0) (D.getD q 0))))]) (pk_then (pk_block (pk_then (pk_then (pk_block (pk_block (pk_then (pk_then (pk_block (pk_then pk_body)))))))))) rfl (by kernel_rfl) ?_
          refine wa_bool 84 rfl (fun h13 => ?_) (fun h13 => ?_)
          · replace h13 := not_t h13
            refine wa_takes (fuel := 7) [12, 13, 14, 17, 18] [3, 6, 9, 10, 64, 65, 84, 85, 86, 87, 90, 91] (listed' := #[true, true, true, true, true, true, true, true, true, true, true, true, true, true, true, false, false, true, true, false, false, false, false, false]) (l' := [(3, eL 16 0), (6, .s (.a (.ls 44 0 D.length c2))), (9, eI .i64 ((p : Nat) : Int)), (10, eI .i64 ((q : Nat) : Int)), (64, eI .i64 ((D.length : Nat) : Int)), (65, eI .i64 ((p : Nat) : Int)), (84, eB true), (85, eL 16 0), (86, .s (.a (.ls 44 0 D.length c2))), (87, eI .i64 ((q : Nat) : Int)), (90, .s (.a (.ls 44 0 D.length c2))), (91, eI .i64 ((p : Nat) : Int))]) (pk_then (pk_block (pk_then (pk_then (pk_block (pk_block (pk_then (pk_then (pk_block (pk_then pk_body)))))))))) rfl (by kernel_rfl) ?_
            refine wa_take 15 (pk_then (pk_block (pk_then (pk_then (pk_block (pk_block (pk_then (pk_then (pk_block (pk_then pk_body)))))))))) rfl (by kernel_rfl) rfl rfl (rd_indexL (e := 3) 1 q ((q : Nat) : Int) rfl (by kernel_rfl) (by kernel_rfl) rfl rfl (rfl) (by omega)) ?_
            refine wa_take 16 (pk_then (pk_block (pk_then (pk_then (pk_block (pk_block (pk_then (pk_then (pk_block (pk_then pk_body)))))))))) rfl (by kernel_rfl) rfl rfl (rd_cellS (b := ⟨[.vals (rowV gD D ++ r2)], 3⟩) (.v (.int .i64 ((D.getD q 0 : Nat) : Int))) rfl rfl rfl (by kernel_rfl) (fun ρ => d_at (by omega) ρ)) ?_
            refine wa_take 19 (pk_then (pk_block (pk_then (pk_then (pk_block (pk_block (pk_then (pk_then (pk_block (pk_then pk_body)))))))))) rfl (by kernel_rfl) rfl rfl (rd_indexL (e := 3) 1 p ((p : Nat) : Int) rfl (by kernel_rfl) (by kernel_rfl) rfl rfl (rfl) (by omega)) ?_
            refine wa_take 20 (pk_then (pk_block (pk_then (pk_then (pk_block (pk_block (pk_then (pk_then (pk_block (pk_then pk_body)))))))))) rfl (by kernel_rfl) rfl rfl (rd_cellS (b := ⟨[.vals (rowV gD D ++ r2)], 3⟩) (.v (.int .i64 ((D.getD p 0 : Nat) : Int))) rfl rfl rfl (by kernel_rfl) (fun ρ => d_at (by omega) ρ)) ?_
            refine wa_all [21] (by kernel_rfl) rfl (all1 ?_)
            refine wi_op rfl rfl (ot_call (vs := [sL 16 0, sI .i64 ((D.getD q 0 : Nat) : Int), sI .i64 ((D.getD p 0 : Nat) : Int)]) rfl rfl rfl Try.func26 (by kernel_rfl) (by kernel_rfl) (by kernel_rfl) (eB (ext r.L (D.getD q 0) (D.getD q 0) (D.getD p 0))) (trivial) (fun ρ w h => extends_any r cap rest hr (D.getD q 0) ((hD _ (getD_mem (i := q) (by omega))).lt hr hG) (D.getD p 0) w (fun k => ρ (Sx.look [(100000, 16), (100001, 14)] k)) (h.heap (π := [(100000, 16), (100001, 14)]) (Hc := [(100000, ⟨(cRun 100001 r.n cap r.s0 r.s1 r.s2), 51⟩), (100001, ⟨[.vals (rowV gB r.L ++ rest)], 47⟩)]) rfl ⟨⟨by kernel_rfl, by kernel_rfl, by kernel_rfl⟩, ⟨by kernel_rfl, by kernel_rfl, by kernel_rfl⟩, trivial⟩))) (sub_of [14, 16, 44] (by kernel_rfl)) ?_
            refine wa_takes (fuel := 0) [22, 23] [3, 6, 9, 10, 64, 65, 96] (listed' := #[true, true, true, true, true, true, true, true, true, true, true, true, true, true, true, true, true, true, true, true, true, true, true, true]) (l' := [(3, eL 16 0), (6, .s (.a (.ls 44 0 D.length c2))), (9, eI .i64 ((p : Nat) : Int)), (10, eI .i64 ((q : Nat) : Int)), (64, eI .i64 ((D.length : Nat) : Int)), (65, eI .i64 ((p : Nat) : Int)), (96, eB (!(ext r.L (D.getD q 0) (D.getD q 0) (D.getD p 0))))]) (pk_then (pk_block (pk_then (pk_then (pk_block (pk_block (pk_then (pk_then (pk_block (pk_then pk_body)))))))))) rfl (by kernel_rfl) ?_
            refine wa_done (by kernel_rfl) ?_
            refine we_rest [3, 6, 9, 10, 64, 65, 96] [14, 16, 44] (l' := [(3, eL 16 0), (6, .s (.a (.ls 44 0 D.length c2))), (9, eI .i64 ((p : Nat) : Int)), (10, eI .i64 ((q : Nat) : Int)), (64, eI .i64 ((D.length : Nat) : Int)), (65, eI .i64 ((p : Nat) : Int)), (96, eB (!(ext r.L (D.getD q 0) (D.getD q 0) (D.getD p 0))))]) (H' := [(14, ⟨[.vals (rowV gB r.L ++ rest)], 47⟩), (16, ⟨(cRun 14 r.n cap r.s0 r.s1 r.s2), 51⟩), (44, ⟨[.vals (rowV gD D ++ r2)], 3⟩)]) (by kernel_rfl) (by kernel_rfl) ?_
            refine we_then ?_
            refine wc_cond rfl (fun h14 => ?_) (fun h14 => ?_)
            · replace h14 := not_t h14
              exact absurd (heads_agree hr hG (hD _ (getD_mem (i := p) (by omega))) (hD _ (getD_mem (i := q) (by omega)))) (by rw [h13, h14]; decide)
            · replace h14 := not_f h14
              refine wc_skip ?_
              refine we_block ?_
              refine we_then ?_
              refine wc_reg [0, 1, 2] (by kernel_rfl) ?_
              refine wo_run [0, 1, 2] [3, 6, 9, 10, 64, 65] [14, 16, 44] (l' := [(3, eL 16 0), (6, .s (.a (.ls 44 0 D.length c2))), (9, eI .i64 ((p : Nat) : Int)), (10, eI .i64 (IntKind.wrap .i64 (((q : Nat) : Int) + 1))), (64, eI .i64 ((D.length : Nat) : Int)), (65, eI .i64 ((p : Nat) : Int))]) (H' := [(14, ⟨[.vals (rowV gB r.L ++ rest)], 47⟩), (16, ⟨(cRun 14 r.n cap r.s0 r.s1 r.s2), 51⟩), (44, ⟨[.vals (rowV gD D ++ r2)], 3⟩)]) (by kernel_rfl) ?_
              refine wo_nil ?_
              refine we_rest [3, 6, 9, 10, 64, 65] [14, 16, 44] (l' := [(3, eL 16 0), (6, .s (.a (.ls 44 0 D.length c2))), (9, eI .i64 ((p : Nat) : Int)), (10, eI .i64 (IntKind.wrap .i64 (((q : Nat) : Int) + 1))), (64, eI .i64 ((D.length : Nat) : Int)), (65, eI .i64 ((p : Nat) : Int))]) (H' := [(14, ⟨[.vals (rowV gB r.L ++ rest)], 47⟩), (16, ⟨(cRun 14 r.n cap r.s0 r.s1 r.s2), 51⟩), (44, ⟨[.vals (rowV gD D ++ r2)], 3⟩)]) (by kernel_rfl) (by kernel_rfl) ?_
              rw [show (IntKind.wrap .i64 (((q : Nat) : Int) + 1)) = ((q + 1 : Nat) : Int) from wrap_succ (by have := hr.small; omega)]
              exact we_round (q + 1) (by show q + 1 ≤ p; omega) (by show p - (q + 1) < p - q; omega) rfl (sub_ofE [3, 6, 9, 10, 64, 65] rfl) (sub_of [14, 16, 44] rfl)
          · replace h13 := not_f h13
            refine wa_takes (fuel := 0) [12, 13, 14, 15, 16, 17, 18, 19, 20, 21, 22, 23] [3, 6, 9, 10, 64, 65, 96] (listed' := #[true, true, true, true, true, true, true, true, true, true, true, true, true, true, true, true, true, true, true, true, true, true, true, true]) (l' := [(3, eL 16 0), (6, .s (.a (.ls 44 0 D.length c2))), (9, eI .i64 ((p : Nat) : Int)), (10, eI .i64 ((q : Nat) : Int)), (64, eI .i64 ((D.length : Nat) : Int)), (65, eI .i64 ((p : Nat) : Int)), (96, eB false)]) (pk_then (pk_block (pk_then (pk_then (pk_block (pk_block (pk_then (pk_then (pk_block (pk_then pk_body)))))))))) rfl (by kernel_rfl) ?_
            refine wa_done (by kernel_rfl) ?_
            refine we_rest [3, 6, 9, 10, 64, 65, 96] [14, 16, 44] (l' := [(3, eL 16 0), (6, .s (.a (.ls 44 0 D.length c2))), (9, eI .i64 ((p : Nat) : Int)), (10, eI .i64 ((q : Nat) : Int)), (64, eI .i64 ((D.length : Nat) : Int)), (65, eI .i64 ((p : Nat) : Int)), (96, eB false)]) (H' := [(14, ⟨[.vals (rowV gB r.L ++ rest)], 47⟩), (16, ⟨(cRun 14 r.n cap r.s0 r.s1 r.s2), 51⟩), (44, ⟨[.vals (rowV gD D ++ r2)], 3⟩)]) (by kernel_rfl) (by kernel_rfl) ?_
            refine we_then ?_
            refine wc_false rfl ?_
            refine wc_skip ?_
            refine we_block ?_
            refine we_then ?_
            refine wc_reg [0, 1, 2] (by kernel_rfl) ?_
            refine wo_run [0, 1, 2] [3, 6, 9, 10, 64, 65] [14, 16, 44] (l' := [(3, eL 16 0), (6, .s (.a (.ls 44 0 D.length c2))), (9, eI .i64 ((p : Nat) : Int)), (10, eI .i64 (IntKind.wrap .i64 (((q : Nat) : Int) + 1))), (64, eI .i64 ((D.length : Nat) : Int)), (65, eI .i64 ((p : Nat) : Int))]) (H' := [(14, ⟨[.vals (rowV gB r.L ++ rest)], 47⟩), (16, ⟨(cRun 14 r.n cap r.s0 r.s1 r.s2), 51⟩), (44, ⟨[.vals (rowV gD D ++ r2)], 3⟩)]) (by kernel_rfl) ?_
            refine wo_nil ?_
            refine we_rest [3, 6, 9, 10, 64, 65] [14, 16, 44] (l' := [(3, eL 16 0), (6, .s (.a (.ls 44 0 D.length c2))), (9, eI .i64 ((p : Nat) : Int)), (10, eI .i64 (IntKind.wrap .i64 (((q : Nat) : Int) + 1))), (64, eI .i64 ((D.length : Nat) : Int)), (65, eI .i64 ((p : Nat) : Int))]) (H' := [(14, ⟨[.vals (rowV gB r.L ++ rest)], 47⟩), (16, ⟨(cRun 14 r.n cap r.s0 r.s1 r.s2), 51⟩), (44, ⟨[.vals (rowV gD D ++ r2)], 3⟩)]) (by kernel_rfl) (by kernel_rfl) ?_
            rw [show (IntKind.wrap .i64 (((q : Nat) : Int) + 1)) = ((q + 1 : Nat) : Int) from wrap_succ (by have := hr.small; omega)]
            exact we_round (q + 1) (by show q + 1 ≤ p; omega) (by show p - (q + 1) < p - q; omega) rfl (sub_ofE [3, 6, 9, 10, 64, 65] rfl) (sub_of [14, 16, 44] rfl)
        · replace h12 := of_decide_eq_false h12
          refine wc_exit ?_
          refine we_then_exit ?_
          refine we_then_exit ?_
          refine we_block_exit ?_
          refine we_block ?_
          refine we_then ?_
          refine wc_reg [0, 1] (by kernel_rfl) ?_
          refine wo_run [0, 1] [3, 6, 64, 65] [14, 16, 44] (l' := [(3, eL 16 0), (6, .s (.a (.ls 44 0 D.length c2))), (64, eI .i64 ((D.length : Nat) : Int)), (65, eI .i64 (IntKind.wrap .i64 (((p : Nat) : Int) + 1)))]) (H' := [(14, ⟨[.vals (rowV gB r.L ++ rest)], 47⟩), (16, ⟨(cRun 14 r.n cap r.s0 r.s1 r.s2), 51⟩), (44, ⟨[.vals (rowV gD D ++ r2)], 3⟩)]) (by kernel_rfl) ?_
          refine wo_nil ?_
          refine we_rest [3, 6, 64, 65] [14, 16, 44] (l' := [(3, eL 16 0), (6, .s (.a (.ls 44 0 D.length c2))), (64, eI .i64 ((D.length : Nat) : Int)), (65, eI .i64 (IntKind.wrap .i64 (((p : Nat) : Int) + 1)))]) (H' := [(14, ⟨[.vals (rowV gB r.L ++ rest)], 47⟩), (16, ⟨(cRun 14 r.n cap r.s0 r.s1 r.s2), 51⟩), (44, ⟨[.vals (rowV gD D ++ r2)], 3⟩)]) (by kernel_rfl) (by kernel_rfl) ?_
          rw [show (IntKind.wrap .i64 (((p : Nat) : Int) + 1)) = ((p + 1 : Nat) : Int) from wrap_succ (by have := hr.small; omega)]
          exact we_round (p + 1) (by show p + 1 ≤ D.length; omega) (by show D.length - (p + 1) < D.length - p; omega) rfl (sub_ofE [3, 6, 64, 65] rfl) (sub_of [14, 16, 44] rfl)
      · replace h11 := of_decide_eq_false h11
        refine wc_exit ?_
        refine we_then_exit ?_
        refine we_then_exit ?_
        refine we_block_exit ?_
        refine we_then ?_
        refine wc_seq ?_
        refine wc_reg [0] (by kernel_rfl) ?_
        refine wo_run [0] [2] [] (l' := [(2, eB true)]) (H' := []) (by kernel_rfl) ?_
        refine wo_nil ?_
        refine we_then ?_
        refine wc_ret ?_
        refine we_ret (.inl rfl) (v := eB true) (by kernel_rfl) ?_
        intro ρ' w' hf'
        refine ⟨?_, hf'.below noS⟩
        rfl

end Go.Proofs.Ytckhcmdjgkoocaa
