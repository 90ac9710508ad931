/- The rules never stop who works together: the walk. -/
import Derived.Test.YtckhcmdjgkoocaaRulesW
namespace Go.Proofs.Ytckhcmdjgkoocaa
open Go.RowKit Go.Sx
set_option linter.unusedVariables false
set_option linter.unusedSimpArgs false
abbrev z51 : List Chunk := [cV (.slice none 0 0), cI .i64 0, cI .i64 0, cI .i64 0, .ints .u8 32 (List.replicate 32 0), cI .i64 0, cI .i64 0, cI .i64 0, .ints .u8 32 (List.replicate 32 0), cI .i64 0, cI .i64 0, cI .i64 0, .ints .u8 32 (List.replicate 32 0)]
theorem z51_zero' : (Try.prog.info? 51).bind (·.zero) = some (SV.conc (fun _ => 0) (.agg z51)) := by kernel_rfl
theorem z51_zero : (Try.prog.info? 51).bind (·.zero) = some (SV.conc (fun _ => 0) (.agg z51)) ∨ ∃ v, (Try.prog.info? 51).bind (·.zero) = some v ∧ z51 = [.one (.v v)] ∧ v.oneCell' = true := .inl z51_zero'
theorem z51_ok : okCs z51 := okc_one (okc_one (okc_one (okc_one (okc_ints (List.length_replicate) (okc_one (okc_one (okc_one (okc_ints (List.length_replicate) (okc_one (okc_one (okc_one (okc_ints (List.length_replicate) (okc_nil)))))))))))))

set_option maxHeartbeats 4000000 in
theorem rulesGo_any (a0 : Option Addr) (len0 cap0 b0 off0 : Nat) (x : Nat → Mv) (hlc0 : len0 ≤ cap0) (hcap0 : cap0 ≤ maxLen) (w : World) (hb0 : 0 < len0 → a0 = some ⟨b0, off0, none⟩ ∧ b0 < w.heap.size) (hc0 : ∀ i, i < len0 → CellsAt w b0 (off0 + i * 4) (cM (x i))) (ρ : Nat → Nat) :
    Calls Try.prog 8 ([sV (.slice a0 len0 cap0)].map (SV.conc ρ)).toArray w fun r w' => r = .returned (EV.conc ρ (eB true)) ∧ Below w.heap.size w w' := by
  refine calls_enter (vs := [sV (.slice a0 len0 cap0)]) (N := 140) [] ρ Try.func8 rfl rfl (Nat.le_of_ble_eq_true rfl) (okv_a (okv_nil)) noH noH2 ?_ _ rfl
  refine wc_seq ?_
  refine wc_reg [0] (by kernel_rfl) ?_
  refine wo_run [0] [0] [] (l' := [(0, eV (.slice a0 len0 cap0))]) (H' := []) (by kernel_rfl) ?_
  refine wo_nil ?_
  refine we_then ?_
  refine wc_seq ?_
  refine wc_seq ?_
  refine wc_reg [0, 1] (by kernel_rfl) ?_
  refine wo_op rfl rfl (ot_call (vs := []) rfl rfl rfl Try.func15 (by kernel_rfl) (by kernel_rfl) (by kernel_rfl) (eB true) (trivial) (fun ρ w _ => awake_any w ρ)) ?_
  refine wo_run [1] [0, 13] [] (l' := [(0, eV (.slice a0 len0 cap0)), (13, eB false)]) (H' := []) (by kernel_rfl) ?_
  refine wo_nil ?_
  refine we_then ?_
  refine wc_false rfl ?_
  refine wc_skip ?_
  refine we_then ?_
  refine wc_seq ?_
  refine wc_reg [0, 1, 2, 3, 4] (by kernel_rfl) ?_
  refine wo_op rfl rfl (ot_rd rfl (rd_build (zc := z47) [cI .i64 0, cI .i64 0, cB false, cB false, cB false, cB false] rfl z47_zero' z47_ok (fun _ => rfl) (by kernel_rfl) (by kernel_rfl))) ?_
  refine wo_op rfl rfl (ot_bslice (e := 47) (d := 15) (n := 1) (size := 6) [cI .i64 0, cI .i64 0, cB false, cB false, cB false, cB false] [cI .i64 0, cI .i64 0, cB false, cB false, cB false, cB false] rfl rfl rfl (by kernel_rfl) rfl (by kernel_rfl) (okc_one (okc_one (okc_one (okc_one (okc_one (okc_one (okc_nil))))))) (fun _ => rfl) (by kernel_rfl) (by kernel_rfl)) ?_
  refine wo_op rfl rfl (ot_rd rfl (rd_build (zc := z51) [.one (.ls 15 0 1 1), cI .i64 0, cI .i64 0, cI .i64 0, .ints .u8 32 (List.replicate 32 0), cI .i64 0, cI .i64 0, cI .i64 0, .ints .u8 32 (List.replicate 32 0), cI .i64 0, cI .i64 0, cI .i64 0, .ints .u8 32 (List.replicate 32 0)] rfl z51_zero' z51_ok (fun _ => rfl) (by kernel_rfl) (by kernel_rfl))) ?_
  refine wo_run [3, 4] [0, 3] [15, 17] (l' := [(0, eV (.slice a0 len0 cap0)), (3, eL 17 0)]) (H' := [(15, ⟨[cI .i64 0, cI .i64 0, cB false, cB false, cB false, cB false], 47⟩), (17, ⟨[.one (.ls 15 0 1 1), cI .i64 0, cI .i64 0, cI .i64 0, .ints .u8 32 (List.replicate 32 0), cI .i64 0, cI .i64 0, cI .i64 0, .ints .u8 32 (List.replicate 32 0), cI .i64 0, cI .i64 0, cI .i64 0, .ints .u8 32 (List.replicate 32 0)], 51⟩)]) (by kernel_rfl) ?_
  refine wo_nil ?_
  refine we_then ?_
  refine wc_seq ?_
  refine wc_seq ?_
  refine wc_reg [0] (by kernel_rfl) ?_
  refine wo_run [0] [0, 3, 18] [15, 17] (l' := [(0, eV (.slice a0 len0 cap0)), (3, eL 17 0), (18, eI .i64 0)]) (H' := [(15, ⟨[cI .i64 0, cI .i64 0, cB false, cB false, cB false, cB false], 47⟩), (17, ⟨[.one (.ls 15 0 1 1), cI .i64 0, cI .i64 0, cI .i64 0, .ints .u8 32 (List.replicate 32 0), cI .i64 0, cI .i64 0, cI .i64 0, .ints .u8 32 (List.replicate 32 0), cI .i64 0, cI .i64 0, cI .i64 0, .ints .u8 32 (List.replicate 32 0)], 51⟩)]) (by kernel_rfl) ?_
  refine wo_nil ?_
  refine we_then ?_
  refine wc_block ?_
  refine wc_loopn 4 ?_
  refine wr_go ?_
  refine wc_seq ?_
  refine wc_reg [0] (by kernel_rfl) ?_
  refine wo_run [0] [0, 3, 18, 19] [15, 17] (l' := [(0, eV (.slice a0 len0 cap0)), (3, eL 17 0), (18, eI .i64 0), (19, eB true)]) (H' := [(15, ⟨[cI .i64 0, cI .i64 0, cB false, cB false, cB false, cB false], 47⟩), (17, ⟨[.one (.ls 15 0 1 1), cI .i64 0, cI .i64 0, cI .i64 0, .ints .u8 32 (List.replicate 32 0), cI .i64 0, cI .i64 0, cI .i64 0, .ints .u8 32 (List.replicate 32 0), cI .i64 0, cI .i64 0, cI .i64 0, .ints .u8 32 (List.replicate 32 0)], 51⟩)]) (by kernel_rfl) ?_
  refine wo_nil ?_
  refine we_then ?_
  refine wc_seq ?_
  refine wc_true rfl ?_
  refine wc_skip ?_
  refine we_then ?_
  refine wc_seq ?_
  refine wc_block ?_
  refine wc_seq ?_
  refine wc_reg [0, 1] (by kernel_rfl) ?_
  refine wo_run [0, 1] [0, 3, 4, 18] [15, 17] (l' := [(0, eV (.slice a0 len0 cap0)), (3, eL 17 0), (4, eI .i64 0), (18, eI .i64 0)]) (H' := [(15, ⟨[cI .i64 0, cI .i64 0, cB false, cB false, cB false, cB false], 47⟩), (17, ⟨[.one (.ls 15 0 1 1), cI .i64 0, cI .i64 0, cI .i64 0, .ints .u8 32 (List.replicate 32 0), cI .i64 0, cI .i64 0, cI .i64 0, .ints .u8 32 (List.replicate 32 0), cI .i64 0, cI .i64 0, cI .i64 0, .ints .u8 32 (List.replicate 32 0)], 51⟩)]) (by kernel_rfl) ?_
  refine wo_nil ?_
  refine we_then ?_
  refine wc_draw (n := 8) [(15, ⟨[cI .i64 0, cI .i64 0, cB false, cB false, cB false, cB false], 47⟩)] (by kernel_rfl) rfl (sub_of [15] (by kernel_rfl)) (fun ρ0 => ?_)
  refine wa_takes (fuel := 4) [0, 1, 4, 5] [0, 3, 18, 22, 26] (listed' := #[true, true, false, false, true, true, false, false]) (l' := [(0, eV (.slice a0 len0 cap0)), (3, eL 17 0), (18, eI .i64 0), (22, eI .i64 0), (26, eL 17 1)]) (pk_block (pk_then (pk_then (pk_block (pk_then pk_body))))) rfl (by kernel_rfl) ?_
  refine wa_all [2] (by kernel_rfl) rfl (all1 ?_)
  refine wi_op rfl rfl (ot_call (vs := [sI .i64 0]) rfl rfl rfl Try.func23 (by kernel_rfl) (by kernel_rfl) (by kernel_rfl) (eA [.ints .u8 32 (idD 0)]) (okc_ints (idD_len _) (okc_nil)) (fun ρ w _ => id_any 0 w ρ)) (sub_of [15] (by kernel_rfl)) ?_
  refine wa_all [3] (by kernel_rfl) rfl (all1 ?_)
  refine wi_op rfl rfl (ot_call (vs := [sI .i64 0, .agg [.ints .u8 32 (idD 0)]]) rfl rfl rfl Try.func20 (by kernel_rfl) (by kernel_rfl) (by kernel_rfl) (eA [cI .i64 0, cI .i64 0, cI .i64 0, .ints .u8 32 (idD 0)]) (okc_one (okc_one (okc_one (okc_ints (idD_len _) (okc_nil))))) (fun ρ w _ => new_any 0 (idD 0) (idD_len _) w ρ)) (sub_of [15] (by kernel_rfl)) ?_
  refine wa_takes (fuel := 1) [6] [0, 3, 18, 24, 27] (listed' := #[true, true, true, true, true, true, true, false]) (l' := [(0, eV (.slice a0 len0 cap0)), (3, eL 17 0), (18, eI .i64 0), (24, eA [cI .i64 0, cI .i64 0, cI .i64 0, .ints .u8 32 (idD 0)]), (27, eL 17 1)]) (pk_block (pk_then (pk_then (pk_block (pk_then pk_body))))) rfl (by kernel_rfl) ?_
  refine wa_all [7] (by kernel_rfl) rfl (all1 ?_)
  refine wi_op rfl rfl (ot_eff (l' := [(0, eV (.slice a0 len0 cap0)), (3, eL 17 0), (18, eI .i64 0), (24, eA [cI .i64 0, cI .i64 0, cI .i64 0, .ints .u8 32 (idD 0)]), (27, eL 17 1)]) (H' := [(15, ⟨[cI .i64 0, cI .i64 0, cB false, cB false, cB false, cB false], 47⟩), (17, ⟨[.one (.ls 15 0 1 1), cI .i64 0, cI .i64 0, cI .i64 0, .ints .u8 32 (idD 0), cI .i64 0, cI .i64 0, cI .i64 0, .ints .u8 32 (List.replicate 32 0), cI .i64 0, cI .i64 0, cI .i64 0, .ints .u8 32 (List.replicate 32 0)], 51⟩)]) (by kernel_rfl)) (sub_of [15] (by kernel_rfl)) ?_
  refine wa_done (by kernel_rfl) ?_
  refine we_rest [0, 3, 18] [15, 17] (l' := [(0, eV (.slice a0 len0 cap0)), (3, eL 17 0), (18, eI .i64 0)]) (H' := [(15, ⟨[cI .i64 0, cI .i64 0, cB false, cB false, cB false, cB false], 47⟩), (17, ⟨[.one (.ls 15 0 1 1), cI .i64 0, cI .i64 0, cI .i64 0, .ints .u8 32 (idD 0), cI .i64 0, cI .i64 0, cI .i64 0, .ints .u8 32 (List.replicate 32 0), cI .i64 0, cI .i64 0, cI .i64 0, .ints .u8 32 (List.replicate 32 0)], 51⟩)]) (by kernel_rfl) (by kernel_rfl) ?_
  refine we_block ?_
  refine we_then ?_
  refine wc_reg [0, 1] (by kernel_rfl) ?_
  refine wo_run [0, 1] [0, 3, 18] [15, 17] (l' := [(0, eV (.slice a0 len0 cap0)), (3, eL 17 0), (18, eI .i64 1)]) (H' := [(15, ⟨[cI .i64 0, cI .i64 0, cB false, cB false, cB false, cB false], 47⟩), (17, ⟨[.one (.ls 15 0 1 1), cI .i64 0, cI .i64 0, cI .i64 0, .ints .u8 32 (idD 0), cI .i64 0, cI .i64 0, cI .i64 0, .ints .u8 32 (List.replicate 32 0), cI .i64 0, cI .i64 0, cI .i64 0, .ints .u8 32 (List.replicate 32 0)], 51⟩)]) (by kernel_rfl) ?_
  refine wo_nil ?_
  refine we_unr ?_
  refine wr_go ?_
  refine wc_seq ?_
  refine wc_reg [0] (by kernel_rfl) ?_
  refine wo_run [0] [0, 3, 18, 19] [15, 17] (l' := [(0, eV (.slice a0 len0 cap0)), (3, eL 17 0), (18, eI .i64 1), (19, eB true)]) (H' := [(15, ⟨[cI .i64 0, cI .i64 0, cB false, cB false, cB false, cB false], 47⟩), (17, ⟨[.one (.ls 15 0 1 1), cI .i64 0, cI .i64 0, cI .i64 0, .ints .u8 32 (idD 0), cI .i64 0, cI .i64 0, cI .i64 0, .ints .u8 32 (List.replicate 32 0), cI .i64 0, cI .i64 0, cI .i64 0, .ints .u8 32 (List.replicate 32 0)], 51⟩)]) (by kernel_rfl) ?_
  refine wo_nil ?_
  refine we_then ?_
  refine wc_seq ?_
  refine wc_true rfl ?_
  refine wc_skip ?_
  refine we_then ?_
  refine wc_seq ?_
  refine wc_block ?_
  refine wc_seq ?_
  refine wc_reg [0, 1] (by kernel_rfl) ?_
  refine wo_run [0, 1] [0, 3, 4, 18] [15, 17] (l' := [(0, eV (.slice a0 len0 cap0)), (3, eL 17 0), (4, eI .i64 1), (18, eI .i64 1)]) (H' := [(15, ⟨[cI .i64 0, cI .i64 0, cB false, cB false, cB false, cB false], 47⟩), (17, ⟨[.one (.ls 15 0 1 1), cI .i64 0, cI .i64 0, cI .i64 0, .ints .u8 32 (idD 0), cI .i64 0, cI .i64 0, cI .i64 0, .ints .u8 32 (List.replicate 32 0), cI .i64 0, cI .i64 0, cI .i64 0, .ints .u8 32 (List.replicate 32 0)], 51⟩)]) (by kernel_rfl) ?_
  refine wo_nil ?_
  refine we_then ?_
  refine wc_draw (n := 8) [(15, ⟨[cI .i64 0, cI .i64 0, cB false, cB false, cB false, cB false], 47⟩)] (by kernel_rfl) rfl (sub_of [15] (by kernel_rfl)) (fun ρ0 => ?_)
  refine wa_takes (fuel := 4) [0, 1, 4, 5] [0, 3, 18, 22, 26] (listed' := #[true, true, false, false, true, true, false, false]) (l' := [(0, eV (.slice a0 len0 cap0)), (3, eL 17 0), (18, eI .i64 1), (22, eI .i64 1), (26, eL 17 1)]) (pk_block (pk_then (pk_then (pk_block (pk_then pk_body))))) rfl (by kernel_rfl) ?_
  refine wa_all [2] (by kernel_rfl) rfl (all1 ?_)
  refine wi_op rfl rfl (ot_call (vs := [sI .i64 0]) rfl rfl rfl Try.func23 (by kernel_rfl) (by kernel_rfl) (by kernel_rfl) (eA [.ints .u8 32 (idD 0)]) (okc_ints (idD_len _) (okc_nil)) (fun ρ w _ => id_any 0 w ρ)) (sub_of [15] (by kernel_rfl)) ?_
  refine wa_all [3] (by kernel_rfl) rfl (all1 ?_)
  refine wi_op rfl rfl (ot_call (vs := [sI .i64 0, .agg [.ints .u8 32 (idD 0)]]) rfl rfl rfl Try.func20 (by kernel_rfl) (by kernel_rfl) (by kernel_rfl) (eA [cI .i64 0, cI .i64 0, cI .i64 0, .ints .u8 32 (idD 0)]) (okc_one (okc_one (okc_one (okc_ints (idD_len _) (okc_nil))))) (fun ρ w _ => new_any 0 (idD 0) (idD_len _) w ρ)) (sub_of [15] (by kernel_rfl)) ?_
  refine wa_takes (fuel := 1) [6] [0, 3, 18, 24, 27] (listed' := #[true, true, true, true, true, true, true, false]) (l' := [(0, eV (.slice a0 len0 cap0)), (3, eL 17 0), (18, eI .i64 1), (24, eA [cI .i64 0, cI .i64 0, cI .i64 0, .ints .u8 32 (idD 0)]), (27, eL 17 36)]) (pk_block (pk_then (pk_then (pk_block (pk_then pk_body))))) rfl (by kernel_rfl) ?_
  refine wa_all [7] (by kernel_rfl) rfl (all1 ?_)
  refine wi_op rfl rfl (ot_eff (l' := [(0, eV (.slice a0 len0 cap0)), (3, eL 17 0), (18, eI .i64 1), (24, eA [cI .i64 0, cI .i64 0, cI .i64 0, .ints .u8 32 (idD 0)]), (27, eL 17 36)]) (H' := [(15, ⟨[cI .i64 0, cI .i64 0, cB false, cB false, cB false, cB false], 47⟩), (17, ⟨[.one (.ls 15 0 1 1), cI .i64 0, cI .i64 0, cI .i64 0, .ints .u8 32 (idD 0), cI .i64 0, cI .i64 0, cI .i64 0, .ints .u8 32 (idD 0), cI .i64 0, cI .i64 0, cI .i64 0, .ints .u8 32 (List.replicate 32 0)], 51⟩)]) (by kernel_rfl)) (sub_of [15] (by kernel_rfl)) ?_
  refine wa_done (by kernel_rfl) ?_
  refine we_rest [0, 3, 18] [15, 17] (l' := [(0, eV (.slice a0 len0 cap0)), (3, eL 17 0), (18, eI .i64 1)]) (H' := [(15, ⟨[cI .i64 0, cI .i64 0, cB false, cB false, cB false, cB false], 47⟩), (17, ⟨[.one (.ls 15 0 1 1), cI .i64 0, cI .i64 0, cI .i64 0, .ints .u8 32 (idD 0), cI .i64 0, cI .i64 0, cI .i64 0, .ints .u8 32 (idD 0), cI .i64 0, cI .i64 0, cI .i64 0, .ints .u8 32 (List.replicate 32 0)], 51⟩)]) (by kernel_rfl) (by kernel_rfl) ?_
  refine we_block ?_
  refine we_then ?_
  refine wc_reg [0, 1] (by kernel_rfl) ?_
  refine wo_run [0, 1] [0, 3, 18] [15, 17] (l' := [(0, eV (.slice a0 len0 cap0)), (3, eL 17 0), (18, eI .i64 2)]) (H' := [(15, ⟨[cI .i64 0, cI .i64 0, cB false, cB false, cB false, cB false], 47⟩), (17, ⟨[.one (.ls 15 0 1 1), cI .i64 0, cI .i64 0, cI .i64 0, .ints .u8 32 (idD 0), cI .i64 0, cI .i64 0, cI .i64 0, .ints .u8 32 (idD 0), cI .i64 0, cI .i64 0, cI .i64 0, .ints .u8 32 (List.replicate 32 0)], 51⟩)]) (by kernel_rfl) ?_
  refine wo_nil ?_
  refine we_unr ?_
  refine wr_go ?_
  refine wc_seq ?_
  refine wc_reg [0] (by kernel_rfl) ?_
  refine wo_run [0] [0, 3, 18, 19] [15, 17] (l' := [(0, eV (.slice a0 len0 cap0)), (3, eL 17 0), (18, eI .i64 2), (19, eB true)]) (H' := [(15, ⟨[cI .i64 0, cI .i64 0, cB false, cB false, cB false, cB false], 47⟩), (17, ⟨[.one (.ls 15 0 1 1), cI .i64 0, cI .i64 0, cI .i64 0, .ints .u8 32 (idD 0), cI .i64 0, cI .i64 0, cI .i64 0, .ints .u8 32 (idD 0), cI .i64 0, cI .i64 0, cI .i64 0, .ints .u8 32 (List.replicate 32 0)], 51⟩)]) (by kernel_rfl) ?_
  refine wo_nil ?_
  refine we_then ?_
  refine wc_seq ?_
  refine wc_true rfl ?_
  refine wc_skip ?_
  refine we_then ?_
  refine wc_seq ?_
  refine wc_block ?_
  refine wc_seq ?_
  refine wc_reg [0, 1] (by kernel_rfl) ?_
  refine wo_run [0, 1] [0, 3, 4, 18] [15, 17] (l' := [(0, eV (.slice a0 len0 cap0)), (3, eL 17 0), (4, eI .i64 2), (18, eI .i64 2)]) (H' := [(15, ⟨[cI .i64 0, cI .i64 0, cB false, cB false, cB false, cB false], 47⟩), (17, ⟨[.one (.ls 15 0 1 1), cI .i64 0, cI .i64 0, cI .i64 0, .ints .u8 32 (idD 0), cI .i64 0, cI .i64 0, cI .i64 0, .ints .u8 32 (idD 0), cI .i64 0, cI .i64 0, cI .i64 0, .ints .u8 32 (List.replicate 32 0)], 51⟩)]) (by kernel_rfl) ?_
  refine wo_nil ?_
  refine we_then ?_
  refine wc_draw (n := 8) [(15, ⟨[cI .i64 0, cI .i64 0, cB false, cB false, cB false, cB false], 47⟩)] (by kernel_rfl) rfl (sub_of [15] (by kernel_rfl)) (fun ρ0 => ?_)
  refine wa_takes (fuel := 4) [0, 1, 4, 5] [0, 3, 18, 22, 26] (listed' := #[true, true, false, false, true, true, false, false]) (l' := [(0, eV (.slice a0 len0 cap0)), (3, eL 17 0), (18, eI .i64 2), (22, eI .i64 2), (26, eL 17 1)]) (pk_block (pk_then (pk_then (pk_block (pk_then pk_body))))) rfl (by kernel_rfl) ?_
  refine wa_all [2] (by kernel_rfl) rfl (all1 ?_)
  refine wi_op rfl rfl (ot_call (vs := [sI .i64 0]) rfl rfl rfl Try.func23 (by kernel_rfl) (by kernel_rfl) (by kernel_rfl) (eA [.ints .u8 32 (idD 0)]) (okc_ints (idD_len _) (okc_nil)) (fun ρ w _ => id_any 0 w ρ)) (sub_of [15] (by kernel_rfl)) ?_
  refine wa_all [3] (by kernel_rfl) rfl (all1 ?_)
  refine wi_op rfl rfl (ot_call (vs := [sI .i64 0, .agg [.ints .u8 32 (idD 0)]]) rfl rfl rfl Try.func20 (by kernel_rfl) (by kernel_rfl) (by kernel_rfl) (eA [cI .i64 0, cI .i64 0, cI .i64 0, .ints .u8 32 (idD 0)]) (okc_one (okc_one (okc_one (okc_ints (idD_len _) (okc_nil))))) (fun ρ w _ => new_any 0 (idD 0) (idD_len _) w ρ)) (sub_of [15] (by kernel_rfl)) ?_
  refine wa_takes (fuel := 1) [6] [0, 3, 18, 24, 27] (listed' := #[true, true, true, true, true, true, true, false]) (l' := [(0, eV (.slice a0 len0 cap0)), (3, eL 17 0), (18, eI .i64 2), (24, eA [cI .i64 0, cI .i64 0, cI .i64 0, .ints .u8 32 (idD 0)]), (27, eL 17 71)]) (pk_block (pk_then (pk_then (pk_block (pk_then pk_body))))) rfl (by kernel_rfl) ?_
  refine wa_all [7] (by kernel_rfl) rfl (all1 ?_)
  refine wi_op rfl rfl (ot_eff (l' := [(0, eV (.slice a0 len0 cap0)), (3, eL 17 0), (18, eI .i64 2), (24, eA [cI .i64 0, cI .i64 0, cI .i64 0, .ints .u8 32 (idD 0)]), (27, eL 17 71)]) (H' := [(15, ⟨[cI .i64 0, cI .i64 0, cB false, cB false, cB false, cB false], 47⟩), (17, ⟨[.one (.ls 15 0 1 1), cI .i64 0, cI .i64 0, cI .i64 0, .ints .u8 32 (idD 0), cI .i64 0, cI .i64 0, cI .i64 0, .ints .u8 32 (idD 0), cI .i64 0, cI .i64 0, cI .i64 0, .ints .u8 32 (idD 0)], 51⟩)]) (by kernel_rfl)) (sub_of [15] (by kernel_rfl)) ?_
  refine wa_done (by kernel_rfl) ?_
  refine we_rest [0, 3, 18] [15, 17] (l' := [(0, eV (.slice a0 len0 cap0)), (3, eL 17 0), (18, eI .i64 2)]) (H' := [(15, ⟨[cI .i64 0, cI .i64 0, cB false, cB false, cB false, cB false], 47⟩), (17, ⟨[.one (.ls 15 0 1 1), cI .i64 0, cI .i64 0, cI .i64 0, .ints .u8 32 (idD 0), cI .i64 0, cI .i64 0, cI .i64 0, .ints .u8 32 (idD 0), cI .i64 0, cI .i64 0, cI .i64 0, .ints .u8 32 (idD 0)], 51⟩)]) (by kernel_rfl) (by kernel_rfl) ?_
  refine we_block ?_
  refine we_then ?_
  refine wc_reg [0, 1] (by kernel_rfl) ?_
  refine wo_run [0, 1] [0, 3, 18] [15, 17] (l' := [(0, eV (.slice a0 len0 cap0)), (3, eL 17 0), (18, eI .i64 3)]) (H' := [(15, ⟨[cI .i64 0, cI .i64 0, cB false, cB false, cB false, cB false], 47⟩), (17, ⟨[.one (.ls 15 0 1 1), cI .i64 0, cI .i64 0, cI .i64 0, .ints .u8 32 (idD 0), cI .i64 0, cI .i64 0, cI .i64 0, .ints .u8 32 (idD 0), cI .i64 0, cI .i64 0, cI .i64 0, .ints .u8 32 (idD 0)], 51⟩)]) (by kernel_rfl) ?_
  refine wo_nil ?_
  refine we_unr ?_
  refine wr_go ?_
  refine wc_seq ?_
  refine wc_reg [0] (by kernel_rfl) ?_
  refine wo_run [0] [0, 3, 18, 19] [15, 17] (l' := [(0, eV (.slice a0 len0 cap0)), (3, eL 17 0), (18, eI .i64 3), (19, eB false)]) (H' := [(15, ⟨[cI .i64 0, cI .i64 0, cB false, cB false, cB false, cB false], 47⟩), (17, ⟨[.one (.ls 15 0 1 1), cI .i64 0, cI .i64 0, cI .i64 0, .ints .u8 32 (idD 0), cI .i64 0, cI .i64 0, cI .i64 0, .ints .u8 32 (idD 0), cI .i64 0, cI .i64 0, cI .i64 0, .ints .u8 32 (idD 0)], 51⟩)]) (by kernel_rfl) ?_
  refine wo_nil ?_
  refine we_then ?_
  refine wc_seq ?_
  refine wc_false rfl ?_
  refine wc_exit ?_
  refine we_then_exit ?_
  refine we_then_exit ?_
  refine we_block_exit ?_
  refine we_then ?_
  refine wc_seq ?_
  refine wc_seq ?_
  refine wc_reg [0] (by kernel_rfl) ?_
  refine wo_run [0] [0, 3, 5] [15, 17] (l' := [(0, eV (.slice a0 len0 cap0)), (3, eL 17 0), (5, eI .i64 0)]) (H' := [(15, ⟨[cI .i64 0, cI .i64 0, cB false, cB false, cB false, cB false], 47⟩), (17, ⟨[.one (.ls 15 0 1 1), cI .i64 0, cI .i64 0, cI .i64 0, .ints .u8 32 (idD 0), cI .i64 0, cI .i64 0, cI .i64 0, .ints .u8 32 (idD 0), cI .i64 0, cI .i64 0, cI .i64 0, .ints .u8 32 (idD 0)], 51⟩)]) (by kernel_rfl) ?_
  refine wo_nil ?_
  refine we_then ?_
  refine wc_block ?_
  refine wc_flat 15 [.vals (rowV gB run0.L ++ [])] rfl (fun _ => rfl) (okCs_vals _) ?_
  refine wc_rest [0, 3, 5] [17, 15] (l' := [(0, eV (.slice a0 len0 cap0)), (3, eL 17 0), (5, eI .i64 0)]) (H' := [(17, ⟨[.one (.ls 15 0 run0.n 1), cI .i64 run0.s0.e, cI .i64 run0.s0.v, cI .i64 run0.s0.l, .ints .u8 32 run0.s0.d, cI .i64 run0.s1.e, cI .i64 run0.s1.v, cI .i64 run0.s1.l, .ints .u8 32 run0.s1.d, cI .i64 run0.s2.e, cI .i64 run0.s2.v, cI .i64 run0.s2.l, .ints .u8 32 run0.s2.d], 51⟩), (15, ⟨[.vals (rowV gB run0.L ++ [])], 47⟩)]) (by kernel_rfl) ?_
  refine wc_rest [0, 3, 5] [15, 17] (l' := [(0, eV (.slice a0 len0 cap0)), (3, eL 17 0), (5, eI .i64 0)]) (H' := [(15, ⟨[.vals (rowV gB run0.L ++ [])], 47⟩), (17, ⟨[.one (.ls 15 0 run0.n 1), cI .i64 run0.s0.e, cI .i64 run0.s0.v, cI .i64 run0.s0.l, .ints .u8 32 run0.s0.d, cI .i64 run0.s1.e, cI .i64 run0.s1.v, cI .i64 run0.s1.l, .ints .u8 32 run0.s1.d, cI .i64 run0.s2.e, cI .i64 run0.s2.v, cI .i64 run0.s2.l, .ints .u8 32 run0.s2.d], 51⟩)]) (by kernel_rfl) ?_
  refine wc_loop (τ := Run × Nat × List Value × Nat) (fun ⟨r, cap, rest, k⟩ => r.ok cap rest ∧ Good r ∧ k ≤ len0) (fun ⟨r, cap, rest, k⟩ => len0 - k) (fun _ => _) (fun ⟨r, cap, rest, k⟩ => [(0, eV (.slice a0 len0 cap0)), (3, eL 17 0), (5, eI .i64 ((k : Nat) : Int))]) (fun ⟨r, cap, rest, k⟩ => [(15, ⟨[.vals (rowV gB r.L ++ rest)], 47⟩), (17, ⟨(cRun 15 r.n cap r.s0 r.s1 r.s2), 51⟩)]) (run0, 1, [], 0) (⟨run0_ok, run0_good, Nat.zero_le _⟩) rfl rfl rfl ?_
  rintro ⟨r, cap, rest, k⟩ hj
  obtain ⟨hr, hG, hk⟩ := hj
  refine wc_seq ?_
  refine wc_seq ?_
  refine wc_reg [0, 1, 2, 3, 4, 5, 6, 7] (by kernel_rfl) ?_
  refine wo_run [0, 1, 2, 3, 4] [0, 3, 5, 33] [15, 17] (l' := [(0, eV (.slice a0 len0 cap0)), (3, eL 17 0), (5, eI .i64 ((k : Nat) : Int)), (33, eB (decide (((k : Nat) : Int) < ((len0 : Nat) : Int))))]) (H' := [(15, ⟨[.vals (rowV gB r.L ++ rest)], 47⟩), (17, ⟨(cRun 15 r.n cap r.s0 r.s1 r.s2), 51⟩)]) (by kernel_rfl) ?_
  refine wo_bool 33 rfl (fun h1 => ?_) (fun h1 => ?_)
  · replace h1 := of_decide_eq_true h1
    refine wo_run [5, 6, 7] [0, 3, 5, 36] [15, 17] (l' := [(0, eV (.slice a0 len0 cap0)), (3, eL 17 0), (5, eI .i64 ((k : Nat) : Int)), (36, eB (decide (((k : Nat) : Int) < 2000)))]) (H' := [(15, ⟨[.vals (rowV gB r.L ++ rest)], 47⟩), (17, ⟨(cRun 15 r.n cap r.s0 r.s1 r.s2), 51⟩)]) (by kernel_rfl) ?_
    refine wo_nil ?_
    refine we_then ?_
    refine wc_cond rfl (fun h2 => ?_) (fun h2 => ?_)
    · replace h2 := of_decide_eq_true h2
      refine wc_skip ?_
      refine we_then ?_
      refine wc_seq ?_
      refine wc_block ?_
      refine wc_reg [0, 1, 2, 3, 4, 5] (by kernel_rfl) ?_
      refine wo_run [0, 1, 2] [0, 3, 5, 39, 40, 41] [15, 17] (l' := [(0, eV (.slice a0 len0 cap0)), (3, eL 17 0), (5, eI .i64 ((k : Nat) : Int)), (39, eL 17 0), (40, eV (.slice a0 len0 cap0)), (41, eI .i64 ((k : Nat) : Int))]) (H' := [(15, ⟨[.vals (rowV gB r.L ++ rest)], 47⟩), (17, ⟨(cRun 15 r.n cap r.s0 r.s1 r.s2), 51⟩)]) (by kernel_rfl) ?_
      refine wo_op rfl rfl (ot_rd rfl (rd_index (e := 55) b0 off0 4 k rfl (by kernel_rfl) (by kernel_rfl) rfl rfl ((Int.ofNat_lt.1 h1)) ((hb0 (Nat.zero_lt_of_lt (Int.ofNat_lt.1 h1))).1))) ?_
      refine wo_op rfl rfl (ot_rd rfl (rd_load (v := .agg [cI .i64 (x k).kind, cI .i64 (x k).who, cI .i64 (x k).block, cI .i64 (x k).view]) b0 (off0 + k * 4) 0 [cI .i64 (x k).kind, cI .i64 (x k).who, cI .i64 (x k).block, cI .i64 (x k).view] rfl (off0 + k * 4) rfl rfl ((xI (hb0 (Nat.zero_lt_of_lt (Int.ofNat_lt.1 h1))).2)) (hc0 k (Int.ofNat_lt.1 h1)) (okc_one (okc_one (okc_one (okc_one okc_nil)))) (fun _ => rfl) (by kernel_rfl))) ?_
      refine wo_ox rfl rfl (ox_callm (τ := Option (Nat × List Value)) (φ := playOk r (x k)) [sL 100000 0, .agg [cI .i64 (x k).kind, cI .i64 (x k).who, cI .i64 (x k).block, cI .i64 (x k).view]] [(100000, ⟨(cRun 100001 r.n cap r.s0 r.s1 r.s2), 51⟩), (100001, ⟨[.vals (rowV gB r.L ++ rest)], 47⟩)] [(100000, 17), (100001, 15)] [(77, 44)] [] (fun _ => .t []) (fun y => playH r (x k) (mwho (x k)) cap rest y) rfl (by kernel_rfl) rfl Try.func24 (by kernel_rfl) (by kernel_rfl) (by kernel_rfl) (by kernel_rfl) (by kernel_rfl) (by kernel_rfl) (⟨⟨by kernel_rfl, by kernel_rfl, by kernel_rfl⟩, ⟨by kernel_rfl, by kernel_rfl, by kernel_rfl⟩, trivial⟩) (fun y => by rcases y with _ | ⟨_, _⟩ <;> kernel_rfl) (fun _ => by kernel_rfl) (fun _ _ => okv_nil) (fun ρ w _ hh => play_any r cap rest hr (x k) w _ hh)) (fun y hy _ => ?_)
      rcases y with _ | ⟨c1, r1⟩
      · refine wo_run [] [0, 3, 5] [15, 17] (l' := [(0, eV (.slice a0 len0 cap0)), (3, eL 17 0), (5, eI .i64 ((k : Nat) : Int))]) (H' := [(15, ⟨[.vals (rowV gB (playR r (x k) (mwho (x k))).L ++ rest)], 47⟩), (17, ⟨[.one (.ls 15 0 ((playR r (x k) (mwho (x k))).n) cap), cI .i64 (playR r (x k) (mwho (x k))).s0.e, cI .i64 (playR r (x k) (mwho (x k))).s0.v, cI .i64 (playR r (x k) (mwho (x k))).s0.l, .ints .u8 32 ((playR r (x k) (mwho (x k))).s0.d), cI .i64 (playR r (x k) (mwho (x k))).s1.e, cI .i64 (playR r (x k) (mwho (x k))).s1.v, cI .i64 (playR r (x k) (mwho (x k))).s1.l, .ints .u8 32 ((playR r (x k) (mwho (x k))).s1.d), cI .i64 (playR r (x k) (mwho (x k))).s2.e, cI .i64 (playR r (x k) (mwho (x k))).s2.v, cI .i64 (playR r (x k) (mwho (x k))).s2.l, .ints .u8 32 ((playR r (x k) (mwho (x k))).s2.d)], 51⟩)]) (by kernel_rfl) ?_
        refine wo_nil ?_
        refine we_block ?_
        refine we_then ?_
        refine wc_reg [0, 1, 2] (by kernel_rfl) ?_
        refine wo_run [0, 1, 2] [0, 3, 5] [15, 17] (l' := [(0, eV (.slice a0 len0 cap0)), (3, eL 17 0), (5, eI .i64 (IntKind.wrap .i64 (((k : Nat) : Int) + 1)))]) (H' := [(15, ⟨[.vals (rowV gB (playR r (x k) (mwho (x k))).L ++ rest)], 47⟩), (17, ⟨[.one (.ls 15 0 ((playR r (x k) (mwho (x k))).n) cap), cI .i64 (playR r (x k) (mwho (x k))).s0.e, cI .i64 (playR r (x k) (mwho (x k))).s0.v, cI .i64 (playR r (x k) (mwho (x k))).s0.l, .ints .u8 32 ((playR r (x k) (mwho (x k))).s0.d), cI .i64 (playR r (x k) (mwho (x k))).s1.e, cI .i64 (playR r (x k) (mwho (x k))).s1.v, cI .i64 (playR r (x k) (mwho (x k))).s1.l, .ints .u8 32 ((playR r (x k) (mwho (x k))).s1.d), cI .i64 (playR r (x k) (mwho (x k))).s2.e, cI .i64 (playR r (x k) (mwho (x k))).s2.v, cI .i64 (playR r (x k) (mwho (x k))).s2.l, .ints .u8 32 ((playR r (x k) (mwho (x k))).s2.d)], 51⟩)]) (by kernel_rfl) ?_
        refine wo_nil ?_
        refine we_rest [0, 3, 5] [15, 17] (l' := [(0, eV (.slice a0 len0 cap0)), (3, eL 17 0), (5, eI .i64 (IntKind.wrap .i64 (((k : Nat) : Int) + 1)))]) (H' := [(15, ⟨[.vals (rowV gB (playR r (x k) (mwho (x k))).L ++ rest)], 47⟩), (17, ⟨[.one (.ls 15 0 ((playR r (x k) (mwho (x k))).n) cap), cI .i64 (playR r (x k) (mwho (x k))).s0.e, cI .i64 (playR r (x k) (mwho (x k))).s0.v, cI .i64 (playR r (x k) (mwho (x k))).s0.l, .ints .u8 32 ((playR r (x k) (mwho (x k))).s0.d), cI .i64 (playR r (x k) (mwho (x k))).s1.e, cI .i64 (playR r (x k) (mwho (x k))).s1.v, cI .i64 (playR r (x k) (mwho (x k))).s1.l, .ints .u8 32 ((playR r (x k) (mwho (x k))).s1.d), cI .i64 (playR r (x k) (mwho (x k))).s2.e, cI .i64 (playR r (x k) (mwho (x k))).s2.v, cI .i64 (playR r (x k) (mwho (x k))).s2.l, .ints .u8 32 ((playR r (x k) (mwho (x k))).s2.d)], 51⟩)]) (by kernel_rfl) (by kernel_rfl) ?_
        rw [show (IntKind.wrap .i64 (((k : Nat) : Int) + 1)) = ((k + 1 : Nat) : Int) from wrap_succ (by simp only [maxLen] at hcap0; omega)]
        exact we_round ((playR r (x k) (mwho (x k))), cap, rest, k + 1) (⟨playR_ok (x := none) hr hy, hG.play hr _ (mwho_lt _), by omega⟩) (by show len0 - (k + 1) < len0 - k; omega) rfl (sub_ofE [0, 3, 5] rfl) (sub_of [15, 17] rfl)
      · refine wo_run [] [0, 3, 5] [17, 44] (l' := [(0, eV (.slice a0 len0 cap0)), (3, eL 17 0), (5, eI .i64 ((k : Nat) : Int))]) (H' := [(17, ⟨[.one (.ls 44 0 ((playR r (x k) (mwho (x k))).n) c1), cI .i64 (playR r (x k) (mwho (x k))).s0.e, cI .i64 (playR r (x k) (mwho (x k))).s0.v, cI .i64 (playR r (x k) (mwho (x k))).s0.l, .ints .u8 32 ((playR r (x k) (mwho (x k))).s0.d), cI .i64 (playR r (x k) (mwho (x k))).s1.e, cI .i64 (playR r (x k) (mwho (x k))).s1.v, cI .i64 (playR r (x k) (mwho (x k))).s1.l, .ints .u8 32 ((playR r (x k) (mwho (x k))).s1.d), cI .i64 (playR r (x k) (mwho (x k))).s2.e, cI .i64 (playR r (x k) (mwho (x k))).s2.v, cI .i64 (playR r (x k) (mwho (x k))).s2.l, .ints .u8 32 ((playR r (x k) (mwho (x k))).s2.d)], 51⟩), (44, ⟨[.vals (rowV gB (playR r (x k) (mwho (x k))).L ++ r1)], 47⟩)]) (by kernel_rfl) ?_
        refine wo_nil ?_
        refine we_block ?_
        refine we_then ?_
        refine wc_reg [0, 1, 2] (by kernel_rfl) ?_
        refine wo_run [0, 1, 2] [0, 3, 5] [17, 44] (l' := [(0, eV (.slice a0 len0 cap0)), (3, eL 17 0), (5, eI .i64 (IntKind.wrap .i64 (((k : Nat) : Int) + 1)))]) (H' := [(17, ⟨[.one (.ls 44 0 ((playR r (x k) (mwho (x k))).n) c1), cI .i64 (playR r (x k) (mwho (x k))).s0.e, cI .i64 (playR r (x k) (mwho (x k))).s0.v, cI .i64 (playR r (x k) (mwho (x k))).s0.l, .ints .u8 32 ((playR r (x k) (mwho (x k))).s0.d), cI .i64 (playR r (x k) (mwho (x k))).s1.e, cI .i64 (playR r (x k) (mwho (x k))).s1.v, cI .i64 (playR r (x k) (mwho (x k))).s1.l, .ints .u8 32 ((playR r (x k) (mwho (x k))).s1.d), cI .i64 (playR r (x k) (mwho (x k))).s2.e, cI .i64 (playR r (x k) (mwho (x k))).s2.v, cI .i64 (playR r (x k) (mwho (x k))).s2.l, .ints .u8 32 ((playR r (x k) (mwho (x k))).s2.d)], 51⟩), (44, ⟨[.vals (rowV gB (playR r (x k) (mwho (x k))).L ++ r1)], 47⟩)]) (by kernel_rfl) ?_
        refine wo_nil ?_
        refine we_rest [0, 3, 5] [17, 44] (l' := [(0, eV (.slice a0 len0 cap0)), (3, eL 17 0), (5, eI .i64 (IntKind.wrap .i64 (((k : Nat) : Int) + 1)))]) (H' := [(17, ⟨[.one (.ls 44 0 ((playR r (x k) (mwho (x k))).n) c1), cI .i64 (playR r (x k) (mwho (x k))).s0.e, cI .i64 (playR r (x k) (mwho (x k))).s0.v, cI .i64 (playR r (x k) (mwho (x k))).s0.l, .ints .u8 32 ((playR r (x k) (mwho (x k))).s0.d), cI .i64 (playR r (x k) (mwho (x k))).s1.e, cI .i64 (playR r (x k) (mwho (x k))).s1.v, cI .i64 (playR r (x k) (mwho (x k))).s1.l, .ints .u8 32 ((playR r (x k) (mwho (x k))).s1.d), cI .i64 (playR r (x k) (mwho (x k))).s2.e, cI .i64 (playR r (x k) (mwho (x k))).s2.v, cI .i64 (playR r (x k) (mwho (x k))).s2.l, .ints .u8 32 ((playR r (x k) (mwho (x k))).s2.d)], 51⟩), (44, ⟨[.vals (rowV gB (playR r (x k) (mwho (x k))).L ++ r1)], 47⟩)]) (by kernel_rfl) (by kernel_rfl) ?_
        refine we_ren [(17, 17), (44, 15)] (l' := [(0, eV (.slice a0 len0 cap0)), (3, eL 17 0), (5, eI .i64 (IntKind.wrap .i64 (((k : Nat) : Int) + 1)))]) (H' := [(17, ⟨[.one (.ls 15 0 ((playR r (x k) (mwho (x k))).n) c1), cI .i64 (playR r (x k) (mwho (x k))).s0.e, cI .i64 (playR r (x k) (mwho (x k))).s0.v, cI .i64 (playR r (x k) (mwho (x k))).s0.l, .ints .u8 32 ((playR r (x k) (mwho (x k))).s0.d), cI .i64 (playR r (x k) (mwho (x k))).s1.e, cI .i64 (playR r (x k) (mwho (x k))).s1.v, cI .i64 (playR r (x k) (mwho (x k))).s1.l, .ints .u8 32 ((playR r (x k) (mwho (x k))).s1.d), cI .i64 (playR r (x k) (mwho (x k))).s2.e, cI .i64 (playR r (x k) (mwho (x k))).s2.v, cI .i64 (playR r (x k) (mwho (x k))).s2.l, .ints .u8 32 ((playR r (x k) (mwho (x k))).s2.d)], 51⟩), (15, ⟨[.vals (rowV gB (playR r (x k) (mwho (x k))).L ++ r1)], 47⟩)]) (by kernel_rfl) (by kernel_rfl) (by kernel_rfl) ?_
        refine we_rest [0, 3, 5] [15, 17] (l' := [(0, eV (.slice a0 len0 cap0)), (3, eL 17 0), (5, eI .i64 (IntKind.wrap .i64 (((k : Nat) : Int) + 1)))]) (H' := [(15, ⟨[.vals (rowV gB (playR r (x k) (mwho (x k))).L ++ r1)], 47⟩), (17, ⟨[.one (.ls 15 0 ((playR r (x k) (mwho (x k))).n) c1), cI .i64 (playR r (x k) (mwho (x k))).s0.e, cI .i64 (playR r (x k) (mwho (x k))).s0.v, cI .i64 (playR r (x k) (mwho (x k))).s0.l, .ints .u8 32 ((playR r (x k) (mwho (x k))).s0.d), cI .i64 (playR r (x k) (mwho (x k))).s1.e, cI .i64 (playR r (x k) (mwho (x k))).s1.v, cI .i64 (playR r (x k) (mwho (x k))).s1.l, .ints .u8 32 ((playR r (x k) (mwho (x k))).s1.d), cI .i64 (playR r (x k) (mwho (x k))).s2.e, cI .i64 (playR r (x k) (mwho (x k))).s2.v, cI .i64 (playR r (x k) (mwho (x k))).s2.l, .ints .u8 32 ((playR r (x k) (mwho (x k))).s2.d)], 51⟩)]) (by kernel_rfl) (by kernel_rfl) ?_
        rw [show (IntKind.wrap .i64 (((k : Nat) : Int) + 1)) = ((k + 1 : Nat) : Int) from wrap_succ (by simp only [maxLen] at hcap0; omega)]
        exact we_round ((playR r (x k) (mwho (x k))), c1, r1, k + 1) (⟨playR_ok (x := some (c1, r1)) hr hy, hG.play hr _ (mwho_lt _), by omega⟩) (by show len0 - (k + 1) < len0 - k; omega) rfl (sub_ofE [0, 3, 5] rfl) (sub_of [15, 17] rfl)
    · replace h2 := of_decide_eq_false h2
      refine wc_exit ?_
      refine we_then_exit ?_
      refine we_then_exit ?_
      refine we_block_exit ?_
      refine we_then ?_
      refine wc_seq ?_
      refine wc_reg [0] (by kernel_rfl) ?_
      refine wo_run [0] [3, 6] [15, 17] (l' := [(3, eL 17 0), (6, eI .i64 0)]) (H' := [(15, ⟨[.vals (rowV gB r.L ++ rest)], 47⟩), (17, ⟨(cRun 15 r.n cap r.s0 r.s1 r.s2), 51⟩)]) (by kernel_rfl) ?_
      refine wo_nil ?_
      refine we_then ?_
      refine wc_seq ?_
      refine wc_reg [0] (by kernel_rfl) ?_
      refine wo_run [0] [3, 6, 7] [15, 17] (l' := [(3, eL 17 0), (6, eI .i64 0), (7, eI .i64 0)]) (H' := [(15, ⟨[.vals (rowV gB r.L ++ rest)], 47⟩), (17, ⟨(cRun 15 r.n cap r.s0 r.s1 r.s2), 51⟩)]) (by kernel_rfl) ?_
      refine wo_nil ?_
      refine we_then ?_
      refine wc_seq ?_
      refine wc_seq ?_
      refine wc_reg [0, 1, 2, 3, 4, 5] (by kernel_rfl) ?_
      refine wo_run [0, 1, 2, 3] [3, 6, 7, 48] [15, 17] (l' := [(3, eL 17 0), (6, eI .i64 0), (7, eI .i64 0), (48, .s (.a (.ls 15 0 r.n cap)))]) (H' := [(15, ⟨[.vals (rowV gB r.L ++ rest)], 47⟩), (17, ⟨(cRun 15 r.n cap r.s0 r.s1 r.s2), 51⟩)]) (by kernel_rfl) ?_
      refine wo_op rfl rfl (ot_rd rfl (rd_len rfl rfl rfl rfl (fun _ => by kernel_rfl))) ?_
      refine wo_run [5] [3, 6, 7, 49, 50] [15, 17] (l' := [(3, eL 17 0), (6, eI .i64 0), (7, eI .i64 0), (49, eI .i64 ((r.n : Nat) : Int)), (50, eI .i64 0)]) (H' := [(15, ⟨[.vals (rowV gB r.L ++ rest)], 47⟩), (17, ⟨(cRun 15 r.n cap r.s0 r.s1 r.s2), 51⟩)]) (by kernel_rfl) ?_
      refine wo_nil ?_
      refine we_then ?_
      refine wc_block ?_
      refine wc_rest [3, 6, 7, 49, 50] [15, 17] (l' := [(3, eL 17 0), (6, eI .i64 0), (7, eI .i64 0), (49, eI .i64 ((r.n : Nat) : Int)), (50, eI .i64 0)]) (H' := [(15, ⟨[.vals (rowV gB r.L ++ rest)], 47⟩), (17, ⟨(cRun 15 r.n cap r.s0 r.s1 r.s2), 51⟩)]) (by kernel_rfl) ?_
      refine wc_loop (τ := Nat × Nat × Int) (fun ⟨i, best, view⟩ => i ≤ r.n ∧ Best r i best view) (fun ⟨i, best, view⟩ => r.n - i) (fun _ => _) (fun ⟨i, best, view⟩ => [(3, eL 17 0), (6, eI .i64 ((best : Nat) : Int)), (7, eI .i64 view), (49, eI .i64 ((r.n : Nat) : Int)), (50, eI .i64 ((i : Nat) : Int))]) (fun ⟨i, best, view⟩ => [(15, ⟨[.vals (rowV gB r.L ++ rest)], 47⟩), (17, ⟨(cRun 15 r.n cap r.s0 r.s1 r.s2), 51⟩)]) (0, 0, 0) (⟨Nat.zero_le _, Best.zero hG⟩) rfl rfl rfl ?_
      rintro ⟨i, best, view⟩ hj
      obtain ⟨hi, hB⟩ := hj
      have hbn : best < r.n := hr.ln0 ▸ hB.bl
      refine wc_seq ?_
      refine wc_reg [0] (by kernel_rfl) ?_
      refine wo_run [0] [3, 6, 7, 49, 50, 51] [15, 17] (l' := [(3, eL 17 0), (6, eI .i64 ((best : Nat) : Int)), (7, eI .i64 view), (49, eI .i64 ((r.n : Nat) : Int)), (50, eI .i64 ((i : Nat) : Int)), (51, eB (decide (((i : Nat) : Int) < ((r.n : Nat) : Int))))]) (H' := [(15, ⟨[.vals (rowV gB r.L ++ rest)], 47⟩), (17, ⟨(cRun 15 r.n cap r.s0 r.s1 r.s2), 51⟩)]) (by kernel_rfl) ?_
      refine wo_nil ?_
      refine we_then ?_
      refine wc_seq ?_
      refine wc_cond rfl (fun h3 => ?_) (fun h3 => ?_)
      · replace h3 := of_decide_eq_true h3
        refine wc_skip ?_
        refine we_then ?_
        refine wc_seq ?_
        refine wc_block ?_
        refine wc_seq ?_
        refine wc_reg [0, 1] (by kernel_rfl) ?_
        refine wo_run [0, 1] [3, 6, 7, 8, 49, 50] [15, 17] (l' := [(3, eL 17 0), (6, eI .i64 ((best : Nat) : Int)), (7, eI .i64 view), (8, eI .i64 ((i : Nat) : Int)), (49, eI .i64 ((r.n : Nat) : Int)), (50, eI .i64 ((i : Nat) : Int))]) (H' := [(15, ⟨[.vals (rowV gB r.L ++ rest)], 47⟩), (17, ⟨(cRun 15 r.n cap r.s0 r.s1 r.s2), 51⟩)]) (by kernel_rfl) ?_
        refine wo_nil ?_
        refine we_then ?_
        refine wc_seq ?_
        refine wc_seq ?_
        refine wc_draw (n := 22) [(15, ⟨[.vals (rowV gB r.L ++ rest)], 47⟩), (17, ⟨(cRun 15 r.n cap r.s0 r.s1 r.s2), 51⟩)] (by kernel_rfl) rfl (sub_of [15, 17] (by kernel_rfl)) (fun ρ0 => ?_)
        refine wa_takes (fuel := 20) [0, 1] [3, 6, 7, 8, 49, 50, 53, 54] (listed' := #[true, true, false, false, false, false, false, false, false, false, false, false, false, false, false, false, false, false, false, false, false, false]) (l' := [(3, eL 17 0), (6, eI .i64 ((best : Nat) : Int)), (7, eI .i64 view), (8, eI .i64 ((i : Nat) : Int)), (49, eI .i64 ((r.n : Nat) : Int)), (50, eI .i64 ((i : Nat) : Int)), (53, eL 17 0), (54, eI .i64 ((i : Nat) : Int))]) (pk_then (pk_then (pk_block (pk_then (pk_then (pk_block (pk_then pk_body))))))) rfl (by kernel_rfl) ?_
        refine wa_all [2] (by kernel_rfl) rfl (all1 ?_)
        refine wi_op rfl rfl (ot_call (vs := [sL 17 0, sI .i64 ((i : Nat) : Int)]) rfl rfl rfl Try.func27 (by kernel_rfl) (by kernel_rfl) (by kernel_rfl) (eB (certB r.L i)) (trivial) (fun ρ w h => certified_any r cap rest hr i (by omega) w (fun k => ρ (Sx.look [(100000, 17), (100001, 15)] k)) (h.heap (π := [(100000, 17), (100001, 15)]) (Hc := [(100000, ⟨(cRun 100001 r.n cap r.s0 r.s1 r.s2), 51⟩), (100001, ⟨[.vals (rowV gB r.L ++ rest)], 47⟩)]) rfl ⟨⟨by kernel_rfl, by kernel_rfl, by kernel_rfl⟩, ⟨by kernel_rfl, by kernel_rfl, by kernel_rfl⟩, trivial⟩))) (sub_of [15, 17] (by kernel_rfl)) ?_
        refine wa_takes (fuel := 18) [3] [3, 6, 7, 8, 49, 50, 56] (listed' := #[true, true, true, true, false, false, false, false, false, false, false, false, false, false, false, false, false, false, false, false, false, false]) (l' := [(3, eL 17 0), (6, eI .i64 ((best : Nat) : Int)), (7, eI .i64 view), (8, eI .i64 ((i : Nat) : Int)), (49, eI .i64 ((r.n : Nat) : Int)), (50, eI .i64 ((i : Nat) : Int)), (56, eB (certB r.L i))]) (pk_then (pk_then (pk_block (pk_then (pk_then (pk_block (pk_then pk_body))))))) rfl (by kernel_rfl) ?_
        refine wa_bool 56 rfl (fun h4 => ?_) (fun h4 => ?_)
        · refine wa_takes (fuel := 8) [4, 5, 6, 7, 8, 12, 13, 14, 15, 16] [3, 6, 7, 8, 49, 50, 56, 60, 61, 68, 69] (listed' := #[true, true, true, true, true, true, true, true, true, false, false, false, true, true, true, true, true, false, false, false, false, false]) (l' := [(3, eL 17 0), (6, eI .i64 ((best : Nat) : Int)), (7, eI .i64 view), (8, eI .i64 ((i : Nat) : Int)), (49, eI .i64 ((r.n : Nat) : Int)), (50, eI .i64 ((i : Nat) : Int)), (56, eB true), (60, .s (.a (.ls 15 0 r.n cap))), (61, eI .i64 ((i : Nat) : Int)), (68, .s (.a (.ls 15 0 r.n cap))), (69, eI .i64 ((best : Nat) : Int))]) (pk_then (pk_then (pk_block (pk_then (pk_then (pk_block (pk_then pk_body))))))) rfl (by kernel_rfl) ?_
          refine wa_take 9 (pk_then (pk_then (pk_block (pk_then (pk_then (pk_block (pk_then pk_body))))))) rfl (by kernel_rfl) rfl rfl (rd_indexL (e := 47) 6 i ((i : Nat) : Int) rfl (by kernel_rfl) (by kernel_rfl) rfl rfl (rfl) (by omega)) ?_
          refine wa_takes (fuel := 6) [10] [3, 6, 7, 8, 49, 50, 56, 63, 68, 69] (listed' := #[true, true, true, true, true, true, true, true, true, true, true, false, true, true, true, true, true, false, false, false, false, false]) (l' := [(3, eL 17 0), (6, eI .i64 ((best : Nat) : Int)), (7, eI .i64 view), (8, eI .i64 ((i : Nat) : Int)), (49, eI .i64 ((r.n : Nat) : Int)), (50, eI .i64 ((i : Nat) : Int)), (56, eB true), (63, eL 15 ((0 + i * 6) + 1)), (68, .s (.a (.ls 15 0 r.n cap))), (69, eI .i64 ((best : Nat) : Int))]) (pk_then (pk_then (pk_block (pk_then (pk_then (pk_block (pk_then pk_body))))))) rfl (by kernel_rfl) ?_
          refine wa_take 11 (pk_then (pk_then (pk_block (pk_then (pk_then (pk_block (pk_then pk_body))))))) rfl (by kernel_rfl) rfl rfl (rd_cellS (b := ⟨[.vals (rowV gB r.L ++ rest)], 47⟩) (.v (.int .i64 (bk r.L i).view)) rfl rfl rfl (by kernel_rfl) (fun ρ => view_at (hr.ln (by omega)) ρ)) ?_
          refine wa_take 17 (pk_then (pk_then (pk_block (pk_then (pk_then (pk_block (pk_then pk_body))))))) rfl (by kernel_rfl) rfl rfl (rd_indexL (e := 47) 6 best ((best : Nat) : Int) rfl (by kernel_rfl) (by kernel_rfl) rfl rfl (rfl) (hbn)) ?_
          refine wa_takes (fuel := 3) [18] [3, 6, 7, 8, 49, 50, 56, 64, 71] (listed' := #[true, true, true, true, true, true, true, true, true, true, true, true, true, true, true, true, true, true, true, false, false, false]) (l' := [(3, eL 17 0), (6, eI .i64 ((best : Nat) : Int)), (7, eI .i64 view), (8, eI .i64 ((i : Nat) : Int)), (49, eI .i64 ((r.n : Nat) : Int)), (50, eI .i64 ((i : Nat) : Int)), (56, eB true), (64, eI .i64 (bk r.L i).view), (71, eL 15 ((0 + best * 6) + 1))]) (pk_then (pk_then (pk_block (pk_then (pk_then (pk_block (pk_then pk_body))))))) rfl (by kernel_rfl) ?_
          refine wa_take 19 (pk_then (pk_then (pk_block (pk_then (pk_then (pk_block (pk_then pk_body))))))) rfl (by kernel_rfl) rfl rfl (rd_cellS (b := ⟨[.vals (rowV gB r.L ++ rest)], 47⟩) (.v (.int .i64 (bk r.L best).view)) rfl rfl rfl (by kernel_rfl) (fun ρ => view_at (hr.ln (hbn)) ρ)) ?_
          refine wa_takes (fuel := 0) [20, 21] [3, 6, 7, 8, 49, 50, 74] (listed' := #[true, true, true, true, true, true, true, true, true, true, true, true, true, true, true, true, true, true, true, true, true, true]) (l' := [(3, eL 17 0), (6, eI .i64 ((best : Nat) : Int)), (7, eI .i64 view), (8, eI .i64 ((i : Nat) : Int)), (49, eI .i64 ((r.n : Nat) : Int)), (50, eI .i64 ((i : Nat) : Int)), (74, eB (decide ((bk r.L i).view > (bk r.L best).view)))]) (pk_then (pk_then (pk_block (pk_then (pk_then (pk_block (pk_then pk_body))))))) rfl (by kernel_rfl) ?_
          refine wa_done (by kernel_rfl) ?_
          refine we_rest [3, 6, 7, 8, 49, 50, 74] [15, 17] (l' := [(3, eL 17 0), (6, eI .i64 ((best : Nat) : Int)), (7, eI .i64 view), (8, eI .i64 ((i : Nat) : Int)), (49, eI .i64 ((r.n : Nat) : Int)), (50, eI .i64 ((i : Nat) : Int)), (74, eB (decide ((bk r.L i).view > (bk r.L best).view)))]) (H' := [(15, ⟨[.vals (rowV gB r.L ++ rest)], 47⟩), (17, ⟨(cRun 15 r.n cap r.s0 r.s1 r.s2), 51⟩)]) (by kernel_rfl) (by kernel_rfl) ?_
          refine we_then ?_
          refine wc_cond rfl (fun h5 => ?_) (fun h5 => ?_)
          · replace h5 := of_decide_eq_true h5
            refine wc_reg [0, 1] (by kernel_rfl) ?_
            refine wo_run [0, 1] [3, 6, 7, 8, 49, 50] [15, 17] (l' := [(3, eL 17 0), (6, eI .i64 ((i : Nat) : Int)), (7, eI .i64 view), (8, eI .i64 ((i : Nat) : Int)), (49, eI .i64 ((r.n : Nat) : Int)), (50, eI .i64 ((i : Nat) : Int))]) (H' := [(15, ⟨[.vals (rowV gB r.L ++ rest)], 47⟩), (17, ⟨(cRun 15 r.n cap r.s0 r.s1 r.s2), 51⟩)]) (by kernel_rfl) ?_
            refine wo_nil ?_
            refine we_then ?_
            refine wc_reg [0, 1, 2, 3, 4, 5, 6, 7, 8, 9, 10] (by kernel_rfl) ?_
            refine wo_run [0, 1, 2, 3, 4, 5] [3, 6, 49, 50, 76, 80, 81] [15, 17] (l' := [(3, eL 17 0), (6, eI .i64 ((i : Nat) : Int)), (49, eI .i64 ((r.n : Nat) : Int)), (50, eI .i64 ((i : Nat) : Int)), (76, eI .i64 view), (80, .s (.a (.ls 15 0 r.n cap))), (81, eI .i64 ((i : Nat) : Int))]) (H' := [(15, ⟨[.vals (rowV gB r.L ++ rest)], 47⟩), (17, ⟨(cRun 15 r.n cap r.s0 r.s1 r.s2), 51⟩)]) (by kernel_rfl) ?_
            refine wo_op rfl rfl (ot_rd rfl (rd_indexL (e := 47) 6 i ((i : Nat) : Int) rfl (by kernel_rfl) (by kernel_rfl) rfl rfl (rfl) (by omega))) ?_
            refine wo_run [7] [3, 6, 49, 50, 76, 83] [15, 17] (l' := [(3, eL 17 0), (6, eI .i64 ((i : Nat) : Int)), (49, eI .i64 ((r.n : Nat) : Int)), (50, eI .i64 ((i : Nat) : Int)), (76, eI .i64 view), (83, eL 15 ((0 + i * 6) + 1))]) (H' := [(15, ⟨[.vals (rowV gB r.L ++ rest)], 47⟩), (17, ⟨(cRun 15 r.n cap r.s0 r.s1 r.s2), 51⟩)]) (by kernel_rfl) ?_
            refine wo_op rfl rfl (ot_rd rfl (rd_cellS (b := ⟨[.vals (rowV gB r.L ++ rest)], 47⟩) (.v (.int .i64 (bk r.L i).view)) rfl rfl rfl (by kernel_rfl) (fun ρ => view_at (hr.ln (by omega)) ρ))) ?_
            refine wo_run [9, 10] [3, 6, 7, 49, 50] [15, 17] (l' := [(3, eL 17 0), (6, eI .i64 ((i : Nat) : Int)), (7, eI .i64 (if (bk r.L i).view > view then (bk r.L i).view else view)), (49, eI .i64 ((r.n : Nat) : Int)), (50, eI .i64 ((i : Nat) : Int))]) (H' := [(15, ⟨[.vals (rowV gB r.L ++ rest)], 47⟩), (17, ⟨(cRun 15 r.n cap r.s0 r.s1 r.s2), 51⟩)]) (by kernel_rfl) ?_
            refine wo_nil ?_
            refine we_block ?_
            refine we_then ?_
            refine wc_reg [0, 1] (by kernel_rfl) ?_
            refine wo_run [0, 1] [3, 6, 7, 49, 50] [15, 17] (l' := [(3, eL 17 0), (6, eI .i64 ((i : Nat) : Int)), (7, eI .i64 (if (bk r.L i).view > view then (bk r.L i).view else view)), (49, eI .i64 ((r.n : Nat) : Int)), (50, eI .i64 (IntKind.wrap .i64 (((i : Nat) : Int) + 1)))]) (H' := [(15, ⟨[.vals (rowV gB r.L ++ rest)], 47⟩), (17, ⟨(cRun 15 r.n cap r.s0 r.s1 r.s2), 51⟩)]) (by kernel_rfl) ?_
            refine wo_nil ?_
            refine we_rest [3, 6, 7, 49, 50] [15, 17] (l' := [(3, eL 17 0), (6, eI .i64 ((i : Nat) : Int)), (7, eI .i64 (if (bk r.L i).view > view then (bk r.L i).view else view)), (49, eI .i64 ((r.n : Nat) : Int)), (50, eI .i64 (IntKind.wrap .i64 (((i : Nat) : Int) + 1)))]) (H' := [(15, ⟨[.vals (rowV gB r.L ++ rest)], 47⟩), (17, ⟨(cRun 15 r.n cap r.s0 r.s1 r.s2), 51⟩)]) (by kernel_rfl) (by kernel_rfl) ?_
            rw [show (IntKind.wrap .i64 (((i : Nat) : Int) + 1)) = ((i + 1 : Nat) : Int) from wrap_succ (by have := hr.small; omega)]
            exact we_round (i + 1, i, (if (bk r.L i).view > view then (bk r.L i).view else view)) (⟨by omega, hB.next hG (by rw [hr.ln0]; omega) (.inl ⟨rfl, h4, h5⟩)⟩) (by show r.n - (i + 1) < r.n - i; omega) rfl (sub_ofE [3, 6, 7, 49, 50] rfl) (sub_of [15, 17] rfl)
          · replace h5 := of_decide_eq_false h5
            refine wc_skip ?_
            refine we_then ?_
            refine wc_reg [0, 1, 2, 3, 4, 5, 6, 7, 8, 9, 10] (by kernel_rfl) ?_
            refine wo_run [0, 1, 2, 3, 4, 5] [3, 6, 49, 50, 76, 80, 81] [15, 17] (l' := [(3, eL 17 0), (6, eI .i64 ((best : Nat) : Int)), (49, eI .i64 ((r.n : Nat) : Int)), (50, eI .i64 ((i : Nat) : Int)), (76, eI .i64 view), (80, .s (.a (.ls 15 0 r.n cap))), (81, eI .i64 ((i : Nat) : Int))]) (H' := [(15, ⟨[.vals (rowV gB r.L ++ rest)], 47⟩), (17, ⟨(cRun 15 r.n cap r.s0 r.s1 r.s2), 51⟩)]) (by kernel_rfl) ?_
            refine wo_op rfl rfl (ot_rd rfl (rd_indexL (e := 47) 6 i ((i : Nat) : Int) rfl (by kernel_rfl) (by kernel_rfl) rfl rfl (rfl) (by omega))) ?_
            refine wo_run [7] [3, 6, 49, 50, 76, 83] [15, 17] (l' := [(3, eL 17 0), (6, eI .i64 ((best : Nat) : Int)), (49, eI .i64 ((r.n : Nat) : Int)), (50, eI .i64 ((i : Nat) : Int)), (76, eI .i64 view), (83, eL 15 ((0 + i * 6) + 1))]) (H' := [(15, ⟨[.vals (rowV gB r.L ++ rest)], 47⟩), (17, ⟨(cRun 15 r.n cap r.s0 r.s1 r.s2), 51⟩)]) (by kernel_rfl) ?_
            refine wo_op rfl rfl (ot_rd rfl (rd_cellS (b := ⟨[.vals (rowV gB r.L ++ rest)], 47⟩) (.v (.int .i64 (bk r.L i).view)) rfl rfl rfl (by kernel_rfl) (fun ρ => view_at (hr.ln (by omega)) ρ))) ?_
            refine wo_run [9, 10] [3, 6, 7, 49, 50] [15, 17] (l' := [(3, eL 17 0), (6, eI .i64 ((best : Nat) : Int)), (7, eI .i64 (if (bk r.L i).view > view then (bk r.L i).view else view)), (49, eI .i64 ((r.n : Nat) : Int)), (50, eI .i64 ((i : Nat) : Int))]) (H' := [(15, ⟨[.vals (rowV gB r.L ++ rest)], 47⟩), (17, ⟨(cRun 15 r.n cap r.s0 r.s1 r.s2), 51⟩)]) (by kernel_rfl) ?_
            refine wo_nil ?_
            refine we_block ?_
            refine we_then ?_
            refine wc_reg [0, 1] (by kernel_rfl) ?_
            refine wo_run [0, 1] [3, 6, 7, 49, 50] [15, 17] (l' := [(3, eL 17 0), (6, eI .i64 ((best : Nat) : Int)), (7, eI .i64 (if (bk r.L i).view > view then (bk r.L i).view else view)), (49, eI .i64 ((r.n : Nat) : Int)), (50, eI .i64 (IntKind.wrap .i64 (((i : Nat) : Int) + 1)))]) (H' := [(15, ⟨[.vals (rowV gB r.L ++ rest)], 47⟩), (17, ⟨(cRun 15 r.n cap r.s0 r.s1 r.s2), 51⟩)]) (by kernel_rfl) ?_
            refine wo_nil ?_
            refine we_rest [3, 6, 7, 49, 50] [15, 17] (l' := [(3, eL 17 0), (6, eI .i64 ((best : Nat) : Int)), (7, eI .i64 (if (bk r.L i).view > view then (bk r.L i).view else view)), (49, eI .i64 ((r.n : Nat) : Int)), (50, eI .i64 (IntKind.wrap .i64 (((i : Nat) : Int) + 1)))]) (H' := [(15, ⟨[.vals (rowV gB r.L ++ rest)], 47⟩), (17, ⟨(cRun 15 r.n cap r.s0 r.s1 r.s2), 51⟩)]) (by kernel_rfl) (by kernel_rfl) ?_
            rw [show (IntKind.wrap .i64 (((i : Nat) : Int) + 1)) = ((i + 1 : Nat) : Int) from wrap_succ (by have := hr.small; omega)]
            exact we_round (i + 1, best, (if (bk r.L i).view > view then (bk r.L i).view else view)) (⟨by omega, hB.next hG (by rw [hr.ln0]; omega) (.inr ⟨rfl, .inr h5⟩)⟩) (by show r.n - (i + 1) < r.n - i; omega) rfl (sub_ofE [3, 6, 7, 49, 50] rfl) (sub_of [15, 17] rfl)
        · refine wa_takes (fuel := 0) [4, 5, 6, 7, 8, 9, 10, 11, 12, 13, 14, 15, 16, 17, 18, 19, 20, 21] [3, 6, 7, 8, 49, 50, 74] (listed' := #[true, true, true, true, true, true, true, true, true, true, true, true, true, true, true, true, true, true, true, true, true, true]) (l' := [(3, eL 17 0), (6, eI .i64 ((best : Nat) : Int)), (7, eI .i64 view), (8, eI .i64 ((i : Nat) : Int)), (49, eI .i64 ((r.n : Nat) : Int)), (50, eI .i64 ((i : Nat) : Int)), (74, eB false)]) (pk_then (pk_then (pk_block (pk_then (pk_then (pk_block (pk_then pk_body))))))) rfl (by kernel_rfl) ?_
          refine wa_done (by kernel_rfl) ?_
          refine we_rest [3, 6, 7, 8, 49, 50, 74] [15, 17] (l' := [(3, eL 17 0), (6, eI .i64 ((best : Nat) : Int)), (7, eI .i64 view), (8, eI .i64 ((i : Nat) : Int)), (49, eI .i64 ((r.n : Nat) : Int)), (50, eI .i64 ((i : Nat) : Int)), (74, eB false)]) (H' := [(15, ⟨[.vals (rowV gB r.L ++ rest)], 47⟩), (17, ⟨(cRun 15 r.n cap r.s0 r.s1 r.s2), 51⟩)]) (by kernel_rfl) (by kernel_rfl) ?_
          refine we_then ?_
          refine wc_false rfl ?_
          refine wc_skip ?_
          refine we_then ?_
          refine wc_reg [0, 1, 2, 3, 4, 5, 6, 7, 8, 9, 10] (by kernel_rfl) ?_
          refine wo_run [0, 1, 2, 3, 4, 5] [3, 6, 49, 50, 76, 80, 81] [15, 17] (l' := [(3, eL 17 0), (6, eI .i64 ((best : Nat) : Int)), (49, eI .i64 ((r.n : Nat) : Int)), (50, eI .i64 ((i : Nat) : Int)), (76, eI .i64 view), (80, .s (.a (.ls 15 0 r.n cap))), (81, eI .i64 ((i : Nat) : Int))]) (H' := [(15, ⟨[.vals (rowV gB r.L ++ rest)], 47⟩), (17, ⟨(cRun 15 r.n cap r.s0 r.s1 r.s2), 51⟩)]) (by kernel_rfl) ?_
          refine wo_op rfl rfl (ot_rd rfl (rd_indexL (e := 47) 6 i ((i : Nat) : Int) rfl (by kernel_rfl) (by kernel_rfl) rfl rfl (rfl) (by omega))) ?_
          refine wo_run [7] [3, 6, 49, 50, 76, 83] [15, 17] (l' := [(3, eL 17 0), (6, eI .i64 ((best : Nat) : Int)), (49, eI .i64 ((r.n : Nat) : Int)), (50, eI .i64 ((i : Nat) : Int)), (76, eI .i64 view), (83, eL 15 ((0 + i * 6) + 1))]) (H' := [(15, ⟨[.vals (rowV gB r.L ++ rest)], 47⟩), (17, ⟨(cRun 15 r.n cap r.s0 r.s1 r.s2), 51⟩)]) (by kernel_rfl) ?_
          refine wo_op rfl rfl (ot_rd rfl (rd_cellS (b := ⟨[.vals (rowV gB r.L ++ rest)], 47⟩) (.v (.int .i64 (bk r.L i).view)) rfl rfl rfl (by kernel_rfl) (fun ρ => view_at (hr.ln (by omega)) ρ))) ?_
          refine wo_run [9, 10] [3, 6, 7, 49, 50] [15, 17] (l' := [(3, eL 17 0), (6, eI .i64 ((best : Nat) : Int)), (7, eI .i64 (if (bk r.L i).view > view then (bk r.L i).view else view)), (49, eI .i64 ((r.n : Nat) : Int)), (50, eI .i64 ((i : Nat) : Int))]) (H' := [(15, ⟨[.vals (rowV gB r.L ++ rest)], 47⟩), (17, ⟨(cRun 15 r.n cap r.s0 r.s1 r.s2), 51⟩)]) (by kernel_rfl) ?_
          refine wo_nil ?_
          refine we_block ?_
          refine we_then ?_
          refine wc_reg [0, 1] (by kernel_rfl) ?_
          refine wo_run [0, 1] [3, 6, 7, 49, 50] [15, 17] (l' := [(3, eL 17 0), (6, eI .i64 ((best : Nat) : Int)), (7, eI .i64 (if (bk r.L i).view > view then (bk r.L i).view else view)), (49, eI .i64 ((r.n : Nat) : Int)), (50, eI .i64 (IntKind.wrap .i64 (((i : Nat) : Int) + 1)))]) (H' := [(15, ⟨[.vals (rowV gB r.L ++ rest)], 47⟩), (17, ⟨(cRun 15 r.n cap r.s0 r.s1 r.s2), 51⟩)]) (by kernel_rfl) ?_
          refine wo_nil ?_
          refine we_rest [3, 6, 7, 49, 50] [15, 17] (l' := [(3, eL 17 0), (6, eI .i64 ((best : Nat) : Int)), (7, eI .i64 (if (bk r.L i).view > view then (bk r.L i).view else view)), (49, eI .i64 ((r.n : Nat) : Int)), (50, eI .i64 (IntKind.wrap .i64 (((i : Nat) : Int) + 1)))]) (H' := [(15, ⟨[.vals (rowV gB r.L ++ rest)], 47⟩), (17, ⟨(cRun 15 r.n cap r.s0 r.s1 r.s2), 51⟩)]) (by kernel_rfl) (by kernel_rfl) ?_
          rw [show (IntKind.wrap .i64 (((i : Nat) : Int) + 1)) = ((i + 1 : Nat) : Int) from wrap_succ (by have := hr.small; omega)]
          exact we_round (i + 1, best, (if (bk r.L i).view > view then (bk r.L i).view else view)) (⟨by omega, hB.next hG (by rw [hr.ln0]; omega) (.inr ⟨rfl, .inl h4⟩)⟩) (by show r.n - (i + 1) < r.n - i; omega) rfl (sub_ofE [3, 6, 7, 49, 50] rfl) (sub_of [15, 17] rfl)
      · replace h3 := of_decide_eq_false h3
        refine wc_exit ?_
        refine we_then_exit ?_
        refine we_then_exit ?_
        refine we_block_exit ?_
        refine we_then ?_
        refine wc_seq ?_
        refine wc_seq ?_
        refine wc_reg [0] (by kernel_rfl) ?_
        refine wo_run [0] [3, 6, 7, 87] [15, 17] (l' := [(3, eL 17 0), (6, eI .i64 ((best : Nat) : Int)), (7, eI .i64 view), (87, eI .i64 0)]) (H' := [(15, ⟨[.vals (rowV gB r.L ++ rest)], 47⟩), (17, ⟨(cRun 15 r.n cap r.s0 r.s1 r.s2), 51⟩)]) (by kernel_rfl) ?_
        refine wo_nil ?_
        refine we_then ?_
        refine wc_block ?_
        refine wc_loopn 4 ?_
        refine wr_go ?_
        refine wc_seq ?_
        refine wc_reg [0] (by kernel_rfl) ?_
        refine wo_run [0] [3, 6, 7, 87, 88] [15, 17] (l' := [(3, eL 17 0), (6, eI .i64 ((best : Nat) : Int)), (7, eI .i64 view), (87, eI .i64 0), (88, eB true)]) (H' := [(15, ⟨[.vals (rowV gB r.L ++ rest)], 47⟩), (17, ⟨(cRun 15 r.n cap r.s0 r.s1 r.s2), 51⟩)]) (by kernel_rfl) ?_
        refine wo_nil ?_
        refine we_then ?_
        refine wc_seq ?_
        refine wc_true rfl ?_
        refine wc_skip ?_
        refine we_then ?_
        refine wc_seq ?_
        refine wc_block ?_
        refine wc_seq ?_
        refine wc_reg [0, 1] (by kernel_rfl) ?_
        refine wo_run [0, 1] [3, 6, 7, 9, 87] [15, 17] (l' := [(3, eL 17 0), (6, eI .i64 ((best : Nat) : Int)), (7, eI .i64 view), (9, eI .i64 0), (87, eI .i64 0)]) (H' := [(15, ⟨[.vals (rowV gB r.L ++ rest)], 47⟩), (17, ⟨(cRun 15 r.n cap r.s0 r.s1 r.s2), 51⟩)]) (by kernel_rfl) ?_
        refine wo_nil ?_
        refine we_then ?_
        refine wc_reg [0, 1, 2, 3, 4, 5, 6, 7, 8, 9] (by kernel_rfl) ?_
        refine wo_run [0, 1, 2, 3, 4, 5, 6, 7, 8, 9] [3, 6, 7, 87] [15, 17] (l' := [(3, eL 17 0), (6, eI .i64 ((best : Nat) : Int)), (7, eI .i64 (if r.s0.v > view then r.s0.v else view)), (87, eI .i64 0)]) (H' := [(15, ⟨[.vals (rowV gB r.L ++ rest)], 47⟩), (17, ⟨(cRun 15 r.n cap r.s0 r.s1 r.s2), 51⟩)]) (by kernel_rfl) ?_
        refine wo_nil ?_
        refine we_block ?_
        refine we_then ?_
        refine wc_reg [0, 1] (by kernel_rfl) ?_
        refine wo_run [0, 1] [3, 6, 7, 87] [15, 17] (l' := [(3, eL 17 0), (6, eI .i64 ((best : Nat) : Int)), (7, eI .i64 (if r.s0.v > view then r.s0.v else view)), (87, eI .i64 1)]) (H' := [(15, ⟨[.vals (rowV gB r.L ++ rest)], 47⟩), (17, ⟨(cRun 15 r.n cap r.s0 r.s1 r.s2), 51⟩)]) (by kernel_rfl) ?_
        refine wo_nil ?_
        refine we_unr ?_
        refine wr_go ?_
        refine wc_seq ?_
        refine wc_reg [0] (by kernel_rfl) ?_
        refine wo_run [0] [3, 6, 7, 87, 88] [15, 17] (l' := [(3, eL 17 0), (6, eI .i64 ((best : Nat) : Int)), (7, eI .i64 (if r.s0.v > view then r.s0.v else view)), (87, eI .i64 1), (88, eB true)]) (H' := [(15, ⟨[.vals (rowV gB r.L ++ rest)], 47⟩), (17, ⟨(cRun 15 r.n cap r.s0 r.s1 r.s2), 51⟩)]) (by kernel_rfl) ?_
        refine wo_nil ?_
        refine we_then ?_
        refine wc_seq ?_
        refine wc_true rfl ?_
        refine wc_skip ?_
        refine we_then ?_
        refine wc_seq ?_
        refine wc_block ?_
        refine wc_seq ?_
        refine wc_reg [0, 1] (by kernel_rfl) ?_
        refine wo_run [0, 1] [3, 6, 7, 9, 87] [15, 17] (l' := [(3, eL 17 0), (6, eI .i64 ((best : Nat) : Int)), (7, eI .i64 (if r.s0.v > view then r.s0.v else view)), (9, eI .i64 1), (87, eI .i64 1)]) (H' := [(15, ⟨[.vals (rowV gB r.L ++ rest)], 47⟩), (17, ⟨(cRun 15 r.n cap r.s0 r.s1 r.s2), 51⟩)]) (by kernel_rfl) ?_
        refine wo_nil ?_
        refine we_then ?_
        refine wc_reg [0, 1, 2, 3, 4, 5, 6, 7, 8, 9] (by kernel_rfl) ?_
        refine wo_run [0, 1, 2, 3, 4, 5, 6, 7, 8, 9] [3, 6, 7, 87] [15, 17] (l' := [(3, eL 17 0), (6, eI .i64 ((best : Nat) : Int)), (7, eI .i64 (if r.s1.v > (if r.s0.v > view then r.s0.v else view) then r.s1.v else (if r.s0.v > view then r.s0.v else view))), (87, eI .i64 1)]) (H' := [(15, ⟨[.vals (rowV gB r.L ++ rest)], 47⟩), (17, ⟨(cRun 15 r.n cap r.s0 r.s1 r.s2), 51⟩)]) (by kernel_rfl) ?_
        refine wo_nil ?_
        refine we_block ?_
        refine we_then ?_
        refine wc_reg [0, 1] (by kernel_rfl) ?_
        refine wo_run [0, 1] [3, 6, 7, 87] [15, 17] (l' := [(3, eL 17 0), (6, eI .i64 ((best : Nat) : Int)), (7, eI .i64 (if r.s1.v > (if r.s0.v > view then r.s0.v else view) then r.s1.v else (if r.s0.v > view then r.s0.v else view))), (87, eI .i64 2)]) (H' := [(15, ⟨[.vals (rowV gB r.L ++ rest)], 47⟩), (17, ⟨(cRun 15 r.n cap r.s0 r.s1 r.s2), 51⟩)]) (by kernel_rfl) ?_
        refine wo_nil ?_
        refine we_unr ?_
        refine wr_go ?_
        refine wc_seq ?_
        refine wc_reg [0] (by kernel_rfl) ?_
        refine wo_run [0] [3, 6, 7, 87, 88] [15, 17] (l' := [(3, eL 17 0), (6, eI .i64 ((best : Nat) : Int)), (7, eI .i64 (if r.s1.v > (if r.s0.v > view then r.s0.v else view) then r.s1.v else (if r.s0.v > view then r.s0.v else view))), (87, eI .i64 2), (88, eB true)]) (H' := [(15, ⟨[.vals (rowV gB r.L ++ rest)], 47⟩), (17, ⟨(cRun 15 r.n cap r.s0 r.s1 r.s2), 51⟩)]) (by kernel_rfl) ?_
        refine wo_nil ?_
        refine we_then ?_
        refine wc_seq ?_
        refine wc_true rfl ?_
        refine wc_skip ?_
        refine we_then ?_
        refine wc_seq ?_
        refine wc_block ?_
        refine wc_seq ?_
        refine wc_reg [0, 1] (by kernel_rfl) ?_
        refine wo_run [0, 1] [3, 6, 7, 9, 87] [15, 17] (l' := [(3, eL 17 0), (6, eI .i64 ((best : Nat) : Int)), (7, eI .i64 (if r.s1.v > (if r.s0.v > view then r.s0.v else view) then r.s1.v else (if r.s0.v > view then r.s0.v else view))), (9, eI .i64 2), (87, eI .i64 2)]) (H' := [(15, ⟨[.vals (rowV gB r.L ++ rest)], 47⟩), (17, ⟨(cRun 15 r.n cap r.s0 r.s1 r.s2), 51⟩)]) (by kernel_rfl) ?_
        refine wo_nil ?_
        refine we_then ?_
        refine wc_reg [0, 1, 2, 3, 4, 5, 6, 7, 8, 9] (by kernel_rfl) ?_
        refine wo_run [0, 1, 2, 3, 4, 5, 6, 7, 8, 9] [3, 6, 7, 87] [15, 17] (l' := [(3, eL 17 0), (6, eI .i64 ((best : Nat) : Int)), (7, eI .i64 (if r.s2.v > (if r.s1.v > (if r.s0.v > view then r.s0.v else view) then r.s1.v else (if r.s0.v > view then r.s0.v else view)) then r.s2.v else (if r.s1.v > (if r.s0.v > view then r.s0.v else view) then r.s1.v else (if r.s0.v > view then r.s0.v else view)))), (87, eI .i64 2)]) (H' := [(15, ⟨[.vals (rowV gB r.L ++ rest)], 47⟩), (17, ⟨(cRun 15 r.n cap r.s0 r.s1 r.s2), 51⟩)]) (by kernel_rfl) ?_
        refine wo_nil ?_
        refine we_block ?_
        refine we_then ?_
        refine wc_reg [0, 1] (by kernel_rfl) ?_
        refine wo_run [0, 1] [3, 6, 7, 87] [15, 17] (l' := [(3, eL 17 0), (6, eI .i64 ((best : Nat) : Int)), (7, eI .i64 (if r.s2.v > (if r.s1.v > (if r.s0.v > view then r.s0.v else view) then r.s1.v else (if r.s0.v > view then r.s0.v else view)) then r.s2.v else (if r.s1.v > (if r.s0.v > view then r.s0.v else view) then r.s1.v else (if r.s0.v > view then r.s0.v else view)))), (87, eI .i64 3)]) (H' := [(15, ⟨[.vals (rowV gB r.L ++ rest)], 47⟩), (17, ⟨(cRun 15 r.n cap r.s0 r.s1 r.s2), 51⟩)]) (by kernel_rfl) ?_
        refine wo_nil ?_
        refine we_unr ?_
        refine wr_go ?_
        refine wc_seq ?_
        refine wc_reg [0] (by kernel_rfl) ?_
        refine wo_run [0] [3, 6, 7, 87, 88] [15, 17] (l' := [(3, eL 17 0), (6, eI .i64 ((best : Nat) : Int)), (7, eI .i64 (if r.s2.v > (if r.s1.v > (if r.s0.v > view then r.s0.v else view) then r.s1.v else (if r.s0.v > view then r.s0.v else view)) then r.s2.v else (if r.s1.v > (if r.s0.v > view then r.s0.v else view) then r.s1.v else (if r.s0.v > view then r.s0.v else view)))), (87, eI .i64 3), (88, eB false)]) (H' := [(15, ⟨[.vals (rowV gB r.L ++ rest)], 47⟩), (17, ⟨(cRun 15 r.n cap r.s0 r.s1 r.s2), 51⟩)]) (by kernel_rfl) ?_
        refine wo_nil ?_
        refine we_then ?_
        refine wc_seq ?_
        refine wc_false rfl ?_
        refine wc_exit ?_
        refine we_then_exit ?_
        refine we_then_exit ?_
        refine we_block_exit ?_
        refine we_then ?_
        refine wc_seq ?_
        refine wc_seq ?_
        obtain rfl : i = r.n := by omega
        rw [← hr.ln0] at hB
        have hgo0 := hB.go3 hG
        refine wc_reg [0] (by kernel_rfl) ?_
        refine wo_run [0] [3, 6, 7, 10] [15, 17] (l' := [(3, eL 17 0), (6, eI .i64 ((best : Nat) : Int)), (7, eI .i64 (if r.s2.v > (if r.s1.v > (if r.s0.v > view then r.s0.v else view) then r.s1.v else (if r.s0.v > view then r.s0.v else view)) then r.s2.v else (if r.s1.v > (if r.s0.v > view then r.s0.v else view) then r.s1.v else (if r.s0.v > view then r.s0.v else view)))), (10, eI .i64 0)]) (H' := [(15, ⟨[.vals (rowV gB r.L ++ rest)], 47⟩), (17, ⟨(cRun 15 r.n cap r.s0 r.s1 r.s2), 51⟩)]) (by kernel_rfl) ?_
        refine wo_nil ?_
        refine we_then ?_
        refine wc_block ?_
        refine wc_rest [3, 6, 7, 10] [15, 17] (l' := [(3, eL 17 0), (6, eI .i64 ((best : Nat) : Int)), (7, eI .i64 (if r.s2.v > (if r.s1.v > (if r.s0.v > view then r.s0.v else view) then r.s1.v else (if r.s0.v > view then r.s0.v else view)) then r.s2.v else (if r.s1.v > (if r.s0.v > view then r.s0.v else view) then r.s1.v else (if r.s0.v > view then r.s0.v else view)))), (10, eI .i64 0)]) (H' := [(15, ⟨[.vals (rowV gB r.L ++ rest)], 47⟩), (17, ⟨(cRun 15 r.n cap r.s0 r.s1 r.s2), 51⟩)]) (by kernel_rfl) ?_
        refine wc_loop (τ := Run × Nat × List Value × Nat × Int × Nat) (fun ⟨g, capg, restg, bst, vw, c⟩ => g.ok capg restg ∧ GoI g bst vw c) (fun ⟨g, capg, restg, bst, vw, c⟩ => 3 - c) (fun _ => _) (fun ⟨g, capg, restg, bst, vw, c⟩ => [(3, eL 17 0), (6, eI .i64 ((bst : Nat) : Int)), (7, eI .i64 vw), (10, eI .i64 ((c : Nat) : Int))]) (fun ⟨g, capg, restg, bst, vw, c⟩ => [(15, ⟨[.vals (rowV gB g.L ++ restg)], 47⟩), (17, ⟨[.one (.ls 15 0 g.n capg), cI .i64 g.s0.e, cI .i64 g.s0.v, cI .i64 g.s0.l, .ints .u8 32 g.s0.d, cI .i64 g.s1.e, cI .i64 g.s1.v, cI .i64 g.s1.l, .ints .u8 32 g.s1.d, cI .i64 g.s2.e, cI .i64 g.s2.v, cI .i64 g.s2.l, .ints .u8 32 g.s2.d], 51⟩)]) (r, cap, rest, best, (if r.s2.v > (if r.s1.v > (if r.s0.v > view then r.s0.v else view) then r.s1.v else (if r.s0.v > view then r.s0.v else view)) then r.s2.v else (if r.s1.v > (if r.s0.v > view then r.s0.v else view) then r.s1.v else (if r.s0.v > view then r.s0.v else view))), 0) (⟨hr, hgo0⟩) rfl rfl rfl ?_
        rintro ⟨g, capg, restg, bst, vw, c⟩ hj
        obtain ⟨hg, hgo⟩ := hj
        have hbg : bst < g.n := hg.ln0 ▸ hgo.bl
        have hv0 := hgo.pos
        have hv1 := hgo.small
        have hc3 := hgo.c3
        have hgl := hgo.len
        rw [hg.ln0] at hgl
        refine wc_seq ?_
        refine wc_seq ?_
        refine wc_reg [0, 1] (by kernel_rfl) ?_
        refine wo_run [0, 1] [3, 6, 7, 10, 101] [15, 17] (l' := [(3, eL 17 0), (6, eI .i64 ((bst : Nat) : Int)), (7, eI .i64 vw), (10, eI .i64 ((c : Nat) : Int)), (101, eB (decide (((c : Nat) : Int) < 3)))]) (H' := [(15, ⟨[.vals (rowV gB g.L ++ restg)], 47⟩), (17, ⟨[.one (.ls 15 0 g.n capg), cI .i64 g.s0.e, cI .i64 g.s0.v, cI .i64 g.s0.l, .ints .u8 32 g.s0.d, cI .i64 g.s1.e, cI .i64 g.s1.v, cI .i64 g.s1.l, .ints .u8 32 g.s1.d, cI .i64 g.s2.e, cI .i64 g.s2.v, cI .i64 g.s2.l, .ints .u8 32 g.s2.d], 51⟩)]) (by kernel_rfl) ?_
        refine wo_nil ?_
        refine we_then ?_
        refine wc_cond rfl (fun h6 => ?_) (fun h6 => ?_)
        · replace h6 := of_decide_eq_true h6
          refine wc_skip ?_
          refine we_then ?_
          refine wc_seq ?_
          refine wc_block ?_
          refine wc_seq ?_
          refine wc_reg [0, 1, 2] (by kernel_rfl) ?_
          refine wo_run [0] [3, 6, 10, 104] [15, 17] (l' := [(3, eL 17 0), (6, eI .i64 ((bst : Nat) : Int)), (10, eI .i64 ((c : Nat) : Int)), (104, eI .i64 vw)]) (H' := [(15, ⟨[.vals (rowV gB g.L ++ restg)], 47⟩), (17, ⟨[.one (.ls 15 0 g.n capg), cI .i64 g.s0.e, cI .i64 g.s0.v, cI .i64 g.s0.l, .ints .u8 32 g.s0.d, cI .i64 g.s1.e, cI .i64 g.s1.v, cI .i64 g.s1.l, .ints .u8 32 g.s1.d, cI .i64 g.s2.e, cI .i64 g.s2.v, cI .i64 g.s2.l, .ints .u8 32 g.s2.d], 51⟩)]) (by kernel_rfl) ?_
          refine wo_op rfl rfl (ot_rd rfl (rd_recast (e := eI .i64 (IntKind.wrap .i64 (vw + 1))) (eI .i64 (vw + 1)) (by kernel_rfl) (congrArg (fun z => eI .i64 z) (i64_of (by omega) (by omega))))) ?_
          refine wo_run [2] [3, 6, 7, 10] [15, 17] (l' := [(3, eL 17 0), (6, eI .i64 ((bst : Nat) : Int)), (7, eI .i64 (vw + 1)), (10, eI .i64 ((c : Nat) : Int))]) (H' := [(15, ⟨[.vals (rowV gB g.L ++ restg)], 47⟩), (17, ⟨[.one (.ls 15 0 g.n capg), cI .i64 g.s0.e, cI .i64 g.s0.v, cI .i64 g.s0.l, .ints .u8 32 g.s0.d, cI .i64 g.s1.e, cI .i64 g.s1.v, cI .i64 g.s1.l, .ints .u8 32 g.s1.d, cI .i64 g.s2.e, cI .i64 g.s2.v, cI .i64 g.s2.l, .ints .u8 32 g.s2.d], 51⟩)]) (by kernel_rfl) ?_
          refine wo_nil ?_
          refine we_then ?_
          refine wc_seq ?_
          refine wc_reg [0, 1, 2, 3, 4, 5, 6, 7, 8, 9, 10, 11, 12] (by kernel_rfl) ?_
          refine wo_run [0, 1, 2, 3, 4, 5, 6] [3, 7, 10, 106, 110, 111, 112] [15, 17] (l' := [(3, eL 17 0), (7, eI .i64 (vw + 1)), (10, eI .i64 ((c : Nat) : Int)), (106, eL 17 0), (110, .s (.a (.ls 15 0 g.n capg))), (111, eI .i64 ((bst : Nat) : Int)), (112, eI .i64 (vw + 1))]) (H' := [(15, ⟨[.vals (rowV gB g.L ++ restg)], 47⟩), (17, ⟨[.one (.ls 15 0 g.n capg), cI .i64 g.s0.e, cI .i64 g.s0.v, cI .i64 g.s0.l, .ints .u8 32 g.s0.d, cI .i64 g.s1.e, cI .i64 g.s1.v, cI .i64 g.s1.l, .ints .u8 32 g.s1.d, cI .i64 g.s2.e, cI .i64 g.s2.v, cI .i64 g.s2.l, .ints .u8 32 g.s2.d], 51⟩)]) (by kernel_rfl) ?_
          refine wo_op rfl rfl (ot_rd rfl (rd_build (zc := z47) [cI .i64 ((bst : Nat) : Int), cI .i64 (vw + 1), cB false, cB false, cB false, cB false] rfl z47_zero' z47_ok (fun _ => rfl) (by kernel_rfl) (by kernel_rfl))) ?_
          refine wo_op rfl rfl (ot_bslice (e := 47) (d := 114) (n := 1) (size := 6) [cI .i64 0, cI .i64 0, cB false, cB false, cB false, cB false] [cI .i64 ((bst : Nat) : Int), cI .i64 (vw + 1), cB false, cB false, cB false, cB false] rfl rfl rfl (by kernel_rfl) rfl (by kernel_rfl) (okc_one (okc_one (okc_one (okc_one (okc_one (okc_one (okc_nil))))))) (fun _ => rfl) (by kernel_rfl) (by kernel_rfl)) ?_
          refine wo_ox rfl rfl (ox_append (t := 48) (e := 47) (size := 6) (bytes := 24) (m := 1) 115 15 g.n capg (rowV gB g.L) ([.int .i64 ((bst : Nat) : Int), .int .i64 (vw + 1), .bool false, .bool false, .bool false, .bool false]) restg [114, 17] rfl rfl (by kernel_rfl) (by kernel_rfl) (by kernel_rfl) (by decide) rfl rfl (by rw [rowV_length gB_len, hg.ln0]) (hg.restl) (hg.lenc) (hg.capm) (rfl) (fun u hu => by simp at hu; rcases hu with rfl | rfl | rfl | rfl | rfl | rfl <;> rfl) (news_own 114 [.int .i64 ((bst : Nat) : Int), .int .i64 (vw + 1), .bool false, .bool false, .bool false, .bool false] rfl rfl (fun _ => rfl)) (by simp only [maxLen]; omega) (by omega) (by kernel_rfl)) (fun ⟨c1, r1⟩ hx1 _ => ?_)
          refine wo_run [] [3, 7, 10, 106, 115] [17, 115] (l' := [(3, eL 17 0), (7, eI .i64 (vw + 1)), (10, eI .i64 ((c : Nat) : Int)), (106, eL 17 0), (115, .s (.a (.ls 115 0 (g.n + 1) c1)))]) (H' := [(17, ⟨[.one (.ls 15 0 g.n capg), cI .i64 g.s0.e, cI .i64 g.s0.v, cI .i64 g.s0.l, .ints .u8 32 g.s0.d, cI .i64 g.s1.e, cI .i64 g.s1.v, cI .i64 g.s1.l, .ints .u8 32 g.s1.d, cI .i64 g.s2.e, cI .i64 g.s2.v, cI .i64 g.s2.l, .ints .u8 32 g.s2.d], 51⟩), (115, ⟨[.vals (rowV gB g.L ++ [.int .i64 ((bst : Nat) : Int), .int .i64 (vw + 1), .bool false, .bool false, .bool false, .bool false] ++ r1)], 47⟩)]) (by kernel_rfl) ?_
          refine wo_run [10, 11, 12] [3, 7, 10] [17, 115] (l' := [(3, eL 17 0), (7, eI .i64 (vw + 1)), (10, eI .i64 ((c : Nat) : Int))]) (H' := [(17, ⟨[.one (.ls 115 0 (g.n + 1) c1), cI .i64 g.s0.e, cI .i64 g.s0.v, cI .i64 g.s0.l, .ints .u8 32 g.s0.d, cI .i64 g.s1.e, cI .i64 g.s1.v, cI .i64 g.s1.l, .ints .u8 32 g.s1.d, cI .i64 g.s2.e, cI .i64 g.s2.v, cI .i64 g.s2.l, .ints .u8 32 g.s2.d], 51⟩), (115, ⟨[.vals (rowV gB g.L ++ [.int .i64 ((bst : Nat) : Int), .int .i64 (vw + 1), .bool false, .bool false, .bool false, .bool false] ++ r1)], 47⟩)]) (by kernel_rfl) ?_
          refine wo_nil ?_
          refine we_then ?_
          refine wc_seq ?_
          have hp : (pushR g bst (vw + 1)).ok c1 r1 := push_ok hg hbg (by omega) hx1
          refine wc_flat 115 [.vals (rowV gB (pushR g bst (vw + 1)).L ++ r1)] rfl (fun ρ => congrArg (fun z => flat ρ [.vals z]) (push_row g bst (vw + 1) r1)) (okCs_vals _) ?_
          refine wc_rest [3, 7, 10] [17, 115] (l' := [(3, eL 17 0), (7, eI .i64 (vw + 1)), (10, eI .i64 ((c : Nat) : Int))]) (H' := [(17, ⟨[.one (.ls 115 0 ((pushR g bst (vw + 1)).n) c1), cI .i64 (pushR g bst (vw + 1)).s0.e, cI .i64 (pushR g bst (vw + 1)).s0.v, cI .i64 (pushR g bst (vw + 1)).s0.l, .ints .u8 32 ((pushR g bst (vw + 1)).s0.d), cI .i64 (pushR g bst (vw + 1)).s1.e, cI .i64 (pushR g bst (vw + 1)).s1.v, cI .i64 (pushR g bst (vw + 1)).s1.l, .ints .u8 32 ((pushR g bst (vw + 1)).s1.d), cI .i64 (pushR g bst (vw + 1)).s2.e, cI .i64 (pushR g bst (vw + 1)).s2.v, cI .i64 (pushR g bst (vw + 1)).s2.l, .ints .u8 32 ((pushR g bst (vw + 1)).s2.d)], 51⟩), (115, ⟨[.vals (rowV gB (pushR g bst (vw + 1)).L ++ r1)], 47⟩)]) (by kernel_rfl) ?_
          refine wc_reg [0, 1, 2, 3, 4, 5, 6] (by kernel_rfl) ?_
          refine wo_run [0, 1, 2, 3] [3, 7, 10, 121] [17, 115] (l' := [(3, eL 17 0), (7, eI .i64 (vw + 1)), (10, eI .i64 ((c : Nat) : Int)), (121, .s (.a (.ls 115 0 ((pushR g bst (vw + 1)).n) c1)))]) (H' := [(17, ⟨[.one (.ls 115 0 ((pushR g bst (vw + 1)).n) c1), cI .i64 (pushR g bst (vw + 1)).s0.e, cI .i64 (pushR g bst (vw + 1)).s0.v, cI .i64 (pushR g bst (vw + 1)).s0.l, .ints .u8 32 ((pushR g bst (vw + 1)).s0.d), cI .i64 (pushR g bst (vw + 1)).s1.e, cI .i64 (pushR g bst (vw + 1)).s1.v, cI .i64 (pushR g bst (vw + 1)).s1.l, .ints .u8 32 ((pushR g bst (vw + 1)).s1.d), cI .i64 (pushR g bst (vw + 1)).s2.e, cI .i64 (pushR g bst (vw + 1)).s2.v, cI .i64 (pushR g bst (vw + 1)).s2.l, .ints .u8 32 ((pushR g bst (vw + 1)).s2.d)], 51⟩), (115, ⟨[.vals (rowV gB (pushR g bst (vw + 1)).L ++ r1)], 47⟩)]) (by kernel_rfl) ?_
          refine wo_op rfl rfl (ot_rd rfl (rd_len rfl rfl rfl rfl (fun _ => by kernel_rfl))) ?_
          refine wo_op rfl rfl (ot_rd rfl (rd_recast (e := eI .i64 (IntKind.wrap .i64 ((((pushR g bst (vw + 1)).n : Nat) : Int) - 1))) (eI .i64 ((g.n : Nat) : Int)) (by kernel_rfl) (congrArg (fun z => eI .i64 z) (len_less (n := g.n) (by omega))))) ?_
          refine wo_run [6] [3, 6, 7, 10] [17, 115] (l' := [(3, eL 17 0), (6, eI .i64 ((g.n : Nat) : Int)), (7, eI .i64 (vw + 1)), (10, eI .i64 ((c : Nat) : Int))]) (H' := [(17, ⟨[.one (.ls 115 0 ((pushR g bst (vw + 1)).n) c1), cI .i64 (pushR g bst (vw + 1)).s0.e, cI .i64 (pushR g bst (vw + 1)).s0.v, cI .i64 (pushR g bst (vw + 1)).s0.l, .ints .u8 32 ((pushR g bst (vw + 1)).s0.d), cI .i64 (pushR g bst (vw + 1)).s1.e, cI .i64 (pushR g bst (vw + 1)).s1.v, cI .i64 (pushR g bst (vw + 1)).s1.l, .ints .u8 32 ((pushR g bst (vw + 1)).s1.d), cI .i64 (pushR g bst (vw + 1)).s2.e, cI .i64 (pushR g bst (vw + 1)).s2.v, cI .i64 (pushR g bst (vw + 1)).s2.l, .ints .u8 32 ((pushR g bst (vw + 1)).s2.d)], 51⟩), (115, ⟨[.vals (rowV gB (pushR g bst (vw + 1)).L ++ r1)], 47⟩)]) (by kernel_rfl) ?_
          refine wo_nil ?_
          refine we_then ?_
          refine wc_seq ?_
          refine wc_seq ?_
          refine wc_reg [0] (by kernel_rfl) ?_
          refine wo_run [0] [3, 6, 7, 10, 11] [17, 115] (l' := [(3, eL 17 0), (6, eI .i64 ((g.n : Nat) : Int)), (7, eI .i64 (vw + 1)), (10, eI .i64 ((c : Nat) : Int)), (11, eI .i64 0)]) (H' := [(17, ⟨[.one (.ls 115 0 ((pushR g bst (vw + 1)).n) c1), cI .i64 (pushR g bst (vw + 1)).s0.e, cI .i64 (pushR g bst (vw + 1)).s0.v, cI .i64 (pushR g bst (vw + 1)).s0.l, .ints .u8 32 ((pushR g bst (vw + 1)).s0.d), cI .i64 (pushR g bst (vw + 1)).s1.e, cI .i64 (pushR g bst (vw + 1)).s1.v, cI .i64 (pushR g bst (vw + 1)).s1.l, .ints .u8 32 ((pushR g bst (vw + 1)).s1.d), cI .i64 (pushR g bst (vw + 1)).s2.e, cI .i64 (pushR g bst (vw + 1)).s2.v, cI .i64 (pushR g bst (vw + 1)).s2.l, .ints .u8 32 ((pushR g bst (vw + 1)).s2.d)], 51⟩), (115, ⟨[.vals (rowV gB (pushR g bst (vw + 1)).L ++ r1)], 47⟩)]) (by kernel_rfl) ?_
          refine wo_nil ?_
          refine we_then ?_
          refine wc_block ?_
          refine wc_loopn 4 ?_
          refine wr_go ?_
          refine wc_seq ?_
          refine wc_seq ?_
          refine wc_reg [0, 1] (by kernel_rfl) ?_
          refine wo_run [0, 1] [3, 6, 7, 10, 11, 125] [17, 115] (l' := [(3, eL 17 0), (6, eI .i64 ((g.n : Nat) : Int)), (7, eI .i64 (vw + 1)), (10, eI .i64 ((c : Nat) : Int)), (11, eI .i64 0), (125, eB true)]) (H' := [(17, ⟨[.one (.ls 115 0 ((pushR g bst (vw + 1)).n) c1), cI .i64 (pushR g bst (vw + 1)).s0.e, cI .i64 (pushR g bst (vw + 1)).s0.v, cI .i64 (pushR g bst (vw + 1)).s0.l, .ints .u8 32 ((pushR g bst (vw + 1)).s0.d), cI .i64 (pushR g bst (vw + 1)).s1.e, cI .i64 (pushR g bst (vw + 1)).s1.v, cI .i64 (pushR g bst (vw + 1)).s1.l, .ints .u8 32 ((pushR g bst (vw + 1)).s1.d), cI .i64 (pushR g bst (vw + 1)).s2.e, cI .i64 (pushR g bst (vw + 1)).s2.v, cI .i64 (pushR g bst (vw + 1)).s2.l, .ints .u8 32 ((pushR g bst (vw + 1)).s2.d)], 51⟩), (115, ⟨[.vals (rowV gB (pushR g bst (vw + 1)).L ++ r1)], 47⟩)]) (by kernel_rfl) ?_
          refine wo_nil ?_
          refine we_then ?_
          refine wc_true rfl ?_
          refine wc_skip ?_
          refine we_then ?_
          refine wc_seq ?_
          refine wc_block ?_
          refine wc_reg [0, 1, 2, 3] (by kernel_rfl) ?_
          refine wo_run [0, 1, 2] [3, 6, 7, 10, 11, 128, 129, 130] [17, 115] (l' := [(3, eL 17 0), (6, eI .i64 ((g.n : Nat) : Int)), (7, eI .i64 (vw + 1)), (10, eI .i64 ((c : Nat) : Int)), (11, eI .i64 0), (128, eL 17 0), (129, eI .i64 0), (130, eI .i64 ((g.n : Nat) : Int))]) (H' := [(17, ⟨[.one (.ls 115 0 ((pushR g bst (vw + 1)).n) c1), cI .i64 (pushR g bst (vw + 1)).s0.e, cI .i64 (pushR g bst (vw + 1)).s0.v, cI .i64 (pushR g bst (vw + 1)).s0.l, .ints .u8 32 ((pushR g bst (vw + 1)).s0.d), cI .i64 (pushR g bst (vw + 1)).s1.e, cI .i64 (pushR g bst (vw + 1)).s1.v, cI .i64 (pushR g bst (vw + 1)).s1.l, .ints .u8 32 ((pushR g bst (vw + 1)).s1.d), cI .i64 (pushR g bst (vw + 1)).s2.e, cI .i64 (pushR g bst (vw + 1)).s2.v, cI .i64 (pushR g bst (vw + 1)).s2.l, .ints .u8 32 ((pushR g bst (vw + 1)).s2.d)], 51⟩), (115, ⟨[.vals (rowV gB (pushR g bst (vw + 1)).L ++ r1)], 47⟩)]) (by kernel_rfl) ?_
          refine wo_ox rfl rfl (ox_callm (τ := Unit) (φ := fun _ => True) [sL 100000 0, sI .i64 0, sI .i64 ((g.n : Nat) : Int)] [(100000, ⟨[.one (.ls 100001 0 ((pushR g bst (vw + 1)).n) c1), cI .i64 (pushR g bst (vw + 1)).s0.e, cI .i64 (pushR g bst (vw + 1)).s0.v, cI .i64 (pushR g bst (vw + 1)).s0.l, .ints .u8 32 ((pushR g bst (vw + 1)).s0.d), cI .i64 (pushR g bst (vw + 1)).s1.e, cI .i64 (pushR g bst (vw + 1)).s1.v, cI .i64 (pushR g bst (vw + 1)).s1.l, .ints .u8 32 ((pushR g bst (vw + 1)).s1.d), cI .i64 (pushR g bst (vw + 1)).s2.e, cI .i64 (pushR g bst (vw + 1)).s2.v, cI .i64 (pushR g bst (vw + 1)).s2.l, .ints .u8 32 ((pushR g bst (vw + 1)).s2.d)], 51⟩), (100001, ⟨[.vals (rowV gB (pushR g bst (vw + 1)).L ++ r1)], 47⟩)] [(100000, 17), (100001, 115)] [] [] (fun _ => .t []) (fun _ => [(100000, ⟨[.one (.ls 100001 0 ((voteR (pushR g bst (vw + 1)) 0 g.n).n) c1), cI .i64 (voteR (pushR g bst (vw + 1)) 0 g.n).s0.e, cI .i64 (voteR (pushR g bst (vw + 1)) 0 g.n).s0.v, cI .i64 (voteR (pushR g bst (vw + 1)) 0 g.n).s0.l, .ints .u8 32 ((voteR (pushR g bst (vw + 1)) 0 g.n).s0.d), cI .i64 (voteR (pushR g bst (vw + 1)) 0 g.n).s1.e, cI .i64 (voteR (pushR g bst (vw + 1)) 0 g.n).s1.v, cI .i64 (voteR (pushR g bst (vw + 1)) 0 g.n).s1.l, .ints .u8 32 ((voteR (pushR g bst (vw + 1)) 0 g.n).s1.d), cI .i64 (voteR (pushR g bst (vw + 1)) 0 g.n).s2.e, cI .i64 (voteR (pushR g bst (vw + 1)) 0 g.n).s2.v, cI .i64 (voteR (pushR g bst (vw + 1)) 0 g.n).s2.l, .ints .u8 32 ((voteR (pushR g bst (vw + 1)) 0 g.n).s2.d)], 51⟩), (100001, ⟨[.vals (rowV gB (voteR (pushR g bst (vw + 1)) 0 g.n).L ++ r1)], 47⟩)]) rfl (by kernel_rfl) rfl Try.func28 (by kernel_rfl) (by kernel_rfl) (by kernel_rfl) (by kernel_rfl) (by kernel_rfl) (by kernel_rfl) (⟨⟨by kernel_rfl, by kernel_rfl, by kernel_rfl⟩, ⟨⟨by kernel_rfl, by kernel_rfl, by kernel_rfl⟩, trivial⟩⟩) (fun _ => by kernel_rfl) (fun _ => by kernel_rfl) (fun _ _ => okv_nil) (fun ρ w _ hh => vote0_any (pushR g bst (vw + 1)) c1 r1 hp g.n (by first | exact Nat.lt_succ_self _ | (simp only [voteR_n]; exact Nat.lt_succ_self _)) w _ hh)) (fun _ _ _ => ?_)
          refine wo_run [] [3, 6, 7, 10, 11] [17, 115] (l' := [(3, eL 17 0), (6, eI .i64 ((g.n : Nat) : Int)), (7, eI .i64 (vw + 1)), (10, eI .i64 ((c : Nat) : Int)), (11, eI .i64 0)]) (H' := [(17, ⟨[.one (.ls 115 0 ((voteR (pushR g bst (vw + 1)) 0 g.n).n) c1), cI .i64 (voteR (pushR g bst (vw + 1)) 0 g.n).s0.e, cI .i64 (voteR (pushR g bst (vw + 1)) 0 g.n).s0.v, cI .i64 (voteR (pushR g bst (vw + 1)) 0 g.n).s0.l, .ints .u8 32 ((voteR (pushR g bst (vw + 1)) 0 g.n).s0.d), cI .i64 (voteR (pushR g bst (vw + 1)) 0 g.n).s1.e, cI .i64 (voteR (pushR g bst (vw + 1)) 0 g.n).s1.v, cI .i64 (voteR (pushR g bst (vw + 1)) 0 g.n).s1.l, .ints .u8 32 ((voteR (pushR g bst (vw + 1)) 0 g.n).s1.d), cI .i64 (voteR (pushR g bst (vw + 1)) 0 g.n).s2.e, cI .i64 (voteR (pushR g bst (vw + 1)) 0 g.n).s2.v, cI .i64 (voteR (pushR g bst (vw + 1)) 0 g.n).s2.l, .ints .u8 32 ((voteR (pushR g bst (vw + 1)) 0 g.n).s2.d)], 51⟩), (115, ⟨[.vals (rowV gB (voteR (pushR g bst (vw + 1)) 0 g.n).L ++ r1)], 47⟩)]) (by kernel_rfl) ?_
          refine wo_nil ?_
          refine we_block ?_
          refine we_then ?_
          refine wc_reg [0, 1, 2] (by kernel_rfl) ?_
          refine wo_run [0, 1, 2] [3, 6, 7, 10, 11] [17, 115] (l' := [(3, eL 17 0), (6, eI .i64 ((g.n : Nat) : Int)), (7, eI .i64 (vw + 1)), (10, eI .i64 ((c : Nat) : Int)), (11, eI .i64 1)]) (H' := [(17, ⟨[.one (.ls 115 0 ((voteR (pushR g bst (vw + 1)) 0 g.n).n) c1), cI .i64 (voteR (pushR g bst (vw + 1)) 0 g.n).s0.e, cI .i64 (voteR (pushR g bst (vw + 1)) 0 g.n).s0.v, cI .i64 (voteR (pushR g bst (vw + 1)) 0 g.n).s0.l, .ints .u8 32 ((voteR (pushR g bst (vw + 1)) 0 g.n).s0.d), cI .i64 (voteR (pushR g bst (vw + 1)) 0 g.n).s1.e, cI .i64 (voteR (pushR g bst (vw + 1)) 0 g.n).s1.v, cI .i64 (voteR (pushR g bst (vw + 1)) 0 g.n).s1.l, .ints .u8 32 ((voteR (pushR g bst (vw + 1)) 0 g.n).s1.d), cI .i64 (voteR (pushR g bst (vw + 1)) 0 g.n).s2.e, cI .i64 (voteR (pushR g bst (vw + 1)) 0 g.n).s2.v, cI .i64 (voteR (pushR g bst (vw + 1)) 0 g.n).s2.l, .ints .u8 32 ((voteR (pushR g bst (vw + 1)) 0 g.n).s2.d)], 51⟩), (115, ⟨[.vals (rowV gB (voteR (pushR g bst (vw + 1)) 0 g.n).L ++ r1)], 47⟩)]) (by kernel_rfl) ?_
          refine wo_nil ?_
          refine we_unr ?_
          refine wr_go ?_
          refine wc_seq ?_
          refine wc_seq ?_
          refine wc_reg [0, 1] (by kernel_rfl) ?_
          refine wo_run [0, 1] [3, 6, 7, 10, 11, 125] [17, 115] (l' := [(3, eL 17 0), (6, eI .i64 ((g.n : Nat) : Int)), (7, eI .i64 (vw + 1)), (10, eI .i64 ((c : Nat) : Int)), (11, eI .i64 1), (125, eB true)]) (H' := [(17, ⟨[.one (.ls 115 0 ((voteR (pushR g bst (vw + 1)) 0 g.n).n) c1), cI .i64 (voteR (pushR g bst (vw + 1)) 0 g.n).s0.e, cI .i64 (voteR (pushR g bst (vw + 1)) 0 g.n).s0.v, cI .i64 (voteR (pushR g bst (vw + 1)) 0 g.n).s0.l, .ints .u8 32 ((voteR (pushR g bst (vw + 1)) 0 g.n).s0.d), cI .i64 (voteR (pushR g bst (vw + 1)) 0 g.n).s1.e, cI .i64 (voteR (pushR g bst (vw + 1)) 0 g.n).s1.v, cI .i64 (voteR (pushR g bst (vw + 1)) 0 g.n).s1.l, .ints .u8 32 ((voteR (pushR g bst (vw + 1)) 0 g.n).s1.d), cI .i64 (voteR (pushR g bst (vw + 1)) 0 g.n).s2.e, cI .i64 (voteR (pushR g bst (vw + 1)) 0 g.n).s2.v, cI .i64 (voteR (pushR g bst (vw + 1)) 0 g.n).s2.l, .ints .u8 32 ((voteR (pushR g bst (vw + 1)) 0 g.n).s2.d)], 51⟩), (115, ⟨[.vals (rowV gB (voteR (pushR g bst (vw + 1)) 0 g.n).L ++ r1)], 47⟩)]) (by kernel_rfl) ?_
          refine wo_nil ?_
          refine we_then ?_
          refine wc_true rfl ?_
          refine wc_skip ?_
          refine we_then ?_
          refine wc_seq ?_
          refine wc_block ?_
          refine wc_reg [0, 1, 2, 3] (by kernel_rfl) ?_
          refine wo_run [0, 1, 2] [3, 6, 7, 10, 11, 128, 129, 130] [17, 115] (l' := [(3, eL 17 0), (6, eI .i64 ((g.n : Nat) : Int)), (7, eI .i64 (vw + 1)), (10, eI .i64 ((c : Nat) : Int)), (11, eI .i64 1), (128, eL 17 0), (129, eI .i64 1), (130, eI .i64 ((g.n : Nat) : Int))]) (H' := [(17, ⟨[.one (.ls 115 0 ((voteR (pushR g bst (vw + 1)) 0 g.n).n) c1), cI .i64 (voteR (pushR g bst (vw + 1)) 0 g.n).s0.e, cI .i64 (voteR (pushR g bst (vw + 1)) 0 g.n).s0.v, cI .i64 (voteR (pushR g bst (vw + 1)) 0 g.n).s0.l, .ints .u8 32 ((voteR (pushR g bst (vw + 1)) 0 g.n).s0.d), cI .i64 (voteR (pushR g bst (vw + 1)) 0 g.n).s1.e, cI .i64 (voteR (pushR g bst (vw + 1)) 0 g.n).s1.v, cI .i64 (voteR (pushR g bst (vw + 1)) 0 g.n).s1.l, .ints .u8 32 ((voteR (pushR g bst (vw + 1)) 0 g.n).s1.d), cI .i64 (voteR (pushR g bst (vw + 1)) 0 g.n).s2.e, cI .i64 (voteR (pushR g bst (vw + 1)) 0 g.n).s2.v, cI .i64 (voteR (pushR g bst (vw + 1)) 0 g.n).s2.l, .ints .u8 32 ((voteR (pushR g bst (vw + 1)) 0 g.n).s2.d)], 51⟩), (115, ⟨[.vals (rowV gB (voteR (pushR g bst (vw + 1)) 0 g.n).L ++ r1)], 47⟩)]) (by kernel_rfl) ?_
          refine wo_ox rfl rfl (ox_callm (τ := Unit) (φ := fun _ => True) [sL 100000 0, sI .i64 1, sI .i64 ((g.n : Nat) : Int)] [(100000, ⟨[.one (.ls 100001 0 ((voteR (pushR g bst (vw + 1)) 0 g.n).n) c1), cI .i64 (voteR (pushR g bst (vw + 1)) 0 g.n).s0.e, cI .i64 (voteR (pushR g bst (vw + 1)) 0 g.n).s0.v, cI .i64 (voteR (pushR g bst (vw + 1)) 0 g.n).s0.l, .ints .u8 32 ((voteR (pushR g bst (vw + 1)) 0 g.n).s0.d), cI .i64 (voteR (pushR g bst (vw + 1)) 0 g.n).s1.e, cI .i64 (voteR (pushR g bst (vw + 1)) 0 g.n).s1.v, cI .i64 (voteR (pushR g bst (vw + 1)) 0 g.n).s1.l, .ints .u8 32 ((voteR (pushR g bst (vw + 1)) 0 g.n).s1.d), cI .i64 (voteR (pushR g bst (vw + 1)) 0 g.n).s2.e, cI .i64 (voteR (pushR g bst (vw + 1)) 0 g.n).s2.v, cI .i64 (voteR (pushR g bst (vw + 1)) 0 g.n).s2.l, .ints .u8 32 ((voteR (pushR g bst (vw + 1)) 0 g.n).s2.d)], 51⟩), (100001, ⟨[.vals (rowV gB (voteR (pushR g bst (vw + 1)) 0 g.n).L ++ r1)], 47⟩)] [(100000, 17), (100001, 115)] [] [] (fun _ => .t []) (fun _ => [(100000, ⟨[.one (.ls 100001 0 ((voteR (voteR (pushR g bst (vw + 1)) 0 g.n) 1 g.n).n) c1), cI .i64 (voteR (voteR (pushR g bst (vw + 1)) 0 g.n) 1 g.n).s0.e, cI .i64 (voteR (voteR (pushR g bst (vw + 1)) 0 g.n) 1 g.n).s0.v, cI .i64 (voteR (voteR (pushR g bst (vw + 1)) 0 g.n) 1 g.n).s0.l, .ints .u8 32 ((voteR (voteR (pushR g bst (vw + 1)) 0 g.n) 1 g.n).s0.d), cI .i64 (voteR (voteR (pushR g bst (vw + 1)) 0 g.n) 1 g.n).s1.e, cI .i64 (voteR (voteR (pushR g bst (vw + 1)) 0 g.n) 1 g.n).s1.v, cI .i64 (voteR (voteR (pushR g bst (vw + 1)) 0 g.n) 1 g.n).s1.l, .ints .u8 32 ((voteR (voteR (pushR g bst (vw + 1)) 0 g.n) 1 g.n).s1.d), cI .i64 (voteR (voteR (pushR g bst (vw + 1)) 0 g.n) 1 g.n).s2.e, cI .i64 (voteR (voteR (pushR g bst (vw + 1)) 0 g.n) 1 g.n).s2.v, cI .i64 (voteR (voteR (pushR g bst (vw + 1)) 0 g.n) 1 g.n).s2.l, .ints .u8 32 ((voteR (voteR (pushR g bst (vw + 1)) 0 g.n) 1 g.n).s2.d)], 51⟩), (100001, ⟨[.vals (rowV gB (voteR (voteR (pushR g bst (vw + 1)) 0 g.n) 1 g.n).L ++ r1)], 47⟩)]) rfl (by kernel_rfl) rfl Try.func28 (by kernel_rfl) (by kernel_rfl) (by kernel_rfl) (by kernel_rfl) (by kernel_rfl) (by kernel_rfl) (⟨⟨by kernel_rfl, by kernel_rfl, by kernel_rfl⟩, ⟨⟨by kernel_rfl, by kernel_rfl, by kernel_rfl⟩, trivial⟩⟩) (fun _ => by kernel_rfl) (fun _ => by kernel_rfl) (fun _ _ => okv_nil) (fun ρ w _ hh => vote1_any (voteR (pushR g bst (vw + 1)) 0 g.n) c1 r1 (voteR_ok hp (by first | exact Nat.lt_succ_self _ | (simp only [voteR_n]; exact Nat.lt_succ_self _))) g.n (by first | exact Nat.lt_succ_self _ | (simp only [voteR_n]; exact Nat.lt_succ_self _)) w _ hh)) (fun _ _ _ => ?_)
          refine wo_run [] [3, 6, 7, 10, 11] [17, 115] (l' := [(3, eL 17 0), (6, eI .i64 ((g.n : Nat) : Int)), (7, eI .i64 (vw + 1)), (10, eI .i64 ((c : Nat) : Int)), (11, eI .i64 1)]) (H' := [(17, ⟨[.one (.ls 115 0 ((voteR (voteR (pushR g bst (vw + 1)) 0 g.n) 1 g.n).n) c1), cI .i64 (voteR (voteR (pushR g bst (vw + 1)) 0 g.n) 1 g.n).s0.e, cI .i64 (voteR (voteR (pushR g bst (vw + 1)) 0 g.n) 1 g.n).s0.v, cI .i64 (voteR (voteR (pushR g bst (vw + 1)) 0 g.n) 1 g.n).s0.l, .ints .u8 32 ((voteR (voteR (pushR g bst (vw + 1)) 0 g.n) 1 g.n).s0.d), cI .i64 (voteR (voteR (pushR g bst (vw + 1)) 0 g.n) 1 g.n).s1.e, cI .i64 (voteR (voteR (pushR g bst (vw + 1)) 0 g.n) 1 g.n).s1.v, cI .i64 (voteR (voteR (pushR g bst (vw + 1)) 0 g.n) 1 g.n).s1.l, .ints .u8 32 ((voteR (voteR (pushR g bst (vw + 1)) 0 g.n) 1 g.n).s1.d), cI .i64 (voteR (voteR (pushR g bst (vw + 1)) 0 g.n) 1 g.n).s2.e, cI .i64 (voteR (voteR (pushR g bst (vw + 1)) 0 g.n) 1 g.n).s2.v, cI .i64 (voteR (voteR (pushR g bst (vw + 1)) 0 g.n) 1 g.n).s2.l, .ints .u8 32 ((voteR (voteR (pushR g bst (vw + 1)) 0 g.n) 1 g.n).s2.d)], 51⟩), (115, ⟨[.vals (rowV gB (voteR (voteR (pushR g bst (vw + 1)) 0 g.n) 1 g.n).L ++ r1)], 47⟩)]) (by kernel_rfl) ?_
          refine wo_nil ?_
          refine we_block ?_
          refine we_then ?_
          refine wc_reg [0, 1, 2] (by kernel_rfl) ?_
          refine wo_run [0, 1, 2] [3, 6, 7, 10, 11] [17, 115] (l' := [(3, eL 17 0), (6, eI .i64 ((g.n : Nat) : Int)), (7, eI .i64 (vw + 1)), (10, eI .i64 ((c : Nat) : Int)), (11, eI .i64 2)]) (H' := [(17, ⟨[.one (.ls 115 0 ((voteR (voteR (pushR g bst (vw + 1)) 0 g.n) 1 g.n).n) c1), cI .i64 (voteR (voteR (pushR g bst (vw + 1)) 0 g.n) 1 g.n).s0.e, cI .i64 (voteR (voteR (pushR g bst (vw + 1)) 0 g.n) 1 g.n).s0.v, cI .i64 (voteR (voteR (pushR g bst (vw + 1)) 0 g.n) 1 g.n).s0.l, .ints .u8 32 ((voteR (voteR (pushR g bst (vw + 1)) 0 g.n) 1 g.n).s0.d), cI .i64 (voteR (voteR (pushR g bst (vw + 1)) 0 g.n) 1 g.n).s1.e, cI .i64 (voteR (voteR (pushR g bst (vw + 1)) 0 g.n) 1 g.n).s1.v, cI .i64 (voteR (voteR (pushR g bst (vw + 1)) 0 g.n) 1 g.n).s1.l, .ints .u8 32 ((voteR (voteR (pushR g bst (vw + 1)) 0 g.n) 1 g.n).s1.d), cI .i64 (voteR (voteR (pushR g bst (vw + 1)) 0 g.n) 1 g.n).s2.e, cI .i64 (voteR (voteR (pushR g bst (vw + 1)) 0 g.n) 1 g.n).s2.v, cI .i64 (voteR (voteR (pushR g bst (vw + 1)) 0 g.n) 1 g.n).s2.l, .ints .u8 32 ((voteR (voteR (pushR g bst (vw + 1)) 0 g.n) 1 g.n).s2.d)], 51⟩), (115, ⟨[.vals (rowV gB (voteR (voteR (pushR g bst (vw + 1)) 0 g.n) 1 g.n).L ++ r1)], 47⟩)]) (by kernel_rfl) ?_
          refine wo_nil ?_
          refine we_unr ?_
          refine wr_go ?_
          refine wc_seq ?_
          refine wc_seq ?_
          refine wc_reg [0, 1] (by kernel_rfl) ?_
          refine wo_run [0, 1] [3, 6, 7, 10, 11, 125] [17, 115] (l' := [(3, eL 17 0), (6, eI .i64 ((g.n : Nat) : Int)), (7, eI .i64 (vw + 1)), (10, eI .i64 ((c : Nat) : Int)), (11, eI .i64 2), (125, eB true)]) (H' := [(17, ⟨[.one (.ls 115 0 ((voteR (voteR (pushR g bst (vw + 1)) 0 g.n) 1 g.n).n) c1), cI .i64 (voteR (voteR (pushR g bst (vw + 1)) 0 g.n) 1 g.n).s0.e, cI .i64 (voteR (voteR (pushR g bst (vw + 1)) 0 g.n) 1 g.n).s0.v, cI .i64 (voteR (voteR (pushR g bst (vw + 1)) 0 g.n) 1 g.n).s0.l, .ints .u8 32 ((voteR (voteR (pushR g bst (vw + 1)) 0 g.n) 1 g.n).s0.d), cI .i64 (voteR (voteR (pushR g bst (vw + 1)) 0 g.n) 1 g.n).s1.e, cI .i64 (voteR (voteR (pushR g bst (vw + 1)) 0 g.n) 1 g.n).s1.v, cI .i64 (voteR (voteR (pushR g bst (vw + 1)) 0 g.n) 1 g.n).s1.l, .ints .u8 32 ((voteR (voteR (pushR g bst (vw + 1)) 0 g.n) 1 g.n).s1.d), cI .i64 (voteR (voteR (pushR g bst (vw + 1)) 0 g.n) 1 g.n).s2.e, cI .i64 (voteR (voteR (pushR g bst (vw + 1)) 0 g.n) 1 g.n).s2.v, cI .i64 (voteR (voteR (pushR g bst (vw + 1)) 0 g.n) 1 g.n).s2.l, .ints .u8 32 ((voteR (voteR (pushR g bst (vw + 1)) 0 g.n) 1 g.n).s2.d)], 51⟩), (115, ⟨[.vals (rowV gB (voteR (voteR (pushR g bst (vw + 1)) 0 g.n) 1 g.n).L ++ r1)], 47⟩)]) (by kernel_rfl) ?_
          refine wo_nil ?_
          refine we_then ?_
          refine wc_true rfl ?_
          refine wc_skip ?_
          refine we_then ?_
          refine wc_seq ?_
          refine wc_block ?_
          refine wc_reg [0, 1, 2, 3] (by kernel_rfl) ?_
          refine wo_run [0, 1, 2] [3, 6, 7, 10, 11, 128, 129, 130] [17, 115] (l' := [(3, eL 17 0), (6, eI .i64 ((g.n : Nat) : Int)), (7, eI .i64 (vw + 1)), (10, eI .i64 ((c : Nat) : Int)), (11, eI .i64 2), (128, eL 17 0), (129, eI .i64 2), (130, eI .i64 ((g.n : Nat) : Int))]) (H' := [(17, ⟨[.one (.ls 115 0 ((voteR (voteR (pushR g bst (vw + 1)) 0 g.n) 1 g.n).n) c1), cI .i64 (voteR (voteR (pushR g bst (vw + 1)) 0 g.n) 1 g.n).s0.e, cI .i64 (voteR (voteR (pushR g bst (vw + 1)) 0 g.n) 1 g.n).s0.v, cI .i64 (voteR (voteR (pushR g bst (vw + 1)) 0 g.n) 1 g.n).s0.l, .ints .u8 32 ((voteR (voteR (pushR g bst (vw + 1)) 0 g.n) 1 g.n).s0.d), cI .i64 (voteR (voteR (pushR g bst (vw + 1)) 0 g.n) 1 g.n).s1.e, cI .i64 (voteR (voteR (pushR g bst (vw + 1)) 0 g.n) 1 g.n).s1.v, cI .i64 (voteR (voteR (pushR g bst (vw + 1)) 0 g.n) 1 g.n).s1.l, .ints .u8 32 ((voteR (voteR (pushR g bst (vw + 1)) 0 g.n) 1 g.n).s1.d), cI .i64 (voteR (voteR (pushR g bst (vw + 1)) 0 g.n) 1 g.n).s2.e, cI .i64 (voteR (voteR (pushR g bst (vw + 1)) 0 g.n) 1 g.n).s2.v, cI .i64 (voteR (voteR (pushR g bst (vw + 1)) 0 g.n) 1 g.n).s2.l, .ints .u8 32 ((voteR (voteR (pushR g bst (vw + 1)) 0 g.n) 1 g.n).s2.d)], 51⟩), (115, ⟨[.vals (rowV gB (voteR (voteR (pushR g bst (vw + 1)) 0 g.n) 1 g.n).L ++ r1)], 47⟩)]) (by kernel_rfl) ?_
          refine wo_ox rfl rfl (ox_callm (τ := Unit) (φ := fun _ => True) [sL 100000 0, sI .i64 2, sI .i64 ((g.n : Nat) : Int)] [(100000, ⟨[.one (.ls 100001 0 ((voteR (voteR (pushR g bst (vw + 1)) 0 g.n) 1 g.n).n) c1), cI .i64 (voteR (voteR (pushR g bst (vw + 1)) 0 g.n) 1 g.n).s0.e, cI .i64 (voteR (voteR (pushR g bst (vw + 1)) 0 g.n) 1 g.n).s0.v, cI .i64 (voteR (voteR (pushR g bst (vw + 1)) 0 g.n) 1 g.n).s0.l, .ints .u8 32 ((voteR (voteR (pushR g bst (vw + 1)) 0 g.n) 1 g.n).s0.d), cI .i64 (voteR (voteR (pushR g bst (vw + 1)) 0 g.n) 1 g.n).s1.e, cI .i64 (voteR (voteR (pushR g bst (vw + 1)) 0 g.n) 1 g.n).s1.v, cI .i64 (voteR (voteR (pushR g bst (vw + 1)) 0 g.n) 1 g.n).s1.l, .ints .u8 32 ((voteR (voteR (pushR g bst (vw + 1)) 0 g.n) 1 g.n).s1.d), cI .i64 (voteR (voteR (pushR g bst (vw + 1)) 0 g.n) 1 g.n).s2.e, cI .i64 (voteR (voteR (pushR g bst (vw + 1)) 0 g.n) 1 g.n).s2.v, cI .i64 (voteR (voteR (pushR g bst (vw + 1)) 0 g.n) 1 g.n).s2.l, .ints .u8 32 ((voteR (voteR (pushR g bst (vw + 1)) 0 g.n) 1 g.n).s2.d)], 51⟩), (100001, ⟨[.vals (rowV gB (voteR (voteR (pushR g bst (vw + 1)) 0 g.n) 1 g.n).L ++ r1)], 47⟩)] [(100000, 17), (100001, 115)] [] [] (fun _ => .t []) (fun _ => [(100000, ⟨[.one (.ls 100001 0 ((voteR (voteR (voteR (pushR g bst (vw + 1)) 0 g.n) 1 g.n) 2 g.n).n) c1), cI .i64 (voteR (voteR (voteR (pushR g bst (vw + 1)) 0 g.n) 1 g.n) 2 g.n).s0.e, cI .i64 (voteR (voteR (voteR (pushR g bst (vw + 1)) 0 g.n) 1 g.n) 2 g.n).s0.v, cI .i64 (voteR (voteR (voteR (pushR g bst (vw + 1)) 0 g.n) 1 g.n) 2 g.n).s0.l, .ints .u8 32 ((voteR (voteR (voteR (pushR g bst (vw + 1)) 0 g.n) 1 g.n) 2 g.n).s0.d), cI .i64 (voteR (voteR (voteR (pushR g bst (vw + 1)) 0 g.n) 1 g.n) 2 g.n).s1.e, cI .i64 (voteR (voteR (voteR (pushR g bst (vw + 1)) 0 g.n) 1 g.n) 2 g.n).s1.v, cI .i64 (voteR (voteR (voteR (pushR g bst (vw + 1)) 0 g.n) 1 g.n) 2 g.n).s1.l, .ints .u8 32 ((voteR (voteR (voteR (pushR g bst (vw + 1)) 0 g.n) 1 g.n) 2 g.n).s1.d), cI .i64 (voteR (voteR (voteR (pushR g bst (vw + 1)) 0 g.n) 1 g.n) 2 g.n).s2.e, cI .i64 (voteR (voteR (voteR (pushR g bst (vw + 1)) 0 g.n) 1 g.n) 2 g.n).s2.v, cI .i64 (voteR (voteR (voteR (pushR g bst (vw + 1)) 0 g.n) 1 g.n) 2 g.n).s2.l, .ints .u8 32 ((voteR (voteR (voteR (pushR g bst (vw + 1)) 0 g.n) 1 g.n) 2 g.n).s2.d)], 51⟩), (100001, ⟨[.vals (rowV gB (voteR (voteR (voteR (pushR g bst (vw + 1)) 0 g.n) 1 g.n) 2 g.n).L ++ r1)], 47⟩)]) rfl (by kernel_rfl) rfl Try.func28 (by kernel_rfl) (by kernel_rfl) (by kernel_rfl) (by kernel_rfl) (by kernel_rfl) (by kernel_rfl) (⟨⟨by kernel_rfl, by kernel_rfl, by kernel_rfl⟩, ⟨⟨by kernel_rfl, by kernel_rfl, by kernel_rfl⟩, trivial⟩⟩) (fun _ => by kernel_rfl) (fun _ => by kernel_rfl) (fun _ _ => okv_nil) (fun ρ w _ hh => vote2_any (voteR (voteR (pushR g bst (vw + 1)) 0 g.n) 1 g.n) c1 r1 (voteR_ok (voteR_ok hp (by first | exact Nat.lt_succ_self _ | (simp only [voteR_n]; exact Nat.lt_succ_self _))) (by first | exact Nat.lt_succ_self _ | (simp only [voteR_n]; exact Nat.lt_succ_self _))) g.n (by first | exact Nat.lt_succ_self _ | (simp only [voteR_n]; exact Nat.lt_succ_self _)) w _ hh)) (fun _ _ _ => ?_)
          refine wo_run [] [3, 6, 7, 10, 11] [17, 115] (l' := [(3, eL 17 0), (6, eI .i64 ((g.n : Nat) : Int)), (7, eI .i64 (vw + 1)), (10, eI .i64 ((c : Nat) : Int)), (11, eI .i64 2)]) (H' := [(17, ⟨[.one (.ls 115 0 ((voteR (voteR (voteR (pushR g bst (vw + 1)) 0 g.n) 1 g.n) 2 g.n).n) c1), cI .i64 (voteR (voteR (voteR (pushR g bst (vw + 1)) 0 g.n) 1 g.n) 2 g.n).s0.e, cI .i64 (voteR (voteR (voteR (pushR g bst (vw + 1)) 0 g.n) 1 g.n) 2 g.n).s0.v, cI .i64 (voteR (voteR (voteR (pushR g bst (vw + 1)) 0 g.n) 1 g.n) 2 g.n).s0.l, .ints .u8 32 ((voteR (voteR (voteR (pushR g bst (vw + 1)) 0 g.n) 1 g.n) 2 g.n).s0.d), cI .i64 (voteR (voteR (voteR (pushR g bst (vw + 1)) 0 g.n) 1 g.n) 2 g.n).s1.e, cI .i64 (voteR (voteR (voteR (pushR g bst (vw + 1)) 0 g.n) 1 g.n) 2 g.n).s1.v, cI .i64 (voteR (voteR (voteR (pushR g bst (vw + 1)) 0 g.n) 1 g.n) 2 g.n).s1.l, .ints .u8 32 ((voteR (voteR (voteR (pushR g bst (vw + 1)) 0 g.n) 1 g.n) 2 g.n).s1.d), cI .i64 (voteR (voteR (voteR (pushR g bst (vw + 1)) 0 g.n) 1 g.n) 2 g.n).s2.e, cI .i64 (voteR (voteR (voteR (pushR g bst (vw + 1)) 0 g.n) 1 g.n) 2 g.n).s2.v, cI .i64 (voteR (voteR (voteR (pushR g bst (vw + 1)) 0 g.n) 1 g.n) 2 g.n).s2.l, .ints .u8 32 ((voteR (voteR (voteR (pushR g bst (vw + 1)) 0 g.n) 1 g.n) 2 g.n).s2.d)], 51⟩), (115, ⟨[.vals (rowV gB (voteR (voteR (voteR (pushR g bst (vw + 1)) 0 g.n) 1 g.n) 2 g.n).L ++ r1)], 47⟩)]) (by kernel_rfl) ?_
          refine wo_nil ?_
          refine we_block ?_
          refine we_then ?_
          refine wc_reg [0, 1, 2] (by kernel_rfl) ?_
          refine wo_run [0, 1, 2] [3, 6, 7, 10, 11] [17, 115] (l' := [(3, eL 17 0), (6, eI .i64 ((g.n : Nat) : Int)), (7, eI .i64 (vw + 1)), (10, eI .i64 ((c : Nat) : Int)), (11, eI .i64 3)]) (H' := [(17, ⟨[.one (.ls 115 0 ((voteR (voteR (voteR (pushR g bst (vw + 1)) 0 g.n) 1 g.n) 2 g.n).n) c1), cI .i64 (voteR (voteR (voteR (pushR g bst (vw + 1)) 0 g.n) 1 g.n) 2 g.n).s0.e, cI .i64 (voteR (voteR (voteR (pushR g bst (vw + 1)) 0 g.n) 1 g.n) 2 g.n).s0.v, cI .i64 (voteR (voteR (voteR (pushR g bst (vw + 1)) 0 g.n) 1 g.n) 2 g.n).s0.l, .ints .u8 32 ((voteR (voteR (voteR (pushR g bst (vw + 1)) 0 g.n) 1 g.n) 2 g.n).s0.d), cI .i64 (voteR (voteR (voteR (pushR g bst (vw + 1)) 0 g.n) 1 g.n) 2 g.n).s1.e, cI .i64 (voteR (voteR (voteR (pushR g bst (vw + 1)) 0 g.n) 1 g.n) 2 g.n).s1.v, cI .i64 (voteR (voteR (voteR (pushR g bst (vw + 1)) 0 g.n) 1 g.n) 2 g.n).s1.l, .ints .u8 32 ((voteR (voteR (voteR (pushR g bst (vw + 1)) 0 g.n) 1 g.n) 2 g.n).s1.d), cI .i64 (voteR (voteR (voteR (pushR g bst (vw + 1)) 0 g.n) 1 g.n) 2 g.n).s2.e, cI .i64 (voteR (voteR (voteR (pushR g bst (vw + 1)) 0 g.n) 1 g.n) 2 g.n).s2.v, cI .i64 (voteR (voteR (voteR (pushR g bst (vw + 1)) 0 g.n) 1 g.n) 2 g.n).s2.l, .ints .u8 32 ((voteR (voteR (voteR (pushR g bst (vw + 1)) 0 g.n) 1 g.n) 2 g.n).s2.d)], 51⟩), (115, ⟨[.vals (rowV gB (voteR (voteR (voteR (pushR g bst (vw + 1)) 0 g.n) 1 g.n) 2 g.n).L ++ r1)], 47⟩)]) (by kernel_rfl) ?_
          refine wo_nil ?_
          refine we_unr ?_
          refine wr_go ?_
          refine wc_seq ?_
          refine wc_seq ?_
          refine wc_reg [0, 1] (by kernel_rfl) ?_
          refine wo_run [0, 1] [3, 6, 7, 10, 11, 125] [17, 115] (l' := [(3, eL 17 0), (6, eI .i64 ((g.n : Nat) : Int)), (7, eI .i64 (vw + 1)), (10, eI .i64 ((c : Nat) : Int)), (11, eI .i64 3), (125, eB false)]) (H' := [(17, ⟨[.one (.ls 115 0 ((voteR (voteR (voteR (pushR g bst (vw + 1)) 0 g.n) 1 g.n) 2 g.n).n) c1), cI .i64 (voteR (voteR (voteR (pushR g bst (vw + 1)) 0 g.n) 1 g.n) 2 g.n).s0.e, cI .i64 (voteR (voteR (voteR (pushR g bst (vw + 1)) 0 g.n) 1 g.n) 2 g.n).s0.v, cI .i64 (voteR (voteR (voteR (pushR g bst (vw + 1)) 0 g.n) 1 g.n) 2 g.n).s0.l, .ints .u8 32 ((voteR (voteR (voteR (pushR g bst (vw + 1)) 0 g.n) 1 g.n) 2 g.n).s0.d), cI .i64 (voteR (voteR (voteR (pushR g bst (vw + 1)) 0 g.n) 1 g.n) 2 g.n).s1.e, cI .i64 (voteR (voteR (voteR (pushR g bst (vw + 1)) 0 g.n) 1 g.n) 2 g.n).s1.v, cI .i64 (voteR (voteR (voteR (pushR g bst (vw + 1)) 0 g.n) 1 g.n) 2 g.n).s1.l, .ints .u8 32 ((voteR (voteR (voteR (pushR g bst (vw + 1)) 0 g.n) 1 g.n) 2 g.n).s1.d), cI .i64 (voteR (voteR (voteR (pushR g bst (vw + 1)) 0 g.n) 1 g.n) 2 g.n).s2.e, cI .i64 (voteR (voteR (voteR (pushR g bst (vw + 1)) 0 g.n) 1 g.n) 2 g.n).s2.v, cI .i64 (voteR (voteR (voteR (pushR g bst (vw + 1)) 0 g.n) 1 g.n) 2 g.n).s2.l, .ints .u8 32 ((voteR (voteR (voteR (pushR g bst (vw + 1)) 0 g.n) 1 g.n) 2 g.n).s2.d)], 51⟩), (115, ⟨[.vals (rowV gB (voteR (voteR (voteR (pushR g bst (vw + 1)) 0 g.n) 1 g.n) 2 g.n).L ++ r1)], 47⟩)]) (by kernel_rfl) ?_
          refine wo_nil ?_
          refine we_then ?_
          refine wc_false rfl ?_
          refine wc_exit ?_
          refine we_then_exit ?_
          refine we_then_exit ?_
          refine we_block_exit ?_
          refine we_then ?_
          refine wc_seq ?_
          have hst := hgo.step (by omega)
          rw [hg.ln0] at hst
          refine wc_reg [0, 1, 2, 3] (by kernel_rfl) ?_
          refine wo_run [0, 1] [3, 6, 7, 10, 132, 133] [17, 115] (l' := [(3, eL 17 0), (6, eI .i64 ((g.n : Nat) : Int)), (7, eI .i64 (vw + 1)), (10, eI .i64 ((c : Nat) : Int)), (132, eL 17 0), (133, eI .i64 ((g.n : Nat) : Int))]) (H' := [(17, ⟨[.one (.ls 115 0 ((voteR (voteR (voteR (pushR g bst (vw + 1)) 0 g.n) 1 g.n) 2 g.n).n) c1), cI .i64 (voteR (voteR (voteR (pushR g bst (vw + 1)) 0 g.n) 1 g.n) 2 g.n).s0.e, cI .i64 (voteR (voteR (voteR (pushR g bst (vw + 1)) 0 g.n) 1 g.n) 2 g.n).s0.v, cI .i64 (voteR (voteR (voteR (pushR g bst (vw + 1)) 0 g.n) 1 g.n) 2 g.n).s0.l, .ints .u8 32 ((voteR (voteR (voteR (pushR g bst (vw + 1)) 0 g.n) 1 g.n) 2 g.n).s0.d), cI .i64 (voteR (voteR (voteR (pushR g bst (vw + 1)) 0 g.n) 1 g.n) 2 g.n).s1.e, cI .i64 (voteR (voteR (voteR (pushR g bst (vw + 1)) 0 g.n) 1 g.n) 2 g.n).s1.v, cI .i64 (voteR (voteR (voteR (pushR g bst (vw + 1)) 0 g.n) 1 g.n) 2 g.n).s1.l, .ints .u8 32 ((voteR (voteR (voteR (pushR g bst (vw + 1)) 0 g.n) 1 g.n) 2 g.n).s1.d), cI .i64 (voteR (voteR (voteR (pushR g bst (vw + 1)) 0 g.n) 1 g.n) 2 g.n).s2.e, cI .i64 (voteR (voteR (voteR (pushR g bst (vw + 1)) 0 g.n) 1 g.n) 2 g.n).s2.v, cI .i64 (voteR (voteR (voteR (pushR g bst (vw + 1)) 0 g.n) 1 g.n) 2 g.n).s2.l, .ints .u8 32 ((voteR (voteR (voteR (pushR g bst (vw + 1)) 0 g.n) 1 g.n) 2 g.n).s2.d)], 51⟩), (115, ⟨[.vals (rowV gB (voteR (voteR (voteR (pushR g bst (vw + 1)) 0 g.n) 1 g.n) 2 g.n).L ++ r1)], 47⟩)]) (by kernel_rfl) ?_
          refine wo_op rfl rfl (ot_call (vs := [sL 17 0, sI .i64 ((g.n : Nat) : Int)]) rfl rfl rfl Try.func27 (by kernel_rfl) (by kernel_rfl) (by kernel_rfl) (eB (certB (voteR (voteR (voteR (pushR g bst (vw + 1)) 0 g.n) 1 g.n) 2 g.n).L g.n)) (trivial) (fun ρ w h => certified_any (voteR (voteR (voteR (pushR g bst (vw + 1)) 0 g.n) 1 g.n) 2 g.n) c1 r1 (voteR_ok (voteR_ok (voteR_ok hp (by first | exact Nat.lt_succ_self _ | (simp only [voteR_n]; exact Nat.lt_succ_self _))) (by first | exact Nat.lt_succ_self _ | (simp only [voteR_n]; exact Nat.lt_succ_self _))) (by first | exact Nat.lt_succ_self _ | (simp only [voteR_n]; exact Nat.lt_succ_self _))) g.n (by first | exact Nat.lt_succ_self _ | (simp only [voteR_n]; exact Nat.lt_succ_self _)) w (fun k => ρ (Sx.look [(100000, 17), (100001, 115)] k)) (h.heap (π := [(100000, 17), (100001, 115)]) (Hc := [(100000, ⟨[.one (.ls 100001 0 ((voteR (voteR (voteR (pushR g bst (vw + 1)) 0 g.n) 1 g.n) 2 g.n).n) c1), cI .i64 (voteR (voteR (voteR (pushR g bst (vw + 1)) 0 g.n) 1 g.n) 2 g.n).s0.e, cI .i64 (voteR (voteR (voteR (pushR g bst (vw + 1)) 0 g.n) 1 g.n) 2 g.n).s0.v, cI .i64 (voteR (voteR (voteR (pushR g bst (vw + 1)) 0 g.n) 1 g.n) 2 g.n).s0.l, .ints .u8 32 ((voteR (voteR (voteR (pushR g bst (vw + 1)) 0 g.n) 1 g.n) 2 g.n).s0.d), cI .i64 (voteR (voteR (voteR (pushR g bst (vw + 1)) 0 g.n) 1 g.n) 2 g.n).s1.e, cI .i64 (voteR (voteR (voteR (pushR g bst (vw + 1)) 0 g.n) 1 g.n) 2 g.n).s1.v, cI .i64 (voteR (voteR (voteR (pushR g bst (vw + 1)) 0 g.n) 1 g.n) 2 g.n).s1.l, .ints .u8 32 ((voteR (voteR (voteR (pushR g bst (vw + 1)) 0 g.n) 1 g.n) 2 g.n).s1.d), cI .i64 (voteR (voteR (voteR (pushR g bst (vw + 1)) 0 g.n) 1 g.n) 2 g.n).s2.e, cI .i64 (voteR (voteR (voteR (pushR g bst (vw + 1)) 0 g.n) 1 g.n) 2 g.n).s2.v, cI .i64 (voteR (voteR (voteR (pushR g bst (vw + 1)) 0 g.n) 1 g.n) 2 g.n).s2.l, .ints .u8 32 ((voteR (voteR (voteR (pushR g bst (vw + 1)) 0 g.n) 1 g.n) 2 g.n).s2.d)], 51⟩), (100001, ⟨[.vals (rowV gB (voteR (voteR (voteR (pushR g bst (vw + 1)) 0 g.n) 1 g.n) 2 g.n).L ++ r1)], 47⟩)]) rfl ⟨⟨by kernel_rfl, by kernel_rfl, by kernel_rfl⟩, ⟨by kernel_rfl, by kernel_rfl, by kernel_rfl⟩, trivial⟩))) ?_
          refine wo_run [3] [3, 6, 7, 10, 135] [17, 115] (l' := [(3, eL 17 0), (6, eI .i64 ((g.n : Nat) : Int)), (7, eI .i64 (vw + 1)), (10, eI .i64 ((c : Nat) : Int)), (135, eB (!(certB (voteR (voteR (voteR (pushR g bst (vw + 1)) 0 g.n) 1 g.n) 2 g.n).L g.n)))]) (H' := [(17, ⟨[.one (.ls 115 0 ((voteR (voteR (voteR (pushR g bst (vw + 1)) 0 g.n) 1 g.n) 2 g.n).n) c1), cI .i64 (voteR (voteR (voteR (pushR g bst (vw + 1)) 0 g.n) 1 g.n) 2 g.n).s0.e, cI .i64 (voteR (voteR (voteR (pushR g bst (vw + 1)) 0 g.n) 1 g.n) 2 g.n).s0.v, cI .i64 (voteR (voteR (voteR (pushR g bst (vw + 1)) 0 g.n) 1 g.n) 2 g.n).s0.l, .ints .u8 32 ((voteR (voteR (voteR (pushR g bst (vw + 1)) 0 g.n) 1 g.n) 2 g.n).s0.d), cI .i64 (voteR (voteR (voteR (pushR g bst (vw + 1)) 0 g.n) 1 g.n) 2 g.n).s1.e, cI .i64 (voteR (voteR (voteR (pushR g bst (vw + 1)) 0 g.n) 1 g.n) 2 g.n).s1.v, cI .i64 (voteR (voteR (voteR (pushR g bst (vw + 1)) 0 g.n) 1 g.n) 2 g.n).s1.l, .ints .u8 32 ((voteR (voteR (voteR (pushR g bst (vw + 1)) 0 g.n) 1 g.n) 2 g.n).s1.d), cI .i64 (voteR (voteR (voteR (pushR g bst (vw + 1)) 0 g.n) 1 g.n) 2 g.n).s2.e, cI .i64 (voteR (voteR (voteR (pushR g bst (vw + 1)) 0 g.n) 1 g.n) 2 g.n).s2.v, cI .i64 (voteR (voteR (voteR (pushR g bst (vw + 1)) 0 g.n) 1 g.n) 2 g.n).s2.l, .ints .u8 32 ((voteR (voteR (voteR (pushR g bst (vw + 1)) 0 g.n) 1 g.n) 2 g.n).s2.d)], 51⟩), (115, ⟨[.vals (rowV gB (voteR (voteR (voteR (pushR g bst (vw + 1)) 0 g.n) 1 g.n) 2 g.n).L ++ r1)], 47⟩)]) (by kernel_rfl) ?_
          refine wo_nil ?_
          refine we_then ?_
          refine wc_cond rfl (fun h7 => ?_) (fun h7 => ?_)
          · replace h7 := not_t h7
            rw [hst.cb] at h7; exact absurd h7 (by decide)
          · replace h7 := not_f h7
            refine wc_skip ?_
            refine we_block ?_
            refine we_then ?_
            refine wc_reg [0, 1, 2] (by kernel_rfl) ?_
            refine wo_run [0, 1, 2] [3, 6, 7, 10] [17, 115] (l' := [(3, eL 17 0), (6, eI .i64 ((g.n : Nat) : Int)), (7, eI .i64 (vw + 1)), (10, eI .i64 (IntKind.wrap .i64 (((c : Nat) : Int) + 1)))]) (H' := [(17, ⟨[.one (.ls 115 0 ((voteR (voteR (voteR (pushR g bst (vw + 1)) 0 g.n) 1 g.n) 2 g.n).n) c1), cI .i64 (voteR (voteR (voteR (pushR g bst (vw + 1)) 0 g.n) 1 g.n) 2 g.n).s0.e, cI .i64 (voteR (voteR (voteR (pushR g bst (vw + 1)) 0 g.n) 1 g.n) 2 g.n).s0.v, cI .i64 (voteR (voteR (voteR (pushR g bst (vw + 1)) 0 g.n) 1 g.n) 2 g.n).s0.l, .ints .u8 32 ((voteR (voteR (voteR (pushR g bst (vw + 1)) 0 g.n) 1 g.n) 2 g.n).s0.d), cI .i64 (voteR (voteR (voteR (pushR g bst (vw + 1)) 0 g.n) 1 g.n) 2 g.n).s1.e, cI .i64 (voteR (voteR (voteR (pushR g bst (vw + 1)) 0 g.n) 1 g.n) 2 g.n).s1.v, cI .i64 (voteR (voteR (voteR (pushR g bst (vw + 1)) 0 g.n) 1 g.n) 2 g.n).s1.l, .ints .u8 32 ((voteR (voteR (voteR (pushR g bst (vw + 1)) 0 g.n) 1 g.n) 2 g.n).s1.d), cI .i64 (voteR (voteR (voteR (pushR g bst (vw + 1)) 0 g.n) 1 g.n) 2 g.n).s2.e, cI .i64 (voteR (voteR (voteR (pushR g bst (vw + 1)) 0 g.n) 1 g.n) 2 g.n).s2.v, cI .i64 (voteR (voteR (voteR (pushR g bst (vw + 1)) 0 g.n) 1 g.n) 2 g.n).s2.l, .ints .u8 32 ((voteR (voteR (voteR (pushR g bst (vw + 1)) 0 g.n) 1 g.n) 2 g.n).s2.d)], 51⟩), (115, ⟨[.vals (rowV gB (voteR (voteR (voteR (pushR g bst (vw + 1)) 0 g.n) 1 g.n) 2 g.n).L ++ r1)], 47⟩)]) (by kernel_rfl) ?_
            refine wo_nil ?_
            refine we_rest [3, 6, 7, 10] [17, 115] (l' := [(3, eL 17 0), (6, eI .i64 ((g.n : Nat) : Int)), (7, eI .i64 (vw + 1)), (10, eI .i64 (IntKind.wrap .i64 (((c : Nat) : Int) + 1)))]) (H' := [(17, ⟨[.one (.ls 115 0 ((voteR (voteR (voteR (pushR g bst (vw + 1)) 0 g.n) 1 g.n) 2 g.n).n) c1), cI .i64 (voteR (voteR (voteR (pushR g bst (vw + 1)) 0 g.n) 1 g.n) 2 g.n).s0.e, cI .i64 (voteR (voteR (voteR (pushR g bst (vw + 1)) 0 g.n) 1 g.n) 2 g.n).s0.v, cI .i64 (voteR (voteR (voteR (pushR g bst (vw + 1)) 0 g.n) 1 g.n) 2 g.n).s0.l, .ints .u8 32 ((voteR (voteR (voteR (pushR g bst (vw + 1)) 0 g.n) 1 g.n) 2 g.n).s0.d), cI .i64 (voteR (voteR (voteR (pushR g bst (vw + 1)) 0 g.n) 1 g.n) 2 g.n).s1.e, cI .i64 (voteR (voteR (voteR (pushR g bst (vw + 1)) 0 g.n) 1 g.n) 2 g.n).s1.v, cI .i64 (voteR (voteR (voteR (pushR g bst (vw + 1)) 0 g.n) 1 g.n) 2 g.n).s1.l, .ints .u8 32 ((voteR (voteR (voteR (pushR g bst (vw + 1)) 0 g.n) 1 g.n) 2 g.n).s1.d), cI .i64 (voteR (voteR (voteR (pushR g bst (vw + 1)) 0 g.n) 1 g.n) 2 g.n).s2.e, cI .i64 (voteR (voteR (voteR (pushR g bst (vw + 1)) 0 g.n) 1 g.n) 2 g.n).s2.v, cI .i64 (voteR (voteR (voteR (pushR g bst (vw + 1)) 0 g.n) 1 g.n) 2 g.n).s2.l, .ints .u8 32 ((voteR (voteR (voteR (pushR g bst (vw + 1)) 0 g.n) 1 g.n) 2 g.n).s2.d)], 51⟩), (115, ⟨[.vals (rowV gB (voteR (voteR (voteR (pushR g bst (vw + 1)) 0 g.n) 1 g.n) 2 g.n).L ++ r1)], 47⟩)]) (by kernel_rfl) (by kernel_rfl) ?_
            refine we_ren [(17, 17), (115, 15)] (l' := [(3, eL 17 0), (6, eI .i64 ((g.n : Nat) : Int)), (7, eI .i64 (vw + 1)), (10, eI .i64 (IntKind.wrap .i64 (((c : Nat) : Int) + 1)))]) (H' := [(17, ⟨[.one (.ls 15 0 ((voteR (voteR (voteR (pushR g bst (vw + 1)) 0 g.n) 1 g.n) 2 g.n).n) c1), cI .i64 (voteR (voteR (voteR (pushR g bst (vw + 1)) 0 g.n) 1 g.n) 2 g.n).s0.e, cI .i64 (voteR (voteR (voteR (pushR g bst (vw + 1)) 0 g.n) 1 g.n) 2 g.n).s0.v, cI .i64 (voteR (voteR (voteR (pushR g bst (vw + 1)) 0 g.n) 1 g.n) 2 g.n).s0.l, .ints .u8 32 ((voteR (voteR (voteR (pushR g bst (vw + 1)) 0 g.n) 1 g.n) 2 g.n).s0.d), cI .i64 (voteR (voteR (voteR (pushR g bst (vw + 1)) 0 g.n) 1 g.n) 2 g.n).s1.e, cI .i64 (voteR (voteR (voteR (pushR g bst (vw + 1)) 0 g.n) 1 g.n) 2 g.n).s1.v, cI .i64 (voteR (voteR (voteR (pushR g bst (vw + 1)) 0 g.n) 1 g.n) 2 g.n).s1.l, .ints .u8 32 ((voteR (voteR (voteR (pushR g bst (vw + 1)) 0 g.n) 1 g.n) 2 g.n).s1.d), cI .i64 (voteR (voteR (voteR (pushR g bst (vw + 1)) 0 g.n) 1 g.n) 2 g.n).s2.e, cI .i64 (voteR (voteR (voteR (pushR g bst (vw + 1)) 0 g.n) 1 g.n) 2 g.n).s2.v, cI .i64 (voteR (voteR (voteR (pushR g bst (vw + 1)) 0 g.n) 1 g.n) 2 g.n).s2.l, .ints .u8 32 ((voteR (voteR (voteR (pushR g bst (vw + 1)) 0 g.n) 1 g.n) 2 g.n).s2.d)], 51⟩), (15, ⟨[.vals (rowV gB (voteR (voteR (voteR (pushR g bst (vw + 1)) 0 g.n) 1 g.n) 2 g.n).L ++ r1)], 47⟩)]) (by kernel_rfl) (by kernel_rfl) (by kernel_rfl) ?_
            refine we_rest [3, 6, 7, 10] [15, 17] (l' := [(3, eL 17 0), (6, eI .i64 ((g.n : Nat) : Int)), (7, eI .i64 (vw + 1)), (10, eI .i64 (IntKind.wrap .i64 (((c : Nat) : Int) + 1)))]) (H' := [(15, ⟨[.vals (rowV gB (voteR (voteR (voteR (pushR g bst (vw + 1)) 0 g.n) 1 g.n) 2 g.n).L ++ r1)], 47⟩), (17, ⟨[.one (.ls 15 0 ((voteR (voteR (voteR (pushR g bst (vw + 1)) 0 g.n) 1 g.n) 2 g.n).n) c1), cI .i64 (voteR (voteR (voteR (pushR g bst (vw + 1)) 0 g.n) 1 g.n) 2 g.n).s0.e, cI .i64 (voteR (voteR (voteR (pushR g bst (vw + 1)) 0 g.n) 1 g.n) 2 g.n).s0.v, cI .i64 (voteR (voteR (voteR (pushR g bst (vw + 1)) 0 g.n) 1 g.n) 2 g.n).s0.l, .ints .u8 32 ((voteR (voteR (voteR (pushR g bst (vw + 1)) 0 g.n) 1 g.n) 2 g.n).s0.d), cI .i64 (voteR (voteR (voteR (pushR g bst (vw + 1)) 0 g.n) 1 g.n) 2 g.n).s1.e, cI .i64 (voteR (voteR (voteR (pushR g bst (vw + 1)) 0 g.n) 1 g.n) 2 g.n).s1.v, cI .i64 (voteR (voteR (voteR (pushR g bst (vw + 1)) 0 g.n) 1 g.n) 2 g.n).s1.l, .ints .u8 32 ((voteR (voteR (voteR (pushR g bst (vw + 1)) 0 g.n) 1 g.n) 2 g.n).s1.d), cI .i64 (voteR (voteR (voteR (pushR g bst (vw + 1)) 0 g.n) 1 g.n) 2 g.n).s2.e, cI .i64 (voteR (voteR (voteR (pushR g bst (vw + 1)) 0 g.n) 1 g.n) 2 g.n).s2.v, cI .i64 (voteR (voteR (voteR (pushR g bst (vw + 1)) 0 g.n) 1 g.n) 2 g.n).s2.l, .ints .u8 32 ((voteR (voteR (voteR (pushR g bst (vw + 1)) 0 g.n) 1 g.n) 2 g.n).s2.d)], 51⟩)]) (by kernel_rfl) (by kernel_rfl) ?_
            rw [show (IntKind.wrap .i64 (((c : Nat) : Int) + 1)) = ((c + 1 : Nat) : Int) from wrap_succ (by omega)]
            exact we_round ((voteR (voteR (voteR (pushR g bst (vw + 1)) 0 g.n) 1 g.n) 2 g.n), c1, r1, g.n, vw + 1, c + 1) (⟨(voteR_ok (voteR_ok (voteR_ok hp (by first | exact Nat.lt_succ_self _ | (simp only [voteR_n]; exact Nat.lt_succ_self _))) (by first | exact Nat.lt_succ_self _ | (simp only [voteR_n]; exact Nat.lt_succ_self _))) (by first | exact Nat.lt_succ_self _ | (simp only [voteR_n]; exact Nat.lt_succ_self _))), hst⟩) (by show 3 - (c + 1) < 3 - c; omega) rfl (sub_ofE [3, 6, 7, 10] rfl) (sub_of [15, 17] rfl)
        · replace h6 := of_decide_eq_false h6
          refine wc_exit ?_
          refine we_then_exit ?_
          refine we_then_exit ?_
          refine we_block_exit ?_
          refine we_then ?_
          refine wc_seq ?_
          refine wc_reg [0, 1, 2, 3, 4] (by kernel_rfl) ?_
          refine wo_run [0, 1] [136, 137] [15, 17] (l' := [(136, eL 17 0), (137, eI .i64 ((bst : Nat) : Int))]) (H' := [(15, ⟨[.vals (rowV gB g.L ++ restg)], 47⟩), (17, ⟨[.one (.ls 15 0 g.n capg), cI .i64 g.s0.e, cI .i64 g.s0.v, cI .i64 g.s0.l, .ints .u8 32 g.s0.d, cI .i64 g.s1.e, cI .i64 g.s1.v, cI .i64 g.s1.l, .ints .u8 32 g.s1.d, cI .i64 g.s2.e, cI .i64 g.s2.v, cI .i64 g.s2.l, .ints .u8 32 g.s2.d], 51⟩)]) (by kernel_rfl) ?_
          refine wo_op rfl rfl (ot_call (vs := [sL 17 0, sI .i64 ((bst : Nat) : Int)]) rfl rfl rfl Try.func25 (by kernel_rfl) (by kernel_rfl) (by kernel_rfl) (eI .i64 (firstI g.L bst)) (trivial) (fun ρ w h => first_any g capg restg hg bst (hbg) w (fun k => ρ (Sx.look [(100000, 17), (100001, 15)] k)) (h.heap (π := [(100000, 17), (100001, 15)]) (Hc := [(100000, ⟨[.one (.ls 100001 0 g.n capg), cI .i64 g.s0.e, cI .i64 g.s0.v, cI .i64 g.s0.l, .ints .u8 32 g.s0.d, cI .i64 g.s1.e, cI .i64 g.s1.v, cI .i64 g.s1.l, .ints .u8 32 g.s1.d, cI .i64 g.s2.e, cI .i64 g.s2.v, cI .i64 g.s2.l, .ints .u8 32 g.s2.d], 51⟩), (100001, ⟨[.vals (rowV gB g.L ++ restg)], 47⟩)]) rfl ⟨⟨by kernel_rfl, by kernel_rfl, by kernel_rfl⟩, ⟨by kernel_rfl, by kernel_rfl, by kernel_rfl⟩, trivial⟩))) ?_
          refine wo_run [3, 4] [2] [] (l' := [(2, eB (decide ((firstI g.L bst) > 0)))]) (H' := []) (by kernel_rfl) ?_
          refine wo_nil ?_
          refine we_then ?_
          refine wc_ret ?_
          refine we_ret (.inl rfl) (v := eB (decide ((firstI g.L bst) > 0))) (by kernel_rfl) ?_
          intro ρ' w' hf'
          refine ⟨?_, hf'.below noS⟩
          exact congrArg (fun b => Ending.returned (EV.conc ρ (eB b))) (decide_eq_true (by cases (show c = 3 by omega); exact hgo.last))
  · replace h1 := of_decide_eq_false h1
    refine wo_run [5, 6, 7] [0, 3, 5, 36] [15, 17] (l' := [(0, eV (.slice a0 len0 cap0)), (3, eL 17 0), (5, eI .i64 ((k : Nat) : Int)), (36, eB false)]) (H' := [(15, ⟨[.vals (rowV gB r.L ++ rest)], 47⟩), (17, ⟨(cRun 15 r.n cap r.s0 r.s1 r.s2), 51⟩)]) (by kernel_rfl) ?_
    refine wo_nil ?_
    refine we_then ?_
    refine wc_false rfl ?_
    refine wc_exit ?_
    refine we_then_exit ?_
    refine we_then_exit ?_
    refine we_block_exit ?_
    refine we_then ?_
    refine wc_seq ?_
    refine wc_reg [0] (by kernel_rfl) ?_
    refine wo_run [0] [3, 6] [15, 17] (l' := [(3, eL 17 0), (6, eI .i64 0)]) (H' := [(15, ⟨[.vals (rowV gB r.L ++ rest)], 47⟩), (17, ⟨(cRun 15 r.n cap r.s0 r.s1 r.s2), 51⟩)]) (by kernel_rfl) ?_
    refine wo_nil ?_
    refine we_then ?_
    refine wc_seq ?_
    refine wc_reg [0] (by kernel_rfl) ?_
    refine wo_run [0] [3, 6, 7] [15, 17] (l' := [(3, eL 17 0), (6, eI .i64 0), (7, eI .i64 0)]) (H' := [(15, ⟨[.vals (rowV gB r.L ++ rest)], 47⟩), (17, ⟨(cRun 15 r.n cap r.s0 r.s1 r.s2), 51⟩)]) (by kernel_rfl) ?_
    refine wo_nil ?_
    refine we_then ?_
    refine wc_seq ?_
    refine wc_seq ?_
    refine wc_reg [0, 1, 2, 3, 4, 5] (by kernel_rfl) ?_
    refine wo_run [0, 1, 2, 3] [3, 6, 7, 48] [15, 17] (l' := [(3, eL 17 0), (6, eI .i64 0), (7, eI .i64 0), (48, .s (.a (.ls 15 0 r.n cap)))]) (H' := [(15, ⟨[.vals (rowV gB r.L ++ rest)], 47⟩), (17, ⟨(cRun 15 r.n cap r.s0 r.s1 r.s2), 51⟩)]) (by kernel_rfl) ?_
    refine wo_op rfl rfl (ot_rd rfl (rd_len rfl rfl rfl rfl (fun _ => by kernel_rfl))) ?_
    refine wo_run [5] [3, 6, 7, 49, 50] [15, 17] (l' := [(3, eL 17 0), (6, eI .i64 0), (7, eI .i64 0), (49, eI .i64 ((r.n : Nat) : Int)), (50, eI .i64 0)]) (H' := [(15, ⟨[.vals (rowV gB r.L ++ rest)], 47⟩), (17, ⟨(cRun 15 r.n cap r.s0 r.s1 r.s2), 51⟩)]) (by kernel_rfl) ?_
    refine wo_nil ?_
    refine we_then ?_
    refine wc_block ?_
    refine wc_rest [3, 6, 7, 49, 50] [15, 17] (l' := [(3, eL 17 0), (6, eI .i64 0), (7, eI .i64 0), (49, eI .i64 ((r.n : Nat) : Int)), (50, eI .i64 0)]) (H' := [(15, ⟨[.vals (rowV gB r.L ++ rest)], 47⟩), (17, ⟨(cRun 15 r.n cap r.s0 r.s1 r.s2), 51⟩)]) (by kernel_rfl) ?_
    refine wc_loop (τ := Nat × Nat × Int) (fun ⟨i, best, view⟩ => i ≤ r.n ∧ Best r i best view) (fun ⟨i, best, view⟩ => r.n - i) (fun _ => _) (fun ⟨i, best, view⟩ => [(3, eL 17 0), (6, eI .i64 ((best : Nat) : Int)), (7, eI .i64 view), (49, eI .i64 ((r.n : Nat) : Int)), (50, eI .i64 ((i : Nat) : Int))]) (fun ⟨i, best, view⟩ => [(15, ⟨[.vals (rowV gB r.L ++ rest)], 47⟩), (17, ⟨(cRun 15 r.n cap r.s0 r.s1 r.s2), 51⟩)]) (0, 0, 0) (⟨Nat.zero_le _, Best.zero hG⟩) rfl rfl rfl ?_
    rintro ⟨i, best, view⟩ hj
    obtain ⟨hi, hB⟩ := hj
    have hbn : best < r.n := hr.ln0 ▸ hB.bl
    refine wc_seq ?_
    refine wc_reg [0] (by kernel_rfl) ?_
    refine wo_run [0] [3, 6, 7, 49, 50, 51] [15, 17] (l' := [(3, eL 17 0), (6, eI .i64 ((best : Nat) : Int)), (7, eI .i64 view), (49, eI .i64 ((r.n : Nat) : Int)), (50, eI .i64 ((i : Nat) : Int)), (51, eB (decide (((i : Nat) : Int) < ((r.n : Nat) : Int))))]) (H' := [(15, ⟨[.vals (rowV gB r.L ++ rest)], 47⟩), (17, ⟨(cRun 15 r.n cap r.s0 r.s1 r.s2), 51⟩)]) (by kernel_rfl) ?_
    refine wo_nil ?_
    refine we_then ?_
    refine wc_seq ?_
    refine wc_cond rfl (fun h8 => ?_) (fun h8 => ?_)
    · replace h8 := of_decide_eq_true h8
      refine wc_skip ?_
      refine we_then ?_
      refine wc_seq ?_
      refine wc_block ?_
      refine wc_seq ?_
      refine wc_reg [0, 1] (by kernel_rfl) ?_
      refine wo_run [0, 1] [3, 6, 7, 8, 49, 50] [15, 17] (l' := [(3, eL 17 0), (6, eI .i64 ((best : Nat) : Int)), (7, eI .i64 view), (8, eI .i64 ((i : Nat) : Int)), (49, eI .i64 ((r.n : Nat) : Int)), (50, eI .i64 ((i : Nat) : Int))]) (H' := [(15, ⟨[.vals (rowV gB r.L ++ rest)], 47⟩), (17, ⟨(cRun 15 r.n cap r.s0 r.s1 r.s2), 51⟩)]) (by kernel_rfl) ?_
      refine wo_nil ?_
      refine we_then ?_
      refine wc_seq ?_
      refine wc_seq ?_
      refine wc_draw (n := 22) [(15, ⟨[.vals (rowV gB r.L ++ rest)], 47⟩), (17, ⟨(cRun 15 r.n cap r.s0 r.s1 r.s2), 51⟩)] (by kernel_rfl) rfl (sub_of [15, 17] (by kernel_rfl)) (fun ρ0 => ?_)
      refine wa_takes (fuel := 20) [0, 1] [3, 6, 7, 8, 49, 50, 53, 54] (listed' := #[true, true, false, false, false, false, false, false, false, false, false, false, false, false, false, false, false, false, false, false, false, false]) (l' := [(3, eL 17 0), (6, eI .i64 ((best : Nat) : Int)), (7, eI .i64 view), (8, eI .i64 ((i : Nat) : Int)), (49, eI .i64 ((r.n : Nat) : Int)), (50, eI .i64 ((i : Nat) : Int)), (53, eL 17 0), (54, eI .i64 ((i : Nat) : Int))]) (pk_then (pk_then (pk_block (pk_then (pk_then (pk_block (pk_then pk_body))))))) rfl (by kernel_rfl) ?_
      refine wa_all [2] (by kernel_rfl) rfl (all1 ?_)
      refine wi_op rfl rfl (ot_call (vs := [sL 17 0, sI .i64 ((i : Nat) : Int)]) rfl rfl rfl Try.func27 (by kernel_rfl) (by kernel_rfl) (by kernel_rfl) (eB (certB r.L i)) (trivial) (fun ρ w h => certified_any r cap rest hr i (by omega) w (fun k => ρ (Sx.look [(100000, 17), (100001, 15)] k)) (h.heap (π := [(100000, 17), (100001, 15)]) (Hc := [(100000, ⟨(cRun 100001 r.n cap r.s0 r.s1 r.s2), 51⟩), (100001, ⟨[.vals (rowV gB r.L ++ rest)], 47⟩)]) rfl ⟨⟨by kernel_rfl, by kernel_rfl, by kernel_rfl⟩, ⟨by kernel_rfl, by kernel_rfl, by kernel_rfl⟩, trivial⟩))) (sub_of [15, 17] (by kernel_rfl)) ?_
      refine wa_takes (fuel := 18) [3] [3, 6, 7, 8, 49, 50, 56] (listed' := #[true, true, true, true, false, false, false, false, false, false, false, false, false, false, false, false, false, false, false, false, false, false]) (l' := [(3, eL 17 0), (6, eI .i64 ((best : Nat) : Int)), (7, eI .i64 view), (8, eI .i64 ((i : Nat) : Int)), (49, eI .i64 ((r.n : Nat) : Int)), (50, eI .i64 ((i : Nat) : Int)), (56, eB (certB r.L i))]) (pk_then (pk_then (pk_block (pk_then (pk_then (pk_block (pk_then pk_body))))))) rfl (by kernel_rfl) ?_
      refine wa_bool 56 rfl (fun h9 => ?_) (fun h9 => ?_)
      · refine wa_takes (fuel := 8) [4, 5, 6, 7, 8, 12, 13, 14, 15, 16] [3, 6, 7, 8, 49, 50, 56, 60, 61, 68, 69] (listed' := #[true, true, true, true, true, true, true, true, true, false, false, false, true, true, true, true, true, false, false, false, false, false]) (l' := [(3, eL 17 0), (6, eI .i64 ((best : Nat) : Int)), (7, eI .i64 view), (8, eI .i64 ((i : Nat) : Int)), (49, eI .i64 ((r.n : Nat) : Int)), (50, eI .i64 ((i : Nat) : Int)), (56, eB true), (60, .s (.a (.ls 15 0 r.n cap))), (61, eI .i64 ((i : Nat) : Int)), (68, .s (.a (.ls 15 0 r.n cap))), (69, eI .i64 ((best : Nat) : Int))]) (pk_then (pk_then (pk_block (pk_then (pk_then (pk_block (pk_then pk_body))))))) rfl (by kernel_rfl) ?_
        refine wa_take 9 (pk_then (pk_then (pk_block (pk_then (pk_then (pk_block (pk_then pk_body))))))) rfl (by kernel_rfl) rfl rfl (rd_indexL (e := 47) 6 i ((i : Nat) : Int) rfl (by kernel_rfl) (by kernel_rfl) rfl rfl (rfl) (by omega)) ?_
        refine wa_takes (fuel := 6) [10] [3, 6, 7, 8, 49, 50, 56, 63, 68, 69] (listed' := #[true, true, true, true, true, true, true, true, true, true, true, false, true, true, true, true, true, false, false, false, false, false]) (l' := [(3, eL 17 0), (6, eI .i64 ((best : Nat) : Int)), (7, eI .i64 view), (8, eI .i64 ((i : Nat) : Int)), (49, eI .i64 ((r.n : Nat) : Int)), (50, eI .i64 ((i : Nat) : Int)), (56, eB true), (63, eL 15 ((0 + i * 6) + 1)), (68, .s (.a (.ls 15 0 r.n cap))), (69, eI .i64 ((best : Nat) : Int))]) (pk_then (pk_then (pk_block (pk_then (pk_then (pk_block (pk_then pk_body))))))) rfl (by kernel_rfl) ?_
        refine wa_take 11 (pk_then (pk_then (pk_block (pk_then (pk_then (pk_block (pk_then pk_body))))))) rfl (by kernel_rfl) rfl rfl (rd_cellS (b := ⟨[.vals (rowV gB r.L ++ rest)], 47⟩) (.v (.int .i64 (bk r.L i).view)) rfl rfl rfl (by kernel_rfl) (fun ρ => view_at (hr.ln (by omega)) ρ)) ?_
        refine wa_take 17 (pk_then (pk_then (pk_block (pk_then (pk_then (pk_block (pk_then pk_body))))))) rfl (by kernel_rfl) rfl rfl (rd_indexL (e := 47) 6 best ((best : Nat) : Int) rfl (by kernel_rfl) (by kernel_rfl) rfl rfl (rfl) (hbn)) ?_
        refine wa_takes (fuel := 3) [18] [3, 6, 7, 8, 49, 50, 56, 64, 71] (listed' := #[true, true, true, true, true, true, true, true, true, true, true, true, true, true, true, true, true, true, true, false, false, false]) (l' := [(3, eL 17 0), (6, eI .i64 ((best : Nat) : Int)), (7, eI .i64 view), (8, eI .i64 ((i : Nat) : Int)), (49, eI .i64 ((r.n : Nat) : Int)), (50, eI .i64 ((i : Nat) : Int)), (56, eB true), (64, eI .i64 (bk r.L i).view), (71, eL 15 ((0 + best * 6) + 1))]) (pk_then (pk_then (pk_block (pk_then (pk_then (pk_block (pk_then pk_body))))))) rfl (by kernel_rfl) ?_
        refine wa_take 19 (pk_then (pk_then (pk_block (pk_then (pk_then (pk_block (pk_then pk_body))))))) rfl (by kernel_rfl) rfl rfl (rd_cellS (b := ⟨[.vals (rowV gB r.L ++ rest)], 47⟩) (.v (.int .i64 (bk r.L best).view)) rfl rfl rfl (by kernel_rfl) (fun ρ => view_at (hr.ln (hbn)) ρ)) ?_
        refine wa_takes (fuel := 0) [20, 21] [3, 6, 7, 8, 49, 50, 74] (listed' := #[true, true, true, true, true, true, true, true, true, true, true, true, true, true, true, true, true, true, true, true, true, true]) (l' := [(3, eL 17 0), (6, eI .i64 ((best : Nat) : Int)), (7, eI .i64 view), (8, eI .i64 ((i : Nat) : Int)), (49, eI .i64 ((r.n : Nat) : Int)), (50, eI .i64 ((i : Nat) : Int)), (74, eB (decide ((bk r.L i).view > (bk r.L best).view)))]) (pk_then (pk_then (pk_block (pk_then (pk_then (pk_block (pk_then pk_body))))))) rfl (by kernel_rfl) ?_
        refine wa_done (by kernel_rfl) ?_
        refine we_rest [3, 6, 7, 8, 49, 50, 74] [15, 17] (l' := [(3, eL 17 0), (6, eI .i64 ((best : Nat) : Int)), (7, eI .i64 view), (8, eI .i64 ((i : Nat) : Int)), (49, eI .i64 ((r.n : Nat) : Int)), (50, eI .i64 ((i : Nat) : Int)), (74, eB (decide ((bk r.L i).view > (bk r.L best).view)))]) (H' := [(15, ⟨[.vals (rowV gB r.L ++ rest)], 47⟩), (17, ⟨(cRun 15 r.n cap r.s0 r.s1 r.s2), 51⟩)]) (by kernel_rfl) (by kernel_rfl) ?_
        refine we_then ?_
        refine wc_cond rfl (fun h10 => ?_) (fun h10 => ?_)
        · replace h10 := of_decide_eq_true h10
          refine wc_reg [0, 1] (by kernel_rfl) ?_
          refine wo_run [0, 1] [3, 6, 7, 8, 49, 50] [15, 17] (l' := [(3, eL 17 0), (6, eI .i64 ((i : Nat) : Int)), (7, eI .i64 view), (8, eI .i64 ((i : Nat) : Int)), (49, eI .i64 ((r.n : Nat) : Int)), (50, eI .i64 ((i : Nat) : Int))]) (H' := [(15, ⟨[.vals (rowV gB r.L ++ rest)], 47⟩), (17, ⟨(cRun 15 r.n cap r.s0 r.s1 r.s2), 51⟩)]) (by kernel_rfl) ?_
          refine wo_nil ?_
          refine we_then ?_
          refine wc_reg [0, 1, 2, 3, 4, 5, 6, 7, 8, 9, 10] (by kernel_rfl) ?_
          refine wo_run [0, 1, 2, 3, 4, 5] [3, 6, 49, 50, 76, 80, 81] [15, 17] (l' := [(3, eL 17 0), (6, eI .i64 ((i : Nat) : Int)), (49, eI .i64 ((r.n : Nat) : Int)), (50, eI .i64 ((i : Nat) : Int)), (76, eI .i64 view), (80, .s (.a (.ls 15 0 r.n cap))), (81, eI .i64 ((i : Nat) : Int))]) (H' := [(15, ⟨[.vals (rowV gB r.L ++ rest)], 47⟩), (17, ⟨(cRun 15 r.n cap r.s0 r.s1 r.s2), 51⟩)]) (by kernel_rfl) ?_
          refine wo_op rfl rfl (ot_rd rfl (rd_indexL (e := 47) 6 i ((i : Nat) : Int) rfl (by kernel_rfl) (by kernel_rfl) rfl rfl (rfl) (by omega))) ?_
          refine wo_run [7] [3, 6, 49, 50, 76, 83] [15, 17] (l' := [(3, eL 17 0), (6, eI .i64 ((i : Nat) : Int)), (49, eI .i64 ((r.n : Nat) : Int)), (50, eI .i64 ((i : Nat) : Int)), (76, eI .i64 view), (83, eL 15 ((0 + i * 6) + 1))]) (H' := [(15, ⟨[.vals (rowV gB r.L ++ rest)], 47⟩), (17, ⟨(cRun 15 r.n cap r.s0 r.s1 r.s2), 51⟩)]) (by kernel_rfl) ?_
          refine wo_op rfl rfl (ot_rd rfl (rd_cellS (b := ⟨[.vals (rowV gB r.L ++ rest)], 47⟩) (.v (.int .i64 (bk r.L i).view)) rfl rfl rfl (by kernel_rfl) (fun ρ => view_at (hr.ln (by omega)) ρ))) ?_
          refine wo_run [9, 10] [3, 6, 7, 49, 50] [15, 17] (l' := [(3, eL 17 0), (6, eI .i64 ((i : Nat) : Int)), (7, eI .i64 (if (bk r.L i).view > view then (bk r.L i).view else view)), (49, eI .i64 ((r.n : Nat) : Int)), (50, eI .i64 ((i : Nat) : Int))]) (H' := [(15, ⟨[.vals (rowV gB r.L ++ rest)], 47⟩), (17, ⟨(cRun 15 r.n cap r.s0 r.s1 r.s2), 51⟩)]) (by kernel_rfl) ?_
          refine wo_nil ?_
          refine we_block ?_
          refine we_then ?_
          refine wc_reg [0, 1] (by kernel_rfl) ?_
          refine wo_run [0, 1] [3, 6, 7, 49, 50] [15, 17] (l' := [(3, eL 17 0), (6, eI .i64 ((i : Nat) : Int)), (7, eI .i64 (if (bk r.L i).view > view then (bk r.L i).view else view)), (49, eI .i64 ((r.n : Nat) : Int)), (50, eI .i64 (IntKind.wrap .i64 (((i : Nat) : Int) + 1)))]) (H' := [(15, ⟨[.vals (rowV gB r.L ++ rest)], 47⟩), (17, ⟨(cRun 15 r.n cap r.s0 r.s1 r.s2), 51⟩)]) (by kernel_rfl) ?_
          refine wo_nil ?_
          refine we_rest [3, 6, 7, 49, 50] [15, 17] (l' := [(3, eL 17 0), (6, eI .i64 ((i : Nat) : Int)), (7, eI .i64 (if (bk r.L i).view > view then (bk r.L i).view else view)), (49, eI .i64 ((r.n : Nat) : Int)), (50, eI .i64 (IntKind.wrap .i64 (((i : Nat) : Int) + 1)))]) (H' := [(15, ⟨[.vals (rowV gB r.L ++ rest)], 47⟩), (17, ⟨(cRun 15 r.n cap r.s0 r.s1 r.s2), 51⟩)]) (by kernel_rfl) (by kernel_rfl) ?_
          rw [show (IntKind.wrap .i64 (((i : Nat) : Int) + 1)) = ((i + 1 : Nat) : Int) from wrap_succ (by have := hr.small; omega)]
          exact we_round (i + 1, i, (if (bk r.L i).view > view then (bk r.L i).view else view)) (⟨by omega, hB.next hG (by rw [hr.ln0]; omega) (.inl ⟨rfl, h9, h10⟩)⟩) (by show r.n - (i + 1) < r.n - i; omega) rfl (sub_ofE [3, 6, 7, 49, 50] rfl) (sub_of [15, 17] rfl)
        · replace h10 := of_decide_eq_false h10
          refine wc_skip ?_
          refine we_then ?_
          refine wc_reg [0, 1, 2, 3, 4, 5, 6, 7, 8, 9, 10] (by kernel_rfl) ?_
          refine wo_run [0, 1, 2, 3, 4, 5] [3, 6, 49, 50, 76, 80, 81] [15, 17] (l' := [(3, eL 17 0), (6, eI .i64 ((best : Nat) : Int)), (49, eI .i64 ((r.n : Nat) : Int)), (50, eI .i64 ((i : Nat) : Int)), (76, eI .i64 view), (80, .s (.a (.ls 15 0 r.n cap))), (81, eI .i64 ((i : Nat) : Int))]) (H' := [(15, ⟨[.vals (rowV gB r.L ++ rest)], 47⟩), (17, ⟨(cRun 15 r.n cap r.s0 r.s1 r.s2), 51⟩)]) (by kernel_rfl) ?_
          refine wo_op rfl rfl (ot_rd rfl (rd_indexL (e := 47) 6 i ((i : Nat) : Int) rfl (by kernel_rfl) (by kernel_rfl) rfl rfl (rfl) (by omega))) ?_
          refine wo_run [7] [3, 6, 49, 50, 76, 83] [15, 17] (l' := [(3, eL 17 0), (6, eI .i64 ((best : Nat) : Int)), (49, eI .i64 ((r.n : Nat) : Int)), (50, eI .i64 ((i : Nat) : Int)), (76, eI .i64 view), (83, eL 15 ((0 + i * 6) + 1))]) (H' := [(15, ⟨[.vals (rowV gB r.L ++ rest)], 47⟩), (17, ⟨(cRun 15 r.n cap r.s0 r.s1 r.s2), 51⟩)]) (by kernel_rfl) ?_
          refine wo_op rfl rfl (ot_rd rfl (rd_cellS (b := ⟨[.vals (rowV gB r.L ++ rest)], 47⟩) (.v (.int .i64 (bk r.L i).view)) rfl rfl rfl (by kernel_rfl) (fun ρ => view_at (hr.ln (by omega)) ρ))) ?_
          refine wo_run [9, 10] [3, 6, 7, 49, 50] [15, 17] (l' := [(3, eL 17 0), (6, eI .i64 ((best : Nat) : Int)), (7, eI .i64 (if (bk r.L i).view > view then (bk r.L i).view else view)), (49, eI .i64 ((r.n : Nat) : Int)), (50, eI .i64 ((i : Nat) : Int))]) (H' := [(15, ⟨[.vals (rowV gB r.L ++ rest)], 47⟩), (17, ⟨(cRun 15 r.n cap r.s0 r.s1 r.s2), 51⟩)]) (by kernel_rfl) ?_
          refine wo_nil ?_
          refine we_block ?_
          refine we_then ?_
          refine wc_reg [0, 1] (by kernel_rfl) ?_
          refine wo_run [0, 1] [3, 6, 7, 49, 50] [15, 17] (l' := [(3, eL 17 0), (6, eI .i64 ((best : Nat) : Int)), (7, eI .i64 (if (bk r.L i).view > view then (bk r.L i).view else view)), (49, eI .i64 ((r.n : Nat) : Int)), (50, eI .i64 (IntKind.wrap .i64 (((i : Nat) : Int) + 1)))]) (H' := [(15, ⟨[.vals (rowV gB r.L ++ rest)], 47⟩), (17, ⟨(cRun 15 r.n cap r.s0 r.s1 r.s2), 51⟩)]) (by kernel_rfl) ?_
          refine wo_nil ?_
          refine we_rest [3, 6, 7, 49, 50] [15, 17] (l' := [(3, eL 17 0), (6, eI .i64 ((best : Nat) : Int)), (7, eI .i64 (if (bk r.L i).view > view then (bk r.L i).view else view)), (49, eI .i64 ((r.n : Nat) : Int)), (50, eI .i64 (IntKind.wrap .i64 (((i : Nat) : Int) + 1)))]) (H' := [(15, ⟨[.vals (rowV gB r.L ++ rest)], 47⟩), (17, ⟨(cRun 15 r.n cap r.s0 r.s1 r.s2), 51⟩)]) (by kernel_rfl) (by kernel_rfl) ?_
          rw [show (IntKind.wrap .i64 (((i : Nat) : Int) + 1)) = ((i + 1 : Nat) : Int) from wrap_succ (by have := hr.small; omega)]
          exact we_round (i + 1, best, (if (bk r.L i).view > view then (bk r.L i).view else view)) (⟨by omega, hB.next hG (by rw [hr.ln0]; omega) (.inr ⟨rfl, .inr h10⟩)⟩) (by show r.n - (i + 1) < r.n - i; omega) rfl (sub_ofE [3, 6, 7, 49, 50] rfl) (sub_of [15, 17] rfl)
      · refine wa_takes (fuel := 0) [4, 5, 6, 7, 8, 9, 10, 11, 12, 13, 14, 15, 16, 17, 18, 19, 20, 21] [3, 6, 7, 8, 49, 50, 74] (listed' := #[true, true, true, true, true, true, true, true, true, true, true, true, true, true, true, true, true, true, true, true, true, true]) (l' := [(3, eL 17 0), (6, eI .i64 ((best : Nat) : Int)), (7, eI .i64 view), (8, eI .i64 ((i : Nat) : Int)), (49, eI .i64 ((r.n : Nat) : Int)), (50, eI .i64 ((i : Nat) : Int)), (74, eB false)]) (pk_then (pk_then (pk_block (pk_then (pk_then (pk_block (pk_then pk_body))))))) rfl (by kernel_rfl) ?_
        refine wa_done (by kernel_rfl) ?_
        refine we_rest [3, 6, 7, 8, 49, 50, 74] [15, 17] (l' := [(3, eL 17 0), (6, eI .i64 ((best : Nat) : Int)), (7, eI .i64 view), (8, eI .i64 ((i : Nat) : Int)), (49, eI .i64 ((r.n : Nat) : Int)), (50, eI .i64 ((i : Nat) : Int)), (74, eB false)]) (H' := [(15, ⟨[.vals (rowV gB r.L ++ rest)], 47⟩), (17, ⟨(cRun 15 r.n cap r.s0 r.s1 r.s2), 51⟩)]) (by kernel_rfl) (by kernel_rfl) ?_
        refine we_then ?_
        refine wc_false rfl ?_
        refine wc_skip ?_
        refine we_then ?_
        refine wc_reg [0, 1, 2, 3, 4, 5, 6, 7, 8, 9, 10] (by kernel_rfl) ?_
        refine wo_run [0, 1, 2, 3, 4, 5] [3, 6, 49, 50, 76, 80, 81] [15, 17] (l' := [(3, eL 17 0), (6, eI .i64 ((best : Nat) : Int)), (49, eI .i64 ((r.n : Nat) : Int)), (50, eI .i64 ((i : Nat) : Int)), (76, eI .i64 view), (80, .s (.a (.ls 15 0 r.n cap))), (81, eI .i64 ((i : Nat) : Int))]) (H' := [(15, ⟨[.vals (rowV gB r.L ++ rest)], 47⟩), (17, ⟨(cRun 15 r.n cap r.s0 r.s1 r.s2), 51⟩)]) (by kernel_rfl) ?_
        refine wo_op rfl rfl (ot_rd rfl (rd_indexL (e := 47) 6 i ((i : Nat) : Int) rfl (by kernel_rfl) (by kernel_rfl) rfl rfl (rfl) (by omega))) ?_
        refine wo_run [7] [3, 6, 49, 50, 76, 83] [15, 17] (l' := [(3, eL 17 0), (6, eI .i64 ((best : Nat) : Int)), (49, eI .i64 ((r.n : Nat) : Int)), (50, eI .i64 ((i : Nat) : Int)), (76, eI .i64 view), (83, eL 15 ((0 + i * 6) + 1))]) (H' := [(15, ⟨[.vals (rowV gB r.L ++ rest)], 47⟩), (17, ⟨(cRun 15 r.n cap r.s0 r.s1 r.s2), 51⟩)]) (by kernel_rfl) ?_
        refine wo_op rfl rfl (ot_rd rfl (rd_cellS (b := ⟨[.vals (rowV gB r.L ++ rest)], 47⟩) (.v (.int .i64 (bk r.L i).view)) rfl rfl rfl (by kernel_rfl) (fun ρ => view_at (hr.ln (by omega)) ρ))) ?_
        refine wo_run [9, 10] [3, 6, 7, 49, 50] [15, 17] (l' := [(3, eL 17 0), (6, eI .i64 ((best : Nat) : Int)), (7, eI .i64 (if (bk r.L i).view > view then (bk r.L i).view else view)), (49, eI .i64 ((r.n : Nat) : Int)), (50, eI .i64 ((i : Nat) : Int))]) (H' := [(15, ⟨[.vals (rowV gB r.L ++ rest)], 47⟩), (17, ⟨(cRun 15 r.n cap r.s0 r.s1 r.s2), 51⟩)]) (by kernel_rfl) ?_
        refine wo_nil ?_
        refine we_block ?_
        refine we_then ?_
        refine wc_reg [0, 1] (by kernel_rfl) ?_
        refine wo_run [0, 1] [3, 6, 7, 49, 50] [15, 17] (l' := [(3, eL 17 0), (6, eI .i64 ((best : Nat) : Int)), (7, eI .i64 (if (bk r.L i).view > view then (bk r.L i).view else view)), (49, eI .i64 ((r.n : Nat) : Int)), (50, eI .i64 (IntKind.wrap .i64 (((i : Nat) : Int) + 1)))]) (H' := [(15, ⟨[.vals (rowV gB r.L ++ rest)], 47⟩), (17, ⟨(cRun 15 r.n cap r.s0 r.s1 r.s2), 51⟩)]) (by kernel_rfl) ?_
        refine wo_nil ?_
        refine we_rest [3, 6, 7, 49, 50] [15, 17] (l' := [(3, eL 17 0), (6, eI .i64 ((best : Nat) : Int)), (7, eI .i64 (if (bk r.L i).view > view then (bk r.L i).view else view)), (49, eI .i64 ((r.n : Nat) : Int)), (50, eI .i64 (IntKind.wrap .i64 (((i : Nat) : Int) + 1)))]) (H' := [(15, ⟨[.vals (rowV gB r.L ++ rest)], 47⟩), (17, ⟨(cRun 15 r.n cap r.s0 r.s1 r.s2), 51⟩)]) (by kernel_rfl) (by kernel_rfl) ?_
        rw [show (IntKind.wrap .i64 (((i : Nat) : Int) + 1)) = ((i + 1 : Nat) : Int) from wrap_succ (by have := hr.small; omega)]
        exact we_round (i + 1, best, (if (bk r.L i).view > view then (bk r.L i).view else view)) (⟨by omega, hB.next hG (by rw [hr.ln0]; omega) (.inr ⟨rfl, .inl h9⟩)⟩) (by show r.n - (i + 1) < r.n - i; omega) rfl (sub_ofE [3, 6, 7, 49, 50] rfl) (sub_of [15, 17] rfl)
    · replace h8 := of_decide_eq_false h8
      refine wc_exit ?_
      refine we_then_exit ?_
      refine we_then_exit ?_
      refine we_block_exit ?_
      refine we_then ?_
      refine wc_seq ?_
      refine wc_seq ?_
      refine wc_reg [0] (by kernel_rfl) ?_
      refine wo_run [0] [3, 6, 7, 87] [15, 17] (l' := [(3, eL 17 0), (6, eI .i64 ((best : Nat) : Int)), (7, eI .i64 view), (87, eI .i64 0)]) (H' := [(15, ⟨[.vals (rowV gB r.L ++ rest)], 47⟩), (17, ⟨(cRun 15 r.n cap r.s0 r.s1 r.s2), 51⟩)]) (by kernel_rfl) ?_
      refine wo_nil ?_
      refine we_then ?_
      refine wc_block ?_
      refine wc_loopn 4 ?_
      refine wr_go ?_
      refine wc_seq ?_
      refine wc_reg [0] (by kernel_rfl) ?_
      refine wo_run [0] [3, 6, 7, 87, 88] [15, 17] (l' := [(3, eL 17 0), (6, eI .i64 ((best : Nat) : Int)), (7, eI .i64 view), (87, eI .i64 0), (88, eB true)]) (H' := [(15, ⟨[.vals (rowV gB r.L ++ rest)], 47⟩), (17, ⟨(cRun 15 r.n cap r.s0 r.s1 r.s2), 51⟩)]) (by kernel_rfl) ?_
      refine wo_nil ?_
      refine we_then ?_
      refine wc_seq ?_
      refine wc_true rfl ?_
      refine wc_skip ?_
      refine we_then ?_
      refine wc_seq ?_
      refine wc_block ?_
      refine wc_seq ?_
      refine wc_reg [0, 1] (by kernel_rfl) ?_
      refine wo_run [0, 1] [3, 6, 7, 9, 87] [15, 17] (l' := [(3, eL 17 0), (6, eI .i64 ((best : Nat) : Int)), (7, eI .i64 view), (9, eI .i64 0), (87, eI .i64 0)]) (H' := [(15, ⟨[.vals (rowV gB r.L ++ rest)], 47⟩), (17, ⟨(cRun 15 r.n cap r.s0 r.s1 r.s2), 51⟩)]) (by kernel_rfl) ?_
      refine wo_nil ?_
      refine we_then ?_
      refine wc_reg [0, 1, 2, 3, 4, 5, 6, 7, 8, 9] (by kernel_rfl) ?_
      refine wo_run [0, 1, 2, 3, 4, 5, 6, 7, 8, 9] [3, 6, 7, 87] [15, 17] (l' := [(3, eL 17 0), (6, eI .i64 ((best : Nat) : Int)), (7, eI .i64 (if r.s0.v > view then r.s0.v else view)), (87, eI .i64 0)]) (H' := [(15, ⟨[.vals (rowV gB r.L ++ rest)], 47⟩), (17, ⟨(cRun 15 r.n cap r.s0 r.s1 r.s2), 51⟩)]) (by kernel_rfl) ?_
      refine wo_nil ?_
      refine we_block ?_
      refine we_then ?_
      refine wc_reg [0, 1] (by kernel_rfl) ?_
      refine wo_run [0, 1] [3, 6, 7, 87] [15, 17] (l' := [(3, eL 17 0), (6, eI .i64 ((best : Nat) : Int)), (7, eI .i64 (if r.s0.v > view then r.s0.v else view)), (87, eI .i64 1)]) (H' := [(15, ⟨[.vals (rowV gB r.L ++ rest)], 47⟩), (17, ⟨(cRun 15 r.n cap r.s0 r.s1 r.s2), 51⟩)]) (by kernel_rfl) ?_
      refine wo_nil ?_
      refine we_unr ?_
      refine wr_go ?_
      refine wc_seq ?_
      refine wc_reg [0] (by kernel_rfl) ?_
      refine wo_run [0] [3, 6, 7, 87, 88] [15, 17] (l' := [(3, eL 17 0), (6, eI .i64 ((best : Nat) : Int)), (7, eI .i64 (if r.s0.v > view then r.s0.v else view)), (87, eI .i64 1), (88, eB true)]) (H' := [(15, ⟨[.vals (rowV gB r.L ++ rest)], 47⟩), (17, ⟨(cRun 15 r.n cap r.s0 r.s1 r.s2), 51⟩)]) (by kernel_rfl) ?_
      refine wo_nil ?_
      refine we_then ?_
      refine wc_seq ?_
      refine wc_true rfl ?_
      refine wc_skip ?_
      refine we_then ?_
      refine wc_seq ?_
      refine wc_block ?_
      refine wc_seq ?_
      refine wc_reg [0, 1] (by kernel_rfl) ?_
      refine wo_run [0, 1] [3, 6, 7, 9, 87] [15, 17] (l' := [(3, eL 17 0), (6, eI .i64 ((best : Nat) : Int)), (7, eI .i64 (if r.s0.v > view then r.s0.v else view)), (9, eI .i64 1), (87, eI .i64 1)]) (H' := [(15, ⟨[.vals (rowV gB r.L ++ rest)], 47⟩), (17, ⟨(cRun 15 r.n cap r.s0 r.s1 r.s2), 51⟩)]) (by kernel_rfl) ?_
      refine wo_nil ?_
      refine we_then ?_
      refine wc_reg [0, 1, 2, 3, 4, 5, 6, 7, 8, 9] (by kernel_rfl) ?_
      refine wo_run [0, 1, 2, 3, 4, 5, 6, 7, 8, 9] [3, 6, 7, 87] [15, 17] (l' := [(3, eL 17 0), (6, eI .i64 ((best : Nat) : Int)), (7, eI .i64 (if r.s1.v > (if r.s0.v > view then r.s0.v else view) then r.s1.v else (if r.s0.v > view then r.s0.v else view))), (87, eI .i64 1)]) (H' := [(15, ⟨[.vals (rowV gB r.L ++ rest)], 47⟩), (17, ⟨(cRun 15 r.n cap r.s0 r.s1 r.s2), 51⟩)]) (by kernel_rfl) ?_
      refine wo_nil ?_
      refine we_block ?_
      refine we_then ?_
      refine wc_reg [0, 1] (by kernel_rfl) ?_
      refine wo_run [0, 1] [3, 6, 7, 87] [15, 17] (l' := [(3, eL 17 0), (6, eI .i64 ((best : Nat) : Int)), (7, eI .i64 (if r.s1.v > (if r.s0.v > view then r.s0.v else view) then r.s1.v else (if r.s0.v > view then r.s0.v else view))), (87, eI .i64 2)]) (H' := [(15, ⟨[.vals (rowV gB r.L ++ rest)], 47⟩), (17, ⟨(cRun 15 r.n cap r.s0 r.s1 r.s2), 51⟩)]) (by kernel_rfl) ?_
      refine wo_nil ?_
      refine we_unr ?_
      refine wr_go ?_
      refine wc_seq ?_
      refine wc_reg [0] (by kernel_rfl) ?_
      refine wo_run [0] [3, 6, 7, 87, 88] [15, 17] (l' := [(3, eL 17 0), (6, eI .i64 ((best : Nat) : Int)), (7, eI .i64 (if r.s1.v > (if r.s0.v > view then r.s0.v else view) then r.s1.v else (if r.s0.v > view then r.s0.v else view))), (87, eI .i64 2), (88, eB true)]) (H' := [(15, ⟨[.vals (rowV gB r.L ++ rest)], 47⟩), (17, ⟨(cRun 15 r.n cap r.s0 r.s1 r.s2), 51⟩)]) (by kernel_rfl) ?_
      refine wo_nil ?_
      refine we_then ?_
      refine wc_seq ?_
      refine wc_true rfl ?_
      refine wc_skip ?_
      refine we_then ?_
      refine wc_seq ?_
      refine wc_block ?_
      refine wc_seq ?_
      refine wc_reg [0, 1] (by kernel_rfl) ?_
      refine wo_run [0, 1] [3, 6, 7, 9, 87] [15, 17] (l' := [(3, eL 17 0), (6, eI .i64 ((best : Nat) : Int)), (7, eI .i64 (if r.s1.v > (if r.s0.v > view then r.s0.v else view) then r.s1.v else (if r.s0.v > view then r.s0.v else view))), (9, eI .i64 2), (87, eI .i64 2)]) (H' := [(15, ⟨[.vals (rowV gB r.L ++ rest)], 47⟩), (17, ⟨(cRun 15 r.n cap r.s0 r.s1 r.s2), 51⟩)]) (by kernel_rfl) ?_
      refine wo_nil ?_
      refine we_then ?_
      refine wc_reg [0, 1, 2, 3, 4, 5, 6, 7, 8, 9] (by kernel_rfl) ?_
      refine wo_run [0, 1, 2, 3, 4, 5, 6, 7, 8, 9] [3, 6, 7, 87] [15, 17] (l' := [(3, eL 17 0), (6, eI .i64 ((best : Nat) : Int)), (7, eI .i64 (if r.s2.v > (if r.s1.v > (if r.s0.v > view then r.s0.v else view) then r.s1.v else (if r.s0.v > view then r.s0.v else view)) then r.s2.v else (if r.s1.v > (if r.s0.v > view then r.s0.v else view) then r.s1.v else (if r.s0.v > view then r.s0.v else view)))), (87, eI .i64 2)]) (H' := [(15, ⟨[.vals (rowV gB r.L ++ rest)], 47⟩), (17, ⟨(cRun 15 r.n cap r.s0 r.s1 r.s2), 51⟩)]) (by kernel_rfl) ?_
      refine wo_nil ?_
      refine we_block ?_
      refine we_then ?_
      refine wc_reg [0, 1] (by kernel_rfl) ?_
      refine wo_run [0, 1] [3, 6, 7, 87] [15, 17] (l' := [(3, eL 17 0), (6, eI .i64 ((best : Nat) : Int)), (7, eI .i64 (if r.s2.v > (if r.s1.v > (if r.s0.v > view then r.s0.v else view) then r.s1.v else (if r.s0.v > view then r.s0.v else view)) then r.s2.v else (if r.s1.v > (if r.s0.v > view then r.s0.v else view) then r.s1.v else (if r.s0.v > view then r.s0.v else view)))), (87, eI .i64 3)]) (H' := [(15, ⟨[.vals (rowV gB r.L ++ rest)], 47⟩), (17, ⟨(cRun 15 r.n cap r.s0 r.s1 r.s2), 51⟩)]) (by kernel_rfl) ?_
      refine wo_nil ?_
      refine we_unr ?_
      refine wr_go ?_
      refine wc_seq ?_
      refine wc_reg [0] (by kernel_rfl) ?_
      refine wo_run [0] [3, 6, 7, 87, 88] [15, 17] (l' := [(3, eL 17 0), (6, eI .i64 ((best : Nat) : Int)), (7, eI .i64 (if r.s2.v > (if r.s1.v > (if r.s0.v > view then r.s0.v else view) then r.s1.v else (if r.s0.v > view then r.s0.v else view)) then r.s2.v else (if r.s1.v > (if r.s0.v > view then r.s0.v else view) then r.s1.v else (if r.s0.v > view then r.s0.v else view)))), (87, eI .i64 3), (88, eB false)]) (H' := [(15, ⟨[.vals (rowV gB r.L ++ rest)], 47⟩), (17, ⟨(cRun 15 r.n cap r.s0 r.s1 r.s2), 51⟩)]) (by kernel_rfl) ?_
      refine wo_nil ?_
      refine we_then ?_
      refine wc_seq ?_
      refine wc_false rfl ?_
      refine wc_exit ?_
      refine we_then_exit ?_
      refine we_then_exit ?_
      refine we_block_exit ?_
      refine we_then ?_
      refine wc_seq ?_
      refine wc_seq ?_
      obtain rfl : i = r.n := by omega
      rw [← hr.ln0] at hB
      have hgo0 := hB.go3 hG
      refine wc_reg [0] (by kernel_rfl) ?_
      refine wo_run [0] [3, 6, 7, 10] [15, 17] (l' := [(3, eL 17 0), (6, eI .i64 ((best : Nat) : Int)), (7, eI .i64 (if r.s2.v > (if r.s1.v > (if r.s0.v > view then r.s0.v else view) then r.s1.v else (if r.s0.v > view then r.s0.v else view)) then r.s2.v else (if r.s1.v > (if r.s0.v > view then r.s0.v else view) then r.s1.v else (if r.s0.v > view then r.s0.v else view)))), (10, eI .i64 0)]) (H' := [(15, ⟨[.vals (rowV gB r.L ++ rest)], 47⟩), (17, ⟨(cRun 15 r.n cap r.s0 r.s1 r.s2), 51⟩)]) (by kernel_rfl) ?_
      refine wo_nil ?_
      refine we_then ?_
      refine wc_block ?_
      refine wc_rest [3, 6, 7, 10] [15, 17] (l' := [(3, eL 17 0), (6, eI .i64 ((best : Nat) : Int)), (7, eI .i64 (if r.s2.v > (if r.s1.v > (if r.s0.v > view then r.s0.v else view) then r.s1.v else (if r.s0.v > view then r.s0.v else view)) then r.s2.v else (if r.s1.v > (if r.s0.v > view then r.s0.v else view) then r.s1.v else (if r.s0.v > view then r.s0.v else view)))), (10, eI .i64 0)]) (H' := [(15, ⟨[.vals (rowV gB r.L ++ rest)], 47⟩), (17, ⟨(cRun 15 r.n cap r.s0 r.s1 r.s2), 51⟩)]) (by kernel_rfl) ?_
      refine wc_loop (τ := Run × Nat × List Value × Nat × Int × Nat) (fun ⟨g, capg, restg, bst, vw, c⟩ => g.ok capg restg ∧ GoI g bst vw c) (fun ⟨g, capg, restg, bst, vw, c⟩ => 3 - c) (fun _ => _) (fun ⟨g, capg, restg, bst, vw, c⟩ => [(3, eL 17 0), (6, eI .i64 ((bst : Nat) : Int)), (7, eI .i64 vw), (10, eI .i64 ((c : Nat) : Int))]) (fun ⟨g, capg, restg, bst, vw, c⟩ => [(15, ⟨[.vals (rowV gB g.L ++ restg)], 47⟩), (17, ⟨[.one (.ls 15 0 g.n capg), cI .i64 g.s0.e, cI .i64 g.s0.v, cI .i64 g.s0.l, .ints .u8 32 g.s0.d, cI .i64 g.s1.e, cI .i64 g.s1.v, cI .i64 g.s1.l, .ints .u8 32 g.s1.d, cI .i64 g.s2.e, cI .i64 g.s2.v, cI .i64 g.s2.l, .ints .u8 32 g.s2.d], 51⟩)]) (r, cap, rest, best, (if r.s2.v > (if r.s1.v > (if r.s0.v > view then r.s0.v else view) then r.s1.v else (if r.s0.v > view then r.s0.v else view)) then r.s2.v else (if r.s1.v > (if r.s0.v > view then r.s0.v else view) then r.s1.v else (if r.s0.v > view then r.s0.v else view))), 0) (⟨hr, hgo0⟩) rfl rfl rfl ?_
      rintro ⟨g, capg, restg, bst, vw, c⟩ hj
      obtain ⟨hg, hgo⟩ := hj
      have hbg : bst < g.n := hg.ln0 ▸ hgo.bl
      have hv0 := hgo.pos
      have hv1 := hgo.small
      have hc3 := hgo.c3
      have hgl := hgo.len
      rw [hg.ln0] at hgl
      refine wc_seq ?_
      refine wc_seq ?_
      refine wc_reg [0, 1] (by kernel_rfl) ?_
      refine wo_run [0, 1] [3, 6, 7, 10, 101] [15, 17] (l' := [(3, eL 17 0), (6, eI .i64 ((bst : Nat) : Int)), (7, eI .i64 vw), (10, eI .i64 ((c : Nat) : Int)), (101, eB (decide (((c : Nat) : Int) < 3)))]) (H' := [(15, ⟨[.vals (rowV gB g.L ++ restg)], 47⟩), (17, ⟨[.one (.ls 15 0 g.n capg), cI .i64 g.s0.e, cI .i64 g.s0.v, cI .i64 g.s0.l, .ints .u8 32 g.s0.d, cI .i64 g.s1.e, cI .i64 g.s1.v, cI .i64 g.s1.l, .ints .u8 32 g.s1.d, cI .i64 g.s2.e, cI .i64 g.s2.v, cI .i64 g.s2.l, .ints .u8 32 g.s2.d], 51⟩)]) (by kernel_rfl) ?_
      refine wo_nil ?_
      refine we_then ?_
      refine wc_cond rfl (fun h11 => ?_) (fun h11 => ?_)
      · replace h11 := of_decide_eq_true h11
        refine wc_skip ?_
        refine we_then ?_
        refine wc_seq ?_
        refine wc_block ?_
        refine wc_seq ?_
        refine wc_reg [0, 1, 2] (by kernel_rfl) ?_
        refine wo_run [0] [3, 6, 10, 104] [15, 17] (l' := [(3, eL 17 0), (6, eI .i64 ((bst : Nat) : Int)), (10, eI .i64 ((c : Nat) : Int)), (104, eI .i64 vw)]) (H' := [(15, ⟨[.vals (rowV gB g.L ++ restg)], 47⟩), (17, ⟨[.one (.ls 15 0 g.n capg), cI .i64 g.s0.e, cI .i64 g.s0.v, cI .i64 g.s0.l, .ints .u8 32 g.s0.d, cI .i64 g.s1.e, cI .i64 g.s1.v, cI .i64 g.s1.l, .ints .u8 32 g.s1.d, cI .i64 g.s2.e, cI .i64 g.s2.v, cI .i64 g.s2.l, .ints .u8 32 g.s2.d], 51⟩)]) (by kernel_rfl) ?_
        refine wo_op rfl rfl (ot_rd rfl (rd_recast (e := eI .i64 (IntKind.wrap .i64 (vw + 1))) (eI .i64 (vw + 1)) (by kernel_rfl) (congrArg (fun z => eI .i64 z) (i64_of (by omega) (by omega))))) ?_
        refine wo_run [2] [3, 6, 7, 10] [15, 17] (l' := [(3, eL 17 0), (6, eI .i64 ((bst : Nat) : Int)), (7, eI .i64 (vw + 1)), (10, eI .i64 ((c : Nat) : Int))]) (H' := [(15, ⟨[.vals (rowV gB g.L ++ restg)], 47⟩), (17, ⟨[.one (.ls 15 0 g.n capg), cI .i64 g.s0.e, cI .i64 g.s0.v, cI .i64 g.s0.l, .ints .u8 32 g.s0.d, cI .i64 g.s1.e, cI .i64 g.s1.v, cI .i64 g.s1.l, .ints .u8 32 g.s1.d, cI .i64 g.s2.e, cI .i64 g.s2.v, cI .i64 g.s2.l, .ints .u8 32 g.s2.d], 51⟩)]) (by kernel_rfl) ?_
        refine wo_nil ?_
        refine we_then ?_
        refine wc_seq ?_
        refine wc_reg [0, 1, 2, 3, 4, 5, 6, 7, 8, 9, 10, 11, 12] (by kernel_rfl) ?_
        refine wo_run [0, 1, 2, 3, 4, 5, 6] [3, 7, 10, 106, 110, 111, 112] [15, 17] (l' := [(3, eL 17 0), (7, eI .i64 (vw + 1)), (10, eI .i64 ((c : Nat) : Int)), (106, eL 17 0), (110, .s (.a (.ls 15 0 g.n capg))), (111, eI .i64 ((bst : Nat) : Int)), (112, eI .i64 (vw + 1))]) (H' := [(15, ⟨[.vals (rowV gB g.L ++ restg)], 47⟩), (17, ⟨[.one (.ls 15 0 g.n capg), cI .i64 g.s0.e, cI .i64 g.s0.v, cI .i64 g.s0.l, .ints .u8 32 g.s0.d, cI .i64 g.s1.e, cI .i64 g.s1.v, cI .i64 g.s1.l, .ints .u8 32 g.s1.d, cI .i64 g.s2.e, cI .i64 g.s2.v, cI .i64 g.s2.l, .ints .u8 32 g.s2.d], 51⟩)]) (by kernel_rfl) ?_
        refine wo_op rfl rfl (ot_rd rfl (rd_build (zc := z47) [cI .i64 ((bst : Nat) : Int), cI .i64 (vw + 1), cB false, cB false, cB false, cB false] rfl z47_zero' z47_ok (fun _ => rfl) (by kernel_rfl) (by kernel_rfl))) ?_
        refine wo_op rfl rfl (ot_bslice (e := 47) (d := 114) (n := 1) (size := 6) [cI .i64 0, cI .i64 0, cB false, cB false, cB false, cB false] [cI .i64 ((bst : Nat) : Int), cI .i64 (vw + 1), cB false, cB false, cB false, cB false] rfl rfl rfl (by kernel_rfl) rfl (by kernel_rfl) (okc_one (okc_one (okc_one (okc_one (okc_one (okc_one (okc_nil))))))) (fun _ => rfl) (by kernel_rfl) (by kernel_rfl)) ?_
        refine wo_ox rfl rfl (ox_append (t := 48) (e := 47) (size := 6) (bytes := 24) (m := 1) 115 15 g.n capg (rowV gB g.L) ([.int .i64 ((bst : Nat) : Int), .int .i64 (vw + 1), .bool false, .bool false, .bool false, .bool false]) restg [114, 17] rfl rfl (by kernel_rfl) (by kernel_rfl) (by kernel_rfl) (by decide) rfl rfl (by rw [rowV_length gB_len, hg.ln0]) (hg.restl) (hg.lenc) (hg.capm) (rfl) (fun u hu => by simp at hu; rcases hu with rfl | rfl | rfl | rfl | rfl | rfl <;> rfl) (news_own 114 [.int .i64 ((bst : Nat) : Int), .int .i64 (vw + 1), .bool false, .bool false, .bool false, .bool false] rfl rfl (fun _ => rfl)) (by simp only [maxLen]; omega) (by omega) (by kernel_rfl)) (fun ⟨c1, r1⟩ hx1 _ => ?_)
        refine wo_run [] [3, 7, 10, 106, 115] [17, 115] (l' := [(3, eL 17 0), (7, eI .i64 (vw + 1)), (10, eI .i64 ((c : Nat) : Int)), (106, eL 17 0), (115, .s (.a (.ls 115 0 (g.n + 1) c1)))]) (H' := [(17, ⟨[.one (.ls 15 0 g.n capg), cI .i64 g.s0.e, cI .i64 g.s0.v, cI .i64 g.s0.l, .ints .u8 32 g.s0.d, cI .i64 g.s1.e, cI .i64 g.s1.v, cI .i64 g.s1.l, .ints .u8 32 g.s1.d, cI .i64 g.s2.e, cI .i64 g.s2.v, cI .i64 g.s2.l, .ints .u8 32 g.s2.d], 51⟩), (115, ⟨[.vals (rowV gB g.L ++ [.int .i64 ((bst : Nat) : Int), .int .i64 (vw + 1), .bool false, .bool false, .bool false, .bool false] ++ r1)], 47⟩)]) (by kernel_rfl) ?_
        refine wo_run [10, 11, 12] [3, 7, 10] [17, 115] (l' := [(3, eL 17 0), (7, eI .i64 (vw + 1)), (10, eI .i64 ((c : Nat) : Int))]) (H' := [(17, ⟨[.one (.ls 115 0 (g.n + 1) c1), cI .i64 g.s0.e, cI .i64 g.s0.v, cI .i64 g.s0.l, .ints .u8 32 g.s0.d, cI .i64 g.s1.e, cI .i64 g.s1.v, cI .i64 g.s1.l, .ints .u8 32 g.s1.d, cI .i64 g.s2.e, cI .i64 g.s2.v, cI .i64 g.s2.l, .ints .u8 32 g.s2.d], 51⟩), (115, ⟨[.vals (rowV gB g.L ++ [.int .i64 ((bst : Nat) : Int), .int .i64 (vw + 1), .bool false, .bool false, .bool false, .bool false] ++ r1)], 47⟩)]) (by kernel_rfl) ?_
        refine wo_nil ?_
        refine we_then ?_
        refine wc_seq ?_
        have hp : (pushR g bst (vw + 1)).ok c1 r1 := push_ok hg hbg (by omega) hx1
        refine wc_flat 115 [.vals (rowV gB (pushR g bst (vw + 1)).L ++ r1)] rfl (fun ρ => congrArg (fun z => flat ρ [.vals z]) (push_row g bst (vw + 1) r1)) (okCs_vals _) ?_
        refine wc_rest [3, 7, 10] [17, 115] (l' := [(3, eL 17 0), (7, eI .i64 (vw + 1)), (10, eI .i64 ((c : Nat) : Int))]) (H' := [(17, ⟨[.one (.ls 115 0 ((pushR g bst (vw + 1)).n) c1), cI .i64 (pushR g bst (vw + 1)).s0.e, cI .i64 (pushR g bst (vw + 1)).s0.v, cI .i64 (pushR g bst (vw + 1)).s0.l, .ints .u8 32 ((pushR g bst (vw + 1)).s0.d), cI .i64 (pushR g bst (vw + 1)).s1.e, cI .i64 (pushR g bst (vw + 1)).s1.v, cI .i64 (pushR g bst (vw + 1)).s1.l, .ints .u8 32 ((pushR g bst (vw + 1)).s1.d), cI .i64 (pushR g bst (vw + 1)).s2.e, cI .i64 (pushR g bst (vw + 1)).s2.v, cI .i64 (pushR g bst (vw + 1)).s2.l, .ints .u8 32 ((pushR g bst (vw + 1)).s2.d)], 51⟩), (115, ⟨[.vals (rowV gB (pushR g bst (vw + 1)).L ++ r1)], 47⟩)]) (by kernel_rfl) ?_
        refine wc_reg [0, 1, 2, 3, 4, 5, 6] (by kernel_rfl) ?_
        refine wo_run [0, 1, 2, 3] [3, 7, 10, 121] [17, 115] (l' := [(3, eL 17 0), (7, eI .i64 (vw + 1)), (10, eI .i64 ((c : Nat) : Int)), (121, .s (.a (.ls 115 0 ((pushR g bst (vw + 1)).n) c1)))]) (H' := [(17, ⟨[.one (.ls 115 0 ((pushR g bst (vw + 1)).n) c1), cI .i64 (pushR g bst (vw + 1)).s0.e, cI .i64 (pushR g bst (vw + 1)).s0.v, cI .i64 (pushR g bst (vw + 1)).s0.l, .ints .u8 32 ((pushR g bst (vw + 1)).s0.d), cI .i64 (pushR g bst (vw + 1)).s1.e, cI .i64 (pushR g bst (vw + 1)).s1.v, cI .i64 (pushR g bst (vw + 1)).s1.l, .ints .u8 32 ((pushR g bst (vw + 1)).s1.d), cI .i64 (pushR g bst (vw + 1)).s2.e, cI .i64 (pushR g bst (vw + 1)).s2.v, cI .i64 (pushR g bst (vw + 1)).s2.l, .ints .u8 32 ((pushR g bst (vw + 1)).s2.d)], 51⟩), (115, ⟨[.vals (rowV gB (pushR g bst (vw + 1)).L ++ r1)], 47⟩)]) (by kernel_rfl) ?_
        refine wo_op rfl rfl (ot_rd rfl (rd_len rfl rfl rfl rfl (fun _ => by kernel_rfl))) ?_
        refine wo_op rfl rfl (ot_rd rfl (rd_recast (e := eI .i64 (IntKind.wrap .i64 ((((pushR g bst (vw + 1)).n : Nat) : Int) - 1))) (eI .i64 ((g.n : Nat) : Int)) (by kernel_rfl) (congrArg (fun z => eI .i64 z) (len_less (n := g.n) (by omega))))) ?_
        refine wo_run [6] [3, 6, 7, 10] [17, 115] (l' := [(3, eL 17 0), (6, eI .i64 ((g.n : Nat) : Int)), (7, eI .i64 (vw + 1)), (10, eI .i64 ((c : Nat) : Int))]) (H' := [(17, ⟨[.one (.ls 115 0 ((pushR g bst (vw + 1)).n) c1), cI .i64 (pushR g bst (vw + 1)).s0.e, cI .i64 (pushR g bst (vw + 1)).s0.v, cI .i64 (pushR g bst (vw + 1)).s0.l, .ints .u8 32 ((pushR g bst (vw + 1)).s0.d), cI .i64 (pushR g bst (vw + 1)).s1.e, cI .i64 (pushR g bst (vw + 1)).s1.v, cI .i64 (pushR g bst (vw + 1)).s1.l, .ints .u8 32 ((pushR g bst (vw + 1)).s1.d), cI .i64 (pushR g bst (vw + 1)).s2.e, cI .i64 (pushR g bst (vw + 1)).s2.v, cI .i64 (pushR g bst (vw + 1)).s2.l, .ints .u8 32 ((pushR g bst (vw + 1)).s2.d)], 51⟩), (115, ⟨[.vals (rowV gB (pushR g bst (vw + 1)).L ++ r1)], 47⟩)]) (by kernel_rfl) ?_
        refine wo_nil ?_
        refine we_then ?_
        refine wc_seq ?_
        refine wc_seq ?_
        refine wc_reg [0] (by kernel_rfl) ?_
        refine wo_run [0] [3, 6, 7, 10, 11] [17, 115] (l' := [(3, eL 17 0), (6, eI .i64 ((g.n : Nat) : Int)), (7, eI .i64 (vw + 1)), (10, eI .i64 ((c : Nat) : Int)), (11, eI .i64 0)]) (H' := [(17, ⟨[.one (.ls 115 0 ((pushR g bst (vw + 1)).n) c1), cI .i64 (pushR g bst (vw + 1)).s0.e, cI .i64 (pushR g bst (vw + 1)).s0.v, cI .i64 (pushR g bst (vw + 1)).s0.l, .ints .u8 32 ((pushR g bst (vw + 1)).s0.d), cI .i64 (pushR g bst (vw + 1)).s1.e, cI .i64 (pushR g bst (vw + 1)).s1.v, cI .i64 (pushR g bst (vw + 1)).s1.l, .ints .u8 32 ((pushR g bst (vw + 1)).s1.d), cI .i64 (pushR g bst (vw + 1)).s2.e, cI .i64 (pushR g bst (vw + 1)).s2.v, cI .i64 (pushR g bst (vw + 1)).s2.l, .ints .u8 32 ((pushR g bst (vw + 1)).s2.d)], 51⟩), (115, ⟨[.vals (rowV gB (pushR g bst (vw + 1)).L ++ r1)], 47⟩)]) (by kernel_rfl) ?_
        refine wo_nil ?_
        refine we_then ?_
        refine wc_block ?_
        refine wc_loopn 4 ?_
        refine wr_go ?_
        refine wc_seq ?_
        refine wc_seq ?_
        refine wc_reg [0, 1] (by kernel_rfl) ?_
        refine wo_run [0, 1] [3, 6, 7, 10, 11, 125] [17, 115] (l' := [(3, eL 17 0), (6, eI .i64 ((g.n : Nat) : Int)), (7, eI .i64 (vw + 1)), (10, eI .i64 ((c : Nat) : Int)), (11, eI .i64 0), (125, eB true)]) (H' := [(17, ⟨[.one (.ls 115 0 ((pushR g bst (vw + 1)).n) c1), cI .i64 (pushR g bst (vw + 1)).s0.e, cI .i64 (pushR g bst (vw + 1)).s0.v, cI .i64 (pushR g bst (vw + 1)).s0.l, .ints .u8 32 ((pushR g bst (vw + 1)).s0.d), cI .i64 (pushR g bst (vw + 1)).s1.e, cI .i64 (pushR g bst (vw + 1)).s1.v, cI .i64 (pushR g bst (vw + 1)).s1.l, .ints .u8 32 ((pushR g bst (vw + 1)).s1.d), cI .i64 (pushR g bst (vw + 1)).s2.e, cI .i64 (pushR g bst (vw + 1)).s2.v, cI .i64 (pushR g bst (vw + 1)).s2.l, .ints .u8 32 ((pushR g bst (vw + 1)).s2.d)], 51⟩), (115, ⟨[.vals (rowV gB (pushR g bst (vw + 1)).L ++ r1)], 47⟩)]) (by kernel_rfl) ?_
        refine wo_nil ?_
        refine we_then ?_
        refine wc_true rfl ?_
        refine wc_skip ?_
        refine we_then ?_
        refine wc_seq ?_
        refine wc_block ?_
        refine wc_reg [0, 1, 2, 3] (by kernel_rfl) ?_
        refine wo_run [0, 1, 2] [3, 6, 7, 10, 11, 128, 129, 130] [17, 115] (l' := [(3, eL 17 0), (6, eI .i64 ((g.n : Nat) : Int)), (7, eI .i64 (vw + 1)), (10, eI .i64 ((c : Nat) : Int)), (11, eI .i64 0), (128, eL 17 0), (129, eI .i64 0), (130, eI .i64 ((g.n : Nat) : Int))]) (H' := [(17, ⟨[.one (.ls 115 0 ((pushR g bst (vw + 1)).n) c1), cI .i64 (pushR g bst (vw + 1)).s0.e, cI .i64 (pushR g bst (vw + 1)).s0.v, cI .i64 (pushR g bst (vw + 1)).s0.l, .ints .u8 32 ((pushR g bst (vw + 1)).s0.d), cI .i64 (pushR g bst (vw + 1)).s1.e, cI .i64 (pushR g bst (vw + 1)).s1.v, cI .i64 (pushR g bst (vw + 1)).s1.l, .ints .u8 32 ((pushR g bst (vw + 1)).s1.d), cI .i64 (pushR g bst (vw + 1)).s2.e, cI .i64 (pushR g bst (vw + 1)).s2.v, cI .i64 (pushR g bst (vw + 1)).s2.l, .ints .u8 32 ((pushR g bst (vw + 1)).s2.d)], 51⟩), (115, ⟨[.vals (rowV gB (pushR g bst (vw + 1)).L ++ r1)], 47⟩)]) (by kernel_rfl) ?_
        refine wo_ox rfl rfl (ox_callm (τ := Unit) (φ := fun _ => True) [sL 100000 0, sI .i64 0, sI .i64 ((g.n : Nat) : Int)] [(100000, ⟨[.one (.ls 100001 0 ((pushR g bst (vw + 1)).n) c1), cI .i64 (pushR g bst (vw + 1)).s0.e, cI .i64 (pushR g bst (vw + 1)).s0.v, cI .i64 (pushR g bst (vw + 1)).s0.l, .ints .u8 32 ((pushR g bst (vw + 1)).s0.d), cI .i64 (pushR g bst (vw + 1)).s1.e, cI .i64 (pushR g bst (vw + 1)).s1.v, cI .i64 (pushR g bst (vw + 1)).s1.l, .ints .u8 32 ((pushR g bst (vw + 1)).s1.d), cI .i64 (pushR g bst (vw + 1)).s2.e, cI .i64 (pushR g bst (vw + 1)).s2.v, cI .i64 (pushR g bst (vw + 1)).s2.l, .ints .u8 32 ((pushR g bst (vw + 1)).s2.d)], 51⟩), (100001, ⟨[.vals (rowV gB (pushR g bst (vw + 1)).L ++ r1)], 47⟩)] [(100000, 17), (100001, 115)] [] [] (fun _ => .t []) (fun _ => [(100000, ⟨[.one (.ls 100001 0 ((voteR (pushR g bst (vw + 1)) 0 g.n).n) c1), cI .i64 (voteR (pushR g bst (vw + 1)) 0 g.n).s0.e, cI .i64 (voteR (pushR g bst (vw + 1)) 0 g.n).s0.v, cI .i64 (voteR (pushR g bst (vw + 1)) 0 g.n).s0.l, .ints .u8 32 ((voteR (pushR g bst (vw + 1)) 0 g.n).s0.d), cI .i64 (voteR (pushR g bst (vw + 1)) 0 g.n).s1.e, cI .i64 (voteR (pushR g bst (vw + 1)) 0 g.n).s1.v, cI .i64 (voteR (pushR g bst (vw + 1)) 0 g.n).s1.l, .ints .u8 32 ((voteR (pushR g bst (vw + 1)) 0 g.n).s1.d), cI .i64 (voteR (pushR g bst (vw + 1)) 0 g.n).s2.e, cI .i64 (voteR (pushR g bst (vw + 1)) 0 g.n).s2.v, cI .i64 (voteR (pushR g bst (vw + 1)) 0 g.n).s2.l, .ints .u8 32 ((voteR (pushR g bst (vw + 1)) 0 g.n).s2.d)], 51⟩), (100001, ⟨[.vals (rowV gB (voteR (pushR g bst (vw + 1)) 0 g.n).L ++ r1)], 47⟩)]) rfl (by kernel_rfl) rfl Try.func28 (by kernel_rfl) (by kernel_rfl) (by kernel_rfl) (by kernel_rfl) (by kernel_rfl) (by kernel_rfl) (⟨⟨by kernel_rfl, by kernel_rfl, by kernel_rfl⟩, ⟨⟨by kernel_rfl, by kernel_rfl, by kernel_rfl⟩, trivial⟩⟩) (fun _ => by kernel_rfl) (fun _ => by kernel_rfl) (fun _ _ => okv_nil) (fun ρ w _ hh => vote0_any (pushR g bst (vw + 1)) c1 r1 hp g.n (by first | exact Nat.lt_succ_self _ | (simp only [voteR_n]; exact Nat.lt_succ_self _)) w _ hh)) (fun _ _ _ => ?_)
        refine wo_run [] [3, 6, 7, 10, 11] [17, 115] (l' := [(3, eL 17 0), (6, eI .i64 ((g.n : Nat) : Int)), (7, eI .i64 (vw + 1)), (10, eI .i64 ((c : Nat) : Int)), (11, eI .i64 0)]) (H' := [(17, ⟨[.one (.ls 115 0 ((voteR (pushR g bst (vw + 1)) 0 g.n).n) c1), cI .i64 (voteR (pushR g bst (vw + 1)) 0 g.n).s0.e, cI .i64 (voteR (pushR g bst (vw + 1)) 0 g.n).s0.v, cI .i64 (voteR (pushR g bst (vw + 1)) 0 g.n).s0.l, .ints .u8 32 ((voteR (pushR g bst (vw + 1)) 0 g.n).s0.d), cI .i64 (voteR (pushR g bst (vw + 1)) 0 g.n).s1.e, cI .i64 (voteR (pushR g bst (vw + 1)) 0 g.n).s1.v, cI .i64 (voteR (pushR g bst (vw + 1)) 0 g.n).s1.l, .ints .u8 32 ((voteR (pushR g bst (vw + 1)) 0 g.n).s1.d), cI .i64 (voteR (pushR g bst (vw + 1)) 0 g.n).s2.e, cI .i64 (voteR (pushR g bst (vw + 1)) 0 g.n).s2.v, cI .i64 (voteR (pushR g bst (vw + 1)) 0 g.n).s2.l, .ints .u8 32 ((voteR (pushR g bst (vw + 1)) 0 g.n).s2.d)], 51⟩), (115, ⟨[.vals (rowV gB (voteR (pushR g bst (vw + 1)) 0 g.n).L ++ r1)], 47⟩)]) (by kernel_rfl) ?_
        refine wo_nil ?_
        refine we_block ?_
        refine we_then ?_
        refine wc_reg [0, 1, 2] (by kernel_rfl) ?_
        refine wo_run [0, 1, 2] [3, 6, 7, 10, 11] [17, 115] (l' := [(3, eL 17 0), (6, eI .i64 ((g.n : Nat) : Int)), (7, eI .i64 (vw + 1)), (10, eI .i64 ((c : Nat) : Int)), (11, eI .i64 1)]) (H' := [(17, ⟨[.one (.ls 115 0 ((voteR (pushR g bst (vw + 1)) 0 g.n).n) c1), cI .i64 (voteR (pushR g bst (vw + 1)) 0 g.n).s0.e, cI .i64 (voteR (pushR g bst (vw + 1)) 0 g.n).s0.v, cI .i64 (voteR (pushR g bst (vw + 1)) 0 g.n).s0.l, .ints .u8 32 ((voteR (pushR g bst (vw + 1)) 0 g.n).s0.d), cI .i64 (voteR (pushR g bst (vw + 1)) 0 g.n).s1.e, cI .i64 (voteR (pushR g bst (vw + 1)) 0 g.n).s1.v, cI .i64 (voteR (pushR g bst (vw + 1)) 0 g.n).s1.l, .ints .u8 32 ((voteR (pushR g bst (vw + 1)) 0 g.n).s1.d), cI .i64 (voteR (pushR g bst (vw + 1)) 0 g.n).s2.e, cI .i64 (voteR (pushR g bst (vw + 1)) 0 g.n).s2.v, cI .i64 (voteR (pushR g bst (vw + 1)) 0 g.n).s2.l, .ints .u8 32 ((voteR (pushR g bst (vw + 1)) 0 g.n).s2.d)], 51⟩), (115, ⟨[.vals (rowV gB (voteR (pushR g bst (vw + 1)) 0 g.n).L ++ r1)], 47⟩)]) (by kernel_rfl) ?_
        refine wo_nil ?_
        refine we_unr ?_
        refine wr_go ?_
        refine wc_seq ?_
        refine wc_seq ?_
        refine wc_reg [0, 1] (by kernel_rfl) ?_
        refine wo_run [0, 1] [3, 6, 7, 10, 11, 125] [17, 115] (l' := [(3, eL 17 0), (6, eI .i64 ((g.n : Nat) : Int)), (7, eI .i64 (vw + 1)), (10, eI .i64 ((c : Nat) : Int)), (11, eI .i64 1), (125, eB true)]) (H' := [(17, ⟨[.one (.ls 115 0 ((voteR (pushR g bst (vw + 1)) 0 g.n).n) c1), cI .i64 (voteR (pushR g bst (vw + 1)) 0 g.n).s0.e, cI .i64 (voteR (pushR g bst (vw + 1)) 0 g.n).s0.v, cI .i64 (voteR (pushR g bst (vw + 1)) 0 g.n).s0.l, .ints .u8 32 ((voteR (pushR g bst (vw + 1)) 0 g.n).s0.d), cI .i64 (voteR (pushR g bst (vw + 1)) 0 g.n).s1.e, cI .i64 (voteR (pushR g bst (vw + 1)) 0 g.n).s1.v, cI .i64 (voteR (pushR g bst (vw + 1)) 0 g.n).s1.l, .ints .u8 32 ((voteR (pushR g bst (vw + 1)) 0 g.n).s1.d), cI .i64 (voteR (pushR g bst (vw + 1)) 0 g.n).s2.e, cI .i64 (voteR (pushR g bst (vw + 1)) 0 g.n).s2.v, cI .i64 (voteR (pushR g bst (vw + 1)) 0 g.n).s2.l, .ints .u8 32 ((voteR (pushR g bst (vw + 1)) 0 g.n).s2.d)], 51⟩), (115, ⟨[.vals (rowV gB (voteR (pushR g bst (vw + 1)) 0 g.n).L ++ r1)], 47⟩)]) (by kernel_rfl) ?_
        refine wo_nil ?_
        refine we_then ?_
        refine wc_true rfl ?_
        refine wc_skip ?_
        refine we_then ?_
        refine wc_seq ?_
        refine wc_block ?_
        refine wc_reg [0, 1, 2, 3] (by kernel_rfl) ?_
        refine wo_run [0, 1, 2] [3, 6, 7, 10, 11, 128, 129, 130] [17, 115] (l' := [(3, eL 17 0), (6, eI .i64 ((g.n : Nat) : Int)), (7, eI .i64 (vw + 1)), (10, eI .i64 ((c : Nat) : Int)), (11, eI .i64 1), (128, eL 17 0), (129, eI .i64 1), (130, eI .i64 ((g.n : Nat) : Int))]) (H' := [(17, ⟨[.one (.ls 115 0 ((voteR (pushR g bst (vw + 1)) 0 g.n).n) c1), cI .i64 (voteR (pushR g bst (vw + 1)) 0 g.n).s0.e, cI .i64 (voteR (pushR g bst (vw + 1)) 0 g.n).s0.v, cI .i64 (voteR (pushR g bst (vw + 1)) 0 g.n).s0.l, .ints .u8 32 ((voteR (pushR g bst (vw + 1)) 0 g.n).s0.d), cI .i64 (voteR (pushR g bst (vw + 1)) 0 g.n).s1.e, cI .i64 (voteR (pushR g bst (vw + 1)) 0 g.n).s1.v, cI .i64 (voteR (pushR g bst (vw + 1)) 0 g.n).s1.l, .ints .u8 32 ((voteR (pushR g bst (vw + 1)) 0 g.n).s1.d), cI .i64 (voteR (pushR g bst (vw + 1)) 0 g.n).s2.e, cI .i64 (voteR (pushR g bst (vw + 1)) 0 g.n).s2.v, cI .i64 (voteR (pushR g bst (vw + 1)) 0 g.n).s2.l, .ints .u8 32 ((voteR (pushR g bst (vw + 1)) 0 g.n).s2.d)], 51⟩), (115, ⟨[.vals (rowV gB (voteR (pushR g bst (vw + 1)) 0 g.n).L ++ r1)], 47⟩)]) (by kernel_rfl) ?_
        refine wo_ox rfl rfl (ox_callm (τ := Unit) (φ := fun _ => True) [sL 100000 0, sI .i64 1, sI .i64 ((g.n : Nat) : Int)] [(100000, ⟨[.one (.ls 100001 0 ((voteR (pushR g bst (vw + 1)) 0 g.n).n) c1), cI .i64 (voteR (pushR g bst (vw + 1)) 0 g.n).s0.e, cI .i64 (voteR (pushR g bst (vw + 1)) 0 g.n).s0.v, cI .i64 (voteR (pushR g bst (vw + 1)) 0 g.n).s0.l, .ints .u8 32 ((voteR (pushR g bst (vw + 1)) 0 g.n).s0.d), cI .i64 (voteR (pushR g bst (vw + 1)) 0 g.n).s1.e, cI .i64 (voteR (pushR g bst (vw + 1)) 0 g.n).s1.v, cI .i64 (voteR (pushR g bst (vw + 1)) 0 g.n).s1.l, .ints .u8 32 ((voteR (pushR g bst (vw + 1)) 0 g.n).s1.d), cI .i64 (voteR (pushR g bst (vw + 1)) 0 g.n).s2.e, cI .i64 (voteR (pushR g bst (vw + 1)) 0 g.n).s2.v, cI .i64 (voteR (pushR g bst (vw + 1)) 0 g.n).s2.l, .ints .u8 32 ((voteR (pushR g bst (vw + 1)) 0 g.n).s2.d)], 51⟩), (100001, ⟨[.vals (rowV gB (voteR (pushR g bst (vw + 1)) 0 g.n).L ++ r1)], 47⟩)] [(100000, 17), (100001, 115)] [] [] (fun _ => .t []) (fun _ => [(100000, ⟨[.one (.ls 100001 0 ((voteR (voteR (pushR g bst (vw + 1)) 0 g.n) 1 g.n).n) c1), cI .i64 (voteR (voteR (pushR g bst (vw + 1)) 0 g.n) 1 g.n).s0.e, cI .i64 (voteR (voteR (pushR g bst (vw + 1)) 0 g.n) 1 g.n).s0.v, cI .i64 (voteR (voteR (pushR g bst (vw + 1)) 0 g.n) 1 g.n).s0.l, .ints .u8 32 ((voteR (voteR (pushR g bst (vw + 1)) 0 g.n) 1 g.n).s0.d), cI .i64 (voteR (voteR (pushR g bst (vw + 1)) 0 g.n) 1 g.n).s1.e, cI .i64 (voteR (voteR (pushR g bst (vw + 1)) 0 g.n) 1 g.n).s1.v, cI .i64 (voteR (voteR (pushR g bst (vw + 1)) 0 g.n) 1 g.n).s1.l, .ints .u8 32 ((voteR (voteR (pushR g bst (vw + 1)) 0 g.n) 1 g.n).s1.d), cI .i64 (voteR (voteR (pushR g bst (vw + 1)) 0 g.n) 1 g.n).s2.e, cI .i64 (voteR (voteR (pushR g bst (vw + 1)) 0 g.n) 1 g.n).s2.v, cI .i64 (voteR (voteR (pushR g bst (vw + 1)) 0 g.n) 1 g.n).s2.l, .ints .u8 32 ((voteR (voteR (pushR g bst (vw + 1)) 0 g.n) 1 g.n).s2.d)], 51⟩), (100001, ⟨[.vals (rowV gB (voteR (voteR (pushR g bst (vw + 1)) 0 g.n) 1 g.n).L ++ r1)], 47⟩)]) rfl (by kernel_rfl) rfl Try.func28 (by kernel_rfl) (by kernel_rfl) (by kernel_rfl) (by kernel_rfl) (by kernel_rfl) (by kernel_rfl) (⟨⟨by kernel_rfl, by kernel_rfl, by kernel_rfl⟩, ⟨⟨by kernel_rfl, by kernel_rfl, by kernel_rfl⟩, trivial⟩⟩) (fun _ => by kernel_rfl) (fun _ => by kernel_rfl) (fun _ _ => okv_nil) (fun ρ w _ hh => vote1_any (voteR (pushR g bst (vw + 1)) 0 g.n) c1 r1 (voteR_ok hp (by first | exact Nat.lt_succ_self _ | (simp only [voteR_n]; exact Nat.lt_succ_self _))) g.n (by first | exact Nat.lt_succ_self _ | (simp only [voteR_n]; exact Nat.lt_succ_self _)) w _ hh)) (fun _ _ _ => ?_)
        refine wo_run [] [3, 6, 7, 10, 11] [17, 115] (l' := [(3, eL 17 0), (6, eI .i64 ((g.n : Nat) : Int)), (7, eI .i64 (vw + 1)), (10, eI .i64 ((c : Nat) : Int)), (11, eI .i64 1)]) (H' := [(17, ⟨[.one (.ls 115 0 ((voteR (voteR (pushR g bst (vw + 1)) 0 g.n) 1 g.n).n) c1), cI .i64 (voteR (voteR (pushR g bst (vw + 1)) 0 g.n) 1 g.n).s0.e, cI .i64 (voteR (voteR (pushR g bst (vw + 1)) 0 g.n) 1 g.n).s0.v, cI .i64 (voteR (voteR (pushR g bst (vw + 1)) 0 g.n) 1 g.n).s0.l, .ints .u8 32 ((voteR (voteR (pushR g bst (vw + 1)) 0 g.n) 1 g.n).s0.d), cI .i64 (voteR (voteR (pushR g bst (vw + 1)) 0 g.n) 1 g.n).s1.e, cI .i64 (voteR (voteR (pushR g bst (vw + 1)) 0 g.n) 1 g.n).s1.v, cI .i64 (voteR (voteR (pushR g bst (vw + 1)) 0 g.n) 1 g.n).s1.l, .ints .u8 32 ((voteR (voteR (pushR g bst (vw + 1)) 0 g.n) 1 g.n).s1.d), cI .i64 (voteR (voteR (pushR g bst (vw + 1)) 0 g.n) 1 g.n).s2.e, cI .i64 (voteR (voteR (pushR g bst (vw + 1)) 0 g.n) 1 g.n).s2.v, cI .i64 (voteR (voteR (pushR g bst (vw + 1)) 0 g.n) 1 g.n).s2.l, .ints .u8 32 ((voteR (voteR (pushR g bst (vw + 1)) 0 g.n) 1 g.n).s2.d)], 51⟩), (115, ⟨[.vals (rowV gB (voteR (voteR (pushR g bst (vw + 1)) 0 g.n) 1 g.n).L ++ r1)], 47⟩)]) (by kernel_rfl) ?_
        refine wo_nil ?_
        refine we_block ?_
        refine we_then ?_
        refine wc_reg [0, 1, 2] (by kernel_rfl) ?_
        refine wo_run [0, 1, 2] [3, 6, 7, 10, 11] [17, 115] (l' := [(3, eL 17 0), (6, eI .i64 ((g.n : Nat) : Int)), (7, eI .i64 (vw + 1)), (10, eI .i64 ((c : Nat) : Int)), (11, eI .i64 2)]) (H' := [(17, ⟨[.one (.ls 115 0 ((voteR (voteR (pushR g bst (vw + 1)) 0 g.n) 1 g.n).n) c1), cI .i64 (voteR (voteR (pushR g bst (vw + 1)) 0 g.n) 1 g.n).s0.e, cI .i64 (voteR (voteR (pushR g bst (vw + 1)) 0 g.n) 1 g.n).s0.v, cI .i64 (voteR (voteR (pushR g bst (vw + 1)) 0 g.n) 1 g.n).s0.l, .ints .u8 32 ((voteR (voteR (pushR g bst (vw + 1)) 0 g.n) 1 g.n).s0.d), cI .i64 (voteR (voteR (pushR g bst (vw + 1)) 0 g.n) 1 g.n).s1.e, cI .i64 (voteR (voteR (pushR g bst (vw + 1)) 0 g.n) 1 g.n).s1.v, cI .i64 (voteR (voteR (pushR g bst (vw + 1)) 0 g.n) 1 g.n).s1.l, .ints .u8 32 ((voteR (voteR (pushR g bst (vw + 1)) 0 g.n) 1 g.n).s1.d), cI .i64 (voteR (voteR (pushR g bst (vw + 1)) 0 g.n) 1 g.n).s2.e, cI .i64 (voteR (voteR (pushR g bst (vw + 1)) 0 g.n) 1 g.n).s2.v, cI .i64 (voteR (voteR (pushR g bst (vw + 1)) 0 g.n) 1 g.n).s2.l, .ints .u8 32 ((voteR (voteR (pushR g bst (vw + 1)) 0 g.n) 1 g.n).s2.d)], 51⟩), (115, ⟨[.vals (rowV gB (voteR (voteR (pushR g bst (vw + 1)) 0 g.n) 1 g.n).L ++ r1)], 47⟩)]) (by kernel_rfl) ?_
        refine wo_nil ?_
        refine we_unr ?_
        refine wr_go ?_
        refine wc_seq ?_
        refine wc_seq ?_
        refine wc_reg [0, 1] (by kernel_rfl) ?_
        refine wo_run [0, 1] [3, 6, 7, 10, 11, 125] [17, 115] (l' := [(3, eL 17 0), (6, eI .i64 ((g.n : Nat) : Int)), (7, eI .i64 (vw + 1)), (10, eI .i64 ((c : Nat) : Int)), (11, eI .i64 2), (125, eB true)]) (H' := [(17, ⟨[.one (.ls 115 0 ((voteR (voteR (pushR g bst (vw + 1)) 0 g.n) 1 g.n).n) c1), cI .i64 (voteR (voteR (pushR g bst (vw + 1)) 0 g.n) 1 g.n).s0.e, cI .i64 (voteR (voteR (pushR g bst (vw + 1)) 0 g.n) 1 g.n).s0.v, cI .i64 (voteR (voteR (pushR g bst (vw + 1)) 0 g.n) 1 g.n).s0.l, .ints .u8 32 ((voteR (voteR (pushR g bst (vw + 1)) 0 g.n) 1 g.n).s0.d), cI .i64 (voteR (voteR (pushR g bst (vw + 1)) 0 g.n) 1 g.n).s1.e, cI .i64 (voteR (voteR (pushR g bst (vw + 1)) 0 g.n) 1 g.n).s1.v, cI .i64 (voteR (voteR (pushR g bst (vw + 1)) 0 g.n) 1 g.n).s1.l, .ints .u8 32 ((voteR (voteR (pushR g bst (vw + 1)) 0 g.n) 1 g.n).s1.d), cI .i64 (voteR (voteR (pushR g bst (vw + 1)) 0 g.n) 1 g.n).s2.e, cI .i64 (voteR (voteR (pushR g bst (vw + 1)) 0 g.n) 1 g.n).s2.v, cI .i64 (voteR (voteR (pushR g bst (vw + 1)) 0 g.n) 1 g.n).s2.l, .ints .u8 32 ((voteR (voteR (pushR g bst (vw + 1)) 0 g.n) 1 g.n).s2.d)], 51⟩), (115, ⟨[.vals (rowV gB (voteR (voteR (pushR g bst (vw + 1)) 0 g.n) 1 g.n).L ++ r1)], 47⟩)]) (by kernel_rfl) ?_
        refine wo_nil ?_
        refine we_then ?_
        refine wc_true rfl ?_
        refine wc_skip ?_
        refine we_then ?_
        refine wc_seq ?_
        refine wc_block ?_
        refine wc_reg [0, 1, 2, 3] (by kernel_rfl) ?_
        refine wo_run [0, 1, 2] [3, 6, 7, 10, 11, 128, 129, 130] [17, 115] (l' := [(3, eL 17 0), (6, eI .i64 ((g.n : Nat) : Int)), (7, eI .i64 (vw + 1)), (10, eI .i64 ((c : Nat) : Int)), (11, eI .i64 2), (128, eL 17 0), (129, eI .i64 2), (130, eI .i64 ((g.n : Nat) : Int))]) (H' := [(17, ⟨[.one (.ls 115 0 ((voteR (voteR (pushR g bst (vw + 1)) 0 g.n) 1 g.n).n) c1), cI .i64 (voteR (voteR (pushR g bst (vw + 1)) 0 g.n) 1 g.n).s0.e, cI .i64 (voteR (voteR (pushR g bst (vw + 1)) 0 g.n) 1 g.n).s0.v, cI .i64 (voteR (voteR (pushR g bst (vw + 1)) 0 g.n) 1 g.n).s0.l, .ints .u8 32 ((voteR (voteR (pushR g bst (vw + 1)) 0 g.n) 1 g.n).s0.d), cI .i64 (voteR (voteR (pushR g bst (vw + 1)) 0 g.n) 1 g.n).s1.e, cI .i64 (voteR (voteR (pushR g bst (vw + 1)) 0 g.n) 1 g.n).s1.v, cI .i64 (voteR (voteR (pushR g bst (vw + 1)) 0 g.n) 1 g.n).s1.l, .ints .u8 32 ((voteR (voteR (pushR g bst (vw + 1)) 0 g.n) 1 g.n).s1.d), cI .i64 (voteR (voteR (pushR g bst (vw + 1)) 0 g.n) 1 g.n).s2.e, cI .i64 (voteR (voteR (pushR g bst (vw + 1)) 0 g.n) 1 g.n).s2.v, cI .i64 (voteR (voteR (pushR g bst (vw + 1)) 0 g.n) 1 g.n).s2.l, .ints .u8 32 ((voteR (voteR (pushR g bst (vw + 1)) 0 g.n) 1 g.n).s2.d)], 51⟩), (115, ⟨[.vals (rowV gB (voteR (voteR (pushR g bst (vw + 1)) 0 g.n) 1 g.n).L ++ r1)], 47⟩)]) (by kernel_rfl) ?_
        refine wo_ox rfl rfl (ox_callm (τ := Unit) (φ := fun _ => True) [sL 100000 0, sI .i64 2, sI .i64 ((g.n : Nat) : Int)] [(100000, ⟨[.one (.ls 100001 0 ((voteR (voteR (pushR g bst (vw + 1)) 0 g.n) 1 g.n).n) c1), cI .i64 (voteR (voteR (pushR g bst (vw + 1)) 0 g.n) 1 g.n).s0.e, cI .i64 (voteR (voteR (pushR g bst (vw + 1)) 0 g.n) 1 g.n).s0.v, cI .i64 (voteR (voteR (pushR g bst (vw + 1)) 0 g.n) 1 g.n).s0.l, .ints .u8 32 ((voteR (voteR (pushR g bst (vw + 1)) 0 g.n) 1 g.n).s0.d), cI .i64 (voteR (voteR (pushR g bst (vw + 1)) 0 g.n) 1 g.n).s1.e, cI .i64 (voteR (voteR (pushR g bst (vw + 1)) 0 g.n) 1 g.n).s1.v, cI .i64 (voteR (voteR (pushR g bst (vw + 1)) 0 g.n) 1 g.n).s1.l, .ints .u8 32 ((voteR (voteR (pushR g bst (vw + 1)) 0 g.n) 1 g.n).s1.d), cI .i64 (voteR (voteR (pushR g bst (vw + 1)) 0 g.n) 1 g.n).s2.e, cI .i64 (voteR (voteR (pushR g bst (vw + 1)) 0 g.n) 1 g.n).s2.v, cI .i64 (voteR (voteR (pushR g bst (vw + 1)) 0 g.n) 1 g.n).s2.l, .ints .u8 32 ((voteR (voteR (pushR g bst (vw + 1)) 0 g.n) 1 g.n).s2.d)], 51⟩), (100001, ⟨[.vals (rowV gB (voteR (voteR (pushR g bst (vw + 1)) 0 g.n) 1 g.n).L ++ r1)], 47⟩)] [(100000, 17), (100001, 115)] [] [] (fun _ => .t []) (fun _ => [(100000, ⟨[.one (.ls 100001 0 ((voteR (voteR (voteR (pushR g bst (vw + 1)) 0 g.n) 1 g.n) 2 g.n).n) c1), cI .i64 (voteR (voteR (voteR (pushR g bst (vw + 1)) 0 g.n) 1 g.n) 2 g.n).s0.e, cI .i64 (voteR (voteR (voteR (pushR g bst (vw + 1)) 0 g.n) 1 g.n) 2 g.n).s0.v, cI .i64 (voteR (voteR (voteR (pushR g bst (vw + 1)) 0 g.n) 1 g.n) 2 g.n).s0.l, .ints .u8 32 ((voteR (voteR (voteR (pushR g bst (vw + 1)) 0 g.n) 1 g.n) 2 g.n).s0.d), cI .i64 (voteR (voteR (voteR (pushR g bst (vw + 1)) 0 g.n) 1 g.n) 2 g.n).s1.e, cI .i64 (voteR (voteR (voteR (pushR g bst (vw + 1)) 0 g.n) 1 g.n) 2 g.n).s1.v, cI .i64 (voteR (voteR (voteR (pushR g bst (vw + 1)) 0 g.n) 1 g.n) 2 g.n).s1.l, .ints .u8 32 ((voteR (voteR (voteR (pushR g bst (vw + 1)) 0 g.n) 1 g.n) 2 g.n).s1.d), cI .i64 (voteR (voteR (voteR (pushR g bst (vw + 1)) 0 g.n) 1 g.n) 2 g.n).s2.e, cI .i64 (voteR (voteR (voteR (pushR g bst (vw + 1)) 0 g.n) 1 g.n) 2 g.n).s2.v, cI .i64 (voteR (voteR (voteR (pushR g bst (vw + 1)) 0 g.n) 1 g.n) 2 g.n).s2.l, .ints .u8 32 ((voteR (voteR (voteR (pushR g bst (vw + 1)) 0 g.n) 1 g.n) 2 g.n).s2.d)], 51⟩), (100001, ⟨[.vals (rowV gB (voteR (voteR (voteR (pushR g bst (vw + 1)) 0 g.n) 1 g.n) 2 g.n).L ++ r1)], 47⟩)]) rfl (by kernel_rfl) rfl Try.func28 (by kernel_rfl) (by kernel_rfl) (by kernel_rfl) (by kernel_rfl) (by kernel_rfl) (by kernel_rfl) (⟨⟨by kernel_rfl, by kernel_rfl, by kernel_rfl⟩, ⟨⟨by kernel_rfl, by kernel_rfl, by kernel_rfl⟩, trivial⟩⟩) (fun _ => by kernel_rfl) (fun _ => by kernel_rfl) (fun _ _ => okv_nil) (fun ρ w _ hh => vote2_any (voteR (voteR (pushR g bst (vw + 1)) 0 g.n) 1 g.n) c1 r1 (voteR_ok (voteR_ok hp (by first | exact Nat.lt_succ_self _ | (simp only [voteR_n]; exact Nat.lt_succ_self _))) (by first | exact Nat.lt_succ_self _ | (simp only [voteR_n]; exact Nat.lt_succ_self _))) g.n (by first | exact Nat.lt_succ_self _ | (simp only [voteR_n]; exact Nat.lt_succ_self _)) w _ hh)) (fun _ _ _ => ?_)
        refine wo_run [] [3, 6, 7, 10, 11] [17, 115] (l' := [(3, eL 17 0), (6, eI .i64 ((g.n : Nat) : Int)), (7, eI .i64 (vw + 1)), (10, eI .i64 ((c : Nat) : Int)), (11, eI .i64 2)]) (H' := [(17, ⟨[.one (.ls 115 0 ((voteR (voteR (voteR (pushR g bst (vw + 1)) 0 g.n) 1 g.n) 2 g.n).n) c1), cI .i64 (voteR (voteR (voteR (pushR g bst (vw + 1)) 0 g.n) 1 g.n) 2 g.n).s0.e, cI .i64 (voteR (voteR (voteR (pushR g bst (vw + 1)) 0 g.n) 1 g.n) 2 g.n).s0.v, cI .i64 (voteR (voteR (voteR (pushR g bst (vw + 1)) 0 g.n) 1 g.n) 2 g.n).s0.l, .ints .u8 32 ((voteR (voteR (voteR (pushR g bst (vw + 1)) 0 g.n) 1 g.n) 2 g.n).s0.d), cI .i64 (voteR (voteR (voteR (pushR g bst (vw + 1)) 0 g.n) 1 g.n) 2 g.n).s1.e, cI .i64 (voteR (voteR (voteR (pushR g bst (vw + 1)) 0 g.n) 1 g.n) 2 g.n).s1.v, cI .i64 (voteR (voteR (voteR (pushR g bst (vw + 1)) 0 g.n) 1 g.n) 2 g.n).s1.l, .ints .u8 32 ((voteR (voteR (voteR (pushR g bst (vw + 1)) 0 g.n) 1 g.n) 2 g.n).s1.d), cI .i64 (voteR (voteR (voteR (pushR g bst (vw + 1)) 0 g.n) 1 g.n) 2 g.n).s2.e, cI .i64 (voteR (voteR (voteR (pushR g bst (vw + 1)) 0 g.n) 1 g.n) 2 g.n).s2.v, cI .i64 (voteR (voteR (voteR (pushR g bst (vw + 1)) 0 g.n) 1 g.n) 2 g.n).s2.l, .ints .u8 32 ((voteR (voteR (voteR (pushR g bst (vw + 1)) 0 g.n) 1 g.n) 2 g.n).s2.d)], 51⟩), (115, ⟨[.vals (rowV gB (voteR (voteR (voteR (pushR g bst (vw + 1)) 0 g.n) 1 g.n) 2 g.n).L ++ r1)], 47⟩)]) (by kernel_rfl) ?_
        refine wo_nil ?_
        refine we_block ?_
        refine we_then ?_
        refine wc_reg [0, 1, 2] (by kernel_rfl) ?_
        refine wo_run [0, 1, 2] [3, 6, 7, 10, 11] [17, 115] (l' := [(3, eL 17 0), (6, eI .i64 ((g.n : Nat) : Int)), (7, eI .i64 (vw + 1)), (10, eI .i64 ((c : Nat) : Int)), (11, eI .i64 3)]) (H' := [(17, ⟨[.one (.ls 115 0 ((voteR (voteR (voteR (pushR g bst (vw + 1)) 0 g.n) 1 g.n) 2 g.n).n) c1), cI .i64 (voteR (voteR (voteR (pushR g bst (vw + 1)) 0 g.n) 1 g.n) 2 g.n).s0.e, cI .i64 (voteR (voteR (voteR (pushR g bst (vw + 1)) 0 g.n) 1 g.n) 2 g.n).s0.v, cI .i64 (voteR (voteR (voteR (pushR g bst (vw + 1)) 0 g.n) 1 g.n) 2 g.n).s0.l, .ints .u8 32 ((voteR (voteR (voteR (pushR g bst (vw + 1)) 0 g.n) 1 g.n) 2 g.n).s0.d), cI .i64 (voteR (voteR (voteR (pushR g bst (vw + 1)) 0 g.n) 1 g.n) 2 g.n).s1.e, cI .i64 (voteR (voteR (voteR (pushR g bst (vw + 1)) 0 g.n) 1 g.n) 2 g.n).s1.v, cI .i64 (voteR (voteR (voteR (pushR g bst (vw + 1)) 0 g.n) 1 g.n) 2 g.n).s1.l, .ints .u8 32 ((voteR (voteR (voteR (pushR g bst (vw + 1)) 0 g.n) 1 g.n) 2 g.n).s1.d), cI .i64 (voteR (voteR (voteR (pushR g bst (vw + 1)) 0 g.n) 1 g.n) 2 g.n).s2.e, cI .i64 (voteR (voteR (voteR (pushR g bst (vw + 1)) 0 g.n) 1 g.n) 2 g.n).s2.v, cI .i64 (voteR (voteR (voteR (pushR g bst (vw + 1)) 0 g.n) 1 g.n) 2 g.n).s2.l, .ints .u8 32 ((voteR (voteR (voteR (pushR g bst (vw + 1)) 0 g.n) 1 g.n) 2 g.n).s2.d)], 51⟩), (115, ⟨[.vals (rowV gB (voteR (voteR (voteR (pushR g bst (vw + 1)) 0 g.n) 1 g.n) 2 g.n).L ++ r1)], 47⟩)]) (by kernel_rfl) ?_
        refine wo_nil ?_
        refine we_unr ?_
        refine wr_go ?_
        refine wc_seq ?_
        refine wc_seq ?_
        refine wc_reg [0, 1] (by kernel_rfl) ?_
        refine wo_run [0, 1] [3, 6, 7, 10, 11, 125] [17, 115] (l' := [(3, eL 17 0), (6, eI .i64 ((g.n : Nat) : Int)), (7, eI .i64 (vw + 1)), (10, eI .i64 ((c : Nat) : Int)), (11, eI .i64 3), (125, eB false)]) (H' := [(17, ⟨[.one (.ls 115 0 ((voteR (voteR (voteR (pushR g bst (vw + 1)) 0 g.n) 1 g.n) 2 g.n).n) c1), cI .i64 (voteR (voteR (voteR (pushR g bst (vw + 1)) 0 g.n) 1 g.n) 2 g.n).s0.e, cI .i64 (voteR (voteR (voteR (pushR g bst (vw + 1)) 0 g.n) 1 g.n) 2 g.n).s0.v, cI .i64 (voteR (voteR (voteR (pushR g bst (vw + 1)) 0 g.n) 1 g.n) 2 g.n).s0.l, .ints .u8 32 ((voteR (voteR (voteR (pushR g bst (vw + 1)) 0 g.n) 1 g.n) 2 g.n).s0.d), cI .i64 (voteR (voteR (voteR (pushR g bst (vw + 1)) 0 g.n) 1 g.n) 2 g.n).s1.e, cI .i64 (voteR (voteR (voteR (pushR g bst (vw + 1)) 0 g.n) 1 g.n) 2 g.n).s1.v, cI .i64 (voteR (voteR (voteR (pushR g bst (vw + 1)) 0 g.n) 1 g.n) 2 g.n).s1.l, .ints .u8 32 ((voteR (voteR (voteR (pushR g bst (vw + 1)) 0 g.n) 1 g.n) 2 g.n).s1.d), cI .i64 (voteR (voteR (voteR (pushR g bst (vw + 1)) 0 g.n) 1 g.n) 2 g.n).s2.e, cI .i64 (voteR (voteR (voteR (pushR g bst (vw + 1)) 0 g.n) 1 g.n) 2 g.n).s2.v, cI .i64 (voteR (voteR (voteR (pushR g bst (vw + 1)) 0 g.n) 1 g.n) 2 g.n).s2.l, .ints .u8 32 ((voteR (voteR (voteR (pushR g bst (vw + 1)) 0 g.n) 1 g.n) 2 g.n).s2.d)], 51⟩), (115, ⟨[.vals (rowV gB (voteR (voteR (voteR (pushR g bst (vw + 1)) 0 g.n) 1 g.n) 2 g.n).L ++ r1)], 47⟩)]) (by kernel_rfl) ?_
        refine wo_nil ?_
        refine we_then ?_
        refine wc_false rfl ?_
        refine wc_exit ?_
        refine we_then_exit ?_
        refine we_then_exit ?_
        refine we_block_exit ?_
        refine we_then ?_
        refine wc_seq ?_
        have hst := hgo.step (by omega)
        rw [hg.ln0] at hst
        refine wc_reg [0, 1, 2, 3] (by kernel_rfl) ?_
        refine wo_run [0, 1] [3, 6, 7, 10, 132, 133] [17, 115] (l' := [(3, eL 17 0), (6, eI .i64 ((g.n : Nat) : Int)), (7, eI .i64 (vw + 1)), (10, eI .i64 ((c : Nat) : Int)), (132, eL 17 0), (133, eI .i64 ((g.n : Nat) : Int))]) (H' := [(17, ⟨[.one (.ls 115 0 ((voteR (voteR (voteR (pushR g bst (vw + 1)) 0 g.n) 1 g.n) 2 g.n).n) c1), cI .i64 (voteR (voteR (voteR (pushR g bst (vw + 1)) 0 g.n) 1 g.n) 2 g.n).s0.e, cI .i64 (voteR (voteR (voteR (pushR g bst (vw + 1)) 0 g.n) 1 g.n) 2 g.n).s0.v, cI .i64 (voteR (voteR (voteR (pushR g bst (vw + 1)) 0 g.n) 1 g.n) 2 g.n).s0.l, .ints .u8 32 ((voteR (voteR (voteR (pushR g bst (vw + 1)) 0 g.n) 1 g.n) 2 g.n).s0.d), cI .i64 (voteR (voteR (voteR (pushR g bst (vw + 1)) 0 g.n) 1 g.n) 2 g.n).s1.e, cI .i64 (voteR (voteR (voteR (pushR g bst (vw + 1)) 0 g.n) 1 g.n) 2 g.n).s1.v, cI .i64 (voteR (voteR (voteR (pushR g bst (vw + 1)) 0 g.n) 1 g.n) 2 g.n).s1.l, .ints .u8 32 ((voteR (voteR (voteR (pushR g bst (vw + 1)) 0 g.n) 1 g.n) 2 g.n).s1.d), cI .i64 (voteR (voteR (voteR (pushR g bst (vw + 1)) 0 g.n) 1 g.n) 2 g.n).s2.e, cI .i64 (voteR (voteR (voteR (pushR g bst (vw + 1)) 0 g.n) 1 g.n) 2 g.n).s2.v, cI .i64 (voteR (voteR (voteR (pushR g bst (vw + 1)) 0 g.n) 1 g.n) 2 g.n).s2.l, .ints .u8 32 ((voteR (voteR (voteR (pushR g bst (vw + 1)) 0 g.n) 1 g.n) 2 g.n).s2.d)], 51⟩), (115, ⟨[.vals (rowV gB (voteR (voteR (voteR (pushR g bst (vw + 1)) 0 g.n) 1 g.n) 2 g.n).L ++ r1)], 47⟩)]) (by kernel_rfl) ?_
        refine wo_op rfl rfl (ot_call (vs := [sL 17 0, sI .i64 ((g.n : Nat) : Int)]) rfl rfl rfl Try.func27 (by kernel_rfl) (by kernel_rfl) (by kernel_rfl) (eB (certB (voteR (voteR (voteR (pushR g bst (vw + 1)) 0 g.n) 1 g.n) 2 g.n).L g.n)) (trivial) (fun ρ w h => certified_any (voteR (voteR (voteR (pushR g bst (vw + 1)) 0 g.n) 1 g.n) 2 g.n) c1 r1 (voteR_ok (voteR_ok (voteR_ok hp (by first | exact Nat.lt_succ_self _ | (simp only [voteR_n]; exact Nat.lt_succ_self _))) (by first | exact Nat.lt_succ_self _ | (simp only [voteR_n]; exact Nat.lt_succ_self _))) (by first | exact Nat.lt_succ_self _ | (simp only [voteR_n]; exact Nat.lt_succ_self _))) g.n (by first | exact Nat.lt_succ_self _ | (simp only [voteR_n]; exact Nat.lt_succ_self _)) w (fun k => ρ (Sx.look [(100000, 17), (100001, 115)] k)) (h.heap (π := [(100000, 17), (100001, 115)]) (Hc := [(100000, ⟨[.one (.ls 100001 0 ((voteR (voteR (voteR (pushR g bst (vw + 1)) 0 g.n) 1 g.n) 2 g.n).n) c1), cI .i64 (voteR (voteR (voteR (pushR g bst (vw + 1)) 0 g.n) 1 g.n) 2 g.n).s0.e, cI .i64 (voteR (voteR (voteR (pushR g bst (vw + 1)) 0 g.n) 1 g.n) 2 g.n).s0.v, cI .i64 (voteR (voteR (voteR (pushR g bst (vw + 1)) 0 g.n) 1 g.n) 2 g.n).s0.l, .ints .u8 32 ((voteR (voteR (voteR (pushR g bst (vw + 1)) 0 g.n) 1 g.n) 2 g.n).s0.d), cI .i64 (voteR (voteR (voteR (pushR g bst (vw + 1)) 0 g.n) 1 g.n) 2 g.n).s1.e, cI .i64 (voteR (voteR (voteR (pushR g bst (vw + 1)) 0 g.n) 1 g.n) 2 g.n).s1.v, cI .i64 (voteR (voteR (voteR (pushR g bst (vw + 1)) 0 g.n) 1 g.n) 2 g.n).s1.l, .ints .u8 32 ((voteR (voteR (voteR (pushR g bst (vw + 1)) 0 g.n) 1 g.n) 2 g.n).s1.d), cI .i64 (voteR (voteR (voteR (pushR g bst (vw + 1)) 0 g.n) 1 g.n) 2 g.n).s2.e, cI .i64 (voteR (voteR (voteR (pushR g bst (vw + 1)) 0 g.n) 1 g.n) 2 g.n).s2.v, cI .i64 (voteR (voteR (voteR (pushR g bst (vw + 1)) 0 g.n) 1 g.n) 2 g.n).s2.l, .ints .u8 32 ((voteR (voteR (voteR (pushR g bst (vw + 1)) 0 g.n) 1 g.n) 2 g.n).s2.d)], 51⟩), (100001, ⟨[.vals (rowV gB (voteR (voteR (voteR (pushR g bst (vw + 1)) 0 g.n) 1 g.n) 2 g.n).L ++ r1)], 47⟩)]) rfl ⟨⟨by kernel_rfl, by kernel_rfl, by kernel_rfl⟩, ⟨by kernel_rfl, by kernel_rfl, by kernel_rfl⟩, trivial⟩))) ?_
        refine wo_run [3] [3, 6, 7, 10, 135] [17, 115] (l' := [(3, eL 17 0), (6, eI .i64 ((g.n : Nat) : Int)), (7, eI .i64 (vw + 1)), (10, eI .i64 ((c : Nat) : Int)), (135, eB (!(certB (voteR (voteR (voteR (pushR g bst (vw + 1)) 0 g.n) 1 g.n) 2 g.n).L g.n)))]) (H' := [(17, ⟨[.one (.ls 115 0 ((voteR (voteR (voteR (pushR g bst (vw + 1)) 0 g.n) 1 g.n) 2 g.n).n) c1), cI .i64 (voteR (voteR (voteR (pushR g bst (vw + 1)) 0 g.n) 1 g.n) 2 g.n).s0.e, cI .i64 (voteR (voteR (voteR (pushR g bst (vw + 1)) 0 g.n) 1 g.n) 2 g.n).s0.v, cI .i64 (voteR (voteR (voteR (pushR g bst (vw + 1)) 0 g.n) 1 g.n) 2 g.n).s0.l, .ints .u8 32 ((voteR (voteR (voteR (pushR g bst (vw + 1)) 0 g.n) 1 g.n) 2 g.n).s0.d), cI .i64 (voteR (voteR (voteR (pushR g bst (vw + 1)) 0 g.n) 1 g.n) 2 g.n).s1.e, cI .i64 (voteR (voteR (voteR (pushR g bst (vw + 1)) 0 g.n) 1 g.n) 2 g.n).s1.v, cI .i64 (voteR (voteR (voteR (pushR g bst (vw + 1)) 0 g.n) 1 g.n) 2 g.n).s1.l, .ints .u8 32 ((voteR (voteR (voteR (pushR g bst (vw + 1)) 0 g.n) 1 g.n) 2 g.n).s1.d), cI .i64 (voteR (voteR (voteR (pushR g bst (vw + 1)) 0 g.n) 1 g.n) 2 g.n).s2.e, cI .i64 (voteR (voteR (voteR (pushR g bst (vw + 1)) 0 g.n) 1 g.n) 2 g.n).s2.v, cI .i64 (voteR (voteR (voteR (pushR g bst (vw + 1)) 0 g.n) 1 g.n) 2 g.n).s2.l, .ints .u8 32 ((voteR (voteR (voteR (pushR g bst (vw + 1)) 0 g.n) 1 g.n) 2 g.n).s2.d)], 51⟩), (115, ⟨[.vals (rowV gB (voteR (voteR (voteR (pushR g bst (vw + 1)) 0 g.n) 1 g.n) 2 g.n).L ++ r1)], 47⟩)]) (by kernel_rfl) ?_
        refine wo_nil ?_
        refine we_then ?_
        refine wc_cond rfl (fun h12 => ?_) (fun h12 => ?_)
        · replace h12 := not_t h12
          rw [hst.cb] at h12; exact absurd h12 (by decide)
        · replace h12 := not_f h12
          refine wc_skip ?_
          refine we_block ?_
          refine we_then ?_
          refine wc_reg [0, 1, 2] (by kernel_rfl) ?_
          refine wo_run [0, 1, 2] [3, 6, 7, 10] [17, 115] (l' := [(3, eL 17 0), (6, eI .i64 ((g.n : Nat) : Int)), (7, eI .i64 (vw + 1)), (10, eI .i64 (IntKind.wrap .i64 (((c : Nat) : Int) + 1)))]) (H' := [(17, ⟨[.one (.ls 115 0 ((voteR (voteR (voteR (pushR g bst (vw + 1)) 0 g.n) 1 g.n) 2 g.n).n) c1), cI .i64 (voteR (voteR (voteR (pushR g bst (vw + 1)) 0 g.n) 1 g.n) 2 g.n).s0.e, cI .i64 (voteR (voteR (voteR (pushR g bst (vw + 1)) 0 g.n) 1 g.n) 2 g.n).s0.v, cI .i64 (voteR (voteR (voteR (pushR g bst (vw + 1)) 0 g.n) 1 g.n) 2 g.n).s0.l, .ints .u8 32 ((voteR (voteR (voteR (pushR g bst (vw + 1)) 0 g.n) 1 g.n) 2 g.n).s0.d), cI .i64 (voteR (voteR (voteR (pushR g bst (vw + 1)) 0 g.n) 1 g.n) 2 g.n).s1.e, cI .i64 (voteR (voteR (voteR (pushR g bst (vw + 1)) 0 g.n) 1 g.n) 2 g.n).s1.v, cI .i64 (voteR (voteR (voteR (pushR g bst (vw + 1)) 0 g.n) 1 g.n) 2 g.n).s1.l, .ints .u8 32 ((voteR (voteR (voteR (pushR g bst (vw + 1)) 0 g.n) 1 g.n) 2 g.n).s1.d), cI .i64 (voteR (voteR (voteR (pushR g bst (vw + 1)) 0 g.n) 1 g.n) 2 g.n).s2.e, cI .i64 (voteR (voteR (voteR (pushR g bst (vw + 1)) 0 g.n) 1 g.n) 2 g.n).s2.v, cI .i64 (voteR (voteR (voteR (pushR g bst (vw + 1)) 0 g.n) 1 g.n) 2 g.n).s2.l, .ints .u8 32 ((voteR (voteR (voteR (pushR g bst (vw + 1)) 0 g.n) 1 g.n) 2 g.n).s2.d)], 51⟩), (115, ⟨[.vals (rowV gB (voteR (voteR (voteR (pushR g bst (vw + 1)) 0 g.n) 1 g.n) 2 g.n).L ++ r1)], 47⟩)]) (by kernel_rfl) ?_
          refine wo_nil ?_
          refine we_rest [3, 6, 7, 10] [17, 115] (l' := [(3, eL 17 0), (6, eI .i64 ((g.n : Nat) : Int)), (7, eI .i64 (vw + 1)), (10, eI .i64 (IntKind.wrap .i64 (((c : Nat) : Int) + 1)))]) (H' := [(17, ⟨[.one (.ls 115 0 ((voteR (voteR (voteR (pushR g bst (vw + 1)) 0 g.n) 1 g.n) 2 g.n).n) c1), cI .i64 (voteR (voteR (voteR (pushR g bst (vw + 1)) 0 g.n) 1 g.n) 2 g.n).s0.e, cI .i64 (voteR (voteR (voteR (pushR g bst (vw + 1)) 0 g.n) 1 g.n) 2 g.n).s0.v, cI .i64 (voteR (voteR (voteR (pushR g bst (vw + 1)) 0 g.n) 1 g.n) 2 g.n).s0.l, .ints .u8 32 ((voteR (voteR (voteR (pushR g bst (vw + 1)) 0 g.n) 1 g.n) 2 g.n).s0.d), cI .i64 (voteR (voteR (voteR (pushR g bst (vw + 1)) 0 g.n) 1 g.n) 2 g.n).s1.e, cI .i64 (voteR (voteR (voteR (pushR g bst (vw + 1)) 0 g.n) 1 g.n) 2 g.n).s1.v, cI .i64 (voteR (voteR (voteR (pushR g bst (vw + 1)) 0 g.n) 1 g.n) 2 g.n).s1.l, .ints .u8 32 ((voteR (voteR (voteR (pushR g bst (vw + 1)) 0 g.n) 1 g.n) 2 g.n).s1.d), cI .i64 (voteR (voteR (voteR (pushR g bst (vw + 1)) 0 g.n) 1 g.n) 2 g.n).s2.e, cI .i64 (voteR (voteR (voteR (pushR g bst (vw + 1)) 0 g.n) 1 g.n) 2 g.n).s2.v, cI .i64 (voteR (voteR (voteR (pushR g bst (vw + 1)) 0 g.n) 1 g.n) 2 g.n).s2.l, .ints .u8 32 ((voteR (voteR (voteR (pushR g bst (vw + 1)) 0 g.n) 1 g.n) 2 g.n).s2.d)], 51⟩), (115, ⟨[.vals (rowV gB (voteR (voteR (voteR (pushR g bst (vw + 1)) 0 g.n) 1 g.n) 2 g.n).L ++ r1)], 47⟩)]) (by kernel_rfl) (by kernel_rfl) ?_
          refine we_ren [(17, 17), (115, 15)] (l' := [(3, eL 17 0), (6, eI .i64 ((g.n : Nat) : Int)), (7, eI .i64 (vw + 1)), (10, eI .i64 (IntKind.wrap .i64 (((c : Nat) : Int) + 1)))]) (H' := [(17, ⟨[.one (.ls 15 0 ((voteR (voteR (voteR (pushR g bst (vw + 1)) 0 g.n) 1 g.n) 2 g.n).n) c1), cI .i64 (voteR (voteR (voteR (pushR g bst (vw + 1)) 0 g.n) 1 g.n) 2 g.n).s0.e, cI .i64 (voteR (voteR (voteR (pushR g bst (vw + 1)) 0 g.n) 1 g.n) 2 g.n).s0.v, cI .i64 (voteR (voteR (voteR (pushR g bst (vw + 1)) 0 g.n) 1 g.n) 2 g.n).s0.l, .ints .u8 32 ((voteR (voteR (voteR (pushR g bst (vw + 1)) 0 g.n) 1 g.n) 2 g.n).s0.d), cI .i64 (voteR (voteR (voteR (pushR g bst (vw + 1)) 0 g.n) 1 g.n) 2 g.n).s1.e, cI .i64 (voteR (voteR (voteR (pushR g bst (vw + 1)) 0 g.n) 1 g.n) 2 g.n).s1.v, cI .i64 (voteR (voteR (voteR (pushR g bst (vw + 1)) 0 g.n) 1 g.n) 2 g.n).s1.l, .ints .u8 32 ((voteR (voteR (voteR (pushR g bst (vw + 1)) 0 g.n) 1 g.n) 2 g.n).s1.d), cI .i64 (voteR (voteR (voteR (pushR g bst (vw + 1)) 0 g.n) 1 g.n) 2 g.n).s2.e, cI .i64 (voteR (voteR (voteR (pushR g bst (vw + 1)) 0 g.n) 1 g.n) 2 g.n).s2.v, cI .i64 (voteR (voteR (voteR (pushR g bst (vw + 1)) 0 g.n) 1 g.n) 2 g.n).s2.l, .ints .u8 32 ((voteR (voteR (voteR (pushR g bst (vw + 1)) 0 g.n) 1 g.n) 2 g.n).s2.d)], 51⟩), (15, ⟨[.vals (rowV gB (voteR (voteR (voteR (pushR g bst (vw + 1)) 0 g.n) 1 g.n) 2 g.n).L ++ r1)], 47⟩)]) (by kernel_rfl) (by kernel_rfl) (by kernel_rfl) ?_
          refine we_rest [3, 6, 7, 10] [15, 17] (l' := [(3, eL 17 0), (6, eI .i64 ((g.n : Nat) : Int)), (7, eI .i64 (vw + 1)), (10, eI .i64 (IntKind.wrap .i64 (((c : Nat) : Int) + 1)))]) (H' := [(15, ⟨[.vals (rowV gB (voteR (voteR (voteR (pushR g bst (vw + 1)) 0 g.n) 1 g.n) 2 g.n).L ++ r1)], 47⟩), (17, ⟨[.one (.ls 15 0 ((voteR (voteR (voteR (pushR g bst (vw + 1)) 0 g.n) 1 g.n) 2 g.n).n) c1), cI .i64 (voteR (voteR (voteR (pushR g bst (vw + 1)) 0 g.n) 1 g.n) 2 g.n).s0.e, cI .i64 (voteR (voteR (voteR (pushR g bst (vw + 1)) 0 g.n) 1 g.n) 2 g.n).s0.v, cI .i64 (voteR (voteR (voteR (pushR g bst (vw + 1)) 0 g.n) 1 g.n) 2 g.n).s0.l, .ints .u8 32 ((voteR (voteR (voteR (pushR g bst (vw + 1)) 0 g.n) 1 g.n) 2 g.n).s0.d), cI .i64 (voteR (voteR (voteR (pushR g bst (vw + 1)) 0 g.n) 1 g.n) 2 g.n).s1.e, cI .i64 (voteR (voteR (voteR (pushR g bst (vw + 1)) 0 g.n) 1 g.n) 2 g.n).s1.v, cI .i64 (voteR (voteR (voteR (pushR g bst (vw + 1)) 0 g.n) 1 g.n) 2 g.n).s1.l, .ints .u8 32 ((voteR (voteR (voteR (pushR g bst (vw + 1)) 0 g.n) 1 g.n) 2 g.n).s1.d), cI .i64 (voteR (voteR (voteR (pushR g bst (vw + 1)) 0 g.n) 1 g.n) 2 g.n).s2.e, cI .i64 (voteR (voteR (voteR (pushR g bst (vw + 1)) 0 g.n) 1 g.n) 2 g.n).s2.v, cI .i64 (voteR (voteR (voteR (pushR g bst (vw + 1)) 0 g.n) 1 g.n) 2 g.n).s2.l, .ints .u8 32 ((voteR (voteR (voteR (pushR g bst (vw + 1)) 0 g.n) 1 g.n) 2 g.n).s2.d)], 51⟩)]) (by kernel_rfl) (by kernel_rfl) ?_
          rw [show (IntKind.wrap .i64 (((c : Nat) : Int) + 1)) = ((c + 1 : Nat) : Int) from wrap_succ (by omega)]
          exact we_round ((voteR (voteR (voteR (pushR g bst (vw + 1)) 0 g.n) 1 g.n) 2 g.n), c1, r1, g.n, vw + 1, c + 1) (⟨(voteR_ok (voteR_ok (voteR_ok hp (by first | exact Nat.lt_succ_self _ | (simp only [voteR_n]; exact Nat.lt_succ_self _))) (by first | exact Nat.lt_succ_self _ | (simp only [voteR_n]; exact Nat.lt_succ_self _))) (by first | exact Nat.lt_succ_self _ | (simp only [voteR_n]; exact Nat.lt_succ_self _))), hst⟩) (by show 3 - (c + 1) < 3 - c; omega) rfl (sub_ofE [3, 6, 7, 10] rfl) (sub_of [15, 17] rfl)
      · replace h11 := of_decide_eq_false h11
        refine wc_exit ?_
        refine we_then_exit ?_
        refine we_then_exit ?_
        refine we_block_exit ?_
        refine we_then ?_
        refine wc_seq ?_
        refine wc_reg [0, 1, 2, 3, 4] (by kernel_rfl) ?_
        refine wo_run [0, 1] [136, 137] [15, 17] (l' := [(136, eL 17 0), (137, eI .i64 ((bst : Nat) : Int))]) (H' := [(15, ⟨[.vals (rowV gB g.L ++ restg)], 47⟩), (17, ⟨[.one (.ls 15 0 g.n capg), cI .i64 g.s0.e, cI .i64 g.s0.v, cI .i64 g.s0.l, .ints .u8 32 g.s0.d, cI .i64 g.s1.e, cI .i64 g.s1.v, cI .i64 g.s1.l, .ints .u8 32 g.s1.d, cI .i64 g.s2.e, cI .i64 g.s2.v, cI .i64 g.s2.l, .ints .u8 32 g.s2.d], 51⟩)]) (by kernel_rfl) ?_
        refine wo_op rfl rfl (ot_call (vs := [sL 17 0, sI .i64 ((bst : Nat) : Int)]) rfl rfl rfl Try.func25 (by kernel_rfl) (by kernel_rfl) (by kernel_rfl) (eI .i64 (firstI g.L bst)) (trivial) (fun ρ w h => first_any g capg restg hg bst (hbg) w (fun k => ρ (Sx.look [(100000, 17), (100001, 15)] k)) (h.heap (π := [(100000, 17), (100001, 15)]) (Hc := [(100000, ⟨[.one (.ls 100001 0 g.n capg), cI .i64 g.s0.e, cI .i64 g.s0.v, cI .i64 g.s0.l, .ints .u8 32 g.s0.d, cI .i64 g.s1.e, cI .i64 g.s1.v, cI .i64 g.s1.l, .ints .u8 32 g.s1.d, cI .i64 g.s2.e, cI .i64 g.s2.v, cI .i64 g.s2.l, .ints .u8 32 g.s2.d], 51⟩), (100001, ⟨[.vals (rowV gB g.L ++ restg)], 47⟩)]) rfl ⟨⟨by kernel_rfl, by kernel_rfl, by kernel_rfl⟩, ⟨by kernel_rfl, by kernel_rfl, by kernel_rfl⟩, trivial⟩))) ?_
        refine wo_run [3, 4] [2] [] (l' := [(2, eB (decide ((firstI g.L bst) > 0)))]) (H' := []) (by kernel_rfl) ?_
        refine wo_nil ?_
        refine we_then ?_
        refine wc_ret ?_
        refine we_ret (.inl rfl) (v := eB (decide ((firstI g.L bst) > 0))) (by kernel_rfl) ?_
        intro ρ' w' hf'
        refine ⟨?_, hf'.below noS⟩
        exact congrArg (fun b => Ending.returned (EV.conc ρ (eB b))) (decide_eq_true (by cases (show c = 3 by omega); exact hgo.last))

end Go.Proofs.Ytckhcmdjgkoocaa
