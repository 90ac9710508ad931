/- SHA-256: the walks. -/
import Derived.Test.YtjcghjgennddaaaDoorProg
import Derived.KernelRfl
import Derived.Test.YtjcghjgennddaaaDoorShaQ
import Derived.Test.YtjcghjgennddaaaDoorSxDeep
namespace Go.Proofs.YtjcghjgennddaaaDoor
open Go.RowKit Go.Sx
set_option linter.unusedVariables false
set_option linter.unusedSimpArgs false

theorem nh_yes {i : Nat} (h : i < 8) : nh (i + 1) = nh i ++ [IntKind.wrap .u32 (pt2 (P64.getD i 0) 36)] := by simp only [nh]; rw [if_pos h]
theorem nh_no {i : Nat} (h : ¬ i < 8) : nh (i + 1) = nh i := by simp only [nh]; rw [if_neg h]


set_option maxRecDepth 100000 in
set_option maxHeartbeats 4000000 in
theorem rnumber_any (n : Int) (w : World) (ρ : Nat → Nat) (hH : HeapAt ρ [] w) :
    Calls Tryd.prog 41 ([sI .u64 n, sI .i64 8].map (SV.conc ρ)).toArray w fun r' w' => ∃ (y : Nat × List Value) (σ : Nat → Nat), (8 ≤ y.1 ∧ y.1 ≤ maxLen ∧ y.2.length = (y.1 - 8) * 1) ∧ r' = .returned (EV.conc σ (.s (.a (.ls 7 0 8 y.1)))) ∧ Ran ρ [] [(7, ⟨[.vals (bV (be8 n) ++ y.2)], 5⟩)] w w' σ := by
  refine calls_enter (vs := [sI .u64 n, sI .i64 8]) (N := 23) [] ρ Tryd.func41 rfl rfl (Nat.le_of_ble_eq_true rfl) (okv_a (okv_a (okv_nil))) hH.hp hH.inj ?_ _ rfl
  refine wc_seq ?_
  refine wc_reg [0] (by kernel_rfl) ?_
  refine wo_run [0] [0, 1] [] (l' := [(0, eI .u64 n), (1, eI .i64 8)]) (H' := []) (by kernel_rfl) ?_
  refine wo_nil ?_
  refine we_then ?_
  refine wc_seq ?_
  refine wc_reg [0, 1] (by kernel_rfl) ?_
  refine wo_op rfl rfl (ot_bslice (e := 5) (d := 7) (n := 0) (size := 1) [] [] rfl rfl rfl (by kernel_rfl) rfl (by kernel_rfl) okc_nil (fun _ => rfl) (by kernel_rfl) (by kernel_rfl)) ?_
  refine wo_flat 7 [.vals (bV [] ++ [])] rfl (fun ρ => rfl) (okCs_vals _) ?_
  refine wo_run [1] [0, 1, 5] [7] (l' := [(0, eI .u64 n), (1, eI .i64 8), (5, .s (.a (.ls 7 0 0 0)))]) (H' := [(7, ⟨[.vals (bV [] ++ [])], 5⟩)]) (by kernel_rfl) ?_
  refine wo_nil ?_
  refine we_then ?_
  refine wc_seq ?_
  refine wc_seq ?_
  refine wc_reg [0, 1, 2] (by kernel_rfl) ?_
  refine wo_run [0, 1, 2] [0, 5, 6] [7] (l' := [(0, eI .u64 n), (5, .s (.a (.ls 7 0 0 0))), (6, eI .i64 7)]) (H' := [(7, ⟨[.vals (bV [] ++ [])], 5⟩)]) (by kernel_rfl) ?_
  refine wo_nil ?_
  refine we_then ?_
  refine wc_block ?_
  refine wc_loopn 9 ?_
  refine wr_go ?_
  refine wc_seq ?_
  refine wc_seq ?_
  refine wc_reg [0, 1] (by kernel_rfl) ?_
  refine wo_run [0, 1] [0, 5, 6, 11] [7] (l' := [(0, eI .u64 n), (5, .s (.a (.ls 7 0 0 0))), (6, eI .i64 7), (11, eB true)]) (H' := [(7, ⟨[.vals (bV [] ++ [])], 5⟩)]) (by kernel_rfl) ?_
  refine wo_nil ?_
  refine we_then ?_
  refine wc_true rfl ?_
  refine wc_skip ?_
  refine we_then ?_
  refine wc_seq ?_
  refine wc_block ?_
  refine wc_reg [0, 1, 2, 3, 4, 5, 6, 7, 8] (by kernel_rfl) ?_
  refine wo_run [0, 1, 2, 3, 4, 5] [0, 6, 14, 19] [7] (l' := [(0, eI .u64 n), (6, eI .i64 7), (14, .s (.a (.ls 7 0 0 0))), (19, eI .u8 (IntKind.wrap .u8 (Int.fdiv n (2 ^ (56 : Nat)))))]) (H' := [(7, ⟨[.vals (bV [] ++ [])], 5⟩)]) (by kernel_rfl) ?_
  refine wo_op rfl rfl (ot_bslice (e := 5) (d := 20) (n := 1) (size := 1) [.ints .u8 1 (List.replicate 1 0)] [cI .u8 (IntKind.wrap .u8 (Int.fdiv n (2 ^ (56 : Nat))))] rfl rfl rfl (by kernel_rfl) rfl (by kernel_rfl) (okc_ints (List.length_replicate) (okc_nil)) (fun _ => rfl) (by kernel_rfl) (by kernel_rfl)) ?_
  refine wo_flat 20 [.vals (bV ([(IntKind.wrap .u8 (Int.fdiv n (2 ^ (56 : Nat))))]) ++ [])] rfl (fun ρ => by simp [flat, iV, bV, AV.conc]) (okCs_vals _) ?_
  refine wo_ox rfl rfl (ox_appendS (e := 5) (m := 1) (size := 1) (bytes := 1) 21 7 0 0 (bV ([])) (([(IntKind.wrap .u8 (Int.fdiv n (2 ^ (56 : Nat))))]).map (Value.int .u8)) [] [20] rfl rfl (by kernel_rfl) (by kernel_rfl) (by kernel_rfl) rfl rfl (by simp [bV, iV]) (rfl) (Nat.le_refl _) (Nat.zero_le _) (srcof_row (e' := 5) rfl (by kernel_rfl) rfl (rfl)) (by decide) (by decide) (by kernel_rfl)) (fun ⟨c1, r1⟩ hc1 _ => ?_)
  refine wo_flat 21 [.vals (bV ([] ++ ([(IntKind.wrap .u8 (Int.fdiv n (2 ^ (56 : Nat))))])) ++ r1)] rfl (fun ρ => by simp only [bV, iV, List.map_append]) (okCs_vals _) ?_
  refine wo_run [] [0, 6, 21] [21] (l' := [(0, eI .u64 n), (6, eI .i64 7), (21, .s (.a (.ls 21 0 1 c1)))]) (H' := [(21, ⟨[.vals (bV ([] ++ ([(IntKind.wrap .u8 (Int.fdiv n (2 ^ (56 : Nat))))])) ++ r1)], 5⟩)]) (by kernel_rfl) ?_
  refine wo_run [8] [0, 5, 6] [21] (l' := [(0, eI .u64 n), (5, .s (.a (.ls 21 0 1 c1))), (6, eI .i64 7)]) (H' := [(21, ⟨[.vals (bV ([] ++ ([(IntKind.wrap .u8 (Int.fdiv n (2 ^ (56 : Nat))))])) ++ r1)], 5⟩)]) (by kernel_rfl) ?_
  refine wo_nil ?_
  refine we_block ?_
  refine we_then ?_
  refine wc_reg [0, 1, 2] (by kernel_rfl) ?_
  refine wo_run [0, 1, 2] [0, 5, 6] [21] (l' := [(0, eI .u64 n), (5, .s (.a (.ls 21 0 1 c1))), (6, eI .i64 6)]) (H' := [(21, ⟨[.vals (bV ([] ++ ([(IntKind.wrap .u8 (Int.fdiv n (2 ^ (56 : Nat))))])) ++ r1)], 5⟩)]) (by kernel_rfl) ?_
  refine wo_nil ?_
  refine we_rest [0, 5, 6] [21] (l' := [(0, eI .u64 n), (5, .s (.a (.ls 21 0 1 c1))), (6, eI .i64 6)]) (H' := [(21, ⟨[.vals (bV ([] ++ ([(IntKind.wrap .u8 (Int.fdiv n (2 ^ (56 : Nat))))])) ++ r1)], 5⟩)]) (by kernel_rfl) (by kernel_rfl) ?_
  refine we_ren [(21, 7)] (l' := [(0, eI .u64 n), (5, .s (.a (.ls 7 0 1 c1))), (6, eI .i64 6)]) (H' := [(7, ⟨[.vals (bV ([] ++ ([(IntKind.wrap .u8 (Int.fdiv n (2 ^ (56 : Nat))))])) ++ r1)], 5⟩)]) (by kernel_rfl) (by kernel_rfl) (by kernel_rfl) ?_
  refine we_unr ?_
  refine wr_go ?_
  refine wc_seq ?_
  refine wc_seq ?_
  refine wc_reg [0, 1] (by kernel_rfl) ?_
  refine wo_run [0, 1] [0, 5, 6, 11] [7] (l' := [(0, eI .u64 n), (5, .s (.a (.ls 7 0 1 c1))), (6, eI .i64 6), (11, eB true)]) (H' := [(7, ⟨[.vals (bV ([] ++ ([(IntKind.wrap .u8 (Int.fdiv n (2 ^ (56 : Nat))))])) ++ r1)], 5⟩)]) (by kernel_rfl) ?_
  refine wo_nil ?_
  refine we_then ?_
  refine wc_true rfl ?_
  refine wc_skip ?_
  refine we_then ?_
  refine wc_seq ?_
  refine wc_block ?_
  refine wc_reg [0, 1, 2, 3, 4, 5, 6, 7, 8] (by kernel_rfl) ?_
  refine wo_run [0, 1, 2, 3, 4, 5] [0, 6, 14, 19] [7] (l' := [(0, eI .u64 n), (6, eI .i64 6), (14, .s (.a (.ls 7 0 1 c1))), (19, eI .u8 (IntKind.wrap .u8 (Int.fdiv n (2 ^ (48 : Nat)))))]) (H' := [(7, ⟨[.vals (bV ([] ++ ([(IntKind.wrap .u8 (Int.fdiv n (2 ^ (56 : Nat))))])) ++ r1)], 5⟩)]) (by kernel_rfl) ?_
  refine wo_op rfl rfl (ot_bslice (e := 5) (d := 20) (n := 1) (size := 1) [.ints .u8 1 (List.replicate 1 0)] [cI .u8 (IntKind.wrap .u8 (Int.fdiv n (2 ^ (48 : Nat))))] rfl rfl rfl (by kernel_rfl) rfl (by kernel_rfl) (okc_ints (List.length_replicate) (okc_nil)) (fun _ => rfl) (by kernel_rfl) (by kernel_rfl)) ?_
  refine wo_flat 20 [.vals (bV ([(IntKind.wrap .u8 (Int.fdiv n (2 ^ (48 : Nat))))]) ++ [])] rfl (fun ρ => by simp [flat, iV, bV, AV.conc]) (okCs_vals _) ?_
  refine wo_ox rfl rfl (ox_appendS (e := 5) (m := 1) (size := 1) (bytes := 1) 21 7 1 c1 (bV ([] ++ ([(IntKind.wrap .u8 (Int.fdiv n (2 ^ (56 : Nat))))]))) (([(IntKind.wrap .u8 (Int.fdiv n (2 ^ (48 : Nat))))]).map (Value.int .u8)) r1 [20] rfl rfl (by kernel_rfl) (by kernel_rfl) (by kernel_rfl) rfl rfl (by simp [bV, iV]) (by have := hc1.2.2; simpa using this) (by have := hc1.1; simpa using this) (hc1.2.1) (srcof_row (e' := 5) rfl (by kernel_rfl) rfl (rfl)) (by decide) (by decide) (by kernel_rfl)) (fun ⟨c2, r2⟩ hc2 _ => ?_)
  refine wo_flat 21 [.vals (bV (([] ++ ([(IntKind.wrap .u8 (Int.fdiv n (2 ^ (56 : Nat))))])) ++ ([(IntKind.wrap .u8 (Int.fdiv n (2 ^ (48 : Nat))))])) ++ r2)] rfl (fun ρ => by simp only [bV, iV, List.map_append]) (okCs_vals _) ?_
  refine wo_run [] [0, 6, 21] [21] (l' := [(0, eI .u64 n), (6, eI .i64 6), (21, .s (.a (.ls 21 0 2 c2)))]) (H' := [(21, ⟨[.vals (bV (([] ++ ([(IntKind.wrap .u8 (Int.fdiv n (2 ^ (56 : Nat))))])) ++ ([(IntKind.wrap .u8 (Int.fdiv n (2 ^ (48 : Nat))))])) ++ r2)], 5⟩)]) (by kernel_rfl) ?_
  refine wo_run [8] [0, 5, 6] [21] (l' := [(0, eI .u64 n), (5, .s (.a (.ls 21 0 2 c2))), (6, eI .i64 6)]) (H' := [(21, ⟨[.vals (bV (([] ++ ([(IntKind.wrap .u8 (Int.fdiv n (2 ^ (56 : Nat))))])) ++ ([(IntKind.wrap .u8 (Int.fdiv n (2 ^ (48 : Nat))))])) ++ r2)], 5⟩)]) (by kernel_rfl) ?_
  refine wo_nil ?_
  refine we_block ?_
  refine we_then ?_
  refine wc_reg [0, 1, 2] (by kernel_rfl) ?_
  refine wo_run [0, 1, 2] [0, 5, 6] [21] (l' := [(0, eI .u64 n), (5, .s (.a (.ls 21 0 2 c2))), (6, eI .i64 5)]) (H' := [(21, ⟨[.vals (bV (([] ++ ([(IntKind.wrap .u8 (Int.fdiv n (2 ^ (56 : Nat))))])) ++ ([(IntKind.wrap .u8 (Int.fdiv n (2 ^ (48 : Nat))))])) ++ r2)], 5⟩)]) (by kernel_rfl) ?_
  refine wo_nil ?_
  refine we_rest [0, 5, 6] [21] (l' := [(0, eI .u64 n), (5, .s (.a (.ls 21 0 2 c2))), (6, eI .i64 5)]) (H' := [(21, ⟨[.vals (bV (([] ++ ([(IntKind.wrap .u8 (Int.fdiv n (2 ^ (56 : Nat))))])) ++ ([(IntKind.wrap .u8 (Int.fdiv n (2 ^ (48 : Nat))))])) ++ r2)], 5⟩)]) (by kernel_rfl) (by kernel_rfl) ?_
  refine we_ren [(21, 7)] (l' := [(0, eI .u64 n), (5, .s (.a (.ls 7 0 2 c2))), (6, eI .i64 5)]) (H' := [(7, ⟨[.vals (bV (([] ++ ([(IntKind.wrap .u8 (Int.fdiv n (2 ^ (56 : Nat))))])) ++ ([(IntKind.wrap .u8 (Int.fdiv n (2 ^ (48 : Nat))))])) ++ r2)], 5⟩)]) (by kernel_rfl) (by kernel_rfl) (by kernel_rfl) ?_
  refine we_unr ?_
  refine wr_go ?_
  refine wc_seq ?_
  refine wc_seq ?_
  refine wc_reg [0, 1] (by kernel_rfl) ?_
  refine wo_run [0, 1] [0, 5, 6, 11] [7] (l' := [(0, eI .u64 n), (5, .s (.a (.ls 7 0 2 c2))), (6, eI .i64 5), (11, eB true)]) (H' := [(7, ⟨[.vals (bV (([] ++ ([(IntKind.wrap .u8 (Int.fdiv n (2 ^ (56 : Nat))))])) ++ ([(IntKind.wrap .u8 (Int.fdiv n (2 ^ (48 : Nat))))])) ++ r2)], 5⟩)]) (by kernel_rfl) ?_
  refine wo_nil ?_
  refine we_then ?_
  refine wc_true rfl ?_
  refine wc_skip ?_
  refine we_then ?_
  refine wc_seq ?_
  refine wc_block ?_
  refine wc_reg [0, 1, 2, 3, 4, 5, 6, 7, 8] (by kernel_rfl) ?_
  refine wo_run [0, 1, 2, 3, 4, 5] [0, 6, 14, 19] [7] (l' := [(0, eI .u64 n), (6, eI .i64 5), (14, .s (.a (.ls 7 0 2 c2))), (19, eI .u8 (IntKind.wrap .u8 (Int.fdiv n (2 ^ (40 : Nat)))))]) (H' := [(7, ⟨[.vals (bV (([] ++ ([(IntKind.wrap .u8 (Int.fdiv n (2 ^ (56 : Nat))))])) ++ ([(IntKind.wrap .u8 (Int.fdiv n (2 ^ (48 : Nat))))])) ++ r2)], 5⟩)]) (by kernel_rfl) ?_
  refine wo_op rfl rfl (ot_bslice (e := 5) (d := 20) (n := 1) (size := 1) [.ints .u8 1 (List.replicate 1 0)] [cI .u8 (IntKind.wrap .u8 (Int.fdiv n (2 ^ (40 : Nat))))] rfl rfl rfl (by kernel_rfl) rfl (by kernel_rfl) (okc_ints (List.length_replicate) (okc_nil)) (fun _ => rfl) (by kernel_rfl) (by kernel_rfl)) ?_
  refine wo_flat 20 [.vals (bV ([(IntKind.wrap .u8 (Int.fdiv n (2 ^ (40 : Nat))))]) ++ [])] rfl (fun ρ => by simp [flat, iV, bV, AV.conc]) (okCs_vals _) ?_
  refine wo_ox rfl rfl (ox_appendS (e := 5) (m := 1) (size := 1) (bytes := 1) 21 7 2 c2 (bV (([] ++ ([(IntKind.wrap .u8 (Int.fdiv n (2 ^ (56 : Nat))))])) ++ ([(IntKind.wrap .u8 (Int.fdiv n (2 ^ (48 : Nat))))]))) (([(IntKind.wrap .u8 (Int.fdiv n (2 ^ (40 : Nat))))]).map (Value.int .u8)) r2 [20] rfl rfl (by kernel_rfl) (by kernel_rfl) (by kernel_rfl) rfl rfl (by simp [bV, iV]) (by have := hc2.2.2; simpa using this) (by have := hc2.1; simpa using this) (hc2.2.1) (srcof_row (e' := 5) rfl (by kernel_rfl) rfl (rfl)) (by decide) (by decide) (by kernel_rfl)) (fun ⟨c3, r3⟩ hc3 _ => ?_)
  refine wo_flat 21 [.vals (bV ((([] ++ ([(IntKind.wrap .u8 (Int.fdiv n (2 ^ (56 : Nat))))])) ++ ([(IntKind.wrap .u8 (Int.fdiv n (2 ^ (48 : Nat))))])) ++ ([(IntKind.wrap .u8 (Int.fdiv n (2 ^ (40 : Nat))))])) ++ r3)] rfl (fun ρ => by simp only [bV, iV, List.map_append]) (okCs_vals _) ?_
  refine wo_run [] [0, 6, 21] [21] (l' := [(0, eI .u64 n), (6, eI .i64 5), (21, .s (.a (.ls 21 0 3 c3)))]) (H' := [(21, ⟨[.vals (bV ((([] ++ ([(IntKind.wrap .u8 (Int.fdiv n (2 ^ (56 : Nat))))])) ++ ([(IntKind.wrap .u8 (Int.fdiv n (2 ^ (48 : Nat))))])) ++ ([(IntKind.wrap .u8 (Int.fdiv n (2 ^ (40 : Nat))))])) ++ r3)], 5⟩)]) (by kernel_rfl) ?_
  refine wo_run [8] [0, 5, 6] [21] (l' := [(0, eI .u64 n), (5, .s (.a (.ls 21 0 3 c3))), (6, eI .i64 5)]) (H' := [(21, ⟨[.vals (bV ((([] ++ ([(IntKind.wrap .u8 (Int.fdiv n (2 ^ (56 : Nat))))])) ++ ([(IntKind.wrap .u8 (Int.fdiv n (2 ^ (48 : Nat))))])) ++ ([(IntKind.wrap .u8 (Int.fdiv n (2 ^ (40 : Nat))))])) ++ r3)], 5⟩)]) (by kernel_rfl) ?_
  refine wo_nil ?_
  refine we_block ?_
  refine we_then ?_
  refine wc_reg [0, 1, 2] (by kernel_rfl) ?_
  refine wo_run [0, 1, 2] [0, 5, 6] [21] (l' := [(0, eI .u64 n), (5, .s (.a (.ls 21 0 3 c3))), (6, eI .i64 4)]) (H' := [(21, ⟨[.vals (bV ((([] ++ ([(IntKind.wrap .u8 (Int.fdiv n (2 ^ (56 : Nat))))])) ++ ([(IntKind.wrap .u8 (Int.fdiv n (2 ^ (48 : Nat))))])) ++ ([(IntKind.wrap .u8 (Int.fdiv n (2 ^ (40 : Nat))))])) ++ r3)], 5⟩)]) (by kernel_rfl) ?_
  refine wo_nil ?_
  refine we_rest [0, 5, 6] [21] (l' := [(0, eI .u64 n), (5, .s (.a (.ls 21 0 3 c3))), (6, eI .i64 4)]) (H' := [(21, ⟨[.vals (bV ((([] ++ ([(IntKind.wrap .u8 (Int.fdiv n (2 ^ (56 : Nat))))])) ++ ([(IntKind.wrap .u8 (Int.fdiv n (2 ^ (48 : Nat))))])) ++ ([(IntKind.wrap .u8 (Int.fdiv n (2 ^ (40 : Nat))))])) ++ r3)], 5⟩)]) (by kernel_rfl) (by kernel_rfl) ?_
  refine we_ren [(21, 7)] (l' := [(0, eI .u64 n), (5, .s (.a (.ls 7 0 3 c3))), (6, eI .i64 4)]) (H' := [(7, ⟨[.vals (bV ((([] ++ ([(IntKind.wrap .u8 (Int.fdiv n (2 ^ (56 : Nat))))])) ++ ([(IntKind.wrap .u8 (Int.fdiv n (2 ^ (48 : Nat))))])) ++ ([(IntKind.wrap .u8 (Int.fdiv n (2 ^ (40 : Nat))))])) ++ r3)], 5⟩)]) (by kernel_rfl) (by kernel_rfl) (by kernel_rfl) ?_
  refine we_unr ?_
  refine wr_go ?_
  refine wc_seq ?_
  refine wc_seq ?_
  refine wc_reg [0, 1] (by kernel_rfl) ?_
  refine wo_run [0, 1] [0, 5, 6, 11] [7] (l' := [(0, eI .u64 n), (5, .s (.a (.ls 7 0 3 c3))), (6, eI .i64 4), (11, eB true)]) (H' := [(7, ⟨[.vals (bV ((([] ++ ([(IntKind.wrap .u8 (Int.fdiv n (2 ^ (56 : Nat))))])) ++ ([(IntKind.wrap .u8 (Int.fdiv n (2 ^ (48 : Nat))))])) ++ ([(IntKind.wrap .u8 (Int.fdiv n (2 ^ (40 : Nat))))])) ++ r3)], 5⟩)]) (by kernel_rfl) ?_
  refine wo_nil ?_
  refine we_then ?_
  refine wc_true rfl ?_
  refine wc_skip ?_
  refine we_then ?_
  refine wc_seq ?_
  refine wc_block ?_
  refine wc_reg [0, 1, 2, 3, 4, 5, 6, 7, 8] (by kernel_rfl) ?_
  refine wo_run [0, 1, 2, 3, 4, 5] [0, 6, 14, 19] [7] (l' := [(0, eI .u64 n), (6, eI .i64 4), (14, .s (.a (.ls 7 0 3 c3))), (19, eI .u8 (IntKind.wrap .u8 (Int.fdiv n (2 ^ (32 : Nat)))))]) (H' := [(7, ⟨[.vals (bV ((([] ++ ([(IntKind.wrap .u8 (Int.fdiv n (2 ^ (56 : Nat))))])) ++ ([(IntKind.wrap .u8 (Int.fdiv n (2 ^ (48 : Nat))))])) ++ ([(IntKind.wrap .u8 (Int.fdiv n (2 ^ (40 : Nat))))])) ++ r3)], 5⟩)]) (by kernel_rfl) ?_
  refine wo_op rfl rfl (ot_bslice (e := 5) (d := 20) (n := 1) (size := 1) [.ints .u8 1 (List.replicate 1 0)] [cI .u8 (IntKind.wrap .u8 (Int.fdiv n (2 ^ (32 : Nat))))] rfl rfl rfl (by kernel_rfl) rfl (by kernel_rfl) (okc_ints (List.length_replicate) (okc_nil)) (fun _ => rfl) (by kernel_rfl) (by kernel_rfl)) ?_
  refine wo_flat 20 [.vals (bV ([(IntKind.wrap .u8 (Int.fdiv n (2 ^ (32 : Nat))))]) ++ [])] rfl (fun ρ => by simp [flat, iV, bV, AV.conc]) (okCs_vals _) ?_
  refine wo_ox rfl rfl (ox_appendS (e := 5) (m := 1) (size := 1) (bytes := 1) 21 7 3 c3 (bV ((([] ++ ([(IntKind.wrap .u8 (Int.fdiv n (2 ^ (56 : Nat))))])) ++ ([(IntKind.wrap .u8 (Int.fdiv n (2 ^ (48 : Nat))))])) ++ ([(IntKind.wrap .u8 (Int.fdiv n (2 ^ (40 : Nat))))]))) (([(IntKind.wrap .u8 (Int.fdiv n (2 ^ (32 : Nat))))]).map (Value.int .u8)) r3 [20] rfl rfl (by kernel_rfl) (by kernel_rfl) (by kernel_rfl) rfl rfl (by simp [bV, iV]) (by have := hc3.2.2; simpa using this) (by have := hc3.1; simpa using this) (hc3.2.1) (srcof_row (e' := 5) rfl (by kernel_rfl) rfl (rfl)) (by decide) (by decide) (by kernel_rfl)) (fun ⟨c4, r4⟩ hc4 _ => ?_)
  refine wo_flat 21 [.vals (bV (((([] ++ ([(IntKind.wrap .u8 (Int.fdiv n (2 ^ (56 : Nat))))])) ++ ([(IntKind.wrap .u8 (Int.fdiv n (2 ^ (48 : Nat))))])) ++ ([(IntKind.wrap .u8 (Int.fdiv n (2 ^ (40 : Nat))))])) ++ ([(IntKind.wrap .u8 (Int.fdiv n (2 ^ (32 : Nat))))])) ++ r4)] rfl (fun ρ => by simp only [bV, iV, List.map_append]) (okCs_vals _) ?_
  refine wo_run [] [0, 6, 21] [21] (l' := [(0, eI .u64 n), (6, eI .i64 4), (21, .s (.a (.ls 21 0 4 c4)))]) (H' := [(21, ⟨[.vals (bV (((([] ++ ([(IntKind.wrap .u8 (Int.fdiv n (2 ^ (56 : Nat))))])) ++ ([(IntKind.wrap .u8 (Int.fdiv n (2 ^ (48 : Nat))))])) ++ ([(IntKind.wrap .u8 (Int.fdiv n (2 ^ (40 : Nat))))])) ++ ([(IntKind.wrap .u8 (Int.fdiv n (2 ^ (32 : Nat))))])) ++ r4)], 5⟩)]) (by kernel_rfl) ?_
  refine wo_run [8] [0, 5, 6] [21] (l' := [(0, eI .u64 n), (5, .s (.a (.ls 21 0 4 c4))), (6, eI .i64 4)]) (H' := [(21, ⟨[.vals (bV (((([] ++ ([(IntKind.wrap .u8 (Int.fdiv n (2 ^ (56 : Nat))))])) ++ ([(IntKind.wrap .u8 (Int.fdiv n (2 ^ (48 : Nat))))])) ++ ([(IntKind.wrap .u8 (Int.fdiv n (2 ^ (40 : Nat))))])) ++ ([(IntKind.wrap .u8 (Int.fdiv n (2 ^ (32 : Nat))))])) ++ r4)], 5⟩)]) (by kernel_rfl) ?_
  refine wo_nil ?_
  refine we_block ?_
  refine we_then ?_
  refine wc_reg [0, 1, 2] (by kernel_rfl) ?_
  refine wo_run [0, 1, 2] [0, 5, 6] [21] (l' := [(0, eI .u64 n), (5, .s (.a (.ls 21 0 4 c4))), (6, eI .i64 3)]) (H' := [(21, ⟨[.vals (bV (((([] ++ ([(IntKind.wrap .u8 (Int.fdiv n (2 ^ (56 : Nat))))])) ++ ([(IntKind.wrap .u8 (Int.fdiv n (2 ^ (48 : Nat))))])) ++ ([(IntKind.wrap .u8 (Int.fdiv n (2 ^ (40 : Nat))))])) ++ ([(IntKind.wrap .u8 (Int.fdiv n (2 ^ (32 : Nat))))])) ++ r4)], 5⟩)]) (by kernel_rfl) ?_
  refine wo_nil ?_
  refine we_rest [0, 5, 6] [21] (l' := [(0, eI .u64 n), (5, .s (.a (.ls 21 0 4 c4))), (6, eI .i64 3)]) (H' := [(21, ⟨[.vals (bV (((([] ++ ([(IntKind.wrap .u8 (Int.fdiv n (2 ^ (56 : Nat))))])) ++ ([(IntKind.wrap .u8 (Int.fdiv n (2 ^ (48 : Nat))))])) ++ ([(IntKind.wrap .u8 (Int.fdiv n (2 ^ (40 : Nat))))])) ++ ([(IntKind.wrap .u8 (Int.fdiv n (2 ^ (32 : Nat))))])) ++ r4)], 5⟩)]) (by kernel_rfl) (by kernel_rfl) ?_
  refine we_ren [(21, 7)] (l' := [(0, eI .u64 n), (5, .s (.a (.ls 7 0 4 c4))), (6, eI .i64 3)]) (H' := [(7, ⟨[.vals (bV (((([] ++ ([(IntKind.wrap .u8 (Int.fdiv n (2 ^ (56 : Nat))))])) ++ ([(IntKind.wrap .u8 (Int.fdiv n (2 ^ (48 : Nat))))])) ++ ([(IntKind.wrap .u8 (Int.fdiv n (2 ^ (40 : Nat))))])) ++ ([(IntKind.wrap .u8 (Int.fdiv n (2 ^ (32 : Nat))))])) ++ r4)], 5⟩)]) (by kernel_rfl) (by kernel_rfl) (by kernel_rfl) ?_
  refine we_unr ?_
  refine wr_go ?_
  refine wc_seq ?_
  refine wc_seq ?_
  refine wc_reg [0, 1] (by kernel_rfl) ?_
  refine wo_run [0, 1] [0, 5, 6, 11] [7] (l' := [(0, eI .u64 n), (5, .s (.a (.ls 7 0 4 c4))), (6, eI .i64 3), (11, eB true)]) (H' := [(7, ⟨[.vals (bV (((([] ++ ([(IntKind.wrap .u8 (Int.fdiv n (2 ^ (56 : Nat))))])) ++ ([(IntKind.wrap .u8 (Int.fdiv n (2 ^ (48 : Nat))))])) ++ ([(IntKind.wrap .u8 (Int.fdiv n (2 ^ (40 : Nat))))])) ++ ([(IntKind.wrap .u8 (Int.fdiv n (2 ^ (32 : Nat))))])) ++ r4)], 5⟩)]) (by kernel_rfl) ?_
  refine wo_nil ?_
  refine we_then ?_
  refine wc_true rfl ?_
  refine wc_skip ?_
  refine we_then ?_
  refine wc_seq ?_
  refine wc_block ?_
  refine wc_reg [0, 1, 2, 3, 4, 5, 6, 7, 8] (by kernel_rfl) ?_
  refine wo_run [0, 1, 2, 3, 4, 5] [0, 6, 14, 19] [7] (l' := [(0, eI .u64 n), (6, eI .i64 3), (14, .s (.a (.ls 7 0 4 c4))), (19, eI .u8 (IntKind.wrap .u8 (Int.fdiv n (2 ^ (24 : Nat)))))]) (H' := [(7, ⟨[.vals (bV (((([] ++ ([(IntKind.wrap .u8 (Int.fdiv n (2 ^ (56 : Nat))))])) ++ ([(IntKind.wrap .u8 (Int.fdiv n (2 ^ (48 : Nat))))])) ++ ([(IntKind.wrap .u8 (Int.fdiv n (2 ^ (40 : Nat))))])) ++ ([(IntKind.wrap .u8 (Int.fdiv n (2 ^ (32 : Nat))))])) ++ r4)], 5⟩)]) (by kernel_rfl) ?_
  refine wo_op rfl rfl (ot_bslice (e := 5) (d := 20) (n := 1) (size := 1) [.ints .u8 1 (List.replicate 1 0)] [cI .u8 (IntKind.wrap .u8 (Int.fdiv n (2 ^ (24 : Nat))))] rfl rfl rfl (by kernel_rfl) rfl (by kernel_rfl) (okc_ints (List.length_replicate) (okc_nil)) (fun _ => rfl) (by kernel_rfl) (by kernel_rfl)) ?_
  refine wo_flat 20 [.vals (bV ([(IntKind.wrap .u8 (Int.fdiv n (2 ^ (24 : Nat))))]) ++ [])] rfl (fun ρ => by simp [flat, iV, bV, AV.conc]) (okCs_vals _) ?_
  refine wo_ox rfl rfl (ox_appendS (e := 5) (m := 1) (size := 1) (bytes := 1) 21 7 4 c4 (bV (((([] ++ ([(IntKind.wrap .u8 (Int.fdiv n (2 ^ (56 : Nat))))])) ++ ([(IntKind.wrap .u8 (Int.fdiv n (2 ^ (48 : Nat))))])) ++ ([(IntKind.wrap .u8 (Int.fdiv n (2 ^ (40 : Nat))))])) ++ ([(IntKind.wrap .u8 (Int.fdiv n (2 ^ (32 : Nat))))]))) (([(IntKind.wrap .u8 (Int.fdiv n (2 ^ (24 : Nat))))]).map (Value.int .u8)) r4 [20] rfl rfl (by kernel_rfl) (by kernel_rfl) (by kernel_rfl) rfl rfl (by simp [bV, iV]) (by have := hc4.2.2; simpa using this) (by have := hc4.1; simpa using this) (hc4.2.1) (srcof_row (e' := 5) rfl (by kernel_rfl) rfl (rfl)) (by decide) (by decide) (by kernel_rfl)) (fun ⟨c5, r5⟩ hc5 _ => ?_)
  refine wo_flat 21 [.vals (bV ((((([] ++ ([(IntKind.wrap .u8 (Int.fdiv n (2 ^ (56 : Nat))))])) ++ ([(IntKind.wrap .u8 (Int.fdiv n (2 ^ (48 : Nat))))])) ++ ([(IntKind.wrap .u8 (Int.fdiv n (2 ^ (40 : Nat))))])) ++ ([(IntKind.wrap .u8 (Int.fdiv n (2 ^ (32 : Nat))))])) ++ ([(IntKind.wrap .u8 (Int.fdiv n (2 ^ (24 : Nat))))])) ++ r5)] rfl (fun ρ => by simp only [bV, iV, List.map_append]) (okCs_vals _) ?_
  refine wo_run [] [0, 6, 21] [21] (l' := [(0, eI .u64 n), (6, eI .i64 3), (21, .s (.a (.ls 21 0 5 c5)))]) (H' := [(21, ⟨[.vals (bV ((((([] ++ ([(IntKind.wrap .u8 (Int.fdiv n (2 ^ (56 : Nat))))])) ++ ([(IntKind.wrap .u8 (Int.fdiv n (2 ^ (48 : Nat))))])) ++ ([(IntKind.wrap .u8 (Int.fdiv n (2 ^ (40 : Nat))))])) ++ ([(IntKind.wrap .u8 (Int.fdiv n (2 ^ (32 : Nat))))])) ++ ([(IntKind.wrap .u8 (Int.fdiv n (2 ^ (24 : Nat))))])) ++ r5)], 5⟩)]) (by kernel_rfl) ?_
  refine wo_run [8] [0, 5, 6] [21] (l' := [(0, eI .u64 n), (5, .s (.a (.ls 21 0 5 c5))), (6, eI .i64 3)]) (H' := [(21, ⟨[.vals (bV ((((([] ++ ([(IntKind.wrap .u8 (Int.fdiv n (2 ^ (56 : Nat))))])) ++ ([(IntKind.wrap .u8 (Int.fdiv n (2 ^ (48 : Nat))))])) ++ ([(IntKind.wrap .u8 (Int.fdiv n (2 ^ (40 : Nat))))])) ++ ([(IntKind.wrap .u8 (Int.fdiv n (2 ^ (32 : Nat))))])) ++ ([(IntKind.wrap .u8 (Int.fdiv n (2 ^ (24 : Nat))))])) ++ r5)], 5⟩)]) (by kernel_rfl) ?_
  refine wo_nil ?_
  refine we_block ?_
  refine we_then ?_
  refine wc_reg [0, 1, 2] (by kernel_rfl) ?_
  refine wo_run [0, 1, 2] [0, 5, 6] [21] (l' := [(0, eI .u64 n), (5, .s (.a (.ls 21 0 5 c5))), (6, eI .i64 2)]) (H' := [(21, ⟨[.vals (bV ((((([] ++ ([(IntKind.wrap .u8 (Int.fdiv n (2 ^ (56 : Nat))))])) ++ ([(IntKind.wrap .u8 (Int.fdiv n (2 ^ (48 : Nat))))])) ++ ([(IntKind.wrap .u8 (Int.fdiv n (2 ^ (40 : Nat))))])) ++ ([(IntKind.wrap .u8 (Int.fdiv n (2 ^ (32 : Nat))))])) ++ ([(IntKind.wrap .u8 (Int.fdiv n (2 ^ (24 : Nat))))])) ++ r5)], 5⟩)]) (by kernel_rfl) ?_
  refine wo_nil ?_
  refine we_rest [0, 5, 6] [21] (l' := [(0, eI .u64 n), (5, .s (.a (.ls 21 0 5 c5))), (6, eI .i64 2)]) (H' := [(21, ⟨[.vals (bV ((((([] ++ ([(IntKind.wrap .u8 (Int.fdiv n (2 ^ (56 : Nat))))])) ++ ([(IntKind.wrap .u8 (Int.fdiv n (2 ^ (48 : Nat))))])) ++ ([(IntKind.wrap .u8 (Int.fdiv n (2 ^ (40 : Nat))))])) ++ ([(IntKind.wrap .u8 (Int.fdiv n (2 ^ (32 : Nat))))])) ++ ([(IntKind.wrap .u8 (Int.fdiv n (2 ^ (24 : Nat))))])) ++ r5)], 5⟩)]) (by kernel_rfl) (by kernel_rfl) ?_
  refine we_ren [(21, 7)] (l' := [(0, eI .u64 n), (5, .s (.a (.ls 7 0 5 c5))), (6, eI .i64 2)]) (H' := [(7, ⟨[.vals (bV ((((([] ++ ([(IntKind.wrap .u8 (Int.fdiv n (2 ^ (56 : Nat))))])) ++ ([(IntKind.wrap .u8 (Int.fdiv n (2 ^ (48 : Nat))))])) ++ ([(IntKind.wrap .u8 (Int.fdiv n (2 ^ (40 : Nat))))])) ++ ([(IntKind.wrap .u8 (Int.fdiv n (2 ^ (32 : Nat))))])) ++ ([(IntKind.wrap .u8 (Int.fdiv n (2 ^ (24 : Nat))))])) ++ r5)], 5⟩)]) (by kernel_rfl) (by kernel_rfl) (by kernel_rfl) ?_
  refine we_unr ?_
  refine wr_go ?_
  refine wc_seq ?_
  refine wc_seq ?_
  refine wc_reg [0, 1] (by kernel_rfl) ?_
  refine wo_run [0, 1] [0, 5, 6, 11] [7] (l' := [(0, eI .u64 n), (5, .s (.a (.ls 7 0 5 c5))), (6, eI .i64 2), (11, eB true)]) (H' := [(7, ⟨[.vals (bV ((((([] ++ ([(IntKind.wrap .u8 (Int.fdiv n (2 ^ (56 : Nat))))])) ++ ([(IntKind.wrap .u8 (Int.fdiv n (2 ^ (48 : Nat))))])) ++ ([(IntKind.wrap .u8 (Int.fdiv n (2 ^ (40 : Nat))))])) ++ ([(IntKind.wrap .u8 (Int.fdiv n (2 ^ (32 : Nat))))])) ++ ([(IntKind.wrap .u8 (Int.fdiv n (2 ^ (24 : Nat))))])) ++ r5)], 5⟩)]) (by kernel_rfl) ?_
  refine wo_nil ?_
  refine we_then ?_
  refine wc_true rfl ?_
  refine wc_skip ?_
  refine we_then ?_
  refine wc_seq ?_
  refine wc_block ?_
  refine wc_reg [0, 1, 2, 3, 4, 5, 6, 7, 8] (by kernel_rfl) ?_
  refine wo_run [0, 1, 2, 3, 4, 5] [0, 6, 14, 19] [7] (l' := [(0, eI .u64 n), (6, eI .i64 2), (14, .s (.a (.ls 7 0 5 c5))), (19, eI .u8 (IntKind.wrap .u8 (Int.fdiv n (2 ^ (16 : Nat)))))]) (H' := [(7, ⟨[.vals (bV ((((([] ++ ([(IntKind.wrap .u8 (Int.fdiv n (2 ^ (56 : Nat))))])) ++ ([(IntKind.wrap .u8 (Int.fdiv n (2 ^ (48 : Nat))))])) ++ ([(IntKind.wrap .u8 (Int.fdiv n (2 ^ (40 : Nat))))])) ++ ([(IntKind.wrap .u8 (Int.fdiv n (2 ^ (32 : Nat))))])) ++ ([(IntKind.wrap .u8 (Int.fdiv n (2 ^ (24 : Nat))))])) ++ r5)], 5⟩)]) (by kernel_rfl) ?_
  refine wo_op rfl rfl (ot_bslice (e := 5) (d := 20) (n := 1) (size := 1) [.ints .u8 1 (List.replicate 1 0)] [cI .u8 (IntKind.wrap .u8 (Int.fdiv n (2 ^ (16 : Nat))))] rfl rfl rfl (by kernel_rfl) rfl (by kernel_rfl) (okc_ints (List.length_replicate) (okc_nil)) (fun _ => rfl) (by kernel_rfl) (by kernel_rfl)) ?_
  refine wo_flat 20 [.vals (bV ([(IntKind.wrap .u8 (Int.fdiv n (2 ^ (16 : Nat))))]) ++ [])] rfl (fun ρ => by simp [flat, iV, bV, AV.conc]) (okCs_vals _) ?_
  refine wo_ox rfl rfl (ox_appendS (e := 5) (m := 1) (size := 1) (bytes := 1) 21 7 5 c5 (bV ((((([] ++ ([(IntKind.wrap .u8 (Int.fdiv n (2 ^ (56 : Nat))))])) ++ ([(IntKind.wrap .u8 (Int.fdiv n (2 ^ (48 : Nat))))])) ++ ([(IntKind.wrap .u8 (Int.fdiv n (2 ^ (40 : Nat))))])) ++ ([(IntKind.wrap .u8 (Int.fdiv n (2 ^ (32 : Nat))))])) ++ ([(IntKind.wrap .u8 (Int.fdiv n (2 ^ (24 : Nat))))]))) (([(IntKind.wrap .u8 (Int.fdiv n (2 ^ (16 : Nat))))]).map (Value.int .u8)) r5 [20] rfl rfl (by kernel_rfl) (by kernel_rfl) (by kernel_rfl) rfl rfl (by simp [bV, iV]) (by have := hc5.2.2; simpa using this) (by have := hc5.1; simpa using this) (hc5.2.1) (srcof_row (e' := 5) rfl (by kernel_rfl) rfl (rfl)) (by decide) (by decide) (by kernel_rfl)) (fun ⟨c6, r6⟩ hc6 _ => ?_)
  refine wo_flat 21 [.vals (bV (((((([] ++ ([(IntKind.wrap .u8 (Int.fdiv n (2 ^ (56 : Nat))))])) ++ ([(IntKind.wrap .u8 (Int.fdiv n (2 ^ (48 : Nat))))])) ++ ([(IntKind.wrap .u8 (Int.fdiv n (2 ^ (40 : Nat))))])) ++ ([(IntKind.wrap .u8 (Int.fdiv n (2 ^ (32 : Nat))))])) ++ ([(IntKind.wrap .u8 (Int.fdiv n (2 ^ (24 : Nat))))])) ++ ([(IntKind.wrap .u8 (Int.fdiv n (2 ^ (16 : Nat))))])) ++ r6)] rfl (fun ρ => by simp only [bV, iV, List.map_append]) (okCs_vals _) ?_
  refine wo_run [] [0, 6, 21] [21] (l' := [(0, eI .u64 n), (6, eI .i64 2), (21, .s (.a (.ls 21 0 6 c6)))]) (H' := [(21, ⟨[.vals (bV (((((([] ++ ([(IntKind.wrap .u8 (Int.fdiv n (2 ^ (56 : Nat))))])) ++ ([(IntKind.wrap .u8 (Int.fdiv n (2 ^ (48 : Nat))))])) ++ ([(IntKind.wrap .u8 (Int.fdiv n (2 ^ (40 : Nat))))])) ++ ([(IntKind.wrap .u8 (Int.fdiv n (2 ^ (32 : Nat))))])) ++ ([(IntKind.wrap .u8 (Int.fdiv n (2 ^ (24 : Nat))))])) ++ ([(IntKind.wrap .u8 (Int.fdiv n (2 ^ (16 : Nat))))])) ++ r6)], 5⟩)]) (by kernel_rfl) ?_
  refine wo_run [8] [0, 5, 6] [21] (l' := [(0, eI .u64 n), (5, .s (.a (.ls 21 0 6 c6))), (6, eI .i64 2)]) (H' := [(21, ⟨[.vals (bV (((((([] ++ ([(IntKind.wrap .u8 (Int.fdiv n (2 ^ (56 : Nat))))])) ++ ([(IntKind.wrap .u8 (Int.fdiv n (2 ^ (48 : Nat))))])) ++ ([(IntKind.wrap .u8 (Int.fdiv n (2 ^ (40 : Nat))))])) ++ ([(IntKind.wrap .u8 (Int.fdiv n (2 ^ (32 : Nat))))])) ++ ([(IntKind.wrap .u8 (Int.fdiv n (2 ^ (24 : Nat))))])) ++ ([(IntKind.wrap .u8 (Int.fdiv n (2 ^ (16 : Nat))))])) ++ r6)], 5⟩)]) (by kernel_rfl) ?_
  refine wo_nil ?_
  refine we_block ?_
  refine we_then ?_
  refine wc_reg [0, 1, 2] (by kernel_rfl) ?_
  refine wo_run [0, 1, 2] [0, 5, 6] [21] (l' := [(0, eI .u64 n), (5, .s (.a (.ls 21 0 6 c6))), (6, eI .i64 1)]) (H' := [(21, ⟨[.vals (bV (((((([] ++ ([(IntKind.wrap .u8 (Int.fdiv n (2 ^ (56 : Nat))))])) ++ ([(IntKind.wrap .u8 (Int.fdiv n (2 ^ (48 : Nat))))])) ++ ([(IntKind.wrap .u8 (Int.fdiv n (2 ^ (40 : Nat))))])) ++ ([(IntKind.wrap .u8 (Int.fdiv n (2 ^ (32 : Nat))))])) ++ ([(IntKind.wrap .u8 (Int.fdiv n (2 ^ (24 : Nat))))])) ++ ([(IntKind.wrap .u8 (Int.fdiv n (2 ^ (16 : Nat))))])) ++ r6)], 5⟩)]) (by kernel_rfl) ?_
  refine wo_nil ?_
  refine we_rest [0, 5, 6] [21] (l' := [(0, eI .u64 n), (5, .s (.a (.ls 21 0 6 c6))), (6, eI .i64 1)]) (H' := [(21, ⟨[.vals (bV (((((([] ++ ([(IntKind.wrap .u8 (Int.fdiv n (2 ^ (56 : Nat))))])) ++ ([(IntKind.wrap .u8 (Int.fdiv n (2 ^ (48 : Nat))))])) ++ ([(IntKind.wrap .u8 (Int.fdiv n (2 ^ (40 : Nat))))])) ++ ([(IntKind.wrap .u8 (Int.fdiv n (2 ^ (32 : Nat))))])) ++ ([(IntKind.wrap .u8 (Int.fdiv n (2 ^ (24 : Nat))))])) ++ ([(IntKind.wrap .u8 (Int.fdiv n (2 ^ (16 : Nat))))])) ++ r6)], 5⟩)]) (by kernel_rfl) (by kernel_rfl) ?_
  refine we_ren [(21, 7)] (l' := [(0, eI .u64 n), (5, .s (.a (.ls 7 0 6 c6))), (6, eI .i64 1)]) (H' := [(7, ⟨[.vals (bV (((((([] ++ ([(IntKind.wrap .u8 (Int.fdiv n (2 ^ (56 : Nat))))])) ++ ([(IntKind.wrap .u8 (Int.fdiv n (2 ^ (48 : Nat))))])) ++ ([(IntKind.wrap .u8 (Int.fdiv n (2 ^ (40 : Nat))))])) ++ ([(IntKind.wrap .u8 (Int.fdiv n (2 ^ (32 : Nat))))])) ++ ([(IntKind.wrap .u8 (Int.fdiv n (2 ^ (24 : Nat))))])) ++ ([(IntKind.wrap .u8 (Int.fdiv n (2 ^ (16 : Nat))))])) ++ r6)], 5⟩)]) (by kernel_rfl) (by kernel_rfl) (by kernel_rfl) ?_
  refine we_unr ?_
  refine wr_go ?_
  refine wc_seq ?_
  refine wc_seq ?_
  refine wc_reg [0, 1] (by kernel_rfl) ?_
  refine wo_run [0, 1] [0, 5, 6, 11] [7] (l' := [(0, eI .u64 n), (5, .s (.a (.ls 7 0 6 c6))), (6, eI .i64 1), (11, eB true)]) (H' := [(7, ⟨[.vals (bV (((((([] ++ ([(IntKind.wrap .u8 (Int.fdiv n (2 ^ (56 : Nat))))])) ++ ([(IntKind.wrap .u8 (Int.fdiv n (2 ^ (48 : Nat))))])) ++ ([(IntKind.wrap .u8 (Int.fdiv n (2 ^ (40 : Nat))))])) ++ ([(IntKind.wrap .u8 (Int.fdiv n (2 ^ (32 : Nat))))])) ++ ([(IntKind.wrap .u8 (Int.fdiv n (2 ^ (24 : Nat))))])) ++ ([(IntKind.wrap .u8 (Int.fdiv n (2 ^ (16 : Nat))))])) ++ r6)], 5⟩)]) (by kernel_rfl) ?_
  refine wo_nil ?_
  refine we_then ?_
  refine wc_true rfl ?_
  refine wc_skip ?_
  refine we_then ?_
  refine wc_seq ?_
  refine wc_block ?_
  refine wc_reg [0, 1, 2, 3, 4, 5, 6, 7, 8] (by kernel_rfl) ?_
  refine wo_run [0, 1, 2, 3, 4, 5] [0, 6, 14, 19] [7] (l' := [(0, eI .u64 n), (6, eI .i64 1), (14, .s (.a (.ls 7 0 6 c6))), (19, eI .u8 (IntKind.wrap .u8 (Int.fdiv n (2 ^ (8 : Nat)))))]) (H' := [(7, ⟨[.vals (bV (((((([] ++ ([(IntKind.wrap .u8 (Int.fdiv n (2 ^ (56 : Nat))))])) ++ ([(IntKind.wrap .u8 (Int.fdiv n (2 ^ (48 : Nat))))])) ++ ([(IntKind.wrap .u8 (Int.fdiv n (2 ^ (40 : Nat))))])) ++ ([(IntKind.wrap .u8 (Int.fdiv n (2 ^ (32 : Nat))))])) ++ ([(IntKind.wrap .u8 (Int.fdiv n (2 ^ (24 : Nat))))])) ++ ([(IntKind.wrap .u8 (Int.fdiv n (2 ^ (16 : Nat))))])) ++ r6)], 5⟩)]) (by kernel_rfl) ?_
  refine wo_op rfl rfl (ot_bslice (e := 5) (d := 20) (n := 1) (size := 1) [.ints .u8 1 (List.replicate 1 0)] [cI .u8 (IntKind.wrap .u8 (Int.fdiv n (2 ^ (8 : Nat))))] rfl rfl rfl (by kernel_rfl) rfl (by kernel_rfl) (okc_ints (List.length_replicate) (okc_nil)) (fun _ => rfl) (by kernel_rfl) (by kernel_rfl)) ?_
  refine wo_flat 20 [.vals (bV ([(IntKind.wrap .u8 (Int.fdiv n (2 ^ (8 : Nat))))]) ++ [])] rfl (fun ρ => by simp [flat, iV, bV, AV.conc]) (okCs_vals _) ?_
  refine wo_ox rfl rfl (ox_appendS (e := 5) (m := 1) (size := 1) (bytes := 1) 21 7 6 c6 (bV (((((([] ++ ([(IntKind.wrap .u8 (Int.fdiv n (2 ^ (56 : Nat))))])) ++ ([(IntKind.wrap .u8 (Int.fdiv n (2 ^ (48 : Nat))))])) ++ ([(IntKind.wrap .u8 (Int.fdiv n (2 ^ (40 : Nat))))])) ++ ([(IntKind.wrap .u8 (Int.fdiv n (2 ^ (32 : Nat))))])) ++ ([(IntKind.wrap .u8 (Int.fdiv n (2 ^ (24 : Nat))))])) ++ ([(IntKind.wrap .u8 (Int.fdiv n (2 ^ (16 : Nat))))]))) (([(IntKind.wrap .u8 (Int.fdiv n (2 ^ (8 : Nat))))]).map (Value.int .u8)) r6 [20] rfl rfl (by kernel_rfl) (by kernel_rfl) (by kernel_rfl) rfl rfl (by simp [bV, iV]) (by have := hc6.2.2; simpa using this) (by have := hc6.1; simpa using this) (hc6.2.1) (srcof_row (e' := 5) rfl (by kernel_rfl) rfl (rfl)) (by decide) (by decide) (by kernel_rfl)) (fun ⟨c7, r7⟩ hc7 _ => ?_)
  refine wo_flat 21 [.vals (bV ((((((([] ++ ([(IntKind.wrap .u8 (Int.fdiv n (2 ^ (56 : Nat))))])) ++ ([(IntKind.wrap .u8 (Int.fdiv n (2 ^ (48 : Nat))))])) ++ ([(IntKind.wrap .u8 (Int.fdiv n (2 ^ (40 : Nat))))])) ++ ([(IntKind.wrap .u8 (Int.fdiv n (2 ^ (32 : Nat))))])) ++ ([(IntKind.wrap .u8 (Int.fdiv n (2 ^ (24 : Nat))))])) ++ ([(IntKind.wrap .u8 (Int.fdiv n (2 ^ (16 : Nat))))])) ++ ([(IntKind.wrap .u8 (Int.fdiv n (2 ^ (8 : Nat))))])) ++ r7)] rfl (fun ρ => by simp only [bV, iV, List.map_append]) (okCs_vals _) ?_
  refine wo_run [] [0, 6, 21] [21] (l' := [(0, eI .u64 n), (6, eI .i64 1), (21, .s (.a (.ls 21 0 7 c7)))]) (H' := [(21, ⟨[.vals (bV ((((((([] ++ ([(IntKind.wrap .u8 (Int.fdiv n (2 ^ (56 : Nat))))])) ++ ([(IntKind.wrap .u8 (Int.fdiv n (2 ^ (48 : Nat))))])) ++ ([(IntKind.wrap .u8 (Int.fdiv n (2 ^ (40 : Nat))))])) ++ ([(IntKind.wrap .u8 (Int.fdiv n (2 ^ (32 : Nat))))])) ++ ([(IntKind.wrap .u8 (Int.fdiv n (2 ^ (24 : Nat))))])) ++ ([(IntKind.wrap .u8 (Int.fdiv n (2 ^ (16 : Nat))))])) ++ ([(IntKind.wrap .u8 (Int.fdiv n (2 ^ (8 : Nat))))])) ++ r7)], 5⟩)]) (by kernel_rfl) ?_
  refine wo_run [8] [0, 5, 6] [21] (l' := [(0, eI .u64 n), (5, .s (.a (.ls 21 0 7 c7))), (6, eI .i64 1)]) (H' := [(21, ⟨[.vals (bV ((((((([] ++ ([(IntKind.wrap .u8 (Int.fdiv n (2 ^ (56 : Nat))))])) ++ ([(IntKind.wrap .u8 (Int.fdiv n (2 ^ (48 : Nat))))])) ++ ([(IntKind.wrap .u8 (Int.fdiv n (2 ^ (40 : Nat))))])) ++ ([(IntKind.wrap .u8 (Int.fdiv n (2 ^ (32 : Nat))))])) ++ ([(IntKind.wrap .u8 (Int.fdiv n (2 ^ (24 : Nat))))])) ++ ([(IntKind.wrap .u8 (Int.fdiv n (2 ^ (16 : Nat))))])) ++ ([(IntKind.wrap .u8 (Int.fdiv n (2 ^ (8 : Nat))))])) ++ r7)], 5⟩)]) (by kernel_rfl) ?_
  refine wo_nil ?_
  refine we_block ?_
  refine we_then ?_
  refine wc_reg [0, 1, 2] (by kernel_rfl) ?_
  refine wo_run [0, 1, 2] [0, 5, 6] [21] (l' := [(0, eI .u64 n), (5, .s (.a (.ls 21 0 7 c7))), (6, eI .i64 0)]) (H' := [(21, ⟨[.vals (bV ((((((([] ++ ([(IntKind.wrap .u8 (Int.fdiv n (2 ^ (56 : Nat))))])) ++ ([(IntKind.wrap .u8 (Int.fdiv n (2 ^ (48 : Nat))))])) ++ ([(IntKind.wrap .u8 (Int.fdiv n (2 ^ (40 : Nat))))])) ++ ([(IntKind.wrap .u8 (Int.fdiv n (2 ^ (32 : Nat))))])) ++ ([(IntKind.wrap .u8 (Int.fdiv n (2 ^ (24 : Nat))))])) ++ ([(IntKind.wrap .u8 (Int.fdiv n (2 ^ (16 : Nat))))])) ++ ([(IntKind.wrap .u8 (Int.fdiv n (2 ^ (8 : Nat))))])) ++ r7)], 5⟩)]) (by kernel_rfl) ?_
  refine wo_nil ?_
  refine we_rest [0, 5, 6] [21] (l' := [(0, eI .u64 n), (5, .s (.a (.ls 21 0 7 c7))), (6, eI .i64 0)]) (H' := [(21, ⟨[.vals (bV ((((((([] ++ ([(IntKind.wrap .u8 (Int.fdiv n (2 ^ (56 : Nat))))])) ++ ([(IntKind.wrap .u8 (Int.fdiv n (2 ^ (48 : Nat))))])) ++ ([(IntKind.wrap .u8 (Int.fdiv n (2 ^ (40 : Nat))))])) ++ ([(IntKind.wrap .u8 (Int.fdiv n (2 ^ (32 : Nat))))])) ++ ([(IntKind.wrap .u8 (Int.fdiv n (2 ^ (24 : Nat))))])) ++ ([(IntKind.wrap .u8 (Int.fdiv n (2 ^ (16 : Nat))))])) ++ ([(IntKind.wrap .u8 (Int.fdiv n (2 ^ (8 : Nat))))])) ++ r7)], 5⟩)]) (by kernel_rfl) (by kernel_rfl) ?_
  refine we_ren [(21, 7)] (l' := [(0, eI .u64 n), (5, .s (.a (.ls 7 0 7 c7))), (6, eI .i64 0)]) (H' := [(7, ⟨[.vals (bV ((((((([] ++ ([(IntKind.wrap .u8 (Int.fdiv n (2 ^ (56 : Nat))))])) ++ ([(IntKind.wrap .u8 (Int.fdiv n (2 ^ (48 : Nat))))])) ++ ([(IntKind.wrap .u8 (Int.fdiv n (2 ^ (40 : Nat))))])) ++ ([(IntKind.wrap .u8 (Int.fdiv n (2 ^ (32 : Nat))))])) ++ ([(IntKind.wrap .u8 (Int.fdiv n (2 ^ (24 : Nat))))])) ++ ([(IntKind.wrap .u8 (Int.fdiv n (2 ^ (16 : Nat))))])) ++ ([(IntKind.wrap .u8 (Int.fdiv n (2 ^ (8 : Nat))))])) ++ r7)], 5⟩)]) (by kernel_rfl) (by kernel_rfl) (by kernel_rfl) ?_
  refine we_unr ?_
  refine wr_go ?_
  refine wc_seq ?_
  refine wc_seq ?_
  refine wc_reg [0, 1] (by kernel_rfl) ?_
  refine wo_run [0, 1] [0, 5, 6, 11] [7] (l' := [(0, eI .u64 n), (5, .s (.a (.ls 7 0 7 c7))), (6, eI .i64 0), (11, eB true)]) (H' := [(7, ⟨[.vals (bV ((((((([] ++ ([(IntKind.wrap .u8 (Int.fdiv n (2 ^ (56 : Nat))))])) ++ ([(IntKind.wrap .u8 (Int.fdiv n (2 ^ (48 : Nat))))])) ++ ([(IntKind.wrap .u8 (Int.fdiv n (2 ^ (40 : Nat))))])) ++ ([(IntKind.wrap .u8 (Int.fdiv n (2 ^ (32 : Nat))))])) ++ ([(IntKind.wrap .u8 (Int.fdiv n (2 ^ (24 : Nat))))])) ++ ([(IntKind.wrap .u8 (Int.fdiv n (2 ^ (16 : Nat))))])) ++ ([(IntKind.wrap .u8 (Int.fdiv n (2 ^ (8 : Nat))))])) ++ r7)], 5⟩)]) (by kernel_rfl) ?_
  refine wo_nil ?_
  refine we_then ?_
  refine wc_true rfl ?_
  refine wc_skip ?_
  refine we_then ?_
  refine wc_seq ?_
  refine wc_block ?_
  refine wc_reg [0, 1, 2, 3, 4, 5, 6, 7, 8] (by kernel_rfl) ?_
  refine wo_run [0, 1, 2, 3, 4, 5] [0, 6, 14, 19] [7] (l' := [(0, eI .u64 n), (6, eI .i64 0), (14, .s (.a (.ls 7 0 7 c7))), (19, eI .u8 (IntKind.wrap .u8 (Int.fdiv n (2 ^ (0 : Nat)))))]) (H' := [(7, ⟨[.vals (bV ((((((([] ++ ([(IntKind.wrap .u8 (Int.fdiv n (2 ^ (56 : Nat))))])) ++ ([(IntKind.wrap .u8 (Int.fdiv n (2 ^ (48 : Nat))))])) ++ ([(IntKind.wrap .u8 (Int.fdiv n (2 ^ (40 : Nat))))])) ++ ([(IntKind.wrap .u8 (Int.fdiv n (2 ^ (32 : Nat))))])) ++ ([(IntKind.wrap .u8 (Int.fdiv n (2 ^ (24 : Nat))))])) ++ ([(IntKind.wrap .u8 (Int.fdiv n (2 ^ (16 : Nat))))])) ++ ([(IntKind.wrap .u8 (Int.fdiv n (2 ^ (8 : Nat))))])) ++ r7)], 5⟩)]) (by kernel_rfl) ?_
  refine wo_op rfl rfl (ot_bslice (e := 5) (d := 20) (n := 1) (size := 1) [.ints .u8 1 (List.replicate 1 0)] [cI .u8 (IntKind.wrap .u8 (Int.fdiv n (2 ^ (0 : Nat))))] rfl rfl rfl (by kernel_rfl) rfl (by kernel_rfl) (okc_ints (List.length_replicate) (okc_nil)) (fun _ => rfl) (by kernel_rfl) (by kernel_rfl)) ?_
  refine wo_flat 20 [.vals (bV ([(IntKind.wrap .u8 (Int.fdiv n (2 ^ (0 : Nat))))]) ++ [])] rfl (fun ρ => by simp [flat, iV, bV, AV.conc]) (okCs_vals _) ?_
  refine wo_ox rfl rfl (ox_appendS (e := 5) (m := 1) (size := 1) (bytes := 1) 21 7 7 c7 (bV ((((((([] ++ ([(IntKind.wrap .u8 (Int.fdiv n (2 ^ (56 : Nat))))])) ++ ([(IntKind.wrap .u8 (Int.fdiv n (2 ^ (48 : Nat))))])) ++ ([(IntKind.wrap .u8 (Int.fdiv n (2 ^ (40 : Nat))))])) ++ ([(IntKind.wrap .u8 (Int.fdiv n (2 ^ (32 : Nat))))])) ++ ([(IntKind.wrap .u8 (Int.fdiv n (2 ^ (24 : Nat))))])) ++ ([(IntKind.wrap .u8 (Int.fdiv n (2 ^ (16 : Nat))))])) ++ ([(IntKind.wrap .u8 (Int.fdiv n (2 ^ (8 : Nat))))]))) (([(IntKind.wrap .u8 (Int.fdiv n (2 ^ (0 : Nat))))]).map (Value.int .u8)) r7 [20] rfl rfl (by kernel_rfl) (by kernel_rfl) (by kernel_rfl) rfl rfl (by simp [bV, iV]) (by have := hc7.2.2; simpa using this) (by have := hc7.1; simpa using this) (hc7.2.1) (srcof_row (e' := 5) rfl (by kernel_rfl) rfl (rfl)) (by decide) (by decide) (by kernel_rfl)) (fun ⟨c8, r8⟩ hc8 _ => ?_)
  refine wo_flat 21 [.vals (bV (((((((([] ++ ([(IntKind.wrap .u8 (Int.fdiv n (2 ^ (56 : Nat))))])) ++ ([(IntKind.wrap .u8 (Int.fdiv n (2 ^ (48 : Nat))))])) ++ ([(IntKind.wrap .u8 (Int.fdiv n (2 ^ (40 : Nat))))])) ++ ([(IntKind.wrap .u8 (Int.fdiv n (2 ^ (32 : Nat))))])) ++ ([(IntKind.wrap .u8 (Int.fdiv n (2 ^ (24 : Nat))))])) ++ ([(IntKind.wrap .u8 (Int.fdiv n (2 ^ (16 : Nat))))])) ++ ([(IntKind.wrap .u8 (Int.fdiv n (2 ^ (8 : Nat))))])) ++ ([(IntKind.wrap .u8 (Int.fdiv n (2 ^ (0 : Nat))))])) ++ r8)] rfl (fun ρ => by simp only [bV, iV, List.map_append]) (okCs_vals _) ?_
  refine wo_run [] [0, 6, 21] [21] (l' := [(0, eI .u64 n), (6, eI .i64 0), (21, .s (.a (.ls 21 0 8 c8)))]) (H' := [(21, ⟨[.vals (bV (((((((([] ++ ([(IntKind.wrap .u8 (Int.fdiv n (2 ^ (56 : Nat))))])) ++ ([(IntKind.wrap .u8 (Int.fdiv n (2 ^ (48 : Nat))))])) ++ ([(IntKind.wrap .u8 (Int.fdiv n (2 ^ (40 : Nat))))])) ++ ([(IntKind.wrap .u8 (Int.fdiv n (2 ^ (32 : Nat))))])) ++ ([(IntKind.wrap .u8 (Int.fdiv n (2 ^ (24 : Nat))))])) ++ ([(IntKind.wrap .u8 (Int.fdiv n (2 ^ (16 : Nat))))])) ++ ([(IntKind.wrap .u8 (Int.fdiv n (2 ^ (8 : Nat))))])) ++ ([(IntKind.wrap .u8 (Int.fdiv n (2 ^ (0 : Nat))))])) ++ r8)], 5⟩)]) (by kernel_rfl) ?_
  refine wo_run [8] [0, 5, 6] [21] (l' := [(0, eI .u64 n), (5, .s (.a (.ls 21 0 8 c8))), (6, eI .i64 0)]) (H' := [(21, ⟨[.vals (bV (((((((([] ++ ([(IntKind.wrap .u8 (Int.fdiv n (2 ^ (56 : Nat))))])) ++ ([(IntKind.wrap .u8 (Int.fdiv n (2 ^ (48 : Nat))))])) ++ ([(IntKind.wrap .u8 (Int.fdiv n (2 ^ (40 : Nat))))])) ++ ([(IntKind.wrap .u8 (Int.fdiv n (2 ^ (32 : Nat))))])) ++ ([(IntKind.wrap .u8 (Int.fdiv n (2 ^ (24 : Nat))))])) ++ ([(IntKind.wrap .u8 (Int.fdiv n (2 ^ (16 : Nat))))])) ++ ([(IntKind.wrap .u8 (Int.fdiv n (2 ^ (8 : Nat))))])) ++ ([(IntKind.wrap .u8 (Int.fdiv n (2 ^ (0 : Nat))))])) ++ r8)], 5⟩)]) (by kernel_rfl) ?_
  refine wo_nil ?_
  refine we_block ?_
  refine we_then ?_
  refine wc_reg [0, 1, 2] (by kernel_rfl) ?_
  refine wo_run [0, 1, 2] [0, 5, 6] [21] (l' := [(0, eI .u64 n), (5, .s (.a (.ls 21 0 8 c8))), (6, eI .i64 (-1))]) (H' := [(21, ⟨[.vals (bV (((((((([] ++ ([(IntKind.wrap .u8 (Int.fdiv n (2 ^ (56 : Nat))))])) ++ ([(IntKind.wrap .u8 (Int.fdiv n (2 ^ (48 : Nat))))])) ++ ([(IntKind.wrap .u8 (Int.fdiv n (2 ^ (40 : Nat))))])) ++ ([(IntKind.wrap .u8 (Int.fdiv n (2 ^ (32 : Nat))))])) ++ ([(IntKind.wrap .u8 (Int.fdiv n (2 ^ (24 : Nat))))])) ++ ([(IntKind.wrap .u8 (Int.fdiv n (2 ^ (16 : Nat))))])) ++ ([(IntKind.wrap .u8 (Int.fdiv n (2 ^ (8 : Nat))))])) ++ ([(IntKind.wrap .u8 (Int.fdiv n (2 ^ (0 : Nat))))])) ++ r8)], 5⟩)]) (by kernel_rfl) ?_
  refine wo_nil ?_
  refine we_rest [0, 5, 6] [21] (l' := [(0, eI .u64 n), (5, .s (.a (.ls 21 0 8 c8))), (6, eI .i64 (-1))]) (H' := [(21, ⟨[.vals (bV (((((((([] ++ ([(IntKind.wrap .u8 (Int.fdiv n (2 ^ (56 : Nat))))])) ++ ([(IntKind.wrap .u8 (Int.fdiv n (2 ^ (48 : Nat))))])) ++ ([(IntKind.wrap .u8 (Int.fdiv n (2 ^ (40 : Nat))))])) ++ ([(IntKind.wrap .u8 (Int.fdiv n (2 ^ (32 : Nat))))])) ++ ([(IntKind.wrap .u8 (Int.fdiv n (2 ^ (24 : Nat))))])) ++ ([(IntKind.wrap .u8 (Int.fdiv n (2 ^ (16 : Nat))))])) ++ ([(IntKind.wrap .u8 (Int.fdiv n (2 ^ (8 : Nat))))])) ++ ([(IntKind.wrap .u8 (Int.fdiv n (2 ^ (0 : Nat))))])) ++ r8)], 5⟩)]) (by kernel_rfl) (by kernel_rfl) ?_
  refine we_ren [(21, 7)] (l' := [(0, eI .u64 n), (5, .s (.a (.ls 7 0 8 c8))), (6, eI .i64 (-1))]) (H' := [(7, ⟨[.vals (bV (((((((([] ++ ([(IntKind.wrap .u8 (Int.fdiv n (2 ^ (56 : Nat))))])) ++ ([(IntKind.wrap .u8 (Int.fdiv n (2 ^ (48 : Nat))))])) ++ ([(IntKind.wrap .u8 (Int.fdiv n (2 ^ (40 : Nat))))])) ++ ([(IntKind.wrap .u8 (Int.fdiv n (2 ^ (32 : Nat))))])) ++ ([(IntKind.wrap .u8 (Int.fdiv n (2 ^ (24 : Nat))))])) ++ ([(IntKind.wrap .u8 (Int.fdiv n (2 ^ (16 : Nat))))])) ++ ([(IntKind.wrap .u8 (Int.fdiv n (2 ^ (8 : Nat))))])) ++ ([(IntKind.wrap .u8 (Int.fdiv n (2 ^ (0 : Nat))))])) ++ r8)], 5⟩)]) (by kernel_rfl) (by kernel_rfl) (by kernel_rfl) ?_
  refine we_unr ?_
  refine wr_go ?_
  refine wc_seq ?_
  refine wc_seq ?_
  refine wc_reg [0, 1] (by kernel_rfl) ?_
  refine wo_run [0, 1] [0, 5, 6, 11] [7] (l' := [(0, eI .u64 n), (5, .s (.a (.ls 7 0 8 c8))), (6, eI .i64 (-1)), (11, eB false)]) (H' := [(7, ⟨[.vals (bV (((((((([] ++ ([(IntKind.wrap .u8 (Int.fdiv n (2 ^ (56 : Nat))))])) ++ ([(IntKind.wrap .u8 (Int.fdiv n (2 ^ (48 : Nat))))])) ++ ([(IntKind.wrap .u8 (Int.fdiv n (2 ^ (40 : Nat))))])) ++ ([(IntKind.wrap .u8 (Int.fdiv n (2 ^ (32 : Nat))))])) ++ ([(IntKind.wrap .u8 (Int.fdiv n (2 ^ (24 : Nat))))])) ++ ([(IntKind.wrap .u8 (Int.fdiv n (2 ^ (16 : Nat))))])) ++ ([(IntKind.wrap .u8 (Int.fdiv n (2 ^ (8 : Nat))))])) ++ ([(IntKind.wrap .u8 (Int.fdiv n (2 ^ (0 : Nat))))])) ++ r8)], 5⟩)]) (by kernel_rfl) ?_
  refine wo_nil ?_
  refine we_then ?_
  refine wc_false rfl ?_
  refine wc_exit ?_
  refine we_then_exit ?_
  refine we_then_exit ?_
  refine we_block_exit ?_
  refine we_then ?_
  refine wc_seq ?_
  refine wc_reg [0, 1] (by kernel_rfl) ?_
  refine wo_run [0, 1] [4] [7] (l' := [(4, .s (.a (.ls 7 0 8 c8)))]) (H' := [(7, ⟨[.vals (bV (((((((([] ++ ([(IntKind.wrap .u8 (Int.fdiv n (2 ^ (56 : Nat))))])) ++ ([(IntKind.wrap .u8 (Int.fdiv n (2 ^ (48 : Nat))))])) ++ ([(IntKind.wrap .u8 (Int.fdiv n (2 ^ (40 : Nat))))])) ++ ([(IntKind.wrap .u8 (Int.fdiv n (2 ^ (32 : Nat))))])) ++ ([(IntKind.wrap .u8 (Int.fdiv n (2 ^ (24 : Nat))))])) ++ ([(IntKind.wrap .u8 (Int.fdiv n (2 ^ (16 : Nat))))])) ++ ([(IntKind.wrap .u8 (Int.fdiv n (2 ^ (8 : Nat))))])) ++ ([(IntKind.wrap .u8 (Int.fdiv n (2 ^ (0 : Nat))))])) ++ r8)], 5⟩)]) (by kernel_rfl) ?_
  refine wo_nil ?_
  refine we_then ?_
  refine wc_ret ?_
  refine we_rest [4] [7] (l' := [(4, .s (.a (.ls 7 0 8 c8)))]) (H' := [(7, ⟨[.vals (bV (((((((([] ++ ([(IntKind.wrap .u8 (Int.fdiv n (2 ^ (56 : Nat))))])) ++ ([(IntKind.wrap .u8 (Int.fdiv n (2 ^ (48 : Nat))))])) ++ ([(IntKind.wrap .u8 (Int.fdiv n (2 ^ (40 : Nat))))])) ++ ([(IntKind.wrap .u8 (Int.fdiv n (2 ^ (32 : Nat))))])) ++ ([(IntKind.wrap .u8 (Int.fdiv n (2 ^ (24 : Nat))))])) ++ ([(IntKind.wrap .u8 (Int.fdiv n (2 ^ (16 : Nat))))])) ++ ([(IntKind.wrap .u8 (Int.fdiv n (2 ^ (8 : Nat))))])) ++ ([(IntKind.wrap .u8 (Int.fdiv n (2 ^ (0 : Nat))))])) ++ r8)], 5⟩)]) (by kernel_rfl) (by kernel_rfl) ?_
  refine we_ret (.inl rfl) (v := .s (.a (.ls 7 0 8 c8))) (by kernel_rfl) ?_
  intro σ w' hf
  have e : ((((((((([] ++ ([(IntKind.wrap .u8 (Int.fdiv n (2 ^ (56 : Nat))))])) ++ ([(IntKind.wrap .u8 (Int.fdiv n (2 ^ (48 : Nat))))])) ++ ([(IntKind.wrap .u8 (Int.fdiv n (2 ^ (40 : Nat))))])) ++ ([(IntKind.wrap .u8 (Int.fdiv n (2 ^ (32 : Nat))))])) ++ ([(IntKind.wrap .u8 (Int.fdiv n (2 ^ (24 : Nat))))])) ++ ([(IntKind.wrap .u8 (Int.fdiv n (2 ^ (16 : Nat))))])) ++ ([(IntKind.wrap .u8 (Int.fdiv n (2 ^ (8 : Nat))))])) ++ ([(IntKind.wrap .u8 (Int.fdiv n (2 ^ (0 : Nat))))])) : List Int) = be8 n := be8r n
  rw [e] at hf
  exact ⟨(c8, r8), σ, hc8, rfl, hf.ran rfl rfl⟩

set_option maxRecDepth 100000 in
set_option maxHeartbeats 4000000 in
theorem numbers_any (w : World) (ρ : Nat → Nat) (hH : HeapAt ρ [] w) :
    Calls Tryd.prog 40 ([].map (SV.conc ρ)).toArray w fun r' w' => ∃ (y : (Nat × List Value) × (Nat × List Value)) (σ : Nat → Nat), ((8 ≤ y.1.1 ∧ y.1.1 ≤ maxLen ∧ y.1.2.length = (y.1.1 - 8) * 1) ∧ (64 ≤ y.2.1 ∧ y.2.1 ≤ maxLen ∧ y.2.2.length = (y.2.1 - 64) * 1)) ∧ r' = .returned (EV.conc σ (.t [.a (.ls 7 0 8 y.1.1), .a (.ls 8 0 64 y.2.1)])) ∧ Ran ρ [] [(7, ⟨[.vals (iV .u32 hs0.h ++ y.1.2)], 79⟩), (8, ⟨[.vals (iV .u32 shaK ++ y.2.2)], 79⟩)] w w' σ := by
  refine calls_enter (vs := []) (N := 33) [] ρ Tryd.func40 rfl rfl (Nat.le_of_ble_eq_true rfl) (okv_nil) hH.hp hH.inj ?_ _ rfl
  refine wc_seq ?_
  refine wc_reg [0, 1] (by kernel_rfl) ?_
  refine wo_run [0, 1] [] [] (l' := []) (H' := []) (by kernel_rfl) ?_
  refine wo_nil ?_
  refine we_then ?_
  refine wc_seq ?_
  refine wc_reg [0, 1] (by kernel_rfl) ?_
  refine wo_ox rfl rfl (ox_callm (τ := Nat × List Value) (φ := fun y => (P64.length ≤ y.1 ∧ y.1 ≤ maxLen ∧ y.2.length = (y.1 - P64.length) * 1)) [sI .i64 64] [] [] [(7, 6)] [] (fun ⟨c1, r1⟩ => .s (.a (.ls 7 0 P64.length c1))) (fun ⟨c1, r1⟩ => [(7, ⟨[.vals (iV .u64 P64 ++ r1)], 59⟩)]) rfl (by kernel_rfl) rfl Tryd.func51 (by kernel_rfl) (by kernel_rfl) (by kernel_rfl) (by kernel_rfl) (by kernel_rfl) (by kernel_rfl) (trivial) (fun _ => by kernel_rfl) (fun _ => by kernel_rfl) (fun ⟨c1, r1⟩ _ => trivial) (fun ρ w h hh => primes_any w _ hh)) (fun ⟨c1, r1⟩ hc1 _ => ?_)
  refine wo_run [] [6] [6] (l' := [(6, .s (.a (.ls 6 0 P64.length c1)))]) (H' := [(6, ⟨[.vals (iV .u64 P64 ++ r1)], 59⟩)]) (by kernel_rfl) ?_
  refine wo_run [1] [2] [6] (l' := [(2, .s (.a (.ls 6 0 P64.length c1)))]) (H' := [(6, ⟨[.vals (iV .u64 P64 ++ r1)], 59⟩)]) (by kernel_rfl) ?_
  refine wo_nil ?_
  refine we_then ?_
  refine wc_seq ?_
  refine wc_reg [0, 1] (by kernel_rfl) ?_
  refine wo_op rfl rfl (ot_bslice (e := 79) (d := 7) (n := 0) (size := 1) [] [] rfl rfl rfl (by kernel_rfl) rfl (by kernel_rfl) okc_nil (fun _ => rfl) (by kernel_rfl) (by kernel_rfl)) ?_
  refine wo_flat 7 [.vals (iV .u32 [] ++ [])] rfl (fun ρ => rfl) (okCs_vals _) ?_
  refine wo_run [1] [2, 3] [6, 7] (l' := [(2, .s (.a (.ls 6 0 P64.length c1))), (3, .s (.a (.ls 7 0 0 0)))]) (H' := [(6, ⟨[.vals (iV .u64 P64 ++ r1)], 59⟩), (7, ⟨[.vals (iV .u32 [] ++ [])], 79⟩)]) (by kernel_rfl) ?_
  refine wo_nil ?_
  refine we_then ?_
  refine wc_seq ?_
  refine wc_reg [0, 1] (by kernel_rfl) ?_
  refine wo_op rfl rfl (ot_bslice (e := 79) (d := 8) (n := 0) (size := 1) [] [] rfl rfl rfl (by kernel_rfl) rfl (by kernel_rfl) okc_nil (fun _ => rfl) (by kernel_rfl) (by kernel_rfl)) ?_
  refine wo_flat 8 [.vals (iV .u32 [] ++ [])] rfl (fun ρ => rfl) (okCs_vals _) ?_
  refine wo_run [1] [2, 3, 4] [6, 7, 8] (l' := [(2, .s (.a (.ls 6 0 P64.length c1))), (3, .s (.a (.ls 7 0 0 0))), (4, .s (.a (.ls 8 0 0 0)))]) (H' := [(6, ⟨[.vals (iV .u64 P64 ++ r1)], 59⟩), (7, ⟨[.vals (iV .u32 [] ++ [])], 79⟩), (8, ⟨[.vals (iV .u32 [] ++ [])], 79⟩)]) (by kernel_rfl) ?_
  refine wo_nil ?_
  refine we_then ?_
  refine wc_seq ?_
  refine wc_seq ?_
  refine wc_reg [0] (by kernel_rfl) ?_
  refine wo_run [0] [2, 3, 4, 5] [6, 7, 8] (l' := [(2, .s (.a (.ls 6 0 P64.length c1))), (3, .s (.a (.ls 7 0 0 0))), (4, .s (.a (.ls 8 0 0 0))), (5, eI .i64 0)]) (H' := [(6, ⟨[.vals (iV .u64 P64 ++ r1)], 59⟩), (7, ⟨[.vals (iV .u32 [] ++ [])], 79⟩), (8, ⟨[.vals (iV .u32 [] ++ [])], 79⟩)]) (by kernel_rfl) ?_
  refine wo_nil ?_
  refine we_then ?_
  refine wc_block ?_
  refine wc_rest [2, 3, 4, 5] [6, 7, 8] (l' := [(2, .s (.a (.ls 6 0 P64.length c1))), (3, .s (.a (.ls 7 0 0 0))), (4, .s (.a (.ls 8 0 0 0))), (5, eI .i64 0)]) (H' := [(6, ⟨[.vals (iV .u64 P64 ++ r1)], 59⟩), (7, ⟨[.vals (iV .u32 [] ++ [])], 79⟩), (8, ⟨[.vals (iV .u32 [] ++ [])], 79⟩)]) (by kernel_rfl) ?_
  refine wc_loop (τ := Nat × Nat × List Value × Nat × List Value) (fun ⟨i, ch, rh, ck, rk⟩ => i ≤ 64 ∧ (nh i).length ≤ ch ∧ ch ≤ maxLen ∧ rh.length = (ch - (nh i).length) * 1 ∧ (nk i).length ≤ ck ∧ ck ≤ maxLen ∧ rk.length = (ck - (nk i).length) * 1) (fun ⟨i, ch, rh, ck, rk⟩ => 64 - i) (fun _ => _) (fun ⟨i, ch, rh, ck, rk⟩ => [(2, .s (.a (.ls 6 0 P64.length c1))), (3, .s (.a (.ls 7 0 ((nh i).length) ch))), (4, .s (.a (.ls 8 0 ((nk i).length) ck))), (5, eI .i64 ((i : Nat) : Int))]) (fun ⟨i, ch, rh, ck, rk⟩ => [(6, ⟨[.vals (iV .u64 P64 ++ r1)], 59⟩), (7, ⟨[.vals (iV .u32 (nh i) ++ rh)], 79⟩), (8, ⟨[.vals (iV .u32 (nk i) ++ rk)], 79⟩)]) (0, 0, [], 0, []) (⟨Nat.zero_le _, Nat.le_refl _, Nat.zero_le _, rfl, Nat.le_refl _, Nat.zero_le _, rfl⟩) rfl rfl rfl ?_
  rintro ⟨i, ch, rh, ck, rk⟩ hj
  obtain ⟨hi, hh1, hh2, hh3, hk1, hk2, hk3⟩ := hj
  have hnl := nh_len i
  have hkl := nk_len i
  refine wc_seq ?_
  refine wc_seq ?_
  refine wc_reg [0, 1] (by kernel_rfl) ?_
  refine wo_run [0, 1] [2, 3, 4, 5, 10] [6, 7, 8] (l' := [(2, .s (.a (.ls 6 0 P64.length c1))), (3, .s (.a (.ls 7 0 ((nh i).length) ch))), (4, .s (.a (.ls 8 0 ((nk i).length) ck))), (5, eI .i64 ((i : Nat) : Int)), (10, eB (decide (((i : Nat) : Int) < 64)))]) (H' := [(6, ⟨[.vals (iV .u64 P64 ++ r1)], 59⟩), (7, ⟨[.vals (iV .u32 (nh i) ++ rh)], 79⟩), (8, ⟨[.vals (iV .u32 (nk i) ++ rk)], 79⟩)]) (by kernel_rfl) ?_
  refine wo_nil ?_
  refine we_then ?_
  refine wc_cond rfl (fun h1 => ?_) (fun h1 => ?_)
  · replace h1 := of_decide_eq_true h1
    refine wc_skip ?_
    refine we_then ?_
    refine wc_seq ?_
    refine wc_block ?_
    refine wc_seq ?_
    refine wc_seq ?_
    refine wc_reg [0, 1] (by kernel_rfl) ?_
    refine wo_run [0, 1] [2, 3, 4, 5, 14] [6, 7, 8] (l' := [(2, .s (.a (.ls 6 0 P64.length c1))), (3, .s (.a (.ls 7 0 ((nh i).length) ch))), (4, .s (.a (.ls 8 0 ((nk i).length) ck))), (5, eI .i64 ((i : Nat) : Int)), (14, eB (decide (((i : Nat) : Int) < 8)))]) (H' := [(6, ⟨[.vals (iV .u64 P64 ++ r1)], 59⟩), (7, ⟨[.vals (iV .u32 (nh i) ++ rh)], 79⟩), (8, ⟨[.vals (iV .u32 (nk i) ++ rk)], 79⟩)]) (by kernel_rfl) ?_
    refine wo_nil ?_
    refine we_then ?_
    refine wc_cond rfl (fun h2 => ?_) (fun h2 => ?_)
    · replace h2 := of_decide_eq_true h2
      refine wc_reg [0, 1, 2, 3, 4, 5, 6, 7, 8] (by kernel_rfl) ?_
      refine wo_run [0, 1, 2] [2, 4, 5, 15, 16, 17] [6, 7, 8] (l' := [(2, .s (.a (.ls 6 0 P64.length c1))), (4, .s (.a (.ls 8 0 ((nk i).length) ck))), (5, eI .i64 ((i : Nat) : Int)), (15, .s (.a (.ls 7 0 ((nh i).length) ch))), (16, .s (.a (.ls 6 0 P64.length c1))), (17, eI .i64 ((i : Nat) : Int))]) (H' := [(6, ⟨[.vals (iV .u64 P64 ++ r1)], 59⟩), (7, ⟨[.vals (iV .u32 (nh i) ++ rh)], 79⟩), (8, ⟨[.vals (iV .u32 (nk i) ++ rk)], 79⟩)]) (by kernel_rfl) ?_
      refine wo_op rfl rfl (ot_rd rfl (rd_indexL (e := 59) 1 i ((i : Nat) : Int) rfl (by kernel_rfl) (by kernel_rfl) rfl rfl (rfl) (by show i < 64; omega))) ?_
      refine wo_op rfl rfl (ot_rd rfl (rd_cellS (b := ⟨[.vals (iV .u64 P64 ++ r1)], 59⟩) (.v (.int .u64 (P64.getD i 0))) rfl rfl rfl (by kernel_rfl) (fun ρ => rowi_at (i := i) (by show _ < 64; omega) (by omega) ρ))) ?_
      refine wo_op rfl rfl (ot_call (vs := [sI .u64 (P64.getD i 0), sI .i64 2]) rfl rfl rfl Tryd.func52 (by kernel_rfl) (by kernel_rfl) (by kernel_rfl) (eI .u32 (IntKind.wrap .u32 (pt2 (P64.getD i 0) 36))) (trivial) (fun ρ w _ => rpoint2_any (P64.getD i 0) w ρ)) ?_
      refine wo_op rfl rfl (ot_bslice (e := 79) (d := 21) (n := 1) (size := 1) [.ints .u32 1 (List.replicate 1 0)] [cI .u32 (IntKind.wrap .u32 (pt2 (P64.getD i 0) 36))] rfl rfl rfl (by kernel_rfl) rfl (by kernel_rfl) (okc_ints (List.length_replicate) (okc_nil)) (fun _ => rfl) (by kernel_rfl) (by kernel_rfl)) ?_
      refine wo_flat 21 [.vals (iV .u32 ([(IntKind.wrap .u32 (pt2 (P64.getD i 0) 36))]) ++ [])] rfl (fun ρ => by simp [flat, iV, bV, AV.conc]) (okCs_vals _) ?_
      refine wo_ox rfl rfl (ox_appendS (e := 79) (m := 1) (size := 1) (bytes := 4) 22 7 ((nh i).length) ch (iV .u32 (nh i)) (([(IntKind.wrap .u32 (pt2 (P64.getD i 0) 36))]).map (Value.int .u32)) rh [21, 6, 8] rfl rfl (by kernel_rfl) (by kernel_rfl) (by kernel_rfl) rfl rfl (by rw [iV_len, Nat.mul_one]) (hh3) (hh1) (hh2) (srcof_row (e' := 79) rfl (by kernel_rfl) rfl (rfl)) (by simp only [maxLen]; omega) (by omega) (by kernel_rfl)) (fun ⟨c2, r2⟩ hc2 _ => ?_)
      refine wo_flat 22 [.vals (iV .u32 ((nh i) ++ ([(IntKind.wrap .u32 (pt2 (P64.getD i 0) 36))])) ++ r2)] rfl (fun ρ => by simp only [bV, iV, List.map_append]) (okCs_vals _) ?_
      refine wo_run [] [2, 4, 5, 22] [6, 8, 22] (l' := [(2, .s (.a (.ls 6 0 P64.length c1))), (4, .s (.a (.ls 8 0 ((nk i).length) ck))), (5, eI .i64 ((i : Nat) : Int)), (22, .s (.a (.ls 22 0 ((nh i).length + 1) c2)))]) (H' := [(6, ⟨[.vals (iV .u64 P64 ++ r1)], 59⟩), (8, ⟨[.vals (iV .u32 (nk i) ++ rk)], 79⟩), (22, ⟨[.vals (iV .u32 ((nh i) ++ ([(IntKind.wrap .u32 (pt2 (P64.getD i 0) 36))])) ++ r2)], 79⟩)]) (by kernel_rfl) ?_
      refine wo_run [8] [2, 3, 4, 5] [6, 8, 22] (l' := [(2, .s (.a (.ls 6 0 P64.length c1))), (3, .s (.a (.ls 22 0 ((nh i).length + 1) c2))), (4, .s (.a (.ls 8 0 ((nk i).length) ck))), (5, eI .i64 ((i : Nat) : Int))]) (H' := [(6, ⟨[.vals (iV .u64 P64 ++ r1)], 59⟩), (8, ⟨[.vals (iV .u32 (nk i) ++ rk)], 79⟩), (22, ⟨[.vals (iV .u32 ((nh i) ++ ([(IntKind.wrap .u32 (pt2 (P64.getD i 0) 36))])) ++ r2)], 79⟩)]) (by kernel_rfl) ?_
      refine wo_nil ?_
      refine we_then ?_
      refine wc_reg [0, 1, 2, 3, 4, 5, 6, 7, 8] (by kernel_rfl) ?_
      refine wo_run [0, 1, 2] [2, 3, 5, 23, 24, 25] [6, 8, 22] (l' := [(2, .s (.a (.ls 6 0 P64.length c1))), (3, .s (.a (.ls 22 0 ((nh i).length + 1) c2))), (5, eI .i64 ((i : Nat) : Int)), (23, .s (.a (.ls 8 0 ((nk i).length) ck))), (24, .s (.a (.ls 6 0 P64.length c1))), (25, eI .i64 ((i : Nat) : Int))]) (H' := [(6, ⟨[.vals (iV .u64 P64 ++ r1)], 59⟩), (8, ⟨[.vals (iV .u32 (nk i) ++ rk)], 79⟩), (22, ⟨[.vals (iV .u32 ((nh i) ++ ([(IntKind.wrap .u32 (pt2 (P64.getD i 0) 36))])) ++ r2)], 79⟩)]) (by kernel_rfl) ?_
      refine wo_op rfl rfl (ot_rd rfl (rd_indexL (e := 59) 1 i ((i : Nat) : Int) rfl (by kernel_rfl) (by kernel_rfl) rfl rfl (rfl) (by show i < 64; omega))) ?_
      refine wo_op rfl rfl (ot_rd rfl (rd_cellS (b := ⟨[.vals (iV .u64 P64 ++ r1)], 59⟩) (.v (.int .u64 (P64.getD i 0))) rfl rfl rfl (by kernel_rfl) (fun ρ => rowi_at (i := i) (by show _ < 64; omega) (by omega) ρ))) ?_
      refine wo_op rfl rfl (ot_call (vs := [sI .u64 (P64.getD i 0), sI .i64 3]) rfl rfl rfl Tryd.func52 (by kernel_rfl) (by kernel_rfl) (by kernel_rfl) (eI .u32 (IntKind.wrap .u32 (pt3 (P64.getD i 0) 36))) (trivial) (fun ρ w _ => rpoint3_any (P64.getD i 0) w ρ)) ?_
      refine wo_op rfl rfl (ot_bslice (e := 79) (d := 29) (n := 1) (size := 1) [.ints .u32 1 (List.replicate 1 0)] [cI .u32 (IntKind.wrap .u32 (pt3 (P64.getD i 0) 36))] rfl rfl rfl (by kernel_rfl) rfl (by kernel_rfl) (okc_ints (List.length_replicate) (okc_nil)) (fun _ => rfl) (by kernel_rfl) (by kernel_rfl)) ?_
      refine wo_flat 29 [.vals (iV .u32 ([(IntKind.wrap .u32 (pt3 (P64.getD i 0) 36))]) ++ [])] rfl (fun ρ => by simp [flat, iV, bV, AV.conc]) (okCs_vals _) ?_
      refine wo_ox rfl rfl (ox_appendS (e := 79) (m := 1) (size := 1) (bytes := 4) 30 8 ((nk i).length) ck (iV .u32 (nk i)) (([(IntKind.wrap .u32 (pt3 (P64.getD i 0) 36))]).map (Value.int .u32)) rk [29, 6, 22] rfl rfl (by kernel_rfl) (by kernel_rfl) (by kernel_rfl) rfl rfl (by rw [iV_len, Nat.mul_one]) (hk3) (hk1) (hk2) (srcof_row (e' := 79) rfl (by kernel_rfl) rfl (rfl)) (by simp only [maxLen]; omega) (by omega) (by kernel_rfl)) (fun ⟨c3, r3⟩ hc3 _ => ?_)
      refine wo_flat 30 [.vals (iV .u32 ((nk i) ++ ([(IntKind.wrap .u32 (pt3 (P64.getD i 0) 36))])) ++ r3)] rfl (fun ρ => by simp only [bV, iV, List.map_append]) (okCs_vals _) ?_
      refine wo_run [] [2, 3, 5, 30] [6, 22, 30] (l' := [(2, .s (.a (.ls 6 0 P64.length c1))), (3, .s (.a (.ls 22 0 ((nh i).length + 1) c2))), (5, eI .i64 ((i : Nat) : Int)), (30, .s (.a (.ls 30 0 ((nk i).length + 1) c3)))]) (H' := [(6, ⟨[.vals (iV .u64 P64 ++ r1)], 59⟩), (22, ⟨[.vals (iV .u32 ((nh i) ++ ([(IntKind.wrap .u32 (pt2 (P64.getD i 0) 36))])) ++ r2)], 79⟩), (30, ⟨[.vals (iV .u32 ((nk i) ++ ([(IntKind.wrap .u32 (pt3 (P64.getD i 0) 36))])) ++ r3)], 79⟩)]) (by kernel_rfl) ?_
      refine wo_run [8] [2, 3, 4, 5] [6, 22, 30] (l' := [(2, .s (.a (.ls 6 0 P64.length c1))), (3, .s (.a (.ls 22 0 ((nh i).length + 1) c2))), (4, .s (.a (.ls 30 0 ((nk i).length + 1) c3))), (5, eI .i64 ((i : Nat) : Int))]) (H' := [(6, ⟨[.vals (iV .u64 P64 ++ r1)], 59⟩), (22, ⟨[.vals (iV .u32 ((nh i) ++ ([(IntKind.wrap .u32 (pt2 (P64.getD i 0) 36))])) ++ r2)], 79⟩), (30, ⟨[.vals (iV .u32 ((nk i) ++ ([(IntKind.wrap .u32 (pt3 (P64.getD i 0) 36))])) ++ r3)], 79⟩)]) (by kernel_rfl) ?_
      refine wo_nil ?_
      refine we_block ?_
      refine we_then ?_
      refine wc_reg [0, 1, 2] (by kernel_rfl) ?_
      refine wo_run [0] [2, 3, 4, 11] [6, 22, 30] (l' := [(2, .s (.a (.ls 6 0 P64.length c1))), (3, .s (.a (.ls 22 0 ((nh i).length + 1) c2))), (4, .s (.a (.ls 30 0 ((nk i).length + 1) c3))), (11, eI .i64 ((i : Nat) : Int))]) (H' := [(6, ⟨[.vals (iV .u64 P64 ++ r1)], 59⟩), (22, ⟨[.vals (iV .u32 ((nh i) ++ ([(IntKind.wrap .u32 (pt2 (P64.getD i 0) 36))])) ++ r2)], 79⟩), (30, ⟨[.vals (iV .u32 ((nk i) ++ ([(IntKind.wrap .u32 (pt3 (P64.getD i 0) 36))])) ++ r3)], 79⟩)]) (by kernel_rfl) ?_
      refine wo_op rfl rfl (ot_rd rfl (rd_recast (e := eI .i64 (IntKind.wrap .i64 (((i : Nat) : Int) + 1))) (eI .i64 ((i + 1 : Nat) : Int)) (by kernel_rfl) (congrArg (fun z => eI .i64 z) (w_add_i64 (a := i) (b := 1) (by omega))))) ?_
      refine wo_run [2] [2, 3, 4, 5] [6, 22, 30] (l' := [(2, .s (.a (.ls 6 0 P64.length c1))), (3, .s (.a (.ls 22 0 ((nh i).length + 1) c2))), (4, .s (.a (.ls 30 0 ((nk i).length + 1) c3))), (5, eI .i64 ((i + 1 : Nat) : Int))]) (H' := [(6, ⟨[.vals (iV .u64 P64 ++ r1)], 59⟩), (22, ⟨[.vals (iV .u32 ((nh i) ++ ([(IntKind.wrap .u32 (pt2 (P64.getD i 0) 36))])) ++ r2)], 79⟩), (30, ⟨[.vals (iV .u32 ((nk i) ++ ([(IntKind.wrap .u32 (pt3 (P64.getD i 0) 36))])) ++ r3)], 79⟩)]) (by kernel_rfl) ?_
      refine wo_nil ?_
      refine we_rest [2, 3, 4, 5] [6, 22, 30] (l' := [(2, .s (.a (.ls 6 0 P64.length c1))), (3, .s (.a (.ls 22 0 ((nh i).length + 1) c2))), (4, .s (.a (.ls 30 0 ((nk i).length + 1) c3))), (5, eI .i64 ((i + 1 : Nat) : Int))]) (H' := [(6, ⟨[.vals (iV .u64 P64 ++ r1)], 59⟩), (22, ⟨[.vals (iV .u32 ((nh i) ++ ([(IntKind.wrap .u32 (pt2 (P64.getD i 0) 36))])) ++ r2)], 79⟩), (30, ⟨[.vals (iV .u32 ((nk i) ++ ([(IntKind.wrap .u32 (pt3 (P64.getD i 0) 36))])) ++ r3)], 79⟩)]) (by kernel_rfl) (by kernel_rfl) ?_
      refine we_ren [(6, 6), (22, 7), (30, 30)] (l' := [(2, .s (.a (.ls 6 0 P64.length c1))), (3, .s (.a (.ls 7 0 ((nh i).length + 1) c2))), (4, .s (.a (.ls 30 0 ((nk i).length + 1) c3))), (5, eI .i64 ((i + 1 : Nat) : Int))]) (H' := [(6, ⟨[.vals (iV .u64 P64 ++ r1)], 59⟩), (7, ⟨[.vals (iV .u32 ((nh i) ++ ([(IntKind.wrap .u32 (pt2 (P64.getD i 0) 36))])) ++ r2)], 79⟩), (30, ⟨[.vals (iV .u32 ((nk i) ++ ([(IntKind.wrap .u32 (pt3 (P64.getD i 0) 36))])) ++ r3)], 79⟩)]) (by kernel_rfl) (by kernel_rfl) (by kernel_rfl) ?_
      refine we_ren [(6, 6), (7, 7), (30, 8)] (l' := [(2, .s (.a (.ls 6 0 P64.length c1))), (3, .s (.a (.ls 7 0 ((nh i).length + 1) c2))), (4, .s (.a (.ls 8 0 ((nk i).length + 1) c3))), (5, eI .i64 ((i + 1 : Nat) : Int))]) (H' := [(6, ⟨[.vals (iV .u64 P64 ++ r1)], 59⟩), (7, ⟨[.vals (iV .u32 ((nh i) ++ ([(IntKind.wrap .u32 (pt2 (P64.getD i 0) 36))])) ++ r2)], 79⟩), (8, ⟨[.vals (iV .u32 ((nk i) ++ ([(IntKind.wrap .u32 (pt3 (P64.getD i 0) 36))])) ++ r3)], 79⟩)]) (by kernel_rfl) (by kernel_rfl) (by kernel_rfl) ?_
      refine we_rest [2, 3, 4, 5] [6, 7, 8] (l' := [(2, .s (.a (.ls 6 0 P64.length c1))), (3, .s (.a (.ls 7 0 ((nh i).length + 1) c2))), (4, .s (.a (.ls 8 0 ((nk i).length + 1) c3))), (5, eI .i64 ((i + 1 : Nat) : Int))]) (H' := [(6, ⟨[.vals (iV .u64 P64 ++ r1)], 59⟩), (7, ⟨[.vals (iV .u32 ((nh i) ++ ([(IntKind.wrap .u32 (pt2 (P64.getD i 0) 36))])) ++ r2)], 79⟩), (8, ⟨[.vals (iV .u32 ((nk i) ++ ([(IntKind.wrap .u32 (pt3 (P64.getD i 0) 36))])) ++ r3)], 79⟩)]) (by kernel_rfl) (by kernel_rfl) ?_
      rw [show (iV .u32 ((nh i) ++ ([(IntKind.wrap .u32 (pt2 (P64.getD i 0) 36))])) ++ r2) = (iV .u32 (nh (i + 1)) ++ r2) from by rw [nh_yes (by omega)]]
      rw [show ((nh i).length + 1) = (nh (i + 1)).length from by rw [nh_yes (by omega)]; simp]
      rw [show (iV .u32 ((nk i) ++ ([(IntKind.wrap .u32 (pt3 (P64.getD i 0) 36))])) ++ r3) = (iV .u32 (nk (i + 1)) ++ r3) from rfl]
      rw [show ((nk i).length + 1) = (nk (i + 1)).length from by simp [nk]]
      exact we_round (i + 1, c2, r2, c3, r3) (⟨by omega, by rw [nh_yes (by omega)]; simpa using hc2.1, hc2.2.1, by rw [nh_yes (by omega)]; simpa using hc2.2.2, by simpa [nk] using hc3.1, hc3.2.1, by simpa [nk] using hc3.2.2⟩) (by show 64 - (i + 1) < 64 - i; omega) rfl (sub_ofE [2, 3, 4, 5] rfl) (sub_of [6, 7, 8] rfl)
    · replace h2 := of_decide_eq_false h2
      refine wc_skip ?_
      refine we_then ?_
      refine wc_reg [0, 1, 2, 3, 4, 5, 6, 7, 8] (by kernel_rfl) ?_
      refine wo_run [0, 1, 2] [2, 3, 5, 23, 24, 25] [6, 7, 8] (l' := [(2, .s (.a (.ls 6 0 P64.length c1))), (3, .s (.a (.ls 7 0 ((nh i).length) ch))), (5, eI .i64 ((i : Nat) : Int)), (23, .s (.a (.ls 8 0 ((nk i).length) ck))), (24, .s (.a (.ls 6 0 P64.length c1))), (25, eI .i64 ((i : Nat) : Int))]) (H' := [(6, ⟨[.vals (iV .u64 P64 ++ r1)], 59⟩), (7, ⟨[.vals (iV .u32 (nh i) ++ rh)], 79⟩), (8, ⟨[.vals (iV .u32 (nk i) ++ rk)], 79⟩)]) (by kernel_rfl) ?_
      refine wo_op rfl rfl (ot_rd rfl (rd_indexL (e := 59) 1 i ((i : Nat) : Int) rfl (by kernel_rfl) (by kernel_rfl) rfl rfl (rfl) (by show i < 64; omega))) ?_
      refine wo_op rfl rfl (ot_rd rfl (rd_cellS (b := ⟨[.vals (iV .u64 P64 ++ r1)], 59⟩) (.v (.int .u64 (P64.getD i 0))) rfl rfl rfl (by kernel_rfl) (fun ρ => rowi_at (i := i) (by show _ < 64; omega) (by omega) ρ))) ?_
      refine wo_op rfl rfl (ot_call (vs := [sI .u64 (P64.getD i 0), sI .i64 3]) rfl rfl rfl Tryd.func52 (by kernel_rfl) (by kernel_rfl) (by kernel_rfl) (eI .u32 (IntKind.wrap .u32 (pt3 (P64.getD i 0) 36))) (trivial) (fun ρ w _ => rpoint3_any (P64.getD i 0) w ρ)) ?_
      refine wo_op rfl rfl (ot_bslice (e := 79) (d := 29) (n := 1) (size := 1) [.ints .u32 1 (List.replicate 1 0)] [cI .u32 (IntKind.wrap .u32 (pt3 (P64.getD i 0) 36))] rfl rfl rfl (by kernel_rfl) rfl (by kernel_rfl) (okc_ints (List.length_replicate) (okc_nil)) (fun _ => rfl) (by kernel_rfl) (by kernel_rfl)) ?_
      refine wo_flat 29 [.vals (iV .u32 ([(IntKind.wrap .u32 (pt3 (P64.getD i 0) 36))]) ++ [])] rfl (fun ρ => by simp [flat, iV, bV, AV.conc]) (okCs_vals _) ?_
      refine wo_ox rfl rfl (ox_appendS (e := 79) (m := 1) (size := 1) (bytes := 4) 30 8 ((nk i).length) ck (iV .u32 (nk i)) (([(IntKind.wrap .u32 (pt3 (P64.getD i 0) 36))]).map (Value.int .u32)) rk [29, 6, 7] rfl rfl (by kernel_rfl) (by kernel_rfl) (by kernel_rfl) rfl rfl (by rw [iV_len, Nat.mul_one]) (hk3) (hk1) (hk2) (srcof_row (e' := 79) rfl (by kernel_rfl) rfl (rfl)) (by simp only [maxLen]; omega) (by omega) (by kernel_rfl)) (fun ⟨c4, r4⟩ hc4 _ => ?_)
      refine wo_flat 30 [.vals (iV .u32 ((nk i) ++ ([(IntKind.wrap .u32 (pt3 (P64.getD i 0) 36))])) ++ r4)] rfl (fun ρ => by simp only [bV, iV, List.map_append]) (okCs_vals _) ?_
      refine wo_run [] [2, 3, 5, 30] [6, 7, 30] (l' := [(2, .s (.a (.ls 6 0 P64.length c1))), (3, .s (.a (.ls 7 0 ((nh i).length) ch))), (5, eI .i64 ((i : Nat) : Int)), (30, .s (.a (.ls 30 0 ((nk i).length + 1) c4)))]) (H' := [(6, ⟨[.vals (iV .u64 P64 ++ r1)], 59⟩), (7, ⟨[.vals (iV .u32 (nh i) ++ rh)], 79⟩), (30, ⟨[.vals (iV .u32 ((nk i) ++ ([(IntKind.wrap .u32 (pt3 (P64.getD i 0) 36))])) ++ r4)], 79⟩)]) (by kernel_rfl) ?_
      refine wo_run [8] [2, 3, 4, 5] [6, 7, 30] (l' := [(2, .s (.a (.ls 6 0 P64.length c1))), (3, .s (.a (.ls 7 0 ((nh i).length) ch))), (4, .s (.a (.ls 30 0 ((nk i).length + 1) c4))), (5, eI .i64 ((i : Nat) : Int))]) (H' := [(6, ⟨[.vals (iV .u64 P64 ++ r1)], 59⟩), (7, ⟨[.vals (iV .u32 (nh i) ++ rh)], 79⟩), (30, ⟨[.vals (iV .u32 ((nk i) ++ ([(IntKind.wrap .u32 (pt3 (P64.getD i 0) 36))])) ++ r4)], 79⟩)]) (by kernel_rfl) ?_
      refine wo_nil ?_
      refine we_block ?_
      refine we_then ?_
      refine wc_reg [0, 1, 2] (by kernel_rfl) ?_
      refine wo_run [0] [2, 3, 4, 11] [6, 7, 30] (l' := [(2, .s (.a (.ls 6 0 P64.length c1))), (3, .s (.a (.ls 7 0 ((nh i).length) ch))), (4, .s (.a (.ls 30 0 ((nk i).length + 1) c4))), (11, eI .i64 ((i : Nat) : Int))]) (H' := [(6, ⟨[.vals (iV .u64 P64 ++ r1)], 59⟩), (7, ⟨[.vals (iV .u32 (nh i) ++ rh)], 79⟩), (30, ⟨[.vals (iV .u32 ((nk i) ++ ([(IntKind.wrap .u32 (pt3 (P64.getD i 0) 36))])) ++ r4)], 79⟩)]) (by kernel_rfl) ?_
      refine wo_op rfl rfl (ot_rd rfl (rd_recast (e := eI .i64 (IntKind.wrap .i64 (((i : Nat) : Int) + 1))) (eI .i64 ((i + 1 : Nat) : Int)) (by kernel_rfl) (congrArg (fun z => eI .i64 z) (w_add_i64 (a := i) (b := 1) (by omega))))) ?_
      refine wo_run [2] [2, 3, 4, 5] [6, 7, 30] (l' := [(2, .s (.a (.ls 6 0 P64.length c1))), (3, .s (.a (.ls 7 0 ((nh i).length) ch))), (4, .s (.a (.ls 30 0 ((nk i).length + 1) c4))), (5, eI .i64 ((i + 1 : Nat) : Int))]) (H' := [(6, ⟨[.vals (iV .u64 P64 ++ r1)], 59⟩), (7, ⟨[.vals (iV .u32 (nh i) ++ rh)], 79⟩), (30, ⟨[.vals (iV .u32 ((nk i) ++ ([(IntKind.wrap .u32 (pt3 (P64.getD i 0) 36))])) ++ r4)], 79⟩)]) (by kernel_rfl) ?_
      refine wo_nil ?_
      refine we_rest [2, 3, 4, 5] [6, 7, 30] (l' := [(2, .s (.a (.ls 6 0 P64.length c1))), (3, .s (.a (.ls 7 0 ((nh i).length) ch))), (4, .s (.a (.ls 30 0 ((nk i).length + 1) c4))), (5, eI .i64 ((i + 1 : Nat) : Int))]) (H' := [(6, ⟨[.vals (iV .u64 P64 ++ r1)], 59⟩), (7, ⟨[.vals (iV .u32 (nh i) ++ rh)], 79⟩), (30, ⟨[.vals (iV .u32 ((nk i) ++ ([(IntKind.wrap .u32 (pt3 (P64.getD i 0) 36))])) ++ r4)], 79⟩)]) (by kernel_rfl) (by kernel_rfl) ?_
      refine we_ren [(6, 6), (7, 7), (30, 8)] (l' := [(2, .s (.a (.ls 6 0 P64.length c1))), (3, .s (.a (.ls 7 0 ((nh i).length) ch))), (4, .s (.a (.ls 8 0 ((nk i).length + 1) c4))), (5, eI .i64 ((i + 1 : Nat) : Int))]) (H' := [(6, ⟨[.vals (iV .u64 P64 ++ r1)], 59⟩), (7, ⟨[.vals (iV .u32 (nh i) ++ rh)], 79⟩), (8, ⟨[.vals (iV .u32 ((nk i) ++ ([(IntKind.wrap .u32 (pt3 (P64.getD i 0) 36))])) ++ r4)], 79⟩)]) (by kernel_rfl) (by kernel_rfl) (by kernel_rfl) ?_
      refine we_rest [2, 3, 4, 5] [6, 7, 8] (l' := [(2, .s (.a (.ls 6 0 P64.length c1))), (3, .s (.a (.ls 7 0 ((nh i).length) ch))), (4, .s (.a (.ls 8 0 ((nk i).length + 1) c4))), (5, eI .i64 ((i + 1 : Nat) : Int))]) (H' := [(6, ⟨[.vals (iV .u64 P64 ++ r1)], 59⟩), (7, ⟨[.vals (iV .u32 (nh i) ++ rh)], 79⟩), (8, ⟨[.vals (iV .u32 ((nk i) ++ ([(IntKind.wrap .u32 (pt3 (P64.getD i 0) 36))])) ++ r4)], 79⟩)]) (by kernel_rfl) (by kernel_rfl) ?_
      rw [show (iV .u32 (nh i) ++ rh) = (iV .u32 (nh (i + 1)) ++ rh) from by rw [nh_no (by omega)]]
      rw [show (nh i).length = (nh (i + 1)).length from by rw [nh_no (by omega)]]
      rw [show (iV .u32 ((nk i) ++ ([(IntKind.wrap .u32 (pt3 (P64.getD i 0) 36))])) ++ r4) = (iV .u32 (nk (i + 1)) ++ r4) from rfl]
      rw [show ((nk i).length + 1) = (nk (i + 1)).length from by simp [nk]]
      exact we_round (i + 1, ch, rh, c4, r4) (⟨by omega, by rw [nh_no (by omega)]; exact hh1, hh2, by rw [nh_no (by omega)]; exact hh3, by simpa [nk] using hc4.1, hc4.2.1, by simpa [nk] using hc4.2.2⟩) (by show 64 - (i + 1) < 64 - i; omega) rfl (sub_ofE [2, 3, 4, 5] rfl) (sub_of [6, 7, 8] rfl)
  · replace h1 := of_decide_eq_false h1
    refine wc_exit ?_
    refine we_then_exit ?_
    refine we_then_exit ?_
    refine we_block_exit ?_
    refine we_then ?_
    refine wc_seq ?_
    refine wc_reg [0, 1, 2, 3] (by kernel_rfl) ?_
    refine wo_run [0, 1, 2, 3] [0, 1] [7, 8] (l' := [(0, .s (.a (.ls 7 0 ((nh i).length) ch))), (1, .s (.a (.ls 8 0 ((nk i).length) ck)))]) (H' := [(7, ⟨[.vals (iV .u32 (nh i) ++ rh)], 79⟩), (8, ⟨[.vals (iV .u32 (nk i) ++ rk)], 79⟩)]) (by kernel_rfl) ?_
    refine wo_nil ?_
    refine we_then ?_
    refine wc_ret ?_
    refine we_rest [0, 1] [7, 8] (l' := [(0, .s (.a (.ls 7 0 ((nh i).length) ch))), (1, .s (.a (.ls 8 0 ((nk i).length) ck)))]) (H' := [(7, ⟨[.vals (iV .u32 (nh i) ++ rh)], 79⟩), (8, ⟨[.vals (iV .u32 (nk i) ++ rk)], 79⟩)]) (by kernel_rfl) (by kernel_rfl) ?_
    refine we_ret (.inl rfl) (v := .t [.a (.ls 7 0 ((nh i).length) ch), .a (.ls 8 0 ((nk i).length) ck)]) (by kernel_rfl) ?_
    obtain rfl : i = 64 := by omega
    have l8 : (nh 64).length = 8 := by rw [nh_all]; rfl
    have l64 : (nk 64).length = 64 := nk_len 64
    rw [l8] at hh1 hh3
    rw [l64] at hk1 hk3
    rw [l8, l64, nh_all, nk_all]
    intro σ w' hf
    exact ⟨((ch, rh), (ck, rk)), σ, ⟨⟨hh1, hh2, hh3⟩, ⟨hk1, hk2, hk3⟩⟩, rfl, hf.ran rfl rfl⟩

end Go.Proofs.YtjcghjgennddaaaDoor
