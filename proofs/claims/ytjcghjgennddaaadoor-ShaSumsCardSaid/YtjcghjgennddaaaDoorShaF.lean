/- SHA-256: the walks. -/
import Derived.Test.YtjcghjgennddaaaDoorProg
import Derived.KernelRfl
import Derived.Test.YtjcghjgennddaaaDoorShaE
import Derived.Test.YtjcghjgennddaaaDoorShaR
import Derived.Test.YtjcghjgennddaaaDoorSxDeep
namespace Go.Proofs.YtjcghjgennddaaaDoor
open Go.RowKit Go.Sx
set_option linter.unusedVariables false
set_option linter.unusedSimpArgs false

theorem pst_yes {j : Nat} (h : prF (((j : Nat) : Int) + 2) (pst j) (pst j).length = true) : pst (j + 1) = pst j ++ [((j : Nat) : Int) + 2] := by
  simp only [pst]; rw [if_pos h]
theorem pst_no {j : Nat} (h : prF (((j : Nat) : Int) + 2) (pst j) (pst j).length = false) : pst (j + 1) = pst j := by
  simp only [pst]; rw [if_neg (by rw [h]; exact Bool.false_ne_true)]
theorem pst_len310 : (pst 310).length = 64 := by rw [pst_310]; rfl
theorem pst_mono (j : Nat) : ∀ d, (pst j).length ≤ (pst (j + d)).length
  | 0 => Nat.le_refl _
  | d + 1 => by
    have := pst_mono j d
    show _ ≤ (pst ((j + d) + 1)).length
    simp only [pst]
    split
    · simp; omega
    · exact this
theorem pst_309 : (pst 309).length = 63 := by decide +kernel
theorem pst_go {j : Nat} (hj : j ≤ 310) (h : (((pst j).length : Nat) : Int) < 64) : j < 310 := by
  rcases Nat.lt_or_ge j 310 with hl | hl
  · exact hl
  · obtain rfl : j = 310 := by omega
    rw [pst_len310] at h; omega
theorem pst_end {j : Nat} (hj : j ≤ 310) (h : ¬ (((pst j).length : Nat) : Int) < 64) : j = 310 := by
  rcases Nat.lt_or_ge j 310 with hl | hl
  · have := pst_mono j (309 - j)
    rw [show j + (309 - j) = 309 by omega, pst_309] at this
    omega
  · omega
theorem pst_nz {j i : Nat} (h : i < (pst j).length) : (pst j).getD i 0 ≠ 0 := by
  have : (pst j).getD i 0 = (pst j)[i] := by simp [h]
  have h2 := pst_pos j _ (List.getElem_mem h)
  omega


set_option maxRecDepth 100000 in
set_option maxHeartbeats 4000000 in
theorem rmul_any (x y : Int) (w : World) (ρ : Nat → Nat) :
    Calls Tryd.prog 58 ([sI .u64 x, sI .u64 y].map (SV.conc ρ)).toArray w fun r' w' => r' = .returned (EV.conc ρ (.t [sI .u64 (mulH x y), sI .u64 (mulL x y)])) ∧ Below w.heap.size w w' := by
  refine calls_enter (vs := [sI .u64 x, sI .u64 y]) (N := 52) [] ρ Tryd.func58 rfl rfl (Nat.le_of_ble_eq_true rfl) (okv_a (okv_a (okv_nil))) noH noH2 ?_ _ rfl
  refine wc_seq ?_
  refine wc_reg [0, 1] (by kernel_rfl) ?_
  refine wo_run [0, 1] [0, 1] [] (l' := [(0, eI .u64 x), (1, eI .u64 y)]) (H' := []) (by kernel_rfl) ?_
  refine wo_nil ?_
  refine we_then ?_
  refine wc_seq ?_
  refine wc_reg [0, 1, 2, 3, 4, 5] (by kernel_rfl) ?_
  refine wo_run [0, 1, 2, 3, 4, 5] [0, 1, 6] [] (l' := [(0, eI .u64 x), (1, eI .u64 y), (6, eI .u64 (IntKind.wrap .u64 ((bAnd .u64 x 4294967295) * (bAnd .u64 y 4294967295))))]) (H' := []) (by kernel_rfl) ?_
  refine wo_nil ?_
  refine we_then ?_
  refine wc_seq ?_
  refine wc_reg [0, 1, 2, 3, 4, 5] (by kernel_rfl) ?_
  refine wo_run [0, 1, 2, 3, 4, 5] [0, 1, 6, 7] [] (l' := [(0, eI .u64 x), (1, eI .u64 y), (6, eI .u64 (IntKind.wrap .u64 ((bAnd .u64 x 4294967295) * (bAnd .u64 y 4294967295)))), (7, eI .u64 (IntKind.wrap .u64 ((Int.fdiv x (2 ^ (32 : Nat))) * (bAnd .u64 y 4294967295))))]) (H' := []) (by kernel_rfl) ?_
  refine wo_nil ?_
  refine we_then ?_
  refine wc_seq ?_
  refine wc_reg [0, 1, 2, 3, 4, 5] (by kernel_rfl) ?_
  refine wo_run [0, 1, 2, 3, 4, 5] [0, 1, 6, 7, 8] [] (l' := [(0, eI .u64 x), (1, eI .u64 y), (6, eI .u64 (IntKind.wrap .u64 ((bAnd .u64 x 4294967295) * (bAnd .u64 y 4294967295)))), (7, eI .u64 (IntKind.wrap .u64 ((Int.fdiv x (2 ^ (32 : Nat))) * (bAnd .u64 y 4294967295)))), (8, eI .u64 (IntKind.wrap .u64 ((bAnd .u64 x 4294967295) * (Int.fdiv y (2 ^ (32 : Nat))))))]) (H' := []) (by kernel_rfl) ?_
  refine wo_nil ?_
  refine we_then ?_
  refine wc_seq ?_
  refine wc_reg [0, 1, 2, 3, 4, 5, 6, 7, 8] (by kernel_rfl) ?_
  refine wo_run [0, 1, 2, 3, 4, 5, 6, 7, 8] [0, 1, 6, 7, 8, 9] [] (l' := [(0, eI .u64 x), (1, eI .u64 y), (6, eI .u64 (IntKind.wrap .u64 ((bAnd .u64 x 4294967295) * (bAnd .u64 y 4294967295)))), (7, eI .u64 (IntKind.wrap .u64 ((Int.fdiv x (2 ^ (32 : Nat))) * (bAnd .u64 y 4294967295)))), (8, eI .u64 (IntKind.wrap .u64 ((bAnd .u64 x 4294967295) * (Int.fdiv y (2 ^ (32 : Nat)))))), (9, eI .u64 (IntKind.wrap .u64 ((IntKind.wrap .u64 ((Int.fdiv (IntKind.wrap .u64 ((bAnd .u64 x 4294967295) * (bAnd .u64 y 4294967295))) (2 ^ (32 : Nat))) + (bAnd .u64 (IntKind.wrap .u64 ((Int.fdiv x (2 ^ (32 : Nat))) * (bAnd .u64 y 4294967295))) 4294967295))) + (bAnd .u64 (IntKind.wrap .u64 ((bAnd .u64 x 4294967295) * (Int.fdiv y (2 ^ (32 : Nat))))) 4294967295))))]) (H' := []) (by kernel_rfl) ?_
  refine wo_nil ?_
  refine we_then ?_
  refine wc_seq ?_
  refine wc_reg [0, 1, 2, 3, 4, 5, 6, 7, 8, 9, 10, 11, 12, 13, 14, 15, 16, 17, 18, 19, 20] (by kernel_rfl) ?_
  refine wo_run [0, 1, 2, 3, 4, 5, 6, 7, 8, 9, 10, 11, 12, 13, 14, 15, 16, 17, 18, 19, 20] [4, 5] [] (l' := [(4, eI .u64 (IntKind.wrap .u64 ((IntKind.wrap .u64 ((IntKind.wrap .u64 ((IntKind.wrap .u64 ((Int.fdiv x (2 ^ (32 : Nat))) * (Int.fdiv y (2 ^ (32 : Nat))))) + (Int.fdiv (IntKind.wrap .u64 ((Int.fdiv x (2 ^ (32 : Nat))) * (bAnd .u64 y 4294967295))) (2 ^ (32 : Nat))))) + (Int.fdiv (IntKind.wrap .u64 ((bAnd .u64 x 4294967295) * (Int.fdiv y (2 ^ (32 : Nat))))) (2 ^ (32 : Nat))))) + (Int.fdiv (IntKind.wrap .u64 ((IntKind.wrap .u64 ((Int.fdiv (IntKind.wrap .u64 ((bAnd .u64 x 4294967295) * (bAnd .u64 y 4294967295))) (2 ^ (32 : Nat))) + (bAnd .u64 (IntKind.wrap .u64 ((Int.fdiv x (2 ^ (32 : Nat))) * (bAnd .u64 y 4294967295))) 4294967295))) + (bAnd .u64 (IntKind.wrap .u64 ((bAnd .u64 x 4294967295) * (Int.fdiv y (2 ^ (32 : Nat))))) 4294967295))) (2 ^ (32 : Nat)))))), (5, eI .u64 (IntKind.wrap .u64 ((bAnd .u64 (IntKind.wrap .u64 ((bAnd .u64 x 4294967295) * (bAnd .u64 y 4294967295))) 4294967295) + (IntKind.wrap .u64 ((IntKind.wrap .u64 ((IntKind.wrap .u64 ((Int.fdiv (IntKind.wrap .u64 ((bAnd .u64 x 4294967295) * (bAnd .u64 y 4294967295))) (2 ^ (32 : Nat))) + (bAnd .u64 (IntKind.wrap .u64 ((Int.fdiv x (2 ^ (32 : Nat))) * (bAnd .u64 y 4294967295))) 4294967295))) + (bAnd .u64 (IntKind.wrap .u64 ((bAnd .u64 x 4294967295) * (Int.fdiv y (2 ^ (32 : Nat))))) 4294967295))) * 2 ^ (32 : Nat))))))]) (H' := []) (by kernel_rfl) ?_
  refine wo_nil ?_
  refine we_then ?_
  refine wc_ret ?_
  refine we_ret (.inl rfl) (v := .t [sI .u64 (IntKind.wrap .u64 ((IntKind.wrap .u64 ((IntKind.wrap .u64 ((IntKind.wrap .u64 ((Int.fdiv x (2 ^ (32 : Nat))) * (Int.fdiv y (2 ^ (32 : Nat))))) + (Int.fdiv (IntKind.wrap .u64 ((Int.fdiv x (2 ^ (32 : Nat))) * (bAnd .u64 y 4294967295))) (2 ^ (32 : Nat))))) + (Int.fdiv (IntKind.wrap .u64 ((bAnd .u64 x 4294967295) * (Int.fdiv y (2 ^ (32 : Nat))))) (2 ^ (32 : Nat))))) + (Int.fdiv (IntKind.wrap .u64 ((IntKind.wrap .u64 ((Int.fdiv (IntKind.wrap .u64 ((bAnd .u64 x 4294967295) * (bAnd .u64 y 4294967295))) (2 ^ (32 : Nat))) + (bAnd .u64 (IntKind.wrap .u64 ((Int.fdiv x (2 ^ (32 : Nat))) * (bAnd .u64 y 4294967295))) 4294967295))) + (bAnd .u64 (IntKind.wrap .u64 ((bAnd .u64 x 4294967295) * (Int.fdiv y (2 ^ (32 : Nat))))) 4294967295))) (2 ^ (32 : Nat))))), sI .u64 (IntKind.wrap .u64 ((bAnd .u64 (IntKind.wrap .u64 ((bAnd .u64 x 4294967295) * (bAnd .u64 y 4294967295))) 4294967295) + (IntKind.wrap .u64 ((IntKind.wrap .u64 ((IntKind.wrap .u64 ((Int.fdiv (IntKind.wrap .u64 ((bAnd .u64 x 4294967295) * (bAnd .u64 y 4294967295))) (2 ^ (32 : Nat))) + (bAnd .u64 (IntKind.wrap .u64 ((Int.fdiv x (2 ^ (32 : Nat))) * (bAnd .u64 y 4294967295))) 4294967295))) + (bAnd .u64 (IntKind.wrap .u64 ((bAnd .u64 x 4294967295) * (Int.fdiv y (2 ^ (32 : Nat))))) 4294967295))) * 2 ^ (32 : Nat)))))]) (by kernel_rfl) ?_
  intro σ w' hf
  exact ⟨rfl, hf.below noS⟩

set_option maxRecDepth 100000 in
set_option maxHeartbeats 4000000 in
theorem rbelow2_any (x p : Int) (w : World) (ρ : Nat → Nat) :
    Calls Tryd.prog 56 ([sI .u64 x, sI .u64 p, sI .i64 2].map (SV.conc ρ)).toArray w fun r' w' => r' = .returned (EV.conc ρ (eB (below2 x p))) ∧ Below w.heap.size w w' := by
  refine calls_enter (vs := [sI .u64 x, sI .u64 p, sI .i64 2]) (N := 45) [] ρ Tryd.func56 rfl rfl (Nat.le_of_ble_eq_true rfl) (okv_a (okv_a (okv_a (okv_nil)))) noH noH2 ?_ _ rfl
  refine wc_seq ?_
  refine wc_reg [0] (by kernel_rfl) ?_
  refine wo_run [0] [0, 1, 2] [] (l' := [(0, eI .u64 x), (1, eI .u64 p), (2, eI .i64 2)]) (H' := []) (by kernel_rfl) ?_
  refine wo_nil ?_
  refine we_then ?_
  refine wc_seq ?_
  refine wc_reg [0, 1, 2, 3, 4, 5, 6, 7] (by kernel_rfl) ?_
  refine wo_run [0, 1] [0, 1, 2, 12, 13] [] (l' := [(0, eI .u64 x), (1, eI .u64 p), (2, eI .i64 2), (12, eI .u64 x), (13, eI .u64 x)]) (H' := []) (by kernel_rfl) ?_
  refine wo_op rfl rfl (ot_call (vs := [sI .u64 x, sI .u64 x]) rfl rfl rfl Tryd.func58 (by kernel_rfl) (by kernel_rfl) (by kernel_rfl) (.t [sI .u64 (mulH x x), sI .u64 (mulL x x)]) (okv_a (okv_a (okv_nil))) (fun ρ w _ => rmul_any x x w ρ)) ?_
  refine wo_run [3, 4, 5, 6, 7] [0, 1, 2, 7, 8] [] (l' := [(0, eI .u64 x), (1, eI .u64 p), (2, eI .i64 2), (7, eI .u64 (mulH x x)), (8, eI .u64 (mulL x x))]) (H' := []) (by kernel_rfl) ?_
  refine wo_nil ?_
  refine we_then ?_
  refine wc_seq ?_
  refine wc_seq ?_
  refine wc_reg [0, 1] (by kernel_rfl) ?_
  refine wo_run [0, 1] [0, 1, 7, 8, 18] [] (l' := [(0, eI .u64 x), (1, eI .u64 p), (7, eI .u64 (mulH x x)), (8, eI .u64 (mulL x x)), (18, eB false)]) (H' := []) (by kernel_rfl) ?_
  refine wo_nil ?_
  refine we_then ?_
  refine wc_false rfl ?_
  refine wc_skip ?_
  refine we_then ?_
  refine wc_seq ?_
  refine wc_reg [0, 1, 2, 3, 4, 5, 6, 7, 8, 9, 10, 11, 12] (by kernel_rfl) ?_
  refine wo_run [0, 1, 2, 3] [1, 7, 8, 36] [] (l' := [(1, eI .u64 p), (7, eI .u64 (mulH x x)), (8, eI .u64 (mulL x x)), (36, eB (decide ((mulH x x) < p)))]) (H' := []) (by kernel_rfl) ?_
  refine wo_bool 36 rfl (fun h1 => ?_) (fun h1 => ?_)
  · replace h1 := of_decide_eq_true h1
    refine wo_run [4, 5, 6, 7, 8, 9, 10, 11, 12] [6] [] (l' := [(6, eB true)]) (H' := []) (by kernel_rfl) ?_
    refine wo_nil ?_
    refine we_then ?_
    refine wc_ret ?_
    refine we_ret (.inl rfl) (v := eB true) (by kernel_rfl) ?_
    intro σ w' hf
    exact ⟨congrArg (fun b => Ending.returned (EV.conc ρ (eB b))) (by simp_all [below2, ltz, U]), hf.below noS⟩
  · replace h1 := of_decide_eq_false h1
    refine wo_run [4, 5, 6, 7] [8, 36, 40] [] (l' := [(8, eI .u64 (mulL x x)), (36, eB false), (40, eB ((mulH x x) == p))]) (H' := []) (by kernel_rfl) ?_
    refine wo_bool 40 rfl (fun h2 => ?_) (fun h2 => ?_)
    · replace h2 := eq_of_beq h2
      refine wo_run [8, 9, 10, 11, 12] [6] [] (l' := [(6, eB ((mulL x x) == 0))]) (H' := []) (by kernel_rfl) ?_
      refine wo_nil ?_
      refine we_then ?_
      refine wc_ret ?_
      refine we_ret (.inl rfl) (v := eB ((mulL x x) == 0)) (by kernel_rfl) ?_
      intro σ w' hf
      exact ⟨congrArg (fun b => Ending.returned (EV.conc ρ (eB b))) (by simp_all [below2, ltz, U]), hf.below noS⟩
    · replace h2 := ne_of_beq_false h2
      refine wo_run [8, 9, 10, 11, 12] [6] [] (l' := [(6, eB false)]) (H' := []) (by kernel_rfl) ?_
      refine wo_nil ?_
      refine we_then ?_
      refine wc_ret ?_
      refine we_ret (.inl rfl) (v := eB false) (by kernel_rfl) ?_
      intro σ w' hf
      exact ⟨congrArg (fun b => Ending.returned (EV.conc ρ (eB b))) (by simp_all [below2, ltz, U]), hf.below noS⟩

set_option maxRecDepth 100000 in
set_option maxHeartbeats 4000000 in
theorem rbelow3_any (x p : Int) (w : World) (ρ : Nat → Nat) :
    Calls Tryd.prog 56 ([sI .u64 x, sI .u64 p, sI .i64 3].map (SV.conc ρ)).toArray w fun r' w' => r' = .returned (EV.conc ρ (eB (below3 x p))) ∧ Below w.heap.size w w' := by
  refine calls_enter (vs := [sI .u64 x, sI .u64 p, sI .i64 3]) (N := 45) [] ρ Tryd.func56 rfl rfl (Nat.le_of_ble_eq_true rfl) (okv_a (okv_a (okv_a (okv_nil)))) noH noH2 ?_ _ rfl
  refine wc_seq ?_
  refine wc_reg [0] (by kernel_rfl) ?_
  refine wo_run [0] [0, 1, 2] [] (l' := [(0, eI .u64 x), (1, eI .u64 p), (2, eI .i64 3)]) (H' := []) (by kernel_rfl) ?_
  refine wo_nil ?_
  refine we_then ?_
  refine wc_seq ?_
  refine wc_reg [0, 1, 2, 3, 4, 5, 6, 7] (by kernel_rfl) ?_
  refine wo_run [0, 1] [0, 1, 2, 12, 13] [] (l' := [(0, eI .u64 x), (1, eI .u64 p), (2, eI .i64 3), (12, eI .u64 x), (13, eI .u64 x)]) (H' := []) (by kernel_rfl) ?_
  refine wo_op rfl rfl (ot_call (vs := [sI .u64 x, sI .u64 x]) rfl rfl rfl Tryd.func58 (by kernel_rfl) (by kernel_rfl) (by kernel_rfl) (.t [sI .u64 (mulH x x), sI .u64 (mulL x x)]) (okv_a (okv_a (okv_nil))) (fun ρ w _ => rmul_any x x w ρ)) ?_
  refine wo_run [3, 4, 5, 6, 7] [0, 1, 2, 7, 8] [] (l' := [(0, eI .u64 x), (1, eI .u64 p), (2, eI .i64 3), (7, eI .u64 (mulH x x)), (8, eI .u64 (mulL x x))]) (H' := []) (by kernel_rfl) ?_
  refine wo_nil ?_
  refine we_then ?_
  refine wc_seq ?_
  refine wc_seq ?_
  refine wc_reg [0, 1] (by kernel_rfl) ?_
  refine wo_run [0, 1] [0, 1, 7, 8, 18] [] (l' := [(0, eI .u64 x), (1, eI .u64 p), (7, eI .u64 (mulH x x)), (8, eI .u64 (mulL x x)), (18, eB true)]) (H' := []) (by kernel_rfl) ?_
  refine wo_nil ?_
  refine we_then ?_
  refine wc_true rfl ?_
  refine wc_seq ?_
  refine wc_reg [0, 1, 2, 3, 4, 5, 6, 7] (by kernel_rfl) ?_
  refine wo_run [0, 1] [0, 1, 7, 20, 21] [] (l' := [(0, eI .u64 x), (1, eI .u64 p), (7, eI .u64 (mulH x x)), (20, eI .u64 (mulL x x)), (21, eI .u64 x)]) (H' := []) (by kernel_rfl) ?_
  refine wo_op rfl rfl (ot_call (vs := [sI .u64 (mulL x x), sI .u64 x]) rfl rfl rfl Tryd.func58 (by kernel_rfl) (by kernel_rfl) (by kernel_rfl) (.t [sI .u64 (mulH (mulL x x) x), sI .u64 (mulL (mulL x x) x)]) (okv_a (okv_a (okv_nil))) (fun ρ w _ => rmul_any (mulL x x) x w ρ)) ?_
  refine wo_run [3, 4, 5, 6, 7] [0, 1, 7, 9, 10] [] (l' := [(0, eI .u64 x), (1, eI .u64 p), (7, eI .u64 (mulH x x)), (9, eI .u64 (mulH (mulL x x) x)), (10, eI .u64 (mulL (mulL x x) x))]) (H' := []) (by kernel_rfl) ?_
  refine wo_nil ?_
  refine we_then ?_
  refine wc_seq ?_
  refine wc_reg [0, 1, 2, 3, 4, 5] (by kernel_rfl) ?_
  refine wo_run [0, 1, 2, 3, 4, 5] [1, 7, 10] [] (l' := [(1, eI .u64 p), (7, eI .u64 (IntKind.wrap .u64 ((IntKind.wrap .u64 ((mulH x x) * x)) + (mulH (mulL x x) x)))), (10, eI .u64 (mulL (mulL x x) x))]) (H' := []) (by kernel_rfl) ?_
  refine wo_nil ?_
  refine we_then ?_
  refine wc_seq ?_
  refine wc_reg [0, 1] (by kernel_rfl) ?_
  refine wo_run [0, 1] [1, 7, 8] [] (l' := [(1, eI .u64 p), (7, eI .u64 (IntKind.wrap .u64 ((IntKind.wrap .u64 ((mulH x x) * x)) + (mulH (mulL x x) x)))), (8, eI .u64 (mulL (mulL x x) x))]) (H' := []) (by kernel_rfl) ?_
  refine wo_nil ?_
  refine we_then ?_
  refine wc_reg [0, 1, 2] (by kernel_rfl) ?_
  refine wo_run [0, 1, 2] [1, 7, 8] [] (l' := [(1, eI .u64 (IntKind.wrap .u64 (p * 2 ^ (32 : Nat)))), (7, eI .u64 (IntKind.wrap .u64 ((IntKind.wrap .u64 ((mulH x x) * x)) + (mulH (mulL x x) x)))), (8, eI .u64 (mulL (mulL x x) x))]) (H' := []) (by kernel_rfl) ?_
  refine wo_nil ?_
  refine we_then ?_
  refine wc_seq ?_
  refine wc_reg [0, 1, 2, 3, 4, 5, 6, 7, 8, 9, 10, 11, 12] (by kernel_rfl) ?_
  refine wo_run [0, 1, 2, 3] [1, 7, 8, 36] [] (l' := [(1, eI .u64 (IntKind.wrap .u64 (p * 2 ^ (32 : Nat)))), (7, eI .u64 (IntKind.wrap .u64 ((IntKind.wrap .u64 ((mulH x x) * x)) + (mulH (mulL x x) x)))), (8, eI .u64 (mulL (mulL x x) x)), (36, eB (decide ((IntKind.wrap .u64 ((IntKind.wrap .u64 ((mulH x x) * x)) + (mulH (mulL x x) x))) < (IntKind.wrap .u64 (p * 2 ^ (32 : Nat))))))]) (H' := []) (by kernel_rfl) ?_
  refine wo_bool 36 rfl (fun h1 => ?_) (fun h1 => ?_)
  · replace h1 := of_decide_eq_true h1
    refine wo_run [4, 5, 6, 7, 8, 9, 10, 11, 12] [6] [] (l' := [(6, eB true)]) (H' := []) (by kernel_rfl) ?_
    refine wo_nil ?_
    refine we_then ?_
    refine wc_ret ?_
    refine we_ret (.inl rfl) (v := eB true) (by kernel_rfl) ?_
    intro σ w' hf
    exact ⟨congrArg (fun b => Ending.returned (EV.conc ρ (eB b))) (by simp_all [below3, ltz, U]), hf.below noS⟩
  · replace h1 := of_decide_eq_false h1
    refine wo_run [4, 5, 6, 7] [8, 36, 40] [] (l' := [(8, eI .u64 (mulL (mulL x x) x)), (36, eB false), (40, eB ((IntKind.wrap .u64 ((IntKind.wrap .u64 ((mulH x x) * x)) + (mulH (mulL x x) x))) == (IntKind.wrap .u64 (p * 2 ^ (32 : Nat)))))]) (H' := []) (by kernel_rfl) ?_
    refine wo_bool 40 rfl (fun h2 => ?_) (fun h2 => ?_)
    · replace h2 := eq_of_beq h2
      refine wo_run [8, 9, 10, 11, 12] [6] [] (l' := [(6, eB ((mulL (mulL x x) x) == 0))]) (H' := []) (by kernel_rfl) ?_
      refine wo_nil ?_
      refine we_then ?_
      refine wc_ret ?_
      refine we_ret (.inl rfl) (v := eB ((mulL (mulL x x) x) == 0)) (by kernel_rfl) ?_
      intro σ w' hf
      exact ⟨congrArg (fun b => Ending.returned (EV.conc ρ (eB b))) (by simp_all [below3, ltz, U]), hf.below noS⟩
    · replace h2 := ne_of_beq_false h2
      refine wo_run [8, 9, 10, 11, 12] [6] [] (l' := [(6, eB false)]) (H' := []) (by kernel_rfl) ?_
      refine wo_nil ?_
      refine we_then ?_
      refine wc_ret ?_
      refine we_ret (.inl rfl) (v := eB false) (by kernel_rfl) ?_
      intro σ w' hf
      exact ⟨congrArg (fun b => Ending.returned (EV.conc ρ (eB b))) (by simp_all [below3, ltz, U]), hf.below noS⟩

set_option maxRecDepth 100000 in
set_option maxHeartbeats 4000000 in
theorem rpoint2_any (p : Int) (w : World) (ρ : Nat → Nat) :
    Calls Tryd.prog 52 ([sI .u64 p, sI .i64 2].map (SV.conc ρ)).toArray w fun r' w' => r' = .returned (EV.conc ρ (eI .u32 (IntKind.wrap .u32 (pt2 p 36)))) ∧ Below w.heap.size w w' := by
  refine calls_enter (vs := [sI .u64 p, sI .i64 2]) (N := 26) [] ρ Tryd.func52 rfl rfl (Nat.le_of_ble_eq_true rfl) (okv_a (okv_a (okv_nil))) noH noH2 ?_ _ rfl
  refine wc_seq ?_
  refine wc_reg [0] (by kernel_rfl) ?_
  refine wo_run [0] [0, 1] [] (l' := [(0, eI .u64 p), (1, eI .i64 2)]) (H' := []) (by kernel_rfl) ?_
  refine wo_nil ?_
  refine we_then ?_
  refine wc_seq ?_
  refine wc_reg [0] (by kernel_rfl) ?_
  refine wo_run [0] [0, 1, 5] [] (l' := [(0, eI .u64 p), (1, eI .i64 2), (5, eI .u64 0)]) (H' := []) (by kernel_rfl) ?_
  refine wo_nil ?_
  refine we_then ?_
  refine wc_seq ?_
  refine wc_seq ?_
  refine wc_reg [0] (by kernel_rfl) ?_
  refine wo_run [0] [0, 1, 5, 6] [] (l' := [(0, eI .u64 p), (1, eI .i64 2), (5, eI .u64 0), (6, eI .i64 35)]) (H' := []) (by kernel_rfl) ?_
  refine wo_nil ?_
  refine we_then ?_
  refine wc_block ?_
  refine wc_rest [0, 1, 5, 6] [] (l' := [(0, eI .u64 p), (1, eI .i64 2), (5, eI .u64 0), (6, eI .i64 35)]) (H' := []) (by kernel_rfl) ?_
  refine wc_loop (τ := Nat) (fun j => j ≤ 36) (fun j => 36 - j) (fun _ => _) (fun j => [(0, eI .u64 p), (1, eI .i64 2), (5, eI .u64 (pt2 p j)), (6, eI .i64 (35 - ((j : Nat) : Int)))]) (fun j => []) 0 (Nat.zero_le _) rfl rfl rfl ?_
  rintro j hj
  have hj36 := hj
  refine wc_seq ?_
  refine wc_seq ?_
  refine wc_reg [0, 1] (by kernel_rfl) ?_
  refine wo_run [0, 1] [0, 1, 5, 6, 9] [] (l' := [(0, eI .u64 p), (1, eI .i64 2), (5, eI .u64 (pt2 p j)), (6, eI .i64 (35 - ((j : Nat) : Int))), (9, eB (decide ((35 - ((j : Nat) : Int)) ≥ 0)))]) (H' := []) (by kernel_rfl) ?_
  refine wo_nil ?_
  refine we_then ?_
  refine wc_cond rfl (fun h1 => ?_) (fun h1 => ?_)
  · replace h1 := of_decide_eq_true h1
    refine wc_skip ?_
    refine we_then ?_
    refine wc_seq ?_
    refine wc_block ?_
    refine wc_seq ?_
    refine wc_reg [0, 1, 2, 3, 4, 5, 6, 7] (by kernel_rfl) ?_
    refine wo_run [0, 1] [0, 1, 5, 6, 12, 13] [] (l' := [(0, eI .u64 p), (1, eI .i64 2), (5, eI .u64 (pt2 p j)), (6, eI .i64 (35 - ((j : Nat) : Int))), (12, eI .u64 (pt2 p j)), (13, eI .i64 (35 - ((j : Nat) : Int)))]) (H' := []) (by kernel_rfl) ?_
    refine wo_op rfl rfl (ot_rd rfl (rd_shl (k := .u64) (X := 1) (Y := (35 - ((j : Nat) : Int))) (35 - j) rfl rfl rfl (by omega) (show (35 - j) < 64 by omega))) ?_
    refine wo_run [3, 4, 5] [0, 1, 5, 6, 15, 16, 17] [] (l' := [(0, eI .u64 p), (1, eI .i64 2), (5, eI .u64 (pt2 p j)), (6, eI .i64 (35 - ((j : Nat) : Int))), (15, eI .u64 (IntKind.wrap .u64 ((pt2 p j) + (IntKind.wrap .u64 (1 * 2 ^ (35 - j)))))), (16, eI .u64 p), (17, eI .i64 2)]) (H' := []) (by kernel_rfl) ?_
    refine wo_op rfl rfl (ot_call (vs := [sI .u64 (IntKind.wrap .u64 ((pt2 p j) + (IntKind.wrap .u64 (1 * 2 ^ (35 - j))))), sI .u64 p, sI .i64 2]) rfl rfl rfl Tryd.func56 (by kernel_rfl) (by kernel_rfl) (by kernel_rfl) (eB (below2 (IntKind.wrap .u64 ((pt2 p j) + (IntKind.wrap .u64 (1 * 2 ^ (35 - j))))) p)) (trivial) (fun ρ w _ => rbelow2_any (IntKind.wrap .u64 ((pt2 p j) + (IntKind.wrap .u64 (1 * 2 ^ (35 - j))))) p w ρ)) ?_
    refine wo_run [7] [0, 1, 5, 6, 7] [] (l' := [(0, eI .u64 p), (1, eI .i64 2), (5, eI .u64 (pt2 p j)), (6, eI .i64 (35 - ((j : Nat) : Int))), (7, eB (below2 (IntKind.wrap .u64 ((pt2 p j) + (IntKind.wrap .u64 (1 * 2 ^ (35 - j))))) p))]) (H' := []) (by kernel_rfl) ?_
    refine wo_nil ?_
    refine we_then ?_
    refine wc_seq ?_
    refine wc_reg [0] (by kernel_rfl) ?_
    refine wo_run [0] [0, 1, 5, 6, 19] [] (l' := [(0, eI .u64 p), (1, eI .i64 2), (5, eI .u64 (pt2 p j)), (6, eI .i64 (35 - ((j : Nat) : Int))), (19, eB (below2 (IntKind.wrap .u64 ((pt2 p j) + (IntKind.wrap .u64 (1 * 2 ^ (35 - j))))) p))]) (H' := []) (by kernel_rfl) ?_
    refine wo_nil ?_
    refine we_then ?_
    refine wc_cond rfl (fun h2 => ?_) (fun h2 => ?_)
    · refine wc_reg [0, 1, 2, 3, 4] (by kernel_rfl) ?_
      refine wo_run [0, 1] [0, 1, 6, 20, 21] [] (l' := [(0, eI .u64 p), (1, eI .i64 2), (6, eI .i64 (35 - ((j : Nat) : Int))), (20, eI .u64 (pt2 p j)), (21, eI .i64 (35 - ((j : Nat) : Int)))]) (H' := []) (by kernel_rfl) ?_
      refine wo_op rfl rfl (ot_rd rfl (rd_shl (k := .u64) (X := 1) (Y := (35 - ((j : Nat) : Int))) (35 - j) rfl rfl rfl (by omega) (show (35 - j) < 64 by omega))) ?_
      refine wo_run [3, 4] [0, 1, 5, 6] [] (l' := [(0, eI .u64 p), (1, eI .i64 2), (5, eI .u64 (IntKind.wrap .u64 ((pt2 p j) + (IntKind.wrap .u64 (1 * 2 ^ (35 - j)))))), (6, eI .i64 (35 - ((j : Nat) : Int)))]) (H' := []) (by kernel_rfl) ?_
      refine wo_nil ?_
      refine we_block ?_
      refine we_then ?_
      refine wc_reg [0, 1, 2] (by kernel_rfl) ?_
      refine wo_run [0, 1, 2] [0, 1, 5, 6] [] (l' := [(0, eI .u64 p), (1, eI .i64 2), (5, eI .u64 (IntKind.wrap .u64 ((pt2 p j) + (IntKind.wrap .u64 (1 * 2 ^ (35 - j)))))), (6, eI .i64 (IntKind.wrap .i64 ((35 - ((j : Nat) : Int)) - 1)))]) (H' := []) (by kernel_rfl) ?_
      refine wo_nil ?_
      refine we_rest [0, 1, 5, 6] [] (l' := [(0, eI .u64 p), (1, eI .i64 2), (5, eI .u64 (IntKind.wrap .u64 ((pt2 p j) + (IntKind.wrap .u64 (1 * 2 ^ (35 - j)))))), (6, eI .i64 (IntKind.wrap .i64 ((35 - ((j : Nat) : Int)) - 1)))]) (H' := []) (by kernel_rfl) (by kernel_rfl) ?_
      rw [show (IntKind.wrap .u64 ((pt2 p j) + (IntKind.wrap .u64 (1 * 2 ^ (35 - j))))) = (pt2 p (j + 1)) from by simp only [pt2]; rw [if_pos h2]]
      rw [show (IntKind.wrap .i64 ((35 - ((j : Nat) : Int)) - 1)) = (35 - (((j + 1) : Nat) : Int)) from by rw [IntKind.wrap_i64]; omega]
      exact we_round (j + 1) (by show j + 1 ≤ 36; omega) (by show 36 - (j + 1) < 36 - j; omega) rfl (sub_ofE [0, 1, 5, 6] rfl) (sub_of [] rfl)
    · refine wc_skip ?_
      refine we_block ?_
      refine we_then ?_
      refine wc_reg [0, 1, 2] (by kernel_rfl) ?_
      refine wo_run [0, 1, 2] [0, 1, 5, 6] [] (l' := [(0, eI .u64 p), (1, eI .i64 2), (5, eI .u64 (pt2 p j)), (6, eI .i64 (IntKind.wrap .i64 ((35 - ((j : Nat) : Int)) - 1)))]) (H' := []) (by kernel_rfl) ?_
      refine wo_nil ?_
      refine we_rest [0, 1, 5, 6] [] (l' := [(0, eI .u64 p), (1, eI .i64 2), (5, eI .u64 (pt2 p j)), (6, eI .i64 (IntKind.wrap .i64 ((35 - ((j : Nat) : Int)) - 1)))]) (H' := []) (by kernel_rfl) (by kernel_rfl) ?_
      rw [show (pt2 p j) = (pt2 p (j + 1)) from by simp only [pt2]; rw [if_neg (by rw [h2]; exact Bool.false_ne_true)]]
      rw [show (IntKind.wrap .i64 ((35 - ((j : Nat) : Int)) - 1)) = (35 - (((j + 1) : Nat) : Int)) from by rw [IntKind.wrap_i64]; omega]
      exact we_round (j + 1) (by show j + 1 ≤ 36; omega) (by show 36 - (j + 1) < 36 - j; omega) rfl (sub_ofE [0, 1, 5, 6] rfl) (sub_of [] rfl)
  · replace h1 := of_decide_eq_false h1
    refine wc_exit ?_
    refine we_then_exit ?_
    refine we_then_exit ?_
    refine we_block_exit ?_
    refine we_then ?_
    refine wc_seq ?_
    refine wc_reg [0, 1, 2] (by kernel_rfl) ?_
    refine wo_run [0, 1, 2] [4] [] (l' := [(4, eI .u32 (IntKind.wrap .u32 (pt2 p j)))]) (H' := []) (by kernel_rfl) ?_
    refine wo_nil ?_
    refine we_then ?_
    refine wc_ret ?_
    refine we_ret (.inl rfl) (v := eI .u32 (IntKind.wrap .u32 (pt2 p j))) (by kernel_rfl) ?_
    intro σ w' hf
    exact ⟨by cases (show j = 36 by omega); rfl, hf.below noS⟩

set_option maxRecDepth 100000 in
set_option maxHeartbeats 4000000 in
theorem rpoint3_any (p : Int) (w : World) (ρ : Nat → Nat) :
    Calls Tryd.prog 52 ([sI .u64 p, sI .i64 3].map (SV.conc ρ)).toArray w fun r' w' => r' = .returned (EV.conc ρ (eI .u32 (IntKind.wrap .u32 (pt3 p 36)))) ∧ Below w.heap.size w w' := by
  refine calls_enter (vs := [sI .u64 p, sI .i64 3]) (N := 26) [] ρ Tryd.func52 rfl rfl (Nat.le_of_ble_eq_true rfl) (okv_a (okv_a (okv_nil))) noH noH2 ?_ _ rfl
  refine wc_seq ?_
  refine wc_reg [0] (by kernel_rfl) ?_
  refine wo_run [0] [0, 1] [] (l' := [(0, eI .u64 p), (1, eI .i64 3)]) (H' := []) (by kernel_rfl) ?_
  refine wo_nil ?_
  refine we_then ?_
  refine wc_seq ?_
  refine wc_reg [0] (by kernel_rfl) ?_
  refine wo_run [0] [0, 1, 5] [] (l' := [(0, eI .u64 p), (1, eI .i64 3), (5, eI .u64 0)]) (H' := []) (by kernel_rfl) ?_
  refine wo_nil ?_
  refine we_then ?_
  refine wc_seq ?_
  refine wc_seq ?_
  refine wc_reg [0] (by kernel_rfl) ?_
  refine wo_run [0] [0, 1, 5, 6] [] (l' := [(0, eI .u64 p), (1, eI .i64 3), (5, eI .u64 0), (6, eI .i64 35)]) (H' := []) (by kernel_rfl) ?_
  refine wo_nil ?_
  refine we_then ?_
  refine wc_block ?_
  refine wc_rest [0, 1, 5, 6] [] (l' := [(0, eI .u64 p), (1, eI .i64 3), (5, eI .u64 0), (6, eI .i64 35)]) (H' := []) (by kernel_rfl) ?_
  refine wc_loop (τ := Nat) (fun j => j ≤ 36) (fun j => 36 - j) (fun _ => _) (fun j => [(0, eI .u64 p), (1, eI .i64 3), (5, eI .u64 (pt3 p j)), (6, eI .i64 (35 - ((j : Nat) : Int)))]) (fun j => []) 0 (Nat.zero_le _) rfl rfl rfl ?_
  rintro j hj
  have hj36 := hj
  refine wc_seq ?_
  refine wc_seq ?_
  refine wc_reg [0, 1] (by kernel_rfl) ?_
  refine wo_run [0, 1] [0, 1, 5, 6, 9] [] (l' := [(0, eI .u64 p), (1, eI .i64 3), (5, eI .u64 (pt3 p j)), (6, eI .i64 (35 - ((j : Nat) : Int))), (9, eB (decide ((35 - ((j : Nat) : Int)) ≥ 0)))]) (H' := []) (by kernel_rfl) ?_
  refine wo_nil ?_
  refine we_then ?_
  refine wc_cond rfl (fun h1 => ?_) (fun h1 => ?_)
  · replace h1 := of_decide_eq_true h1
    refine wc_skip ?_
    refine we_then ?_
    refine wc_seq ?_
    refine wc_block ?_
    refine wc_seq ?_
    refine wc_reg [0, 1, 2, 3, 4, 5, 6, 7] (by kernel_rfl) ?_
    refine wo_run [0, 1] [0, 1, 5, 6, 12, 13] [] (l' := [(0, eI .u64 p), (1, eI .i64 3), (5, eI .u64 (pt3 p j)), (6, eI .i64 (35 - ((j : Nat) : Int))), (12, eI .u64 (pt3 p j)), (13, eI .i64 (35 - ((j : Nat) : Int)))]) (H' := []) (by kernel_rfl) ?_
    refine wo_op rfl rfl (ot_rd rfl (rd_shl (k := .u64) (X := 1) (Y := (35 - ((j : Nat) : Int))) (35 - j) rfl rfl rfl (by omega) (show (35 - j) < 64 by omega))) ?_
    refine wo_run [3, 4, 5] [0, 1, 5, 6, 15, 16, 17] [] (l' := [(0, eI .u64 p), (1, eI .i64 3), (5, eI .u64 (pt3 p j)), (6, eI .i64 (35 - ((j : Nat) : Int))), (15, eI .u64 (IntKind.wrap .u64 ((pt3 p j) + (IntKind.wrap .u64 (1 * 2 ^ (35 - j)))))), (16, eI .u64 p), (17, eI .i64 3)]) (H' := []) (by kernel_rfl) ?_
    refine wo_op rfl rfl (ot_call (vs := [sI .u64 (IntKind.wrap .u64 ((pt3 p j) + (IntKind.wrap .u64 (1 * 2 ^ (35 - j))))), sI .u64 p, sI .i64 3]) rfl rfl rfl Tryd.func56 (by kernel_rfl) (by kernel_rfl) (by kernel_rfl) (eB (below3 (IntKind.wrap .u64 ((pt3 p j) + (IntKind.wrap .u64 (1 * 2 ^ (35 - j))))) p)) (trivial) (fun ρ w _ => rbelow3_any (IntKind.wrap .u64 ((pt3 p j) + (IntKind.wrap .u64 (1 * 2 ^ (35 - j))))) p w ρ)) ?_
    refine wo_run [7] [0, 1, 5, 6, 7] [] (l' := [(0, eI .u64 p), (1, eI .i64 3), (5, eI .u64 (pt3 p j)), (6, eI .i64 (35 - ((j : Nat) : Int))), (7, eB (below3 (IntKind.wrap .u64 ((pt3 p j) + (IntKind.wrap .u64 (1 * 2 ^ (35 - j))))) p))]) (H' := []) (by kernel_rfl) ?_
    refine wo_nil ?_
    refine we_then ?_
    refine wc_seq ?_
    refine wc_reg [0] (by kernel_rfl) ?_
    refine wo_run [0] [0, 1, 5, 6, 19] [] (l' := [(0, eI .u64 p), (1, eI .i64 3), (5, eI .u64 (pt3 p j)), (6, eI .i64 (35 - ((j : Nat) : Int))), (19, eB (below3 (IntKind.wrap .u64 ((pt3 p j) + (IntKind.wrap .u64 (1 * 2 ^ (35 - j))))) p))]) (H' := []) (by kernel_rfl) ?_
    refine wo_nil ?_
    refine we_then ?_
    refine wc_cond rfl (fun h2 => ?_) (fun h2 => ?_)
    · refine wc_reg [0, 1, 2, 3, 4] (by kernel_rfl) ?_
      refine wo_run [0, 1] [0, 1, 6, 20, 21] [] (l' := [(0, eI .u64 p), (1, eI .i64 3), (6, eI .i64 (35 - ((j : Nat) : Int))), (20, eI .u64 (pt3 p j)), (21, eI .i64 (35 - ((j : Nat) : Int)))]) (H' := []) (by kernel_rfl) ?_
      refine wo_op rfl rfl (ot_rd rfl (rd_shl (k := .u64) (X := 1) (Y := (35 - ((j : Nat) : Int))) (35 - j) rfl rfl rfl (by omega) (show (35 - j) < 64 by omega))) ?_
      refine wo_run [3, 4] [0, 1, 5, 6] [] (l' := [(0, eI .u64 p), (1, eI .i64 3), (5, eI .u64 (IntKind.wrap .u64 ((pt3 p j) + (IntKind.wrap .u64 (1 * 2 ^ (35 - j)))))), (6, eI .i64 (35 - ((j : Nat) : Int)))]) (H' := []) (by kernel_rfl) ?_
      refine wo_nil ?_
      refine we_block ?_
      refine we_then ?_
      refine wc_reg [0, 1, 2] (by kernel_rfl) ?_
      refine wo_run [0, 1, 2] [0, 1, 5, 6] [] (l' := [(0, eI .u64 p), (1, eI .i64 3), (5, eI .u64 (IntKind.wrap .u64 ((pt3 p j) + (IntKind.wrap .u64 (1 * 2 ^ (35 - j)))))), (6, eI .i64 (IntKind.wrap .i64 ((35 - ((j : Nat) : Int)) - 1)))]) (H' := []) (by kernel_rfl) ?_
      refine wo_nil ?_
      refine we_rest [0, 1, 5, 6] [] (l' := [(0, eI .u64 p), (1, eI .i64 3), (5, eI .u64 (IntKind.wrap .u64 ((pt3 p j) + (IntKind.wrap .u64 (1 * 2 ^ (35 - j)))))), (6, eI .i64 (IntKind.wrap .i64 ((35 - ((j : Nat) : Int)) - 1)))]) (H' := []) (by kernel_rfl) (by kernel_rfl) ?_
      rw [show (IntKind.wrap .u64 ((pt3 p j) + (IntKind.wrap .u64 (1 * 2 ^ (35 - j))))) = (pt3 p (j + 1)) from by simp only [pt3]; rw [if_pos h2]]
      rw [show (IntKind.wrap .i64 ((35 - ((j : Nat) : Int)) - 1)) = (35 - (((j + 1) : Nat) : Int)) from by rw [IntKind.wrap_i64]; omega]
      exact we_round (j + 1) (by show j + 1 ≤ 36; omega) (by show 36 - (j + 1) < 36 - j; omega) rfl (sub_ofE [0, 1, 5, 6] rfl) (sub_of [] rfl)
    · refine wc_skip ?_
      refine we_block ?_
      refine we_then ?_
      refine wc_reg [0, 1, 2] (by kernel_rfl) ?_
      refine wo_run [0, 1, 2] [0, 1, 5, 6] [] (l' := [(0, eI .u64 p), (1, eI .i64 3), (5, eI .u64 (pt3 p j)), (6, eI .i64 (IntKind.wrap .i64 ((35 - ((j : Nat) : Int)) - 1)))]) (H' := []) (by kernel_rfl) ?_
      refine wo_nil ?_
      refine we_rest [0, 1, 5, 6] [] (l' := [(0, eI .u64 p), (1, eI .i64 3), (5, eI .u64 (pt3 p j)), (6, eI .i64 (IntKind.wrap .i64 ((35 - ((j : Nat) : Int)) - 1)))]) (H' := []) (by kernel_rfl) (by kernel_rfl) ?_
      rw [show (pt3 p j) = (pt3 p (j + 1)) from by simp only [pt3]; rw [if_neg (by rw [h2]; exact Bool.false_ne_true)]]
      rw [show (IntKind.wrap .i64 ((35 - ((j : Nat) : Int)) - 1)) = (35 - (((j + 1) : Nat) : Int)) from by rw [IntKind.wrap_i64]; omega]
      exact we_round (j + 1) (by show j + 1 ≤ 36; omega) (by show 36 - (j + 1) < 36 - j; omega) rfl (sub_ofE [0, 1, 5, 6] rfl) (sub_of [] rfl)
  · replace h1 := of_decide_eq_false h1
    refine wc_exit ?_
    refine we_then_exit ?_
    refine we_then_exit ?_
    refine we_block_exit ?_
    refine we_then ?_
    refine wc_seq ?_
    refine wc_reg [0, 1, 2] (by kernel_rfl) ?_
    refine wo_run [0, 1, 2] [4] [] (l' := [(4, eI .u32 (IntKind.wrap .u32 (pt3 p j)))]) (H' := []) (by kernel_rfl) ?_
    refine wo_nil ?_
    refine we_then ?_
    refine wc_ret ?_
    refine we_ret (.inl rfl) (v := eI .u32 (IntKind.wrap .u32 (pt3 p j))) (by kernel_rfl) ?_
    intro σ w' hf
    exact ⟨by cases (show j = 36 by omega); rfl, hf.below noS⟩

set_option maxRecDepth 100000 in
set_option maxHeartbeats 4000000 in
theorem rrot2_any (x : Int) (w : World) (ρ : Nat → Nat) :
    Calls Tryd.prog 42 ([sI .u32 x, sI .i64 2].map (SV.conc ρ)).toArray w fun r' w' => r' = .returned (EV.conc ρ (eI .u32 (rotr 2 x))) ∧ Below w.heap.size w w' := by
  refine calls_enter (vs := [sI .u32 x, sI .i64 2]) (N := 13) [] ρ Tryd.func42 rfl rfl (Nat.le_of_ble_eq_true rfl) (okv_a (okv_a (okv_nil))) noH noH2 ?_ _ rfl
  refine wc_seq ?_
  refine wc_reg [0] (by kernel_rfl) ?_
  refine wo_run [0] [0, 1] [] (l' := [(0, eI .u32 x), (1, eI .i64 2)]) (H' := []) (by kernel_rfl) ?_
  refine wo_nil ?_
  refine we_then ?_
  refine wc_seq ?_
  refine wc_draw (n := 9) [] (by kernel_rfl) rfl (sub_of [] (by kernel_rfl)) (fun ρ0 => ?_)
  refine wa_takes (fuel := 0) [0, 1, 2, 3, 4, 5, 6, 7, 8] [4] (listed' := (bs [9])) (l' := [(4, eI .u32 (bOr .u32 (Int.fdiv x (2 ^ (2 : Nat))) (IntKind.wrap .u32 (x * 2 ^ (30 : Nat)))))]) (pk_then pk_body) rfl (by kernel_rfl) ?_
  refine wa_done (by kernel_rfl) ?_
  refine we_rest [4] [] (l' := [(4, eI .u32 (bOr .u32 (Int.fdiv x (2 ^ (2 : Nat))) (IntKind.wrap .u32 (x * 2 ^ (30 : Nat)))))]) (H' := []) (by kernel_rfl) (by kernel_rfl) ?_
  refine we_then ?_
  refine wc_ret ?_
  refine we_ret (.inl rfl) (v := eI .u32 (bOr .u32 (Int.fdiv x (2 ^ (2 : Nat))) (IntKind.wrap .u32 (x * 2 ^ (30 : Nat))))) (by kernel_rfl) ?_
  intro σ w' hf
  exact ⟨congrArg (fun z => Ending.returned (EV.conc ρ (eI .u32 z))) (bOr_comm _ _ _), hf.below noS⟩

set_option maxRecDepth 100000 in
set_option maxHeartbeats 4000000 in
theorem rrot6_any (x : Int) (w : World) (ρ : Nat → Nat) :
    Calls Tryd.prog 42 ([sI .u32 x, sI .i64 6].map (SV.conc ρ)).toArray w fun r' w' => r' = .returned (EV.conc ρ (eI .u32 (rotr 6 x))) ∧ Below w.heap.size w w' := by
  refine calls_enter (vs := [sI .u32 x, sI .i64 6]) (N := 13) [] ρ Tryd.func42 rfl rfl (Nat.le_of_ble_eq_true rfl) (okv_a (okv_a (okv_nil))) noH noH2 ?_ _ rfl
  refine wc_seq ?_
  refine wc_reg [0] (by kernel_rfl) ?_
  refine wo_run [0] [0, 1] [] (l' := [(0, eI .u32 x), (1, eI .i64 6)]) (H' := []) (by kernel_rfl) ?_
  refine wo_nil ?_
  refine we_then ?_
  refine wc_seq ?_
  refine wc_draw (n := 9) [] (by kernel_rfl) rfl (sub_of [] (by kernel_rfl)) (fun ρ0 => ?_)
  refine wa_takes (fuel := 0) [0, 1, 2, 3, 4, 5, 6, 7, 8] [4] (listed' := (bs [9])) (l' := [(4, eI .u32 (bOr .u32 (Int.fdiv x (2 ^ (6 : Nat))) (IntKind.wrap .u32 (x * 2 ^ (26 : Nat)))))]) (pk_then pk_body) rfl (by kernel_rfl) ?_
  refine wa_done (by kernel_rfl) ?_
  refine we_rest [4] [] (l' := [(4, eI .u32 (bOr .u32 (Int.fdiv x (2 ^ (6 : Nat))) (IntKind.wrap .u32 (x * 2 ^ (26 : Nat)))))]) (H' := []) (by kernel_rfl) (by kernel_rfl) ?_
  refine we_then ?_
  refine wc_ret ?_
  refine we_ret (.inl rfl) (v := eI .u32 (bOr .u32 (Int.fdiv x (2 ^ (6 : Nat))) (IntKind.wrap .u32 (x * 2 ^ (26 : Nat))))) (by kernel_rfl) ?_
  intro σ w' hf
  exact ⟨congrArg (fun z => Ending.returned (EV.conc ρ (eI .u32 z))) (bOr_comm _ _ _), hf.below noS⟩

set_option maxRecDepth 100000 in
set_option maxHeartbeats 4000000 in
theorem rrot7_any (x : Int) (w : World) (ρ : Nat → Nat) :
    Calls Tryd.prog 42 ([sI .u32 x, sI .i64 7].map (SV.conc ρ)).toArray w fun r' w' => r' = .returned (EV.conc ρ (eI .u32 (rotr 7 x))) ∧ Below w.heap.size w w' := by
  refine calls_enter (vs := [sI .u32 x, sI .i64 7]) (N := 13) [] ρ Tryd.func42 rfl rfl (Nat.le_of_ble_eq_true rfl) (okv_a (okv_a (okv_nil))) noH noH2 ?_ _ rfl
  refine wc_seq ?_
  refine wc_reg [0] (by kernel_rfl) ?_
  refine wo_run [0] [0, 1] [] (l' := [(0, eI .u32 x), (1, eI .i64 7)]) (H' := []) (by kernel_rfl) ?_
  refine wo_nil ?_
  refine we_then ?_
  refine wc_seq ?_
  refine wc_draw (n := 9) [] (by kernel_rfl) rfl (sub_of [] (by kernel_rfl)) (fun ρ0 => ?_)
  refine wa_takes (fuel := 0) [0, 1, 2, 3, 4, 5, 6, 7, 8] [4] (listed' := (bs [9])) (l' := [(4, eI .u32 (bOr .u32 (Int.fdiv x (2 ^ (7 : Nat))) (IntKind.wrap .u32 (x * 2 ^ (25 : Nat)))))]) (pk_then pk_body) rfl (by kernel_rfl) ?_
  refine wa_done (by kernel_rfl) ?_
  refine we_rest [4] [] (l' := [(4, eI .u32 (bOr .u32 (Int.fdiv x (2 ^ (7 : Nat))) (IntKind.wrap .u32 (x * 2 ^ (25 : Nat)))))]) (H' := []) (by kernel_rfl) (by kernel_rfl) ?_
  refine we_then ?_
  refine wc_ret ?_
  refine we_ret (.inl rfl) (v := eI .u32 (bOr .u32 (Int.fdiv x (2 ^ (7 : Nat))) (IntKind.wrap .u32 (x * 2 ^ (25 : Nat))))) (by kernel_rfl) ?_
  intro σ w' hf
  exact ⟨congrArg (fun z => Ending.returned (EV.conc ρ (eI .u32 z))) (bOr_comm _ _ _), hf.below noS⟩

set_option maxRecDepth 100000 in
set_option maxHeartbeats 4000000 in
theorem rrot11_any (x : Int) (w : World) (ρ : Nat → Nat) :
    Calls Tryd.prog 42 ([sI .u32 x, sI .i64 11].map (SV.conc ρ)).toArray w fun r' w' => r' = .returned (EV.conc ρ (eI .u32 (rotr 11 x))) ∧ Below w.heap.size w w' := by
  refine calls_enter (vs := [sI .u32 x, sI .i64 11]) (N := 13) [] ρ Tryd.func42 rfl rfl (Nat.le_of_ble_eq_true rfl) (okv_a (okv_a (okv_nil))) noH noH2 ?_ _ rfl
  refine wc_seq ?_
  refine wc_reg [0] (by kernel_rfl) ?_
  refine wo_run [0] [0, 1] [] (l' := [(0, eI .u32 x), (1, eI .i64 11)]) (H' := []) (by kernel_rfl) ?_
  refine wo_nil ?_
  refine we_then ?_
  refine wc_seq ?_
  refine wc_draw (n := 9) [] (by kernel_rfl) rfl (sub_of [] (by kernel_rfl)) (fun ρ0 => ?_)
  refine wa_takes (fuel := 0) [0, 1, 2, 3, 4, 5, 6, 7, 8] [4] (listed' := (bs [9])) (l' := [(4, eI .u32 (bOr .u32 (Int.fdiv x (2 ^ (11 : Nat))) (IntKind.wrap .u32 (x * 2 ^ (21 : Nat)))))]) (pk_then pk_body) rfl (by kernel_rfl) ?_
  refine wa_done (by kernel_rfl) ?_
  refine we_rest [4] [] (l' := [(4, eI .u32 (bOr .u32 (Int.fdiv x (2 ^ (11 : Nat))) (IntKind.wrap .u32 (x * 2 ^ (21 : Nat)))))]) (H' := []) (by kernel_rfl) (by kernel_rfl) ?_
  refine we_then ?_
  refine wc_ret ?_
  refine we_ret (.inl rfl) (v := eI .u32 (bOr .u32 (Int.fdiv x (2 ^ (11 : Nat))) (IntKind.wrap .u32 (x * 2 ^ (21 : Nat))))) (by kernel_rfl) ?_
  intro σ w' hf
  exact ⟨congrArg (fun z => Ending.returned (EV.conc ρ (eI .u32 z))) (bOr_comm _ _ _), hf.below noS⟩

set_option maxRecDepth 100000 in
set_option maxHeartbeats 4000000 in
theorem rrot13_any (x : Int) (w : World) (ρ : Nat → Nat) :
    Calls Tryd.prog 42 ([sI .u32 x, sI .i64 13].map (SV.conc ρ)).toArray w fun r' w' => r' = .returned (EV.conc ρ (eI .u32 (rotr 13 x))) ∧ Below w.heap.size w w' := by
  refine calls_enter (vs := [sI .u32 x, sI .i64 13]) (N := 13) [] ρ Tryd.func42 rfl rfl (Nat.le_of_ble_eq_true rfl) (okv_a (okv_a (okv_nil))) noH noH2 ?_ _ rfl
  refine wc_seq ?_
  refine wc_reg [0] (by kernel_rfl) ?_
  refine wo_run [0] [0, 1] [] (l' := [(0, eI .u32 x), (1, eI .i64 13)]) (H' := []) (by kernel_rfl) ?_
  refine wo_nil ?_
  refine we_then ?_
  refine wc_seq ?_
  refine wc_draw (n := 9) [] (by kernel_rfl) rfl (sub_of [] (by kernel_rfl)) (fun ρ0 => ?_)
  refine wa_takes (fuel := 0) [0, 1, 2, 3, 4, 5, 6, 7, 8] [4] (listed' := (bs [9])) (l' := [(4, eI .u32 (bOr .u32 (Int.fdiv x (2 ^ (13 : Nat))) (IntKind.wrap .u32 (x * 2 ^ (19 : Nat)))))]) (pk_then pk_body) rfl (by kernel_rfl) ?_
  refine wa_done (by kernel_rfl) ?_
  refine we_rest [4] [] (l' := [(4, eI .u32 (bOr .u32 (Int.fdiv x (2 ^ (13 : Nat))) (IntKind.wrap .u32 (x * 2 ^ (19 : Nat)))))]) (H' := []) (by kernel_rfl) (by kernel_rfl) ?_
  refine we_then ?_
  refine wc_ret ?_
  refine we_ret (.inl rfl) (v := eI .u32 (bOr .u32 (Int.fdiv x (2 ^ (13 : Nat))) (IntKind.wrap .u32 (x * 2 ^ (19 : Nat))))) (by kernel_rfl) ?_
  intro σ w' hf
  exact ⟨congrArg (fun z => Ending.returned (EV.conc ρ (eI .u32 z))) (bOr_comm _ _ _), hf.below noS⟩

set_option maxRecDepth 100000 in
set_option maxHeartbeats 4000000 in
theorem rrot17_any (x : Int) (w : World) (ρ : Nat → Nat) :
    Calls Tryd.prog 42 ([sI .u32 x, sI .i64 17].map (SV.conc ρ)).toArray w fun r' w' => r' = .returned (EV.conc ρ (eI .u32 (rotr 17 x))) ∧ Below w.heap.size w w' := by
  refine calls_enter (vs := [sI .u32 x, sI .i64 17]) (N := 13) [] ρ Tryd.func42 rfl rfl (Nat.le_of_ble_eq_true rfl) (okv_a (okv_a (okv_nil))) noH noH2 ?_ _ rfl
  refine wc_seq ?_
  refine wc_reg [0] (by kernel_rfl) ?_
  refine wo_run [0] [0, 1] [] (l' := [(0, eI .u32 x), (1, eI .i64 17)]) (H' := []) (by kernel_rfl) ?_
  refine wo_nil ?_
  refine we_then ?_
  refine wc_seq ?_
  refine wc_draw (n := 9) [] (by kernel_rfl) rfl (sub_of [] (by kernel_rfl)) (fun ρ0 => ?_)
  refine wa_takes (fuel := 0) [0, 1, 2, 3, 4, 5, 6, 7, 8] [4] (listed' := (bs [9])) (l' := [(4, eI .u32 (bOr .u32 (Int.fdiv x (2 ^ (17 : Nat))) (IntKind.wrap .u32 (x * 2 ^ (15 : Nat)))))]) (pk_then pk_body) rfl (by kernel_rfl) ?_
  refine wa_done (by kernel_rfl) ?_
  refine we_rest [4] [] (l' := [(4, eI .u32 (bOr .u32 (Int.fdiv x (2 ^ (17 : Nat))) (IntKind.wrap .u32 (x * 2 ^ (15 : Nat)))))]) (H' := []) (by kernel_rfl) (by kernel_rfl) ?_
  refine we_then ?_
  refine wc_ret ?_
  refine we_ret (.inl rfl) (v := eI .u32 (bOr .u32 (Int.fdiv x (2 ^ (17 : Nat))) (IntKind.wrap .u32 (x * 2 ^ (15 : Nat))))) (by kernel_rfl) ?_
  intro σ w' hf
  exact ⟨congrArg (fun z => Ending.returned (EV.conc ρ (eI .u32 z))) (bOr_comm _ _ _), hf.below noS⟩

set_option maxRecDepth 100000 in
set_option maxHeartbeats 4000000 in
theorem rrot18_any (x : Int) (w : World) (ρ : Nat → Nat) :
    Calls Tryd.prog 42 ([sI .u32 x, sI .i64 18].map (SV.conc ρ)).toArray w fun r' w' => r' = .returned (EV.conc ρ (eI .u32 (rotr 18 x))) ∧ Below w.heap.size w w' := by
  refine calls_enter (vs := [sI .u32 x, sI .i64 18]) (N := 13) [] ρ Tryd.func42 rfl rfl (Nat.le_of_ble_eq_true rfl) (okv_a (okv_a (okv_nil))) noH noH2 ?_ _ rfl
  refine wc_seq ?_
  refine wc_reg [0] (by kernel_rfl) ?_
  refine wo_run [0] [0, 1] [] (l' := [(0, eI .u32 x), (1, eI .i64 18)]) (H' := []) (by kernel_rfl) ?_
  refine wo_nil ?_
  refine we_then ?_
  refine wc_seq ?_
  refine wc_draw (n := 9) [] (by kernel_rfl) rfl (sub_of [] (by kernel_rfl)) (fun ρ0 => ?_)
  refine wa_takes (fuel := 0) [0, 1, 2, 3, 4, 5, 6, 7, 8] [4] (listed' := (bs [9])) (l' := [(4, eI .u32 (bOr .u32 (Int.fdiv x (2 ^ (18 : Nat))) (IntKind.wrap .u32 (x * 2 ^ (14 : Nat)))))]) (pk_then pk_body) rfl (by kernel_rfl) ?_
  refine wa_done (by kernel_rfl) ?_
  refine we_rest [4] [] (l' := [(4, eI .u32 (bOr .u32 (Int.fdiv x (2 ^ (18 : Nat))) (IntKind.wrap .u32 (x * 2 ^ (14 : Nat)))))]) (H' := []) (by kernel_rfl) (by kernel_rfl) ?_
  refine we_then ?_
  refine wc_ret ?_
  refine we_ret (.inl rfl) (v := eI .u32 (bOr .u32 (Int.fdiv x (2 ^ (18 : Nat))) (IntKind.wrap .u32 (x * 2 ^ (14 : Nat))))) (by kernel_rfl) ?_
  intro σ w' hf
  exact ⟨congrArg (fun z => Ending.returned (EV.conc ρ (eI .u32 z))) (bOr_comm _ _ _), hf.below noS⟩

set_option maxRecDepth 100000 in
set_option maxHeartbeats 4000000 in
theorem rrot19_any (x : Int) (w : World) (ρ : Nat → Nat) :
    Calls Tryd.prog 42 ([sI .u32 x, sI .i64 19].map (SV.conc ρ)).toArray w fun r' w' => r' = .returned (EV.conc ρ (eI .u32 (rotr 19 x))) ∧ Below w.heap.size w w' := by
  refine calls_enter (vs := [sI .u32 x, sI .i64 19]) (N := 13) [] ρ Tryd.func42 rfl rfl (Nat.le_of_ble_eq_true rfl) (okv_a (okv_a (okv_nil))) noH noH2 ?_ _ rfl
  refine wc_seq ?_
  refine wc_reg [0] (by kernel_rfl) ?_
  refine wo_run [0] [0, 1] [] (l' := [(0, eI .u32 x), (1, eI .i64 19)]) (H' := []) (by kernel_rfl) ?_
  refine wo_nil ?_
  refine we_then ?_
  refine wc_seq ?_
  refine wc_draw (n := 9) [] (by kernel_rfl) rfl (sub_of [] (by kernel_rfl)) (fun ρ0 => ?_)
  refine wa_takes (fuel := 0) [0, 1, 2, 3, 4, 5, 6, 7, 8] [4] (listed' := (bs [9])) (l' := [(4, eI .u32 (bOr .u32 (Int.fdiv x (2 ^ (19 : Nat))) (IntKind.wrap .u32 (x * 2 ^ (13 : Nat)))))]) (pk_then pk_body) rfl (by kernel_rfl) ?_
  refine wa_done (by kernel_rfl) ?_
  refine we_rest [4] [] (l' := [(4, eI .u32 (bOr .u32 (Int.fdiv x (2 ^ (19 : Nat))) (IntKind.wrap .u32 (x * 2 ^ (13 : Nat)))))]) (H' := []) (by kernel_rfl) (by kernel_rfl) ?_
  refine we_then ?_
  refine wc_ret ?_
  refine we_ret (.inl rfl) (v := eI .u32 (bOr .u32 (Int.fdiv x (2 ^ (19 : Nat))) (IntKind.wrap .u32 (x * 2 ^ (13 : Nat))))) (by kernel_rfl) ?_
  intro σ w' hf
  exact ⟨congrArg (fun z => Ending.returned (EV.conc ρ (eI .u32 z))) (bOr_comm _ _ _), hf.below noS⟩

set_option maxRecDepth 100000 in
set_option maxHeartbeats 4000000 in
theorem rrot22_any (x : Int) (w : World) (ρ : Nat → Nat) :
    Calls Tryd.prog 42 ([sI .u32 x, sI .i64 22].map (SV.conc ρ)).toArray w fun r' w' => r' = .returned (EV.conc ρ (eI .u32 (rotr 22 x))) ∧ Below w.heap.size w w' := by
  refine calls_enter (vs := [sI .u32 x, sI .i64 22]) (N := 13) [] ρ Tryd.func42 rfl rfl (Nat.le_of_ble_eq_true rfl) (okv_a (okv_a (okv_nil))) noH noH2 ?_ _ rfl
  refine wc_seq ?_
  refine wc_reg [0] (by kernel_rfl) ?_
  refine wo_run [0] [0, 1] [] (l' := [(0, eI .u32 x), (1, eI .i64 22)]) (H' := []) (by kernel_rfl) ?_
  refine wo_nil ?_
  refine we_then ?_
  refine wc_seq ?_
  refine wc_draw (n := 9) [] (by kernel_rfl) rfl (sub_of [] (by kernel_rfl)) (fun ρ0 => ?_)
  refine wa_takes (fuel := 0) [0, 1, 2, 3, 4, 5, 6, 7, 8] [4] (listed' := (bs [9])) (l' := [(4, eI .u32 (bOr .u32 (Int.fdiv x (2 ^ (22 : Nat))) (IntKind.wrap .u32 (x * 2 ^ (10 : Nat)))))]) (pk_then pk_body) rfl (by kernel_rfl) ?_
  refine wa_done (by kernel_rfl) ?_
  refine we_rest [4] [] (l' := [(4, eI .u32 (bOr .u32 (Int.fdiv x (2 ^ (22 : Nat))) (IntKind.wrap .u32 (x * 2 ^ (10 : Nat)))))]) (H' := []) (by kernel_rfl) (by kernel_rfl) ?_
  refine we_then ?_
  refine wc_ret ?_
  refine we_ret (.inl rfl) (v := eI .u32 (bOr .u32 (Int.fdiv x (2 ^ (22 : Nat))) (IntKind.wrap .u32 (x * 2 ^ (10 : Nat))))) (by kernel_rfl) ?_
  intro σ w' hf
  exact ⟨congrArg (fun z => Ending.returned (EV.conc ρ (eI .u32 z))) (bOr_comm _ _ _), hf.below noS⟩

set_option maxRecDepth 100000 in
set_option maxHeartbeats 4000000 in
theorem rrot25_any (x : Int) (w : World) (ρ : Nat → Nat) :
    Calls Tryd.prog 42 ([sI .u32 x, sI .i64 25].map (SV.conc ρ)).toArray w fun r' w' => r' = .returned (EV.conc ρ (eI .u32 (rotr 25 x))) ∧ Below w.heap.size w w' := by
  refine calls_enter (vs := [sI .u32 x, sI .i64 25]) (N := 13) [] ρ Tryd.func42 rfl rfl (Nat.le_of_ble_eq_true rfl) (okv_a (okv_a (okv_nil))) noH noH2 ?_ _ rfl
  refine wc_seq ?_
  refine wc_reg [0] (by kernel_rfl) ?_
  refine wo_run [0] [0, 1] [] (l' := [(0, eI .u32 x), (1, eI .i64 25)]) (H' := []) (by kernel_rfl) ?_
  refine wo_nil ?_
  refine we_then ?_
  refine wc_seq ?_
  refine wc_draw (n := 9) [] (by kernel_rfl) rfl (sub_of [] (by kernel_rfl)) (fun ρ0 => ?_)
  refine wa_takes (fuel := 0) [0, 1, 2, 3, 4, 5, 6, 7, 8] [4] (listed' := (bs [9])) (l' := [(4, eI .u32 (bOr .u32 (Int.fdiv x (2 ^ (25 : Nat))) (IntKind.wrap .u32 (x * 2 ^ (7 : Nat)))))]) (pk_then pk_body) rfl (by kernel_rfl) ?_
  refine wa_done (by kernel_rfl) ?_
  refine we_rest [4] [] (l' := [(4, eI .u32 (bOr .u32 (Int.fdiv x (2 ^ (25 : Nat))) (IntKind.wrap .u32 (x * 2 ^ (7 : Nat)))))]) (H' := []) (by kernel_rfl) (by kernel_rfl) ?_
  refine we_then ?_
  refine wc_ret ?_
  refine we_ret (.inl rfl) (v := eI .u32 (bOr .u32 (Int.fdiv x (2 ^ (25 : Nat))) (IntKind.wrap .u32 (x * 2 ^ (7 : Nat))))) (by kernel_rfl) ?_
  intro σ w' hf
  exact ⟨congrArg (fun z => Ending.returned (EV.conc ρ (eI .u32 z))) (bOr_comm _ _ _), hf.below noS⟩

set_option maxRecDepth 100000 in
set_option maxHeartbeats 4000000 in
theorem primes_any (w : World) (ρ : Nat → Nat) (hH : HeapAt ρ [] w) :
    Calls Tryd.prog 51 ([sI .i64 64].map (SV.conc ρ)).toArray w fun r' w' => ∃ (y : Nat × List Value) (σ : Nat → Nat), (P64.length ≤ y.1 ∧ y.1 ≤ maxLen ∧ y.2.length = (y.1 - P64.length) * 1) ∧ r' = .returned (EV.conc σ (.s (.a (.ls 7 0 P64.length y.1)))) ∧ Ran ρ [] [(7, ⟨[.vals (iV .u64 P64 ++ y.2)], 59⟩)] w w' σ := by
  refine calls_enter (vs := [sI .i64 64]) (N := 36) [] ρ Tryd.func51 rfl rfl (Nat.le_of_ble_eq_true rfl) (okv_a (okv_nil)) hH.hp hH.inj ?_ _ rfl
  refine wc_seq ?_
  refine wc_reg [0] (by kernel_rfl) ?_
  refine wo_run [0] [0] [] (l' := [(0, eI .i64 64)]) (H' := []) (by kernel_rfl) ?_
  refine wo_nil ?_
  refine we_then ?_
  refine wc_seq ?_
  refine wc_reg [0, 1] (by kernel_rfl) ?_
  refine wo_op rfl rfl (ot_bslice (e := 59) (d := 7) (n := 0) (size := 1) [] [] rfl rfl rfl (by kernel_rfl) rfl (by kernel_rfl) okc_nil (fun _ => rfl) (by kernel_rfl) (by kernel_rfl)) ?_
  refine wo_flat 7 [.vals (iV .u64 [] ++ [])] rfl (fun ρ => rfl) (okCs_vals _) ?_
  refine wo_run [1] [0, 3] [7] (l' := [(0, eI .i64 64), (3, .s (.a (.ls 7 0 0 0)))]) (H' := [(7, ⟨[.vals (iV .u64 [] ++ [])], 59⟩)]) (by kernel_rfl) ?_
  refine wo_nil ?_
  refine we_then ?_
  refine wc_seq ?_
  refine wc_seq ?_
  refine wc_reg [0] (by kernel_rfl) ?_
  refine wo_run [0] [0, 3, 4] [7] (l' := [(0, eI .i64 64), (3, .s (.a (.ls 7 0 0 0))), (4, eI .u64 2)]) (H' := [(7, ⟨[.vals (iV .u64 [] ++ [])], 59⟩)]) (by kernel_rfl) ?_
  refine wo_nil ?_
  refine we_then ?_
  refine wc_block ?_
  refine wc_rest [0, 3, 4] [7] (l' := [(0, eI .i64 64), (3, .s (.a (.ls 7 0 0 0))), (4, eI .u64 2)]) (H' := [(7, ⟨[.vals (iV .u64 [] ++ [])], 59⟩)]) (by kernel_rfl) ?_
  refine wc_loop (τ := Nat × Nat × List Value) (fun ⟨j, cp, rs⟩ => j ≤ 310 ∧ (pst j).length ≤ cp ∧ cp ≤ maxLen ∧ rs.length = (cp - (pst j).length) * 1) (fun ⟨j, cp, rs⟩ => 310 - j) (fun _ => _) (fun ⟨j, cp, rs⟩ => [(0, eI .i64 64), (3, .s (.a (.ls 7 0 ((pst j).length) cp))), (4, eI .u64 (((j : Nat) : Int) + 2))]) (fun ⟨j, cp, rs⟩ => [(7, ⟨[.vals (iV .u64 (pst j) ++ rs)], 59⟩)]) (0, 0, []) (⟨Nat.zero_le _, Nat.le_refl _, Nat.zero_le _, rfl⟩) rfl rfl rfl ?_
  rintro ⟨j, cp, rs⟩ hj
  obtain ⟨hj0, hjc, hcm, hrs⟩ := hj
  have hpl := pst_len j
  refine wc_seq ?_
  refine wc_seq ?_
  refine wc_reg [0, 1, 2, 3] (by kernel_rfl) ?_
  refine wo_run [0] [0, 3, 4, 8] [7] (l' := [(0, eI .i64 64), (3, .s (.a (.ls 7 0 ((pst j).length) cp))), (4, eI .u64 (((j : Nat) : Int) + 2)), (8, .s (.a (.ls 7 0 ((pst j).length) cp)))]) (H' := [(7, ⟨[.vals (iV .u64 (pst j) ++ rs)], 59⟩)]) (by kernel_rfl) ?_
  refine wo_op rfl rfl (ot_rd rfl (rd_len rfl rfl rfl rfl (fun _ => by kernel_rfl))) ?_
  refine wo_run [2, 3] [0, 3, 4, 11] [7] (l' := [(0, eI .i64 64), (3, .s (.a (.ls 7 0 ((pst j).length) cp))), (4, eI .u64 (((j : Nat) : Int) + 2)), (11, eB (decide ((((pst j).length : Nat) : Int) < 64)))]) (H' := [(7, ⟨[.vals (iV .u64 (pst j) ++ rs)], 59⟩)]) (by kernel_rfl) ?_
  refine wo_nil ?_
  refine we_then ?_
  refine wc_cond rfl (fun h1 => ?_) (fun h1 => ?_)
  · replace h1 := of_decide_eq_true h1
    refine wc_skip ?_
    refine we_then ?_
    refine wc_seq ?_
    refine wc_block ?_
    refine wc_seq ?_
    have hj9 : j < 310 := pst_go hj0 (by omega)
    refine wc_reg [0] (by kernel_rfl) ?_
    refine wo_run [0] [0, 3, 4, 5] [7] (l' := [(0, eI .i64 64), (3, .s (.a (.ls 7 0 ((pst j).length) cp))), (4, eI .u64 (((j : Nat) : Int) + 2)), (5, eB true)]) (H' := [(7, ⟨[.vals (iV .u64 (pst j) ++ rs)], 59⟩)]) (by kernel_rfl) ?_
    refine wo_nil ?_
    refine we_then ?_
    refine wc_seq ?_
    refine wc_seq ?_
    refine wc_reg [0] (by kernel_rfl) ?_
    refine wo_run [0] [0, 3, 4, 5, 6] [7] (l' := [(0, eI .i64 64), (3, .s (.a (.ls 7 0 ((pst j).length) cp))), (4, eI .u64 (((j : Nat) : Int) + 2)), (5, eB true), (6, eI .i64 0)]) (H' := [(7, ⟨[.vals (iV .u64 (pst j) ++ rs)], 59⟩)]) (by kernel_rfl) ?_
    refine wo_nil ?_
    refine we_then ?_
    refine wc_block ?_
    refine wc_rest [0, 3, 4, 5, 6] [7] (l' := [(0, eI .i64 64), (3, .s (.a (.ls 7 0 ((pst j).length) cp))), (4, eI .u64 (((j : Nat) : Int) + 2)), (5, eB true), (6, eI .i64 0)]) (H' := [(7, ⟨[.vals (iV .u64 (pst j) ++ rs)], 59⟩)]) (by kernel_rfl) ?_
    refine wc_loop (τ := Nat) (fun i => i ≤ (pst j).length) (fun i => (pst j).length - i) (fun _ => _) (fun i => [(0, eI .i64 64), (3, .s (.a (.ls 7 0 ((pst j).length) cp))), (4, eI .u64 (((j : Nat) : Int) + 2)), (5, eB (prF (((j : Nat) : Int) + 2) (pst j) i)), (6, eI .i64 ((i : Nat) : Int))]) (fun i => [(7, ⟨[.vals (iV .u64 (pst j) ++ rs)], 59⟩)]) 0 (Nat.zero_le _) rfl rfl rfl ?_
    rintro i hj
    have hi := hj
    refine wc_seq ?_
    refine wc_seq ?_
    refine wc_reg [0, 1, 2, 3] (by kernel_rfl) ?_
    refine wo_run [0, 1] [0, 3, 4, 5, 6, 14, 15] [7] (l' := [(0, eI .i64 64), (3, .s (.a (.ls 7 0 ((pst j).length) cp))), (4, eI .u64 (((j : Nat) : Int) + 2)), (5, eB (prF (((j : Nat) : Int) + 2) (pst j) i)), (6, eI .i64 ((i : Nat) : Int)), (14, eI .i64 ((i : Nat) : Int)), (15, .s (.a (.ls 7 0 ((pst j).length) cp)))]) (H' := [(7, ⟨[.vals (iV .u64 (pst j) ++ rs)], 59⟩)]) (by kernel_rfl) ?_
    refine wo_op rfl rfl (ot_rd rfl (rd_len rfl rfl rfl rfl (fun _ => by kernel_rfl))) ?_
    refine wo_run [3] [0, 3, 4, 5, 6, 17] [7] (l' := [(0, eI .i64 64), (3, .s (.a (.ls 7 0 ((pst j).length) cp))), (4, eI .u64 (((j : Nat) : Int) + 2)), (5, eB (prF (((j : Nat) : Int) + 2) (pst j) i)), (6, eI .i64 ((i : Nat) : Int)), (17, eB (decide (((i : Nat) : Int) < (((pst j).length : Nat) : Int))))]) (H' := [(7, ⟨[.vals (iV .u64 (pst j) ++ rs)], 59⟩)]) (by kernel_rfl) ?_
    refine wo_nil ?_
    refine we_then ?_
    refine wc_cond rfl (fun h2 => ?_) (fun h2 => ?_)
    · replace h2 := of_decide_eq_true h2
      refine wc_skip ?_
      refine we_then ?_
      refine wc_seq ?_
      refine wc_block ?_
      refine wc_reg [0, 1, 2, 3, 4, 5, 6, 7, 8, 9, 10] (by kernel_rfl) ?_
      refine wo_run [0, 1] [0, 3, 4, 6, 21] [7] (l' := [(0, eI .i64 64), (3, .s (.a (.ls 7 0 ((pst j).length) cp))), (4, eI .u64 (((j : Nat) : Int) + 2)), (6, eI .i64 ((i : Nat) : Int)), (21, eB (prF (((j : Nat) : Int) + 2) (pst j) i))]) (H' := [(7, ⟨[.vals (iV .u64 (pst j) ++ rs)], 59⟩)]) (by kernel_rfl) ?_
      refine wo_bool 21 rfl (fun h3 => ?_) (fun h3 => ?_)
      · refine wo_run [2, 3, 4] [0, 3, 4, 6, 21, 22, 23, 24] [7] (l' := [(0, eI .i64 64), (3, .s (.a (.ls 7 0 ((pst j).length) cp))), (4, eI .u64 (((j : Nat) : Int) + 2)), (6, eI .i64 ((i : Nat) : Int)), (21, eB true), (22, eI .u64 (((j : Nat) : Int) + 2)), (23, .s (.a (.ls 7 0 ((pst j).length) cp))), (24, eI .i64 ((i : Nat) : Int))]) (H' := [(7, ⟨[.vals (iV .u64 (pst j) ++ rs)], 59⟩)]) (by kernel_rfl) ?_
        refine wo_op rfl rfl (ot_rd rfl (rd_indexL (e := 59) 1 i ((i : Nat) : Int) rfl (by kernel_rfl) (by kernel_rfl) rfl rfl (rfl) (by omega))) ?_
        refine wo_op rfl rfl (ot_rd rfl (rd_cellS (b := ⟨[.vals (iV .u64 (pst j) ++ rs)], 59⟩) (.v (.int .u64 ((pst j).getD i 0))) rfl rfl rfl (by kernel_rfl) (fun ρ => rowi_at (i := i) (by omega) (by omega) ρ))) ?_
        refine wo_op rfl rfl (ot_rd rfl (rd_rem (k := .u64) (X := (((j : Nat) : Int) + 2)) (Y := ((pst j).getD i 0)) rfl rfl rfl (pst_nz (by omega)))) ?_
        refine wo_run [8, 9, 10] [0, 3, 4, 5, 6] [7] (l' := [(0, eI .i64 64), (3, .s (.a (.ls 7 0 ((pst j).length) cp))), (4, eI .u64 (((j : Nat) : Int) + 2)), (5, eB ((Int.tmod (((j : Nat) : Int) + 2) ((pst j).getD i 0)) != 0)), (6, eI .i64 ((i : Nat) : Int))]) (H' := [(7, ⟨[.vals (iV .u64 (pst j) ++ rs)], 59⟩)]) (by kernel_rfl) ?_
        refine wo_nil ?_
        refine we_block ?_
        refine we_then ?_
        refine wc_reg [0, 1, 2] (by kernel_rfl) ?_
        refine wo_run [0] [0, 3, 4, 5, 18] [7] (l' := [(0, eI .i64 64), (3, .s (.a (.ls 7 0 ((pst j).length) cp))), (4, eI .u64 (((j : Nat) : Int) + 2)), (5, eB ((Int.tmod (((j : Nat) : Int) + 2) ((pst j).getD i 0)) != 0)), (18, eI .i64 ((i : Nat) : Int))]) (H' := [(7, ⟨[.vals (iV .u64 (pst j) ++ rs)], 59⟩)]) (by kernel_rfl) ?_
        refine wo_op rfl rfl (ot_rd rfl (rd_recast (e := eI .i64 (IntKind.wrap .i64 (((i : Nat) : Int) + 1))) (eI .i64 ((i + 1 : Nat) : Int)) (by kernel_rfl) (congrArg (fun z => eI .i64 z) (w_add_i64 (a := i) (b := 1) (by omega))))) ?_
        refine wo_run [2] [0, 3, 4, 5, 6] [7] (l' := [(0, eI .i64 64), (3, .s (.a (.ls 7 0 ((pst j).length) cp))), (4, eI .u64 (((j : Nat) : Int) + 2)), (5, eB ((Int.tmod (((j : Nat) : Int) + 2) ((pst j).getD i 0)) != 0)), (6, eI .i64 ((i + 1 : Nat) : Int))]) (H' := [(7, ⟨[.vals (iV .u64 (pst j) ++ rs)], 59⟩)]) (by kernel_rfl) ?_
        refine wo_nil ?_
        refine we_rest [0, 3, 4, 5, 6] [7] (l' := [(0, eI .i64 64), (3, .s (.a (.ls 7 0 ((pst j).length) cp))), (4, eI .u64 (((j : Nat) : Int) + 2)), (5, eB ((Int.tmod (((j : Nat) : Int) + 2) ((pst j).getD i 0)) != 0)), (6, eI .i64 ((i + 1 : Nat) : Int))]) (H' := [(7, ⟨[.vals (iV .u64 (pst j) ++ rs)], 59⟩)]) (by kernel_rfl) (by kernel_rfl) ?_
        rw [show ((Int.tmod (((j : Nat) : Int) + 2) ((pst j).getD i 0)) != 0) = (prF (((j : Nat) : Int) + 2) (pst j) (i + 1)) from by simp_all [prF]]
        rw [show ((i + 1 : Nat) : Int) = ((i + 1 : Nat) : Int) from rfl]
        exact we_round (i + 1) (by show i + 1 ≤ _; omega) (by show (pst j).length - (i + 1) < (pst j).length - i; omega) rfl (sub_ofE [0, 3, 4, 5, 6] rfl) (sub_of [7] rfl)
      · refine wo_run [2, 3, 4, 5, 6, 7, 8, 9, 10] [0, 3, 4, 5, 6] [7] (l' := [(0, eI .i64 64), (3, .s (.a (.ls 7 0 ((pst j).length) cp))), (4, eI .u64 (((j : Nat) : Int) + 2)), (5, eB false), (6, eI .i64 ((i : Nat) : Int))]) (H' := [(7, ⟨[.vals (iV .u64 (pst j) ++ rs)], 59⟩)]) (by kernel_rfl) ?_
        refine wo_nil ?_
        refine we_block ?_
        refine we_then ?_
        refine wc_reg [0, 1, 2] (by kernel_rfl) ?_
        refine wo_run [0] [0, 3, 4, 5, 18] [7] (l' := [(0, eI .i64 64), (3, .s (.a (.ls 7 0 ((pst j).length) cp))), (4, eI .u64 (((j : Nat) : Int) + 2)), (5, eB false), (18, eI .i64 ((i : Nat) : Int))]) (H' := [(7, ⟨[.vals (iV .u64 (pst j) ++ rs)], 59⟩)]) (by kernel_rfl) ?_
        refine wo_op rfl rfl (ot_rd rfl (rd_recast (e := eI .i64 (IntKind.wrap .i64 (((i : Nat) : Int) + 1))) (eI .i64 ((i + 1 : Nat) : Int)) (by kernel_rfl) (congrArg (fun z => eI .i64 z) (w_add_i64 (a := i) (b := 1) (by omega))))) ?_
        refine wo_run [2] [0, 3, 4, 5, 6] [7] (l' := [(0, eI .i64 64), (3, .s (.a (.ls 7 0 ((pst j).length) cp))), (4, eI .u64 (((j : Nat) : Int) + 2)), (5, eB false), (6, eI .i64 ((i + 1 : Nat) : Int))]) (H' := [(7, ⟨[.vals (iV .u64 (pst j) ++ rs)], 59⟩)]) (by kernel_rfl) ?_
        refine wo_nil ?_
        refine we_rest [0, 3, 4, 5, 6] [7] (l' := [(0, eI .i64 64), (3, .s (.a (.ls 7 0 ((pst j).length) cp))), (4, eI .u64 (((j : Nat) : Int) + 2)), (5, eB false), (6, eI .i64 ((i + 1 : Nat) : Int))]) (H' := [(7, ⟨[.vals (iV .u64 (pst j) ++ rs)], 59⟩)]) (by kernel_rfl) (by kernel_rfl) ?_
        rw [show false = (prF (((j : Nat) : Int) + 2) (pst j) (i + 1)) from by simp_all [prF]]
        rw [show ((i + 1 : Nat) : Int) = ((i + 1 : Nat) : Int) from rfl]
        exact we_round (i + 1) (by show i + 1 ≤ _; omega) (by show (pst j).length - (i + 1) < (pst j).length - i; omega) rfl (sub_ofE [0, 3, 4, 5, 6] rfl) (sub_of [7] rfl)
    · replace h2 := of_decide_eq_false h2
      refine wc_exit ?_
      refine we_then_exit ?_
      refine we_then_exit ?_
      refine we_block_exit ?_
      refine we_then ?_
      refine wc_seq ?_
      obtain rfl : i = (pst j).length := by omega
      refine wc_reg [0] (by kernel_rfl) ?_
      refine wo_run [0] [0, 3, 4, 30] [7] (l' := [(0, eI .i64 64), (3, .s (.a (.ls 7 0 ((pst j).length) cp))), (4, eI .u64 (((j : Nat) : Int) + 2)), (30, eB (prF (((j : Nat) : Int) + 2) (pst j) (pst j).length))]) (H' := [(7, ⟨[.vals (iV .u64 (pst j) ++ rs)], 59⟩)]) (by kernel_rfl) ?_
      refine wo_nil ?_
      refine we_then ?_
      refine wc_cond rfl (fun h4 => ?_) (fun h4 => ?_)
      · refine wc_reg [0, 1, 2, 3, 4] (by kernel_rfl) ?_
        refine wo_run [0, 1] [0, 4, 31, 32] [7] (l' := [(0, eI .i64 64), (4, eI .u64 (((j : Nat) : Int) + 2)), (31, .s (.a (.ls 7 0 ((pst j).length) cp))), (32, eI .u64 (((j : Nat) : Int) + 2))]) (H' := [(7, ⟨[.vals (iV .u64 (pst j) ++ rs)], 59⟩)]) (by kernel_rfl) ?_
        refine wo_op rfl rfl (ot_bslice (e := 59) (d := 33) (n := 1) (size := 1) [.ints .u64 1 (List.replicate 1 0)] [cI .u64 (((j : Nat) : Int) + 2)] rfl rfl rfl (by kernel_rfl) rfl (by kernel_rfl) (okc_ints (List.length_replicate) (okc_nil)) (fun _ => rfl) (by kernel_rfl) (by kernel_rfl)) ?_
        refine wo_ox rfl rfl (ox_appendS (e := 59) (m := 1) (size := 1) (bytes := 8) 34 7 ((pst j).length) cp (iV .u64 (pst j)) ([(((j : Nat) : Int) + 2)].map (Value.int .u64)) rs [33] rfl rfl (by kernel_rfl) (by kernel_rfl) (by kernel_rfl) rfl rfl (by rw [iV_len, Nat.mul_one]) (hrs) (hjc) (hcm) (srcof_one (e' := 59) rfl (by kernel_rfl) rfl) (by simp only [maxLen]; omega) (by omega) (by kernel_rfl)) (fun ⟨c1, r1⟩ hc1 _ => ?_)
        refine wo_flat 34 [.vals (iV .u64 ((pst j) ++ [(((j : Nat) : Int) + 2)]) ++ r1)] rfl (fun ρ => by simp only [bV, iV, List.map_append]) (okCs_vals _) ?_
        refine wo_run [] [0, 4, 34] [34] (l' := [(0, eI .i64 64), (4, eI .u64 (((j : Nat) : Int) + 2)), (34, .s (.a (.ls 34 0 ((pst j).length + 1) c1)))]) (H' := [(34, ⟨[.vals (iV .u64 ((pst j) ++ [(((j : Nat) : Int) + 2)]) ++ r1)], 59⟩)]) (by kernel_rfl) ?_
        refine wo_run [4] [0, 3, 4] [34] (l' := [(0, eI .i64 64), (3, .s (.a (.ls 34 0 ((pst j).length + 1) c1))), (4, eI .u64 (((j : Nat) : Int) + 2))]) (H' := [(34, ⟨[.vals (iV .u64 ((pst j) ++ [(((j : Nat) : Int) + 2)]) ++ r1)], 59⟩)]) (by kernel_rfl) ?_
        refine wo_nil ?_
        refine we_block ?_
        refine we_then ?_
        refine wc_reg [0, 1, 2] (by kernel_rfl) ?_
        refine wo_run [0, 1, 2] [0, 3, 4] [34] (l' := [(0, eI .i64 64), (3, .s (.a (.ls 34 0 ((pst j).length + 1) c1))), (4, eI .u64 (IntKind.wrap .u64 ((((j : Nat) : Int) + 2) + 1)))]) (H' := [(34, ⟨[.vals (iV .u64 ((pst j) ++ [(((j : Nat) : Int) + 2)]) ++ r1)], 59⟩)]) (by kernel_rfl) ?_
        refine wo_nil ?_
        refine we_rest [0, 3, 4] [34] (l' := [(0, eI .i64 64), (3, .s (.a (.ls 34 0 ((pst j).length + 1) c1))), (4, eI .u64 (IntKind.wrap .u64 ((((j : Nat) : Int) + 2) + 1)))]) (H' := [(34, ⟨[.vals (iV .u64 ((pst j) ++ [(((j : Nat) : Int) + 2)]) ++ r1)], 59⟩)]) (by kernel_rfl) (by kernel_rfl) ?_
        refine we_ren [(34, 7)] (l' := [(0, eI .i64 64), (3, .s (.a (.ls 7 0 ((pst j).length + 1) c1))), (4, eI .u64 (IntKind.wrap .u64 ((((j : Nat) : Int) + 2) + 1)))]) (H' := [(7, ⟨[.vals (iV .u64 ((pst j) ++ [(((j : Nat) : Int) + 2)]) ++ r1)], 59⟩)]) (by kernel_rfl) (by kernel_rfl) (by kernel_rfl) ?_
        refine we_rest [0, 3, 4] [7] (l' := [(0, eI .i64 64), (3, .s (.a (.ls 7 0 ((pst j).length + 1) c1))), (4, eI .u64 (IntKind.wrap .u64 ((((j : Nat) : Int) + 2) + 1)))]) (H' := [(7, ⟨[.vals (iV .u64 ((pst j) ++ [(((j : Nat) : Int) + 2)]) ++ r1)], 59⟩)]) (by kernel_rfl) (by kernel_rfl) ?_
        rw [show (iV .u64 ((pst j) ++ [(((j : Nat) : Int) + 2)]) ++ r1) = (iV .u64 (pst (j + 1)) ++ r1) from by rw [pst_yes h4]]
        rw [show ((pst j).length + 1) = (pst (j + 1)).length from by rw [pst_yes h4]; simp]
        rw [show (IntKind.wrap .u64 ((((j : Nat) : Int) + 2) + 1)) = ((((j + 1) : Nat) : Int) + 2) from by rw [IntKind.wrap_u64]; omega]
        exact we_round (j + 1, c1, r1) (⟨by omega, by rw [pst_yes h4]; simpa using hc1.1, hc1.2.1, by rw [pst_yes h4]; simpa using hc1.2.2⟩) (by show 310 - (j + 1) < 310 - j; omega) rfl (sub_ofE [0, 3, 4] rfl) (sub_of [7] rfl)
      · refine wc_skip ?_
        refine we_block ?_
        refine we_then ?_
        refine wc_reg [0, 1, 2] (by kernel_rfl) ?_
        refine wo_run [0, 1, 2] [0, 3, 4] [7] (l' := [(0, eI .i64 64), (3, .s (.a (.ls 7 0 ((pst j).length) cp))), (4, eI .u64 (IntKind.wrap .u64 ((((j : Nat) : Int) + 2) + 1)))]) (H' := [(7, ⟨[.vals (iV .u64 (pst j) ++ rs)], 59⟩)]) (by kernel_rfl) ?_
        refine wo_nil ?_
        refine we_rest [0, 3, 4] [7] (l' := [(0, eI .i64 64), (3, .s (.a (.ls 7 0 ((pst j).length) cp))), (4, eI .u64 (IntKind.wrap .u64 ((((j : Nat) : Int) + 2) + 1)))]) (H' := [(7, ⟨[.vals (iV .u64 (pst j) ++ rs)], 59⟩)]) (by kernel_rfl) (by kernel_rfl) ?_
        refine we_rest [0, 3, 4] [7] (l' := [(0, eI .i64 64), (3, .s (.a (.ls 7 0 ((pst j).length) cp))), (4, eI .u64 (IntKind.wrap .u64 ((((j : Nat) : Int) + 2) + 1)))]) (H' := [(7, ⟨[.vals (iV .u64 (pst j) ++ rs)], 59⟩)]) (by kernel_rfl) (by kernel_rfl) ?_
        rw [show (iV .u64 (pst j) ++ rs) = (iV .u64 (pst (j + 1)) ++ rs) from by rw [pst_no h4]]
        rw [show (pst j).length = (pst (j + 1)).length from by rw [pst_no h4]]
        rw [show (IntKind.wrap .u64 ((((j : Nat) : Int) + 2) + 1)) = ((((j + 1) : Nat) : Int) + 2) from by rw [IntKind.wrap_u64]; omega]
        exact we_round (j + 1, cp, rs) (⟨by omega, by rw [pst_no h4]; exact hjc, hcm, by rw [pst_no h4]; exact hrs⟩) (by show 310 - (j + 1) < 310 - j; omega) rfl (sub_ofE [0, 3, 4] rfl) (sub_of [7] rfl)
  · replace h1 := of_decide_eq_false h1
    refine wc_exit ?_
    refine we_then_exit ?_
    refine we_then_exit ?_
    refine we_block_exit ?_
    refine we_then ?_
    refine wc_seq ?_
    refine wc_reg [0, 1] (by kernel_rfl) ?_
    refine wo_run [0, 1] [2] [7] (l' := [(2, .s (.a (.ls 7 0 ((pst j).length) cp)))]) (H' := [(7, ⟨[.vals (iV .u64 (pst j) ++ rs)], 59⟩)]) (by kernel_rfl) ?_
    refine wo_nil ?_
    refine we_then ?_
    refine wc_ret ?_
    refine we_rest [2] [7] (l' := [(2, .s (.a (.ls 7 0 ((pst j).length) cp)))]) (H' := [(7, ⟨[.vals (iV .u64 (pst j) ++ rs)], 59⟩)]) (by kernel_rfl) (by kernel_rfl) ?_
    refine we_ret (.inl rfl) (v := .s (.a (.ls 7 0 ((pst j).length) cp))) (by kernel_rfl) ?_
    have e310 : j = 310 := pst_end hj0 (by omega)
    rw [e310, pst_310] at hrs hjc ⊢
    intro σ w' hf
    exact ⟨(cp, rs), σ, ⟨hjc, hcm, hrs⟩, rfl, hf.ran rfl rfl⟩

end Go.Proofs.YtjcghjgennddaaaDoor
