/- SHA-256: the walks. -/
import Derived.Test.YtjcghjgennddaaaDoorProg
import Derived.KernelRfl
import Derived.Test.YtjcghjgennddaaaDoorShaJ
import Derived.Test.YtjcghjgennddaaaDoorSxFrz
namespace Go.Proofs.YtjcghjgennddaaaDoor
open Go.RowKit Go.Sx
set_option linter.unusedVariables false
set_option linter.unusedSimpArgs false

theorem noSi {ρ : Nat → Nat} (i : Nat) : ¬ ∃ k b, getH ([] : Heap) k = some b ∧ ρ k = i := fun ⟨k, b, h, _⟩ => by cases h
theorem split_short {L : List Int} {len : Nat} (hl : L.length = len) (h : len < 8) : splitB L = none := by unfold splitB; rw [if_pos (by omega)]
theorem split_many {L : List Int} {len : Nat} (hl : L.length = len) (h : 8 ≤ len) (h2 : be8v L > (((len - 8) / 8 : Nat) : Int)) : splitB L = none := by
  unfold splitB; rw [if_neg (by omega), hl, if_pos h2]
theorem splitB_N {L : List Int} {len : Nat} (hl : L.length = len) (h : 8 ≤ len) (h2 : ¬ be8v L > (((len - 8) / 8 : Nat) : Int)) : splitB L = splitN (be8v L).toNat (L.drop 8) := by
  unfold splitB; rw [if_neg (by omega), hl, if_neg h2]
theorem split_step {Lr : List Int} {lr k k' : Nat} (hk : k' = k + 1) (h8 : 8 ≤ lr) (hv : be8v Lr ≤ ((lr - 8 : Nat) : Int)) (hl : Lr.length = lr) : splitN k' Lr = (splitN k (Lr.drop (8 + (be8v Lr).toNat))).map (fun t => (Lr.drop 8).take (be8v Lr).toNat :: t) := by
  subst hk
  simp only [splitN]
  rw [if_neg (by rw [hl]; omega)]
theorem split_more {N c : Nat} {R Lr : List Int} {Ds : List (List Int)} {p : List Int} {r2 : List Int} (hsp : splitN N R = (splitN (N - c) Lr).map (fun t => Ds ++ t)) (hstep : splitN (N - c) Lr = (splitN (N - (c + 1)) r2).map (fun t => p :: t)) (h : c < N) :
    splitN N R = (splitN (N - (c + 1)) r2).map (fun t => (Ds ++ [p]) ++ t) := by
  rw [hsp, hstep]
  cases splitN (N - (c + 1)) r2 <;> simp
theorem split_part {L Lr : List Int} {len lr c : Nat} {Ds : List (List Int)} (hl : L.length = len) (h : 8 ≤ len) (h2 : ¬ be8v L > (((len - 8) / 8 : Nat) : Int)) (hsp : splitN (be8v L).toNat (L.drop 8) = (splitN ((be8v L).toNat - c) Lr).map (fun t => Ds ++ t)) (hr : Lr.length = lr) (hc : c < (be8v L).toNat) (hbad : lr < 8 ∨ be8v Lr > ((lr - 8 : Nat) : Int)) : splitB L = none := by
  rw [splitB_N hl h h2, hsp]
  obtain ⟨k, hk⟩ : ∃ k, (be8v L).toNat - c = k + 1 := ⟨(be8v L).toNat - c - 1, by omega⟩
  rw [hk]
  simp only [splitN]
  rw [if_pos (by rw [hr]; exact hbad)]; rfl
theorem split_rest {L Lr : List Int} {len lr c : Nat} {Ds : List (List Int)} (hl : L.length = len) (h : 8 ≤ len) (h2 : ¬ be8v L > (((len - 8) / 8 : Nat) : Int)) (hsp : splitN (be8v L).toNat (L.drop 8) = (splitN ((be8v L).toNat - c) Lr).map (fun t => Ds ++ t)) (hr : Lr.length = lr) (hc : c = (be8v L).toNat) (hbad : 0 < lr) : splitB L = none := by
  rw [splitB_N hl h h2, hsp, hc, Nat.sub_self]
  simp only [splitN]
  rw [if_neg (by omega)]; rfl
theorem split_all {L Lr : List Int} {len lr c : Nat} {Ds : List (List Int)} (hl : L.length = len) (h : 8 ≤ len) (h2 : ¬ be8v L > (((len - 8) / 8 : Nat) : Int)) (hsp : splitN (be8v L).toNat (L.drop 8) = (splitN ((be8v L).toNat - c) Lr).map (fun t => Ds ++ t)) (hr : Lr.length = lr) (hc : c = (be8v L).toNat) (hok : lr = 0) : splitB L = some Ds := by
  rw [splitB_N hl h h2, hsp, hc, Nat.sub_self]
  simp only [splitN]
  rw [if_pos (by omega)]; simp


set_option maxRecDepth 100000 in
set_option maxHeartbeats 4000000 in
theorem uint64_any (a : Option Addr) (len cap b off : Nat) (L : List Int) (w : World) (hb : BAt w (fun _ => True) a len cap b off L) (h8 : 8 ≤ len) (hL : OkB L) (ρ : Nat → Nat) :
    Calls Tryd.prog 44 ([sV (.slice a len cap)].map (SV.conc ρ)).toArray w fun r' w' => r' = .returned (EV.conc ρ (eI .u64 (be8v L))) ∧ Below w.heap.size w w' := by
  have h8c := Nat.le_trans h8 hb.lc
  have hbX : BAt w (fun i => i < w.heap.size ∧ ¬ ∃ k b, getH ([] : Heap) k = some b ∧ ρ k = i) a len cap b off L := hb.enter (fun i _ h => xI0 i h)
  refine calls_enter (vs := [sV (.slice a len cap)]) (N := 20) [] ρ Tryd.func44 rfl rfl (Nat.le_of_ble_eq_true rfl) (okv_a (okv_nil)) noH noH2 ?_ _ rfl
  refine wc_seq ?_
  refine wc_reg [0] (by kernel_rfl) ?_
  refine wo_run [0] [0] [] (l' := [(0, eV (.slice a len cap))]) (H' := []) (by kernel_rfl) ?_
  refine wo_nil ?_
  refine we_then ?_
  refine wc_seq ?_
  refine wc_reg [0] (by kernel_rfl) ?_
  refine wo_run [0] [0, 3] [] (l' := [(0, eV (.slice a len cap)), (3, eI .u64 0)]) (H' := []) (by kernel_rfl) ?_
  refine wo_nil ?_
  refine we_then ?_
  refine wc_seq ?_
  refine wc_seq ?_
  refine wc_reg [0, 1, 2, 3] (by kernel_rfl) ?_
  refine wo_run [0] [3, 6] [] (l' := [(3, eI .u64 0), (6, eV (.slice a len cap))]) (H' := []) (by kernel_rfl) ?_
  refine wo_op rfl rfl (ot_rd rfl (rd_sliceV (e := 5) (i := 0) (j := 8) (size := 1) (vl := none) (vh := (some (.int .i64 8))) (ad' := a) rfl (by kernel_rfl) (by kernel_rfl) rfl rfl rfl (fun w => sb_h w true len cap .i64 (rfl) (by first | assumption | omega)) (adr0 _ _ _))) ?_
  refine wo_run [2, 3] [3, 7, 8, 9] [] (l' := [(3, eI .u64 0), (7, eV (.slice a 8 cap)), (8, eI .i64 8), (9, eI .i64 0)]) (H' := []) (by kernel_rfl) ?_
  refine wo_nil ?_
  refine we_then ?_
  refine wc_block ?_
  refine wc_loopn 9 ?_
  refine wr_go ?_
  refine wc_seq ?_
  refine wc_reg [0] (by kernel_rfl) ?_
  refine wo_run [0] [3, 7, 8, 9, 10] [] (l' := [(3, eI .u64 0), (7, eV (.slice a 8 cap)), (8, eI .i64 8), (9, eI .i64 0), (10, eB true)]) (H' := []) (by kernel_rfl) ?_
  refine wo_nil ?_
  refine we_then ?_
  refine wc_seq ?_
  refine wc_true rfl ?_
  refine wc_skip ?_
  refine we_then ?_
  refine wc_seq ?_
  refine wc_block ?_
  refine wc_seq ?_
  refine wc_reg [0, 1, 2] (by kernel_rfl) ?_
  refine wo_op rfl rfl (ot_rd rfl (rd_indexI (e := 5) b off 1 0 0 rfl (by kernel_rfl) (by kernel_rfl) rfl rfl (rfl) (by decide) ((hbX.take (m := 8) (by first | assumption | omega)).ptr (Nat.zero_lt_of_lt (show 0 < 8 from by decide))).1)) ?_
  refine wo_op rfl rfl (ot_rd rfl (rd_load (v := (sI .u8 ((L.take 8).getD 0 0))) b (off + 0 * 1) 0 [cI .u8 ((L.take 8).getD 0 0)] rfl (off + 0 * 1) rfl rfl (((hbX.take (m := 8) (by first | assumption | omega)).ptr (Nat.zero_lt_of_lt (show 0 < 8 from by decide))).2.1) ((hbX.take (m := 8) (by first | assumption | omega)).cellsAt (show 0 < 8 from by decide)) (okc_one okc_nil) (fun _ => rfl) (by kernel_rfl))) ?_
  refine wo_run [2] [3, 5, 7, 8, 9] [] (l' := [(3, eI .u64 0), (5, eI .u8 ((L.take 8).getD 0 0)), (7, eV (.slice a 8 cap)), (8, eI .i64 8), (9, eI .i64 0)]) (H' := []) (by kernel_rfl) ?_
  refine wo_nil ?_
  refine we_then ?_
  refine wc_reg [0, 1, 2, 3, 4, 5] (by kernel_rfl) ?_
  refine wo_run [0, 1, 2, 3, 4, 5] [3, 7, 8, 9] [] (l' := [(3, eI .u64 (bOr .u64 0 (IntKind.wrap .u64 ((L.take 8).getD 0 0)))), (7, eV (.slice a 8 cap)), (8, eI .i64 8), (9, eI .i64 0)]) (H' := []) (by kernel_rfl) ?_
  refine wo_nil ?_
  refine we_block ?_
  refine we_then ?_
  refine wc_reg [0, 1] (by kernel_rfl) ?_
  refine wo_run [0, 1] [3, 7, 8, 9] [] (l' := [(3, eI .u64 (bOr .u64 0 (IntKind.wrap .u64 ((L.take 8).getD 0 0)))), (7, eV (.slice a 8 cap)), (8, eI .i64 8), (9, eI .i64 1)]) (H' := []) (by kernel_rfl) ?_
  refine wo_nil ?_
  refine we_unr ?_
  refine wr_go ?_
  refine wc_seq ?_
  refine wc_reg [0] (by kernel_rfl) ?_
  refine wo_run [0] [3, 7, 8, 9, 10] [] (l' := [(3, eI .u64 (bOr .u64 0 (IntKind.wrap .u64 ((L.take 8).getD 0 0)))), (7, eV (.slice a 8 cap)), (8, eI .i64 8), (9, eI .i64 1), (10, eB true)]) (H' := []) (by kernel_rfl) ?_
  refine wo_nil ?_
  refine we_then ?_
  refine wc_seq ?_
  refine wc_true rfl ?_
  refine wc_skip ?_
  refine we_then ?_
  refine wc_seq ?_
  refine wc_block ?_
  refine wc_seq ?_
  refine wc_reg [0, 1, 2] (by kernel_rfl) ?_
  refine wo_op rfl rfl (ot_rd rfl (rd_indexI (e := 5) b off 1 1 1 rfl (by kernel_rfl) (by kernel_rfl) rfl rfl (rfl) (by decide) ((hbX.take (m := 8) (by first | assumption | omega)).ptr (Nat.zero_lt_of_lt (show 1 < 8 from by decide))).1)) ?_
  refine wo_op rfl rfl (ot_rd rfl (rd_load (v := (sI .u8 ((L.take 8).getD 1 0))) b (off + 1 * 1) 0 [cI .u8 ((L.take 8).getD 1 0)] rfl (off + 1 * 1) rfl rfl (((hbX.take (m := 8) (by first | assumption | omega)).ptr (Nat.zero_lt_of_lt (show 1 < 8 from by decide))).2.1) ((hbX.take (m := 8) (by first | assumption | omega)).cellsAt (show 1 < 8 from by decide)) (okc_one okc_nil) (fun _ => rfl) (by kernel_rfl))) ?_
  refine wo_run [2] [3, 5, 7, 8, 9] [] (l' := [(3, eI .u64 (bOr .u64 0 (IntKind.wrap .u64 ((L.take 8).getD 0 0)))), (5, eI .u8 ((L.take 8).getD 1 0)), (7, eV (.slice a 8 cap)), (8, eI .i64 8), (9, eI .i64 1)]) (H' := []) (by kernel_rfl) ?_
  refine wo_nil ?_
  refine we_then ?_
  refine wc_reg [0, 1, 2, 3, 4, 5] (by kernel_rfl) ?_
  refine wo_run [0, 1, 2, 3, 4, 5] [3, 7, 8, 9] [] (l' := [(3, eI .u64 (bOr .u64 (IntKind.wrap .u64 ((bOr .u64 0 (IntKind.wrap .u64 ((L.take 8).getD 0 0))) * 2 ^ (8 : Nat))) (IntKind.wrap .u64 ((L.take 8).getD 1 0)))), (7, eV (.slice a 8 cap)), (8, eI .i64 8), (9, eI .i64 1)]) (H' := []) (by kernel_rfl) ?_
  refine wo_nil ?_
  refine we_block ?_
  refine we_then ?_
  refine wc_reg [0, 1] (by kernel_rfl) ?_
  refine wo_run [0, 1] [3, 7, 8, 9] [] (l' := [(3, eI .u64 (bOr .u64 (IntKind.wrap .u64 ((bOr .u64 0 (IntKind.wrap .u64 ((L.take 8).getD 0 0))) * 2 ^ (8 : Nat))) (IntKind.wrap .u64 ((L.take 8).getD 1 0)))), (7, eV (.slice a 8 cap)), (8, eI .i64 8), (9, eI .i64 2)]) (H' := []) (by kernel_rfl) ?_
  refine wo_nil ?_
  refine we_unr ?_
  refine wr_go ?_
  refine wc_seq ?_
  refine wc_reg [0] (by kernel_rfl) ?_
  refine wo_run [0] [3, 7, 8, 9, 10] [] (l' := [(3, eI .u64 (bOr .u64 (IntKind.wrap .u64 ((bOr .u64 0 (IntKind.wrap .u64 ((L.take 8).getD 0 0))) * 2 ^ (8 : Nat))) (IntKind.wrap .u64 ((L.take 8).getD 1 0)))), (7, eV (.slice a 8 cap)), (8, eI .i64 8), (9, eI .i64 2), (10, eB true)]) (H' := []) (by kernel_rfl) ?_
  refine wo_nil ?_
  refine we_then ?_
  refine wc_seq ?_
  refine wc_true rfl ?_
  refine wc_skip ?_
  refine we_then ?_
  refine wc_seq ?_
  refine wc_block ?_
  refine wc_seq ?_
  refine wc_reg [0, 1, 2] (by kernel_rfl) ?_
  refine wo_op rfl rfl (ot_rd rfl (rd_indexI (e := 5) b off 1 2 2 rfl (by kernel_rfl) (by kernel_rfl) rfl rfl (rfl) (by decide) ((hbX.take (m := 8) (by first | assumption | omega)).ptr (Nat.zero_lt_of_lt (show 2 < 8 from by decide))).1)) ?_
  refine wo_op rfl rfl (ot_rd rfl (rd_load (v := (sI .u8 ((L.take 8).getD 2 0))) b (off + 2 * 1) 0 [cI .u8 ((L.take 8).getD 2 0)] rfl (off + 2 * 1) rfl rfl (((hbX.take (m := 8) (by first | assumption | omega)).ptr (Nat.zero_lt_of_lt (show 2 < 8 from by decide))).2.1) ((hbX.take (m := 8) (by first | assumption | omega)).cellsAt (show 2 < 8 from by decide)) (okc_one okc_nil) (fun _ => rfl) (by kernel_rfl))) ?_
  refine wo_run [2] [3, 5, 7, 8, 9] [] (l' := [(3, eI .u64 (bOr .u64 (IntKind.wrap .u64 ((bOr .u64 0 (IntKind.wrap .u64 ((L.take 8).getD 0 0))) * 2 ^ (8 : Nat))) (IntKind.wrap .u64 ((L.take 8).getD 1 0)))), (5, eI .u8 ((L.take 8).getD 2 0)), (7, eV (.slice a 8 cap)), (8, eI .i64 8), (9, eI .i64 2)]) (H' := []) (by kernel_rfl) ?_
  refine wo_nil ?_
  refine we_then ?_
  refine wc_reg [0, 1, 2, 3, 4, 5] (by kernel_rfl) ?_
  refine wo_run [0, 1, 2, 3, 4, 5] [3, 7, 8, 9] [] (l' := [(3, eI .u64 (bOr .u64 (IntKind.wrap .u64 ((bOr .u64 (IntKind.wrap .u64 ((bOr .u64 0 (IntKind.wrap .u64 ((L.take 8).getD 0 0))) * 2 ^ (8 : Nat))) (IntKind.wrap .u64 ((L.take 8).getD 1 0))) * 2 ^ (8 : Nat))) (IntKind.wrap .u64 ((L.take 8).getD 2 0)))), (7, eV (.slice a 8 cap)), (8, eI .i64 8), (9, eI .i64 2)]) (H' := []) (by kernel_rfl) ?_
  refine wo_nil ?_
  refine we_block ?_
  refine we_then ?_
  refine wc_reg [0, 1] (by kernel_rfl) ?_
  refine wo_run [0, 1] [3, 7, 8, 9] [] (l' := [(3, eI .u64 (bOr .u64 (IntKind.wrap .u64 ((bOr .u64 (IntKind.wrap .u64 ((bOr .u64 0 (IntKind.wrap .u64 ((L.take 8).getD 0 0))) * 2 ^ (8 : Nat))) (IntKind.wrap .u64 ((L.take 8).getD 1 0))) * 2 ^ (8 : Nat))) (IntKind.wrap .u64 ((L.take 8).getD 2 0)))), (7, eV (.slice a 8 cap)), (8, eI .i64 8), (9, eI .i64 3)]) (H' := []) (by kernel_rfl) ?_
  refine wo_nil ?_
  refine we_unr ?_
  refine wr_go ?_
  refine wc_seq ?_
  refine wc_reg [0] (by kernel_rfl) ?_
  refine wo_run [0] [3, 7, 8, 9, 10] [] (l' := [(3, eI .u64 (bOr .u64 (IntKind.wrap .u64 ((bOr .u64 (IntKind.wrap .u64 ((bOr .u64 0 (IntKind.wrap .u64 ((L.take 8).getD 0 0))) * 2 ^ (8 : Nat))) (IntKind.wrap .u64 ((L.take 8).getD 1 0))) * 2 ^ (8 : Nat))) (IntKind.wrap .u64 ((L.take 8).getD 2 0)))), (7, eV (.slice a 8 cap)), (8, eI .i64 8), (9, eI .i64 3), (10, eB true)]) (H' := []) (by kernel_rfl) ?_
  refine wo_nil ?_
  refine we_then ?_
  refine wc_seq ?_
  refine wc_true rfl ?_
  refine wc_skip ?_
  refine we_then ?_
  refine wc_seq ?_
  refine wc_block ?_
  refine wc_seq ?_
  refine wc_reg [0, 1, 2] (by kernel_rfl) ?_
  refine wo_op rfl rfl (ot_rd rfl (rd_indexI (e := 5) b off 1 3 3 rfl (by kernel_rfl) (by kernel_rfl) rfl rfl (rfl) (by decide) ((hbX.take (m := 8) (by first | assumption | omega)).ptr (Nat.zero_lt_of_lt (show 3 < 8 from by decide))).1)) ?_
  refine wo_op rfl rfl (ot_rd rfl (rd_load (v := (sI .u8 ((L.take 8).getD 3 0))) b (off + 3 * 1) 0 [cI .u8 ((L.take 8).getD 3 0)] rfl (off + 3 * 1) rfl rfl (((hbX.take (m := 8) (by first | assumption | omega)).ptr (Nat.zero_lt_of_lt (show 3 < 8 from by decide))).2.1) ((hbX.take (m := 8) (by first | assumption | omega)).cellsAt (show 3 < 8 from by decide)) (okc_one okc_nil) (fun _ => rfl) (by kernel_rfl))) ?_
  refine wo_run [2] [3, 5, 7, 8, 9] [] (l' := [(3, eI .u64 (bOr .u64 (IntKind.wrap .u64 ((bOr .u64 (IntKind.wrap .u64 ((bOr .u64 0 (IntKind.wrap .u64 ((L.take 8).getD 0 0))) * 2 ^ (8 : Nat))) (IntKind.wrap .u64 ((L.take 8).getD 1 0))) * 2 ^ (8 : Nat))) (IntKind.wrap .u64 ((L.take 8).getD 2 0)))), (5, eI .u8 ((L.take 8).getD 3 0)), (7, eV (.slice a 8 cap)), (8, eI .i64 8), (9, eI .i64 3)]) (H' := []) (by kernel_rfl) ?_
  refine wo_nil ?_
  refine we_then ?_
  refine wc_reg [0, 1, 2, 3, 4, 5] (by kernel_rfl) ?_
  refine wo_run [0, 1, 2, 3, 4, 5] [3, 7, 8, 9] [] (l' := [(3, eI .u64 (bOr .u64 (IntKind.wrap .u64 ((bOr .u64 (IntKind.wrap .u64 ((bOr .u64 (IntKind.wrap .u64 ((bOr .u64 0 (IntKind.wrap .u64 ((L.take 8).getD 0 0))) * 2 ^ (8 : Nat))) (IntKind.wrap .u64 ((L.take 8).getD 1 0))) * 2 ^ (8 : Nat))) (IntKind.wrap .u64 ((L.take 8).getD 2 0))) * 2 ^ (8 : Nat))) (IntKind.wrap .u64 ((L.take 8).getD 3 0)))), (7, eV (.slice a 8 cap)), (8, eI .i64 8), (9, eI .i64 3)]) (H' := []) (by kernel_rfl) ?_
  refine wo_nil ?_
  refine we_block ?_
  refine we_then ?_
  refine wc_reg [0, 1] (by kernel_rfl) ?_
  refine wo_run [0, 1] [3, 7, 8, 9] [] (l' := [(3, eI .u64 (bOr .u64 (IntKind.wrap .u64 ((bOr .u64 (IntKind.wrap .u64 ((bOr .u64 (IntKind.wrap .u64 ((bOr .u64 0 (IntKind.wrap .u64 ((L.take 8).getD 0 0))) * 2 ^ (8 : Nat))) (IntKind.wrap .u64 ((L.take 8).getD 1 0))) * 2 ^ (8 : Nat))) (IntKind.wrap .u64 ((L.take 8).getD 2 0))) * 2 ^ (8 : Nat))) (IntKind.wrap .u64 ((L.take 8).getD 3 0)))), (7, eV (.slice a 8 cap)), (8, eI .i64 8), (9, eI .i64 4)]) (H' := []) (by kernel_rfl) ?_
  refine wo_nil ?_
  refine we_unr ?_
  refine wr_go ?_
  refine wc_seq ?_
  refine wc_reg [0] (by kernel_rfl) ?_
  refine wo_run [0] [3, 7, 8, 9, 10] [] (l' := [(3, eI .u64 (bOr .u64 (IntKind.wrap .u64 ((bOr .u64 (IntKind.wrap .u64 ((bOr .u64 (IntKind.wrap .u64 ((bOr .u64 0 (IntKind.wrap .u64 ((L.take 8).getD 0 0))) * 2 ^ (8 : Nat))) (IntKind.wrap .u64 ((L.take 8).getD 1 0))) * 2 ^ (8 : Nat))) (IntKind.wrap .u64 ((L.take 8).getD 2 0))) * 2 ^ (8 : Nat))) (IntKind.wrap .u64 ((L.take 8).getD 3 0)))), (7, eV (.slice a 8 cap)), (8, eI .i64 8), (9, eI .i64 4), (10, eB true)]) (H' := []) (by kernel_rfl) ?_
  refine wo_nil ?_
  refine we_then ?_
  refine wc_seq ?_
  refine wc_true rfl ?_
  refine wc_skip ?_
  refine we_then ?_
  refine wc_seq ?_
  refine wc_block ?_
  refine wc_seq ?_
  refine wc_reg [0, 1, 2] (by kernel_rfl) ?_
  refine wo_op rfl rfl (ot_rd rfl (rd_indexI (e := 5) b off 1 4 4 rfl (by kernel_rfl) (by kernel_rfl) rfl rfl (rfl) (by decide) ((hbX.take (m := 8) (by first | assumption | omega)).ptr (Nat.zero_lt_of_lt (show 4 < 8 from by decide))).1)) ?_
  refine wo_op rfl rfl (ot_rd rfl (rd_load (v := (sI .u8 ((L.take 8).getD 4 0))) b (off + 4 * 1) 0 [cI .u8 ((L.take 8).getD 4 0)] rfl (off + 4 * 1) rfl rfl (((hbX.take (m := 8) (by first | assumption | omega)).ptr (Nat.zero_lt_of_lt (show 4 < 8 from by decide))).2.1) ((hbX.take (m := 8) (by first | assumption | omega)).cellsAt (show 4 < 8 from by decide)) (okc_one okc_nil) (fun _ => rfl) (by kernel_rfl))) ?_
  refine wo_run [2] [3, 5, 7, 8, 9] [] (l' := [(3, eI .u64 (bOr .u64 (IntKind.wrap .u64 ((bOr .u64 (IntKind.wrap .u64 ((bOr .u64 (IntKind.wrap .u64 ((bOr .u64 0 (IntKind.wrap .u64 ((L.take 8).getD 0 0))) * 2 ^ (8 : Nat))) (IntKind.wrap .u64 ((L.take 8).getD 1 0))) * 2 ^ (8 : Nat))) (IntKind.wrap .u64 ((L.take 8).getD 2 0))) * 2 ^ (8 : Nat))) (IntKind.wrap .u64 ((L.take 8).getD 3 0)))), (5, eI .u8 ((L.take 8).getD 4 0)), (7, eV (.slice a 8 cap)), (8, eI .i64 8), (9, eI .i64 4)]) (H' := []) (by kernel_rfl) ?_
  refine wo_nil ?_
  refine we_then ?_
  refine wc_reg [0, 1, 2, 3, 4, 5] (by kernel_rfl) ?_
  refine wo_run [0, 1, 2, 3, 4, 5] [3, 7, 8, 9] [] (l' := [(3, eI .u64 (bOr .u64 (IntKind.wrap .u64 ((bOr .u64 (IntKind.wrap .u64 ((bOr .u64 (IntKind.wrap .u64 ((bOr .u64 (IntKind.wrap .u64 ((bOr .u64 0 (IntKind.wrap .u64 ((L.take 8).getD 0 0))) * 2 ^ (8 : Nat))) (IntKind.wrap .u64 ((L.take 8).getD 1 0))) * 2 ^ (8 : Nat))) (IntKind.wrap .u64 ((L.take 8).getD 2 0))) * 2 ^ (8 : Nat))) (IntKind.wrap .u64 ((L.take 8).getD 3 0))) * 2 ^ (8 : Nat))) (IntKind.wrap .u64 ((L.take 8).getD 4 0)))), (7, eV (.slice a 8 cap)), (8, eI .i64 8), (9, eI .i64 4)]) (H' := []) (by kernel_rfl) ?_
  refine wo_nil ?_
  refine we_block ?_
  refine we_then ?_
  refine wc_reg [0, 1] (by kernel_rfl) ?_
  refine wo_run [0, 1] [3, 7, 8, 9] [] (l' := [(3, eI .u64 (bOr .u64 (IntKind.wrap .u64 ((bOr .u64 (IntKind.wrap .u64 ((bOr .u64 (IntKind.wrap .u64 ((bOr .u64 (IntKind.wrap .u64 ((bOr .u64 0 (IntKind.wrap .u64 ((L.take 8).getD 0 0))) * 2 ^ (8 : Nat))) (IntKind.wrap .u64 ((L.take 8).getD 1 0))) * 2 ^ (8 : Nat))) (IntKind.wrap .u64 ((L.take 8).getD 2 0))) * 2 ^ (8 : Nat))) (IntKind.wrap .u64 ((L.take 8).getD 3 0))) * 2 ^ (8 : Nat))) (IntKind.wrap .u64 ((L.take 8).getD 4 0)))), (7, eV (.slice a 8 cap)), (8, eI .i64 8), (9, eI .i64 5)]) (H' := []) (by kernel_rfl) ?_
  refine wo_nil ?_
  refine we_unr ?_
  refine wr_go ?_
  refine wc_seq ?_
  refine wc_reg [0] (by kernel_rfl) ?_
  refine wo_run [0] [3, 7, 8, 9, 10] [] (l' := [(3, eI .u64 (bOr .u64 (IntKind.wrap .u64 ((bOr .u64 (IntKind.wrap .u64 ((bOr .u64 (IntKind.wrap .u64 ((bOr .u64 (IntKind.wrap .u64 ((bOr .u64 0 (IntKind.wrap .u64 ((L.take 8).getD 0 0))) * 2 ^ (8 : Nat))) (IntKind.wrap .u64 ((L.take 8).getD 1 0))) * 2 ^ (8 : Nat))) (IntKind.wrap .u64 ((L.take 8).getD 2 0))) * 2 ^ (8 : Nat))) (IntKind.wrap .u64 ((L.take 8).getD 3 0))) * 2 ^ (8 : Nat))) (IntKind.wrap .u64 ((L.take 8).getD 4 0)))), (7, eV (.slice a 8 cap)), (8, eI .i64 8), (9, eI .i64 5), (10, eB true)]) (H' := []) (by kernel_rfl) ?_
  refine wo_nil ?_
  refine we_then ?_
  refine wc_seq ?_
  refine wc_true rfl ?_
  refine wc_skip ?_
  refine we_then ?_
  refine wc_seq ?_
  refine wc_block ?_
  refine wc_seq ?_
  refine wc_reg [0, 1, 2] (by kernel_rfl) ?_
  refine wo_op rfl rfl (ot_rd rfl (rd_indexI (e := 5) b off 1 5 5 rfl (by kernel_rfl) (by kernel_rfl) rfl rfl (rfl) (by decide) ((hbX.take (m := 8) (by first | assumption | omega)).ptr (Nat.zero_lt_of_lt (show 5 < 8 from by decide))).1)) ?_
  refine wo_op rfl rfl (ot_rd rfl (rd_load (v := (sI .u8 ((L.take 8).getD 5 0))) b (off + 5 * 1) 0 [cI .u8 ((L.take 8).getD 5 0)] rfl (off + 5 * 1) rfl rfl (((hbX.take (m := 8) (by first | assumption | omega)).ptr (Nat.zero_lt_of_lt (show 5 < 8 from by decide))).2.1) ((hbX.take (m := 8) (by first | assumption | omega)).cellsAt (show 5 < 8 from by decide)) (okc_one okc_nil) (fun _ => rfl) (by kernel_rfl))) ?_
  refine wo_run [2] [3, 5, 7, 8, 9] [] (l' := [(3, eI .u64 (bOr .u64 (IntKind.wrap .u64 ((bOr .u64 (IntKind.wrap .u64 ((bOr .u64 (IntKind.wrap .u64 ((bOr .u64 (IntKind.wrap .u64 ((bOr .u64 0 (IntKind.wrap .u64 ((L.take 8).getD 0 0))) * 2 ^ (8 : Nat))) (IntKind.wrap .u64 ((L.take 8).getD 1 0))) * 2 ^ (8 : Nat))) (IntKind.wrap .u64 ((L.take 8).getD 2 0))) * 2 ^ (8 : Nat))) (IntKind.wrap .u64 ((L.take 8).getD 3 0))) * 2 ^ (8 : Nat))) (IntKind.wrap .u64 ((L.take 8).getD 4 0)))), (5, eI .u8 ((L.take 8).getD 5 0)), (7, eV (.slice a 8 cap)), (8, eI .i64 8), (9, eI .i64 5)]) (H' := []) (by kernel_rfl) ?_
  refine wo_nil ?_
  refine we_then ?_
  refine wc_reg [0, 1, 2, 3, 4, 5] (by kernel_rfl) ?_
  refine wo_run [0, 1, 2, 3, 4, 5] [3, 7, 8, 9] [] (l' := [(3, eI .u64 (bOr .u64 (IntKind.wrap .u64 ((bOr .u64 (IntKind.wrap .u64 ((bOr .u64 (IntKind.wrap .u64 ((bOr .u64 (IntKind.wrap .u64 ((bOr .u64 (IntKind.wrap .u64 ((bOr .u64 0 (IntKind.wrap .u64 ((L.take 8).getD 0 0))) * 2 ^ (8 : Nat))) (IntKind.wrap .u64 ((L.take 8).getD 1 0))) * 2 ^ (8 : Nat))) (IntKind.wrap .u64 ((L.take 8).getD 2 0))) * 2 ^ (8 : Nat))) (IntKind.wrap .u64 ((L.take 8).getD 3 0))) * 2 ^ (8 : Nat))) (IntKind.wrap .u64 ((L.take 8).getD 4 0))) * 2 ^ (8 : Nat))) (IntKind.wrap .u64 ((L.take 8).getD 5 0)))), (7, eV (.slice a 8 cap)), (8, eI .i64 8), (9, eI .i64 5)]) (H' := []) (by kernel_rfl) ?_
  refine wo_nil ?_
  refine we_block ?_
  refine we_then ?_
  refine wc_reg [0, 1] (by kernel_rfl) ?_
  refine wo_run [0, 1] [3, 7, 8, 9] [] (l' := [(3, eI .u64 (bOr .u64 (IntKind.wrap .u64 ((bOr .u64 (IntKind.wrap .u64 ((bOr .u64 (IntKind.wrap .u64 ((bOr .u64 (IntKind.wrap .u64 ((bOr .u64 (IntKind.wrap .u64 ((bOr .u64 0 (IntKind.wrap .u64 ((L.take 8).getD 0 0))) * 2 ^ (8 : Nat))) (IntKind.wrap .u64 ((L.take 8).getD 1 0))) * 2 ^ (8 : Nat))) (IntKind.wrap .u64 ((L.take 8).getD 2 0))) * 2 ^ (8 : Nat))) (IntKind.wrap .u64 ((L.take 8).getD 3 0))) * 2 ^ (8 : Nat))) (IntKind.wrap .u64 ((L.take 8).getD 4 0))) * 2 ^ (8 : Nat))) (IntKind.wrap .u64 ((L.take 8).getD 5 0)))), (7, eV (.slice a 8 cap)), (8, eI .i64 8), (9, eI .i64 6)]) (H' := []) (by kernel_rfl) ?_
  refine wo_nil ?_
  refine we_unr ?_
  refine wr_go ?_
  refine wc_seq ?_
  refine wc_reg [0] (by kernel_rfl) ?_
  refine wo_run [0] [3, 7, 8, 9, 10] [] (l' := [(3, eI .u64 (bOr .u64 (IntKind.wrap .u64 ((bOr .u64 (IntKind.wrap .u64 ((bOr .u64 (IntKind.wrap .u64 ((bOr .u64 (IntKind.wrap .u64 ((bOr .u64 (IntKind.wrap .u64 ((bOr .u64 0 (IntKind.wrap .u64 ((L.take 8).getD 0 0))) * 2 ^ (8 : Nat))) (IntKind.wrap .u64 ((L.take 8).getD 1 0))) * 2 ^ (8 : Nat))) (IntKind.wrap .u64 ((L.take 8).getD 2 0))) * 2 ^ (8 : Nat))) (IntKind.wrap .u64 ((L.take 8).getD 3 0))) * 2 ^ (8 : Nat))) (IntKind.wrap .u64 ((L.take 8).getD 4 0))) * 2 ^ (8 : Nat))) (IntKind.wrap .u64 ((L.take 8).getD 5 0)))), (7, eV (.slice a 8 cap)), (8, eI .i64 8), (9, eI .i64 6), (10, eB true)]) (H' := []) (by kernel_rfl) ?_
  refine wo_nil ?_
  refine we_then ?_
  refine wc_seq ?_
  refine wc_true rfl ?_
  refine wc_skip ?_
  refine we_then ?_
  refine wc_seq ?_
  refine wc_block ?_
  refine wc_seq ?_
  refine wc_reg [0, 1, 2] (by kernel_rfl) ?_
  refine wo_op rfl rfl (ot_rd rfl (rd_indexI (e := 5) b off 1 6 6 rfl (by kernel_rfl) (by kernel_rfl) rfl rfl (rfl) (by decide) ((hbX.take (m := 8) (by first | assumption | omega)).ptr (Nat.zero_lt_of_lt (show 6 < 8 from by decide))).1)) ?_
  refine wo_op rfl rfl (ot_rd rfl (rd_load (v := (sI .u8 ((L.take 8).getD 6 0))) b (off + 6 * 1) 0 [cI .u8 ((L.take 8).getD 6 0)] rfl (off + 6 * 1) rfl rfl (((hbX.take (m := 8) (by first | assumption | omega)).ptr (Nat.zero_lt_of_lt (show 6 < 8 from by decide))).2.1) ((hbX.take (m := 8) (by first | assumption | omega)).cellsAt (show 6 < 8 from by decide)) (okc_one okc_nil) (fun _ => rfl) (by kernel_rfl))) ?_
  refine wo_run [2] [3, 5, 7, 8, 9] [] (l' := [(3, eI .u64 (bOr .u64 (IntKind.wrap .u64 ((bOr .u64 (IntKind.wrap .u64 ((bOr .u64 (IntKind.wrap .u64 ((bOr .u64 (IntKind.wrap .u64 ((bOr .u64 (IntKind.wrap .u64 ((bOr .u64 0 (IntKind.wrap .u64 ((L.take 8).getD 0 0))) * 2 ^ (8 : Nat))) (IntKind.wrap .u64 ((L.take 8).getD 1 0))) * 2 ^ (8 : Nat))) (IntKind.wrap .u64 ((L.take 8).getD 2 0))) * 2 ^ (8 : Nat))) (IntKind.wrap .u64 ((L.take 8).getD 3 0))) * 2 ^ (8 : Nat))) (IntKind.wrap .u64 ((L.take 8).getD 4 0))) * 2 ^ (8 : Nat))) (IntKind.wrap .u64 ((L.take 8).getD 5 0)))), (5, eI .u8 ((L.take 8).getD 6 0)), (7, eV (.slice a 8 cap)), (8, eI .i64 8), (9, eI .i64 6)]) (H' := []) (by kernel_rfl) ?_
  refine wo_nil ?_
  refine we_then ?_
  refine wc_reg [0, 1, 2, 3, 4, 5] (by kernel_rfl) ?_
  refine wo_run [0, 1, 2, 3, 4, 5] [3, 7, 8, 9] [] (l' := [(3, eI .u64 (bOr .u64 (IntKind.wrap .u64 ((bOr .u64 (IntKind.wrap .u64 ((bOr .u64 (IntKind.wrap .u64 ((bOr .u64 (IntKind.wrap .u64 ((bOr .u64 (IntKind.wrap .u64 ((bOr .u64 (IntKind.wrap .u64 ((bOr .u64 0 (IntKind.wrap .u64 ((L.take 8).getD 0 0))) * 2 ^ (8 : Nat))) (IntKind.wrap .u64 ((L.take 8).getD 1 0))) * 2 ^ (8 : Nat))) (IntKind.wrap .u64 ((L.take 8).getD 2 0))) * 2 ^ (8 : Nat))) (IntKind.wrap .u64 ((L.take 8).getD 3 0))) * 2 ^ (8 : Nat))) (IntKind.wrap .u64 ((L.take 8).getD 4 0))) * 2 ^ (8 : Nat))) (IntKind.wrap .u64 ((L.take 8).getD 5 0))) * 2 ^ (8 : Nat))) (IntKind.wrap .u64 ((L.take 8).getD 6 0)))), (7, eV (.slice a 8 cap)), (8, eI .i64 8), (9, eI .i64 6)]) (H' := []) (by kernel_rfl) ?_
  refine wo_nil ?_
  refine we_block ?_
  refine we_then ?_
  refine wc_reg [0, 1] (by kernel_rfl) ?_
  refine wo_run [0, 1] [3, 7, 8, 9] [] (l' := [(3, eI .u64 (bOr .u64 (IntKind.wrap .u64 ((bOr .u64 (IntKind.wrap .u64 ((bOr .u64 (IntKind.wrap .u64 ((bOr .u64 (IntKind.wrap .u64 ((bOr .u64 (IntKind.wrap .u64 ((bOr .u64 (IntKind.wrap .u64 ((bOr .u64 0 (IntKind.wrap .u64 ((L.take 8).getD 0 0))) * 2 ^ (8 : Nat))) (IntKind.wrap .u64 ((L.take 8).getD 1 0))) * 2 ^ (8 : Nat))) (IntKind.wrap .u64 ((L.take 8).getD 2 0))) * 2 ^ (8 : Nat))) (IntKind.wrap .u64 ((L.take 8).getD 3 0))) * 2 ^ (8 : Nat))) (IntKind.wrap .u64 ((L.take 8).getD 4 0))) * 2 ^ (8 : Nat))) (IntKind.wrap .u64 ((L.take 8).getD 5 0))) * 2 ^ (8 : Nat))) (IntKind.wrap .u64 ((L.take 8).getD 6 0)))), (7, eV (.slice a 8 cap)), (8, eI .i64 8), (9, eI .i64 7)]) (H' := []) (by kernel_rfl) ?_
  refine wo_nil ?_
  refine we_unr ?_
  refine wr_go ?_
  refine wc_seq ?_
  refine wc_reg [0] (by kernel_rfl) ?_
  refine wo_run [0] [3, 7, 8, 9, 10] [] (l' := [(3, eI .u64 (bOr .u64 (IntKind.wrap .u64 ((bOr .u64 (IntKind.wrap .u64 ((bOr .u64 (IntKind.wrap .u64 ((bOr .u64 (IntKind.wrap .u64 ((bOr .u64 (IntKind.wrap .u64 ((bOr .u64 (IntKind.wrap .u64 ((bOr .u64 0 (IntKind.wrap .u64 ((L.take 8).getD 0 0))) * 2 ^ (8 : Nat))) (IntKind.wrap .u64 ((L.take 8).getD 1 0))) * 2 ^ (8 : Nat))) (IntKind.wrap .u64 ((L.take 8).getD 2 0))) * 2 ^ (8 : Nat))) (IntKind.wrap .u64 ((L.take 8).getD 3 0))) * 2 ^ (8 : Nat))) (IntKind.wrap .u64 ((L.take 8).getD 4 0))) * 2 ^ (8 : Nat))) (IntKind.wrap .u64 ((L.take 8).getD 5 0))) * 2 ^ (8 : Nat))) (IntKind.wrap .u64 ((L.take 8).getD 6 0)))), (7, eV (.slice a 8 cap)), (8, eI .i64 8), (9, eI .i64 7), (10, eB true)]) (H' := []) (by kernel_rfl) ?_
  refine wo_nil ?_
  refine we_then ?_
  refine wc_seq ?_
  refine wc_true rfl ?_
  refine wc_skip ?_
  refine we_then ?_
  refine wc_seq ?_
  refine wc_block ?_
  refine wc_seq ?_
  refine wc_reg [0, 1, 2] (by kernel_rfl) ?_
  refine wo_op rfl rfl (ot_rd rfl (rd_indexI (e := 5) b off 1 7 7 rfl (by kernel_rfl) (by kernel_rfl) rfl rfl (rfl) (by decide) ((hbX.take (m := 8) (by first | assumption | omega)).ptr (Nat.zero_lt_of_lt (show 7 < 8 from by decide))).1)) ?_
  refine wo_op rfl rfl (ot_rd rfl (rd_load (v := (sI .u8 ((L.take 8).getD 7 0))) b (off + 7 * 1) 0 [cI .u8 ((L.take 8).getD 7 0)] rfl (off + 7 * 1) rfl rfl (((hbX.take (m := 8) (by first | assumption | omega)).ptr (Nat.zero_lt_of_lt (show 7 < 8 from by decide))).2.1) ((hbX.take (m := 8) (by first | assumption | omega)).cellsAt (show 7 < 8 from by decide)) (okc_one okc_nil) (fun _ => rfl) (by kernel_rfl))) ?_
  refine wo_run [2] [3, 5, 7, 8, 9] [] (l' := [(3, eI .u64 (bOr .u64 (IntKind.wrap .u64 ((bOr .u64 (IntKind.wrap .u64 ((bOr .u64 (IntKind.wrap .u64 ((bOr .u64 (IntKind.wrap .u64 ((bOr .u64 (IntKind.wrap .u64 ((bOr .u64 (IntKind.wrap .u64 ((bOr .u64 0 (IntKind.wrap .u64 ((L.take 8).getD 0 0))) * 2 ^ (8 : Nat))) (IntKind.wrap .u64 ((L.take 8).getD 1 0))) * 2 ^ (8 : Nat))) (IntKind.wrap .u64 ((L.take 8).getD 2 0))) * 2 ^ (8 : Nat))) (IntKind.wrap .u64 ((L.take 8).getD 3 0))) * 2 ^ (8 : Nat))) (IntKind.wrap .u64 ((L.take 8).getD 4 0))) * 2 ^ (8 : Nat))) (IntKind.wrap .u64 ((L.take 8).getD 5 0))) * 2 ^ (8 : Nat))) (IntKind.wrap .u64 ((L.take 8).getD 6 0)))), (5, eI .u8 ((L.take 8).getD 7 0)), (7, eV (.slice a 8 cap)), (8, eI .i64 8), (9, eI .i64 7)]) (H' := []) (by kernel_rfl) ?_
  refine wo_nil ?_
  refine we_then ?_
  refine wc_reg [0, 1, 2, 3, 4, 5] (by kernel_rfl) ?_
  refine wo_run [0, 1, 2, 3, 4, 5] [3, 7, 8, 9] [] (l' := [(3, eI .u64 (bOr .u64 (IntKind.wrap .u64 ((bOr .u64 (IntKind.wrap .u64 ((bOr .u64 (IntKind.wrap .u64 ((bOr .u64 (IntKind.wrap .u64 ((bOr .u64 (IntKind.wrap .u64 ((bOr .u64 (IntKind.wrap .u64 ((bOr .u64 (IntKind.wrap .u64 ((bOr .u64 0 (IntKind.wrap .u64 ((L.take 8).getD 0 0))) * 2 ^ (8 : Nat))) (IntKind.wrap .u64 ((L.take 8).getD 1 0))) * 2 ^ (8 : Nat))) (IntKind.wrap .u64 ((L.take 8).getD 2 0))) * 2 ^ (8 : Nat))) (IntKind.wrap .u64 ((L.take 8).getD 3 0))) * 2 ^ (8 : Nat))) (IntKind.wrap .u64 ((L.take 8).getD 4 0))) * 2 ^ (8 : Nat))) (IntKind.wrap .u64 ((L.take 8).getD 5 0))) * 2 ^ (8 : Nat))) (IntKind.wrap .u64 ((L.take 8).getD 6 0))) * 2 ^ (8 : Nat))) (IntKind.wrap .u64 ((L.take 8).getD 7 0)))), (7, eV (.slice a 8 cap)), (8, eI .i64 8), (9, eI .i64 7)]) (H' := []) (by kernel_rfl) ?_
  refine wo_nil ?_
  refine we_block ?_
  refine we_then ?_
  refine wc_reg [0, 1] (by kernel_rfl) ?_
  refine wo_run [0, 1] [3, 7, 8, 9] [] (l' := [(3, eI .u64 (bOr .u64 (IntKind.wrap .u64 ((bOr .u64 (IntKind.wrap .u64 ((bOr .u64 (IntKind.wrap .u64 ((bOr .u64 (IntKind.wrap .u64 ((bOr .u64 (IntKind.wrap .u64 ((bOr .u64 (IntKind.wrap .u64 ((bOr .u64 (IntKind.wrap .u64 ((bOr .u64 0 (IntKind.wrap .u64 ((L.take 8).getD 0 0))) * 2 ^ (8 : Nat))) (IntKind.wrap .u64 ((L.take 8).getD 1 0))) * 2 ^ (8 : Nat))) (IntKind.wrap .u64 ((L.take 8).getD 2 0))) * 2 ^ (8 : Nat))) (IntKind.wrap .u64 ((L.take 8).getD 3 0))) * 2 ^ (8 : Nat))) (IntKind.wrap .u64 ((L.take 8).getD 4 0))) * 2 ^ (8 : Nat))) (IntKind.wrap .u64 ((L.take 8).getD 5 0))) * 2 ^ (8 : Nat))) (IntKind.wrap .u64 ((L.take 8).getD 6 0))) * 2 ^ (8 : Nat))) (IntKind.wrap .u64 ((L.take 8).getD 7 0)))), (7, eV (.slice a 8 cap)), (8, eI .i64 8), (9, eI .i64 8)]) (H' := []) (by kernel_rfl) ?_
  refine wo_nil ?_
  refine we_unr ?_
  refine wr_go ?_
  refine wc_seq ?_
  refine wc_reg [0] (by kernel_rfl) ?_
  refine wo_run [0] [3, 7, 8, 9, 10] [] (l' := [(3, eI .u64 (bOr .u64 (IntKind.wrap .u64 ((bOr .u64 (IntKind.wrap .u64 ((bOr .u64 (IntKind.wrap .u64 ((bOr .u64 (IntKind.wrap .u64 ((bOr .u64 (IntKind.wrap .u64 ((bOr .u64 (IntKind.wrap .u64 ((bOr .u64 (IntKind.wrap .u64 ((bOr .u64 0 (IntKind.wrap .u64 ((L.take 8).getD 0 0))) * 2 ^ (8 : Nat))) (IntKind.wrap .u64 ((L.take 8).getD 1 0))) * 2 ^ (8 : Nat))) (IntKind.wrap .u64 ((L.take 8).getD 2 0))) * 2 ^ (8 : Nat))) (IntKind.wrap .u64 ((L.take 8).getD 3 0))) * 2 ^ (8 : Nat))) (IntKind.wrap .u64 ((L.take 8).getD 4 0))) * 2 ^ (8 : Nat))) (IntKind.wrap .u64 ((L.take 8).getD 5 0))) * 2 ^ (8 : Nat))) (IntKind.wrap .u64 ((L.take 8).getD 6 0))) * 2 ^ (8 : Nat))) (IntKind.wrap .u64 ((L.take 8).getD 7 0)))), (7, eV (.slice a 8 cap)), (8, eI .i64 8), (9, eI .i64 8), (10, eB false)]) (H' := []) (by kernel_rfl) ?_
  refine wo_nil ?_
  refine we_then ?_
  refine wc_seq ?_
  refine wc_false rfl ?_
  refine wc_exit ?_
  refine we_then_exit ?_
  refine we_then_exit ?_
  refine we_block_exit ?_
  refine we_then ?_
  refine wc_seq ?_
  refine wc_reg [0, 1] (by kernel_rfl) ?_
  refine wo_run [0, 1] [2] [] (l' := [(2, eI .u64 (bOr .u64 (IntKind.wrap .u64 ((bOr .u64 (IntKind.wrap .u64 ((bOr .u64 (IntKind.wrap .u64 ((bOr .u64 (IntKind.wrap .u64 ((bOr .u64 (IntKind.wrap .u64 ((bOr .u64 (IntKind.wrap .u64 ((bOr .u64 (IntKind.wrap .u64 ((bOr .u64 0 (IntKind.wrap .u64 ((L.take 8).getD 0 0))) * 2 ^ (8 : Nat))) (IntKind.wrap .u64 ((L.take 8).getD 1 0))) * 2 ^ (8 : Nat))) (IntKind.wrap .u64 ((L.take 8).getD 2 0))) * 2 ^ (8 : Nat))) (IntKind.wrap .u64 ((L.take 8).getD 3 0))) * 2 ^ (8 : Nat))) (IntKind.wrap .u64 ((L.take 8).getD 4 0))) * 2 ^ (8 : Nat))) (IntKind.wrap .u64 ((L.take 8).getD 5 0))) * 2 ^ (8 : Nat))) (IntKind.wrap .u64 ((L.take 8).getD 6 0))) * 2 ^ (8 : Nat))) (IntKind.wrap .u64 ((L.take 8).getD 7 0))))]) (H' := []) (by kernel_rfl) ?_
  refine wo_nil ?_
  refine we_then ?_
  refine wc_ret ?_
  refine we_ret (.inl rfl) (v := eI .u64 (bOr .u64 (IntKind.wrap .u64 ((bOr .u64 (IntKind.wrap .u64 ((bOr .u64 (IntKind.wrap .u64 ((bOr .u64 (IntKind.wrap .u64 ((bOr .u64 (IntKind.wrap .u64 ((bOr .u64 (IntKind.wrap .u64 ((bOr .u64 (IntKind.wrap .u64 ((bOr .u64 0 (IntKind.wrap .u64 ((L.take 8).getD 0 0))) * 2 ^ (8 : Nat))) (IntKind.wrap .u64 ((L.take 8).getD 1 0))) * 2 ^ (8 : Nat))) (IntKind.wrap .u64 ((L.take 8).getD 2 0))) * 2 ^ (8 : Nat))) (IntKind.wrap .u64 ((L.take 8).getD 3 0))) * 2 ^ (8 : Nat))) (IntKind.wrap .u64 ((L.take 8).getD 4 0))) * 2 ^ (8 : Nat))) (IntKind.wrap .u64 ((L.take 8).getD 5 0))) * 2 ^ (8 : Nat))) (IntKind.wrap .u64 ((L.take 8).getD 6 0))) * 2 ^ (8 : Nat))) (IntKind.wrap .u64 ((L.take 8).getD 7 0)))) (by kernel_rfl) ?_
  intro σ w' hf
  exact ⟨congrArg (fun z => Ending.returned (EV.conc ρ (eI .u64 z))) (be8_tk hL), hf.below noS⟩

set_option maxRecDepth 100000 in
set_option maxHeartbeats 16000000 in
theorem split_any (a : Option Addr) (len cap b off : Nat) (L : List Int) (w : World) (ρ : Nat → Nat) (hb : BAt w (fun _ => True) a len cap b off L) (hL : OkB L) (hlen : len ≤ 1099511627776) :
    Calls Tryd.prog 17 ([sV (.slice a len cap)].map (SV.conc ρ)).toArray w fun r' w' => ∃ x : LD, BBAt w' (fun i => w.heap.size ≤ i) x.a x.len x.cap x.b x.off x.V ((splitB L).getD []) ∧ r' = .returned (EV.conc ρ (.t [.a (.v (.slice x.a x.len x.cap)), sB (splitB L).isSome])) ∧ Below w.heap.size w w' := by
  have hbX : BAt w (fun i => i < w.heap.size ∧ ¬ ∃ k b, getH ([] : Heap) k = some b ∧ ρ k = i) a len cap b off L := hb.enter (fun i _ h => xI0 i h)
  have hLn : L.length = len := hb.ln
  have hbv := be8v_lt hL
  refine calls_enter (vs := [sV (.slice a len cap)]) (N := 55) [] ρ Tryd.func17 rfl rfl (Nat.le_of_ble_eq_true rfl) (okv_a (okv_nil)) noH noH2 ?_ _ rfl
  refine wc_seq ?_
  refine wc_reg [0, 1] (by kernel_rfl) ?_
  refine wo_run [0, 1] [0] [] (l' := [(0, eV (.slice a len cap))]) (H' := []) (by kernel_rfl) ?_
  refine wo_nil ?_
  refine we_then ?_
  refine wc_seq ?_
  refine wc_seq ?_
  refine wc_reg [0, 1, 2] (by kernel_rfl) ?_
  refine wo_run [0, 1, 2] [0, 9] [] (l' := [(0, eV (.slice a len cap)), (9, eB (decide (((len : Nat) : Int) < 8)))]) (H' := []) (by kernel_rfl) ?_
  refine wo_nil ?_
  refine we_then ?_
  refine wc_cond rfl (fun h1 => ?_) (fun h1 => ?_)
  · replace h1 := of_decide_eq_true h1
    refine wc_seq ?_
    refine wc_reg [0, 1] (by kernel_rfl) ?_
    refine wo_run [0, 1] [2, 3] [] (l' := [(2, eV (.slice none 0 0)), (3, eB false)]) (H' := []) (by kernel_rfl) ?_
    refine wo_nil ?_
    refine we_then ?_
    refine wc_ret ?_
    refine we_then_ret ?_
    refine we_ret (.inl rfl) (v := .t [sV (.slice none 0 0), sB false]) (by kernel_rfl) ?_
    intro σ w' hf
    have hs : splitB L = none := by first | exact split_short hLn (by omega) | exact split_many hLn (by omega) (by omega) | exact split_part hLn (by omega) (by omega) hsp hrl (by omega) (by omega) | exact split_rest hLn (by omega) (by omega) hsp hrl (by omega) (by omega)
    refine ⟨ld0, ?_, ?_, hf.below noS⟩
    · rw [hs]; exact BBAt.nil _ _
    · rw [hs]; rfl
  · replace h1 := of_decide_eq_false h1
    refine wc_skip ?_
    refine we_then ?_
    refine wc_seq ?_
    refine wc_reg [0, 1, 2] (by kernel_rfl) ?_
    refine wo_run [0] [0, 10] [] (l' := [(0, eV (.slice a len cap)), (10, eV (.slice a len cap))]) (H' := []) (by kernel_rfl) ?_
    refine wo_op rfl rfl (ot_call (vs := [sV (.slice a len cap)]) rfl rfl rfl Tryd.func44 (by kernel_rfl) (by kernel_rfl) (by kernel_rfl) (eI .u64 (be8v L)) (trivial) (fun ρ w h => uint64_any a len cap b off L w (h.bats hbX (fun _ _ => trivial)) (by omega) (hL) ρ)) ?_
    refine wo_run [2] [0, 4] [] (l' := [(0, eV (.slice a len cap)), (4, eI .u64 (be8v L))]) (H' := []) (by kernel_rfl) ?_
    refine wo_nil ?_
    refine we_then ?_
    refine wc_seq ?_
    refine wc_reg [0, 1, 2] (by kernel_rfl) ?_
    refine wo_run [0] [4, 12] [] (l' := [(4, eI .u64 (be8v L)), (12, eV (.slice a len cap))]) (H' := []) (by kernel_rfl) ?_
    refine wo_op rfl rfl (ot_rd rfl (rd_sliceV (e := 5) (i := 8) (j := len) (size := 1) (vl := (some (.int .i64 8))) (vh := none) (ad' := (if cap = 8 then a else a.map (·.add (8 * 1)))) rfl (by kernel_rfl) (by kernel_rfl) rfl rfl rfl (fun w => sb_l w true len cap .i64 (rfl) (by first | assumption | omega)) (rfl))) ?_
    refine wo_run [2] [0, 4] [] (l' := [(0, eV (.slice (if cap = 8 then a else a.map (·.add (8 * 1))) (len - 8) (cap - 8))), (4, eI .u64 (be8v L))]) (H' := []) (by kernel_rfl) ?_
    refine wo_nil ?_
    refine we_then ?_
    refine wc_seq ?_
    refine wc_seq ?_
    refine wc_reg [0, 1, 2, 3, 4, 5] (by kernel_rfl) ?_
    refine wo_run [0, 1, 2] [0, 4, 14, 16] [] (l' := [(0, eV (.slice (if cap = 8 then a else a.map (·.add (8 * 1))) (len - 8) (cap - 8))), (4, eI .u64 (be8v L)), (14, eI .u64 (be8v L)), (16, eI .i64 ((len - 8 : Nat) : Int))]) (H' := []) (by kernel_rfl) ?_
    refine wo_op rfl rfl (ot_rd rfl (rd_recast (e := eI .u64 (IntKind.wrap .u64 ((len - 8 : Nat) : Int))) (eI .u64 ((len - 8 : Nat) : Int)) (by kernel_rfl) (congrArg (fun z => eI .u64 z) (w_nat_u64 (by omega))))) ?_
    refine wo_op rfl rfl (ot_rd rfl (rd_recast (e := eI .u64 (IntKind.wrap .u64 (Int.tdiv ((len - 8 : Nat) : Int) 8))) (eI .u64 (((len - 8) / 8 : Nat) : Int)) (by kernel_rfl) (congrArg (fun z => eI .u64 z) (w_quo8 (len - 8) (by omega))))) ?_
    refine wo_run [5] [0, 4, 19] [] (l' := [(0, eV (.slice (if cap = 8 then a else a.map (·.add (8 * 1))) (len - 8) (cap - 8))), (4, eI .u64 (be8v L)), (19, eB (decide ((be8v L) > (((len - 8) / 8 : Nat) : Int))))]) (H' := []) (by kernel_rfl) ?_
    refine wo_nil ?_
    refine we_then ?_
    refine wc_cond rfl (fun h2 => ?_) (fun h2 => ?_)
    · replace h2 := of_decide_eq_true h2
      refine wc_seq ?_
      refine wc_reg [0, 1] (by kernel_rfl) ?_
      refine wo_run [0, 1] [2, 3] [] (l' := [(2, eV (.slice none 0 0)), (3, eB false)]) (H' := []) (by kernel_rfl) ?_
      refine wo_nil ?_
      refine we_then ?_
      refine wc_ret ?_
      refine we_then_ret ?_
      refine we_ret (.inl rfl) (v := .t [sV (.slice none 0 0), sB false]) (by kernel_rfl) ?_
      intro σ w' hf
      have hs : splitB L = none := by first | exact split_short hLn (by omega) | exact split_many hLn (by omega) (by omega) | exact split_part hLn (by omega) (by omega) hsp hrl (by omega) (by omega) | exact split_rest hLn (by omega) (by omega) hsp hrl (by omega) (by omega)
      refine ⟨ld0, ?_, ?_, hf.below noS⟩
      · rw [hs]; exact BBAt.nil _ _
      · rw [hs]; rfl
    · replace h2 := of_decide_eq_false h2
      refine wc_skip ?_
      refine we_then ?_
      refine wc_seq ?_
      refine wc_reg [0] (by kernel_rfl) ?_
      refine wo_run [0] [0, 4, 5] [] (l' := [(0, eV (.slice (if cap = 8 then a else a.map (·.add (8 * 1))) (len - 8) (cap - 8))), (4, eI .u64 (be8v L)), (5, eV (.slice none 0 0))]) (H' := []) (by kernel_rfl) ?_
      refine wo_nil ?_
      refine we_then ?_
      refine wc_seq ?_
      refine wc_seq ?_
      refine wc_reg [0, 1] (by kernel_rfl) ?_
      refine wo_run [0, 1] [0, 5, 20, 21] [] (l' := [(0, eV (.slice (if cap = 8 then a else a.map (·.add (8 * 1))) (len - 8) (cap - 8))), (5, eV (.slice none 0 0)), (20, eI .u64 (be8v L)), (21, eI .u64 0)]) (H' := []) (by kernel_rfl) ?_
      refine wo_nil ?_
      refine we_then ?_
      refine wc_block ?_
      refine wc_rest [0, 5, 20, 21] [] (l' := [(0, eV (.slice (if cap = 8 then a else a.map (·.add (8 * 1))) (len - 8) (cap - 8))), (5, eV (.slice none 0 0)), (20, eI .u64 (be8v L)), (21, eI .u64 0)]) (H' := []) (by kernel_rfl) ?_
      refine wc_loop (τ := World × (Nat → Prop) × Nat × Option Addr × Nat × Nat × Nat × List Int × List SD × List (List Int) × Option (Nat × List Value)) (fun ⟨E, X, c, ar, lr, cr, offr, Lr, Vs, Ds, o⟩ => BAt E X ar lr cr b offr Lr ∧ OkB Lr ∧ BAll E (fun i => X i ∧ w.heap.size ≤ i) Vs Ds ∧ True ∧ True ∧ c ≤ (be8v L).toNat ∧ Ds.length = c ∧ splitN (be8v L).toNat (L.drop 8) = (splitN ((be8v L).toNat - c) Lr).map (fun t => Ds ++ t) ∧ lr ≤ len ∧ (match o with | none => Vs = [] ∧ Ds = [] | some y => Vs.length ≤ y.1 ∧ y.1 ≤ maxLen ∧ y.2.length = (y.1 - Vs.length) * 1 ∧ 0 < Vs.length)) (fun ⟨E, X, c, ar, lr, cr, offr, Lr, Vs, Ds, o⟩ => (be8v L).toNat - c) (fun ⟨E, X, c, ar, lr, cr, offr, Lr, Vs, Ds, o⟩ => ⟨55, w, fun i => ∃ k b, getH ([] : Heap) k = some b ∧ ρ k = i, E, X, ρ⟩) (fun ⟨E, X, c, ar, lr, cr, offr, Lr, Vs, Ds, o⟩ => match o with | none => [(0, eV (.slice ar lr cr)), (5, eV (.slice none 0 0)), (20, eI .u64 (be8v L)), (21, eI .u64 ((c : Nat) : Int))] | some (cp, rs) => [(0, eV (.slice ar lr cr)), (5, .s (.a (.ls 1 0 Vs.length cp))), (20, eI .u64 (be8v L)), (21, eI .u64 ((c : Nat) : Int))]) (fun ⟨E, X, c, ar, lr, cr, offr, Lr, Vs, Ds, o⟩ => match o with | none => [] | some (cp, rs) => [(1, ⟨[.vals (rowS Vs ++ rs)], 22⟩)]) (w, (fun i => i < w.heap.size ∧ ¬ ∃ k b, getH ([] : Heap) k = some b ∧ ρ k = i), 0, (if cap = 8 then a else a.map (·.add (8 * 1))), (len - 8), (cap - 8), (off + 8), (L.drop 8), [], [], none) (⟨(hbX.drop (m := 8) (by first | assumption | omega)), okB_drop hL _, trivial, trivial, trivial, Nat.zero_le _, rfl, by simp, by omega, ⟨rfl, rfl⟩⟩) rfl rfl rfl ?_
      rintro ⟨E, X, c, ar, lr, cr, offr, Lr, Vs, Ds, o⟩ hj
      obtain ⟨hbX, hLr, hall, hXE, hXo, hcn, hDs, hsp, hlr, ho⟩ := hj
      have hrv := be8v_lt hLr
      have hrl : Lr.length = lr := hbX.ln
      have hVD : Ds.length = Vs.length := BAll.len hall
      have hnn : (be8v L).toNat ≤ len / 8 := by omega
      have hlc := hbX.lc
      rcases o with _ | ⟨cp, rs⟩
      · obtain ⟨rfl, rfl⟩ := ho
        refine wc_seq ?_
        refine wc_reg [0] (by kernel_rfl) ?_
        refine wo_run [0] [0, 5, 20, 21, 22] [] (l' := [(0, eV (.slice ar lr cr)), (5, eV (.slice none 0 0)), (20, eI .u64 (be8v L)), (21, eI .u64 ((c : Nat) : Int)), (22, eB (decide (((c : Nat) : Int) < (be8v L))))]) (H' := []) (by kernel_rfl) ?_
        refine wo_nil ?_
        refine we_then ?_
        refine wc_seq ?_
        refine wc_cond rfl (fun h3 => ?_) (fun h3 => ?_)
        · replace h3 := of_decide_eq_true h3
          refine wc_skip ?_
          refine we_then ?_
          refine wc_seq ?_
          refine wc_block ?_
          refine wc_seq ?_
          refine wc_seq ?_
          refine wc_reg [0, 1, 2, 3, 4, 5, 6, 7, 8, 9, 10, 11] (by kernel_rfl) ?_
          refine wo_run [0, 1, 2, 3] [0, 5, 20, 21, 26] [] (l' := [(0, eV (.slice ar lr cr)), (5, eV (.slice none 0 0)), (20, eI .u64 (be8v L)), (21, eI .u64 ((c : Nat) : Int)), (26, eB (decide (((lr : Nat) : Int) < 8)))]) (H' := []) (by kernel_rfl) ?_
          refine wo_bool 26 rfl (fun h4 => ?_) (fun h4 => ?_)
          · replace h4 := of_decide_eq_true h4
            refine wo_run [4, 5, 6, 7, 8, 9, 10, 11] [0, 5, 20, 21, 34] [] (l' := [(0, eV (.slice ar lr cr)), (5, eV (.slice none 0 0)), (20, eI .u64 (be8v L)), (21, eI .u64 ((c : Nat) : Int)), (34, eB true)]) (H' := []) (by kernel_rfl) ?_
            refine wo_nil ?_
            refine we_then ?_
            refine wc_true rfl ?_
            refine wc_seq ?_
            refine wc_reg [0, 1] (by kernel_rfl) ?_
            refine wo_run [0, 1] [2, 3] [] (l' := [(2, eV (.slice none 0 0)), (3, eB false)]) (H' := []) (by kernel_rfl) ?_
            refine wo_nil ?_
            refine we_then ?_
            refine wc_ret ?_
            refine we_then_ret ?_
            refine we_block_ret ?_
            refine we_then_ret ?_
            refine we_then_ret ?_
            refine we_block_ret ?_
            refine we_then_ret ?_
            refine we_ret (.inl rfl) (v := .t [sV (.slice none 0 0), sB false]) (by kernel_rfl) ?_
            intro σ w' hf
            have hs : splitB L = none := by first | exact split_short hLn (by omega) | exact split_many hLn (by omega) (by omega) | exact split_part hLn (by omega) (by omega) hsp hrl (by omega) (by omega) | exact split_rest hLn (by omega) (by omega) hsp hrl (by omega) (by omega)
            refine ⟨ld0, ?_, ?_, hf.below noS⟩
            · rw [hs]; exact BBAt.nil _ _
            · rw [hs]; rfl
          · replace h4 := of_decide_eq_false h4
            refine wo_run [4] [0, 5, 20, 21, 26, 27] [] (l' := [(0, eV (.slice ar lr cr)), (5, eV (.slice none 0 0)), (20, eI .u64 (be8v L)), (21, eI .u64 ((c : Nat) : Int)), (26, eB false), (27, eV (.slice ar lr cr))]) (H' := []) (by kernel_rfl) ?_
            refine wo_op rfl rfl (ot_call (vs := [sV (.slice ar lr cr)]) rfl rfl rfl Tryd.func44 (by kernel_rfl) (by kernel_rfl) (by kernel_rfl) (eI .u64 (be8v Lr)) (trivial) (fun ρ w h => uint64_any ar lr cr b offr Lr w (h.bats hbX (fun _ _ => trivial)) (by omega) (hLr) ρ)) ?_
            refine wo_run [6, 7] [0, 5, 20, 21, 26, 28, 30] [] (l' := [(0, eV (.slice ar lr cr)), (5, eV (.slice none 0 0)), (20, eI .u64 (be8v L)), (21, eI .u64 ((c : Nat) : Int)), (26, eB false), (28, eI .u64 (be8v Lr)), (30, eI .i64 ((lr : Nat) : Int))]) (H' := []) (by kernel_rfl) ?_
            refine wo_op rfl rfl (ot_rd rfl (rd_recast (e := eI .i64 (IntKind.wrap .i64 (((lr : Nat) : Int) - 8))) (eI .i64 ((lr - 8 : Nat) : Int)) (by kernel_rfl) (congrArg (fun z => eI .i64 z) (w_sub_i64 (a := lr) (b := 8) (by omega))))) ?_
            refine wo_op rfl rfl (ot_rd rfl (rd_recast (e := eI .u64 (IntKind.wrap .u64 ((lr - 8 : Nat) : Int))) (eI .u64 ((lr - 8 : Nat) : Int)) (by kernel_rfl) (congrArg (fun z => eI .u64 z) (w_nat_u64 (by omega))))) ?_
            refine wo_run [10, 11] [0, 5, 20, 21, 34] [] (l' := [(0, eV (.slice ar lr cr)), (5, eV (.slice none 0 0)), (20, eI .u64 (be8v L)), (21, eI .u64 ((c : Nat) : Int)), (34, eB (decide ((be8v Lr) > ((lr - 8 : Nat) : Int))))]) (H' := []) (by kernel_rfl) ?_
            refine wo_nil ?_
            refine we_then ?_
            refine wc_cond rfl (fun h5 => ?_) (fun h5 => ?_)
            · replace h5 := of_decide_eq_true h5
              refine wc_seq ?_
              refine wc_reg [0, 1] (by kernel_rfl) ?_
              refine wo_run [0, 1] [2, 3] [] (l' := [(2, eV (.slice none 0 0)), (3, eB false)]) (H' := []) (by kernel_rfl) ?_
              refine wo_nil ?_
              refine we_then ?_
              refine wc_ret ?_
              refine we_then_ret ?_
              refine we_block_ret ?_
              refine we_then_ret ?_
              refine we_then_ret ?_
              refine we_block_ret ?_
              refine we_then_ret ?_
              refine we_ret (.inl rfl) (v := .t [sV (.slice none 0 0), sB false]) (by kernel_rfl) ?_
              intro σ w' hf
              have hs : splitB L = none := by first | exact split_short hLn (by omega) | exact split_many hLn (by omega) (by omega) | exact split_part hLn (by omega) (by omega) hsp hrl (by omega) (by omega) | exact split_rest hLn (by omega) (by omega) hsp hrl (by omega) (by omega)
              refine ⟨ld0, ?_, ?_, hf.below noS⟩
              · rw [hs]; exact BBAt.nil _ _
              · rw [hs]; rfl
            · replace h5 := of_decide_eq_false h5
              refine wc_skip ?_
              refine we_then ?_
              refine wc_seq ?_
              refine wc_reg [0, 1, 2, 3] (by kernel_rfl) ?_
              refine wo_run [0] [0, 5, 20, 21, 35] [] (l' := [(0, eV (.slice ar lr cr)), (5, eV (.slice none 0 0)), (20, eI .u64 (be8v L)), (21, eI .u64 ((c : Nat) : Int)), (35, eV (.slice ar lr cr))]) (H' := []) (by kernel_rfl) ?_
              refine wo_op rfl rfl (ot_call (vs := [sV (.slice ar lr cr)]) rfl rfl rfl Tryd.func44 (by kernel_rfl) (by kernel_rfl) (by kernel_rfl) (eI .u64 (be8v Lr)) (trivial) (fun ρ w h => uint64_any ar lr cr b offr Lr w (h.bats hbX (fun _ _ => trivial)) (by omega) (hLr) ρ)) ?_
              refine wo_op rfl rfl (ot_rd rfl (rd_recast (e := eI .i64 (IntKind.wrap .i64 (be8v Lr))) (eI .i64 (((be8v Lr).toNat : Nat) : Int)) (by kernel_rfl) (congrArg (fun z => eI .i64 z) (w_int hrv.1 (by omega))))) ?_
              refine wo_run [3] [0, 5, 6, 20, 21] [] (l' := [(0, eV (.slice ar lr cr)), (5, eV (.slice none 0 0)), (6, eI .i64 (((be8v Lr).toNat : Nat) : Int)), (20, eI .u64 (be8v L)), (21, eI .u64 ((c : Nat) : Int))]) (H' := []) (by kernel_rfl) ?_
              refine wo_nil ?_
              refine we_then ?_
              refine wc_seq ?_
              refine wc_reg [0, 1, 2, 3, 4, 5, 6, 7, 8] (by kernel_rfl) ?_
              refine wo_run [0, 1, 2] [0, 6, 20, 21, 38, 39, 40] [] (l' := [(0, eV (.slice ar lr cr)), (6, eI .i64 (((be8v Lr).toNat : Nat) : Int)), (20, eI .u64 (be8v L)), (21, eI .u64 ((c : Nat) : Int)), (38, eV (.slice none 0 0)), (39, eV (.slice ar lr cr)), (40, eI .i64 (((be8v Lr).toNat : Nat) : Int))]) (H' := []) (by kernel_rfl) ?_
              refine wo_op rfl rfl (ot_rd rfl (rd_recast (e := eI .i64 (IntKind.wrap .i64 (8 + (((be8v Lr).toNat : Nat) : Int)))) (eI .i64 ((8 + ((be8v Lr).toNat) : Nat) : Int)) (by kernel_rfl) (congrArg (fun z => eI .i64 z) (w_add_i64 (a := 8) (b := ((be8v Lr).toNat)) (by omega))))) ?_
              refine wo_op rfl rfl (ot_rd rfl (rd_sliceV (e := 5) (i := 8) (j := (8 + ((be8v Lr).toNat))) (size := 1) (vl := (some (.int .i64 8))) (vh := (some (.int .i64 ((8 + ((be8v Lr).toNat) : Nat) : Int)))) (ad' := (if cr = 8 then ar else ar.map (·.add (8 * 1)))) rfl (by kernel_rfl) (by kernel_rfl) rfl rfl rfl (fun w => sb_lh w true lr cr .i64 .i64 (rfl) (rfl) (by first | assumption | omega) (by first | assumption | omega)) (rfl))) ?_
              refine wo_ox rfl rfl (ox_cloneF (e := 5) (m := ((8 + ((be8v Lr).toNat)) - 8)) (L := ((Lr.take (8 + ((be8v Lr).toNat))).drop 8)) 43 rfl rfl (by kernel_rfl) (by kernel_rfl) (by kernel_rfl) rfl (srcof_bat (e' := 5) (by kernel_rfl) rfl ((hbX.take (m := (8 + ((be8v Lr).toNat))) (by first | assumption | omega)).drop (m := 8) (by first | assumption | omega)) (((hbX.take (m := (8 + ((be8v Lr).toNat))) (by first | assumption | omega)).drop (m := 8) (by first | assumption | omega)).nz)) (by simp only [List.length_take, List.length_drop, hrl]; omega) (by simp only [maxLen]; omega) (by omega) (by kernel_rfl)) (fun ⟨E1, X1, d1⟩ hd1 hc1 => ?_)
              replace hbX := BAt.ext hc1 (fun _ h => h) (fun _ _ h => h) hbX
              replace hall := BAll.app (hd1.1) (BAll.ext hc1 hall)
              refine wo_run [] [0, 6, 20, 21, 38, 43] [] (l' := [(0, eV (.slice ar lr cr)), (6, eI .i64 (((be8v Lr).toNat : Nat) : Int)), (20, eI .u64 (be8v L)), (21, eI .u64 ((c : Nat) : Int)), (38, eV (.slice none 0 0)), (43, eV (.slice d1.a d1.len d1.cap))]) (H' := []) (by kernel_rfl) ?_
              refine wo_op rfl rfl (ot_bslice (e := 22) (d := 44) (n := 1) (size := 1) [cV (.slice none 0 0)] [cV (.slice d1.a d1.len d1.cap)] rfl rfl rfl (by kernel_rfl) rfl (by kernel_rfl) (okc_one (okc_nil)) (fun _ => rfl) (by kernel_rfl) (by kernel_rfl)) ?_
              refine wo_ox rfl rfl (ox_append0 (e := 22) (m := 1) (size := 1) (bytes := 24) 45 [d1.val] rfl rfl (by kernel_rfl) (by kernel_rfl) (by kernel_rfl) rfl (srcof_oneV (e' := 22) rfl (by kernel_rfl) rfl rfl) (by decide) (by decide) (by decide) (by kernel_rfl)) (fun ⟨c1, r1⟩ hc1 _ => ?_)
              refine wo_run [] [0, 6, 20, 21, 45] [45] (l' := [(0, eV (.slice ar lr cr)), (6, eI .i64 (((be8v Lr).toNat : Nat) : Int)), (20, eI .u64 (be8v L)), (21, eI .u64 ((c : Nat) : Int)), (45, .s (.a (.ls 45 0 1 c1)))]) (H' := [(45, ⟨[.vals (rowS [d1] ++ r1)], 22⟩)]) (by kernel_rfl) ?_
              refine wo_run [8] [0, 5, 6, 20, 21] [45] (l' := [(0, eV (.slice ar lr cr)), (5, .s (.a (.ls 45 0 1 c1))), (6, eI .i64 (((be8v Lr).toNat : Nat) : Int)), (20, eI .u64 (be8v L)), (21, eI .u64 ((c : Nat) : Int))]) (H' := [(45, ⟨[.vals (rowS [d1] ++ r1)], 22⟩)]) (by kernel_rfl) ?_
              refine wo_nil ?_
              refine we_then ?_
              have hbXn := hbX.drop (m := 8 + (be8v Lr).toNat) (by omega)
              refine wc_reg [0, 1, 2, 3, 4] (by kernel_rfl) ?_
              refine wo_run [0, 1] [5, 20, 21, 46, 47] [45] (l' := [(5, .s (.a (.ls 45 0 1 c1))), (20, eI .u64 (be8v L)), (21, eI .u64 ((c : Nat) : Int)), (46, eV (.slice ar lr cr)), (47, eI .i64 (((be8v Lr).toNat : Nat) : Int))]) (H' := [(45, ⟨[.vals (rowS [d1] ++ r1)], 22⟩)]) (by kernel_rfl) ?_
              refine wo_op rfl rfl (ot_rd rfl (rd_recast (e := eI .i64 (IntKind.wrap .i64 (8 + (((be8v Lr).toNat : Nat) : Int)))) (eI .i64 ((8 + ((be8v Lr).toNat) : Nat) : Int)) (by kernel_rfl) (congrArg (fun z => eI .i64 z) (w_add_i64 (a := 8) (b := ((be8v Lr).toNat)) (by omega))))) ?_
              refine wo_op rfl rfl (ot_rd rfl (rd_sliceV (e := 5) (i := (8 + ((be8v Lr).toNat))) (j := lr) (size := 1) (vl := (some (.int .i64 ((8 + ((be8v Lr).toNat) : Nat) : Int)))) (vh := none) (ad' := (if cr = (8 + ((be8v Lr).toNat)) then ar else ar.map (·.add ((8 + ((be8v Lr).toNat)) * 1)))) rfl (by kernel_rfl) (by kernel_rfl) rfl rfl rfl (fun w => sb_l w true lr cr .i64 (rfl) (by first | assumption | omega)) (rfl))) ?_
              refine wo_run [4] [0, 5, 20, 21] [45] (l' := [(0, eV (.slice (if cr = (8 + ((be8v Lr).toNat)) then ar else ar.map (·.add ((8 + ((be8v Lr).toNat)) * 1))) (lr - (8 + ((be8v Lr).toNat))) (cr - (8 + ((be8v Lr).toNat))))), (5, .s (.a (.ls 45 0 1 c1))), (20, eI .u64 (be8v L)), (21, eI .u64 ((c : Nat) : Int))]) (H' := [(45, ⟨[.vals (rowS [d1] ++ r1)], 22⟩)]) (by kernel_rfl) ?_
              refine wo_nil ?_
              refine we_block ?_
              refine we_then ?_
              refine wc_reg [0, 1] (by kernel_rfl) ?_
              refine wo_op rfl rfl (ot_rd rfl (rd_recast (e := eI .u64 (IntKind.wrap .u64 (((c : Nat) : Int) + 1))) (eI .u64 ((c + 1 : Nat) : Int)) (by kernel_rfl) (congrArg (fun z => eI .u64 z) (w_add_u64 (a := c) (b := 1) (by omega))))) ?_
              refine wo_run [1] [0, 5, 20, 21] [45] (l' := [(0, eV (.slice (if cr = (8 + ((be8v Lr).toNat)) then ar else ar.map (·.add ((8 + ((be8v Lr).toNat)) * 1))) (lr - (8 + ((be8v Lr).toNat))) (cr - (8 + ((be8v Lr).toNat))))), (5, .s (.a (.ls 45 0 1 c1))), (20, eI .u64 (be8v L)), (21, eI .u64 ((c + 1 : Nat) : Int))]) (H' := [(45, ⟨[.vals (rowS [d1] ++ r1)], 22⟩)]) (by kernel_rfl) ?_
              refine wo_nil ?_
              refine we_rest [0, 5, 20, 21] [45] (l' := [(0, eV (.slice (if cr = (8 + ((be8v Lr).toNat)) then ar else ar.map (·.add ((8 + ((be8v Lr).toNat)) * 1))) (lr - (8 + ((be8v Lr).toNat))) (cr - (8 + ((be8v Lr).toNat))))), (5, .s (.a (.ls 45 0 1 c1))), (20, eI .u64 (be8v L)), (21, eI .u64 ((c + 1 : Nat) : Int))]) (H' := [(45, ⟨[.vals (rowS [d1] ++ r1)], 22⟩)]) (by kernel_rfl) (by kernel_rfl) ?_
              refine we_ren [(45, 1)] (l' := [(0, eV (.slice (if cr = (8 + ((be8v Lr).toNat)) then ar else ar.map (·.add ((8 + ((be8v Lr).toNat)) * 1))) (lr - (8 + ((be8v Lr).toNat))) (cr - (8 + ((be8v Lr).toNat))))), (5, .s (.a (.ls 1 0 1 c1))), (20, eI .u64 (be8v L)), (21, eI .u64 ((c + 1 : Nat) : Int))]) (H' := [(1, ⟨[.vals (rowS [d1] ++ r1)], 22⟩)]) (by kernel_rfl) (by kernel_rfl) (by kernel_rfl) ?_
              have hstep := split_step (k := (be8v L).toNat - (c + 1)) (k' := (be8v L).toNat - c) (by omega) (by omega) (by omega : be8v Lr ≤ ((lr - 8 : Nat) : Int)) hrl
              rw [List.drop_take, Nat.add_sub_cancel_left] at hall
              exact we_round (E1, X1, c + 1, (if cr = (8 + ((be8v Lr).toNat)) then ar else ar.map (·.add ((8 + ((be8v Lr).toNat)) * 1))), (lr - (8 + ((be8v Lr).toNat))), (cr - (8 + ((be8v Lr).toNat))), (offr + (8 + ((be8v Lr).toNat))), (Lr.drop (8 + ((be8v Lr).toNat))), [d1], [(Lr.drop 8).take (be8v Lr).toNat], some (c1, r1)) ⟨hbXn, okB_drop hLr _, hall, hXE, trivial, by omega, by have hDs2 := hDs; simp at hDs2 ⊢; omega, split_more hsp hstep (by omega), by omega, by simpa using hc1.1, hc1.2.1, by simpa using hc1.2.2, by simp⟩ (by show (be8v L).toNat - (c + 1) < (be8v L).toNat - c; omega) rfl (sub_ofE [0, 5, 20, 21] rfl) (sub_of [1] rfl)
        · replace h3 := of_decide_eq_false h3
          refine wc_exit ?_
          refine we_then_exit ?_
          refine we_then_exit ?_
          refine we_block_exit ?_
          refine we_then ?_
          refine wc_seq ?_
          refine wc_seq ?_
          refine wc_reg [0, 1, 2] (by kernel_rfl) ?_
          refine wo_run [0, 1, 2] [5, 53] [] (l' := [(5, eV (.slice none 0 0)), (53, eB (decide (((lr : Nat) : Int) > 0)))]) (H' := []) (by kernel_rfl) ?_
          refine wo_nil ?_
          refine we_then ?_
          refine wc_cond rfl (fun h6 => ?_) (fun h6 => ?_)
          · replace h6 := of_decide_eq_true h6
            refine wc_seq ?_
            refine wc_reg [0, 1] (by kernel_rfl) ?_
            refine wo_run [0, 1] [2, 3] [] (l' := [(2, eV (.slice none 0 0)), (3, eB false)]) (H' := []) (by kernel_rfl) ?_
            refine wo_nil ?_
            refine we_then ?_
            refine wc_ret ?_
            refine we_then_ret ?_
            refine we_ret (.inl rfl) (v := .t [sV (.slice none 0 0), sB false]) (by kernel_rfl) ?_
            intro σ w' hf
            have hs : splitB L = none := by first | exact split_short hLn (by omega) | exact split_many hLn (by omega) (by omega) | exact split_part hLn (by omega) (by omega) hsp hrl (by omega) (by omega) | exact split_rest hLn (by omega) (by omega) hsp hrl (by omega) (by omega)
            refine ⟨ld0, ?_, ?_, hf.below noS⟩
            · rw [hs]; exact BBAt.nil _ _
            · rw [hs]; rfl
          · replace h6 := of_decide_eq_false h6
            refine wc_skip ?_
            refine we_then ?_
            refine wc_seq ?_
            refine wc_reg [0, 1, 2] (by kernel_rfl) ?_
            refine wo_run [0, 1, 2] [2, 3] [] (l' := [(2, eV (.slice none 0 0)), (3, eB true)]) (H' := []) (by kernel_rfl) ?_
            refine wo_nil ?_
            refine we_then ?_
            refine wc_ret ?_
            refine we_ret (.inl rfl) (v := .t [sV (.slice none 0 0), sB true]) (by kernel_rfl) ?_
            intro σ w' hf
            have hs : splitB L = some [] := split_all hLn (by omega) (by omega) hsp hrl (by omega) (by omega)
            refine ⟨ld0, ?_, ?_, hf.below noS⟩
            · rw [hs]; exact BBAt.nil _ _
            · rw [hs]; rfl
      · refine wc_seq ?_
        refine wc_reg [0] (by kernel_rfl) ?_
        refine wo_run [0] [0, 5, 20, 21, 22] [1] (l' := [(0, eV (.slice ar lr cr)), (5, .s (.a (.ls 1 0 Vs.length cp))), (20, eI .u64 (be8v L)), (21, eI .u64 ((c : Nat) : Int)), (22, eB (decide (((c : Nat) : Int) < (be8v L))))]) (H' := [(1, ⟨[.vals (rowS Vs ++ rs)], 22⟩)]) (by kernel_rfl) ?_
        refine wo_nil ?_
        refine we_then ?_
        refine wc_seq ?_
        refine wc_cond rfl (fun h7 => ?_) (fun h7 => ?_)
        · replace h7 := of_decide_eq_true h7
          refine wc_skip ?_
          refine we_then ?_
          refine wc_seq ?_
          refine wc_block ?_
          refine wc_seq ?_
          refine wc_seq ?_
          refine wc_reg [0, 1, 2, 3, 4, 5, 6, 7, 8, 9, 10, 11] (by kernel_rfl) ?_
          refine wo_run [0, 1, 2, 3] [0, 5, 20, 21, 26] [1] (l' := [(0, eV (.slice ar lr cr)), (5, .s (.a (.ls 1 0 Vs.length cp))), (20, eI .u64 (be8v L)), (21, eI .u64 ((c : Nat) : Int)), (26, eB (decide (((lr : Nat) : Int) < 8)))]) (H' := [(1, ⟨[.vals (rowS Vs ++ rs)], 22⟩)]) (by kernel_rfl) ?_
          refine wo_bool 26 rfl (fun h8 => ?_) (fun h8 => ?_)
          · replace h8 := of_decide_eq_true h8
            refine wo_run [4, 5, 6, 7, 8, 9, 10, 11] [0, 5, 20, 21, 34] [1] (l' := [(0, eV (.slice ar lr cr)), (5, .s (.a (.ls 1 0 Vs.length cp))), (20, eI .u64 (be8v L)), (21, eI .u64 ((c : Nat) : Int)), (34, eB true)]) (H' := [(1, ⟨[.vals (rowS Vs ++ rs)], 22⟩)]) (by kernel_rfl) ?_
            refine wo_nil ?_
            refine we_then ?_
            refine wc_true rfl ?_
            refine wc_seq ?_
            refine wc_reg [0, 1] (by kernel_rfl) ?_
            refine wo_run [0, 1] [2, 3] [] (l' := [(2, eV (.slice none 0 0)), (3, eB false)]) (H' := []) (by kernel_rfl) ?_
            refine wo_nil ?_
            refine we_then ?_
            refine wc_ret ?_
            refine we_then_ret ?_
            refine we_block_ret ?_
            refine we_then_ret ?_
            refine we_then_ret ?_
            refine we_block_ret ?_
            refine we_then_ret ?_
            refine we_ret (.inl rfl) (v := .t [sV (.slice none 0 0), sB false]) (by kernel_rfl) ?_
            intro σ w' hf
            have hs : splitB L = none := by first | exact split_short hLn (by omega) | exact split_many hLn (by omega) (by omega) | exact split_part hLn (by omega) (by omega) hsp hrl (by omega) (by omega) | exact split_rest hLn (by omega) (by omega) hsp hrl (by omega) (by omega)
            refine ⟨ld0, ?_, ?_, hf.below noS⟩
            · rw [hs]; exact BBAt.nil _ _
            · rw [hs]; rfl
          · replace h8 := of_decide_eq_false h8
            refine wo_run [4] [0, 5, 20, 21, 26, 27] [1] (l' := [(0, eV (.slice ar lr cr)), (5, .s (.a (.ls 1 0 Vs.length cp))), (20, eI .u64 (be8v L)), (21, eI .u64 ((c : Nat) : Int)), (26, eB false), (27, eV (.slice ar lr cr))]) (H' := [(1, ⟨[.vals (rowS Vs ++ rs)], 22⟩)]) (by kernel_rfl) ?_
            refine wo_op rfl rfl (ot_call (vs := [sV (.slice ar lr cr)]) rfl rfl rfl Tryd.func44 (by kernel_rfl) (by kernel_rfl) (by kernel_rfl) (eI .u64 (be8v Lr)) (trivial) (fun ρ w h => uint64_any ar lr cr b offr Lr w (h.bats hbX (fun _ _ => trivial)) (by omega) (hLr) ρ)) ?_
            refine wo_run [6, 7] [0, 5, 20, 21, 26, 28, 30] [1] (l' := [(0, eV (.slice ar lr cr)), (5, .s (.a (.ls 1 0 Vs.length cp))), (20, eI .u64 (be8v L)), (21, eI .u64 ((c : Nat) : Int)), (26, eB false), (28, eI .u64 (be8v Lr)), (30, eI .i64 ((lr : Nat) : Int))]) (H' := [(1, ⟨[.vals (rowS Vs ++ rs)], 22⟩)]) (by kernel_rfl) ?_
            refine wo_op rfl rfl (ot_rd rfl (rd_recast (e := eI .i64 (IntKind.wrap .i64 (((lr : Nat) : Int) - 8))) (eI .i64 ((lr - 8 : Nat) : Int)) (by kernel_rfl) (congrArg (fun z => eI .i64 z) (w_sub_i64 (a := lr) (b := 8) (by omega))))) ?_
            refine wo_op rfl rfl (ot_rd rfl (rd_recast (e := eI .u64 (IntKind.wrap .u64 ((lr - 8 : Nat) : Int))) (eI .u64 ((lr - 8 : Nat) : Int)) (by kernel_rfl) (congrArg (fun z => eI .u64 z) (w_nat_u64 (by omega))))) ?_
            refine wo_run [10, 11] [0, 5, 20, 21, 34] [1] (l' := [(0, eV (.slice ar lr cr)), (5, .s (.a (.ls 1 0 Vs.length cp))), (20, eI .u64 (be8v L)), (21, eI .u64 ((c : Nat) : Int)), (34, eB (decide ((be8v Lr) > ((lr - 8 : Nat) : Int))))]) (H' := [(1, ⟨[.vals (rowS Vs ++ rs)], 22⟩)]) (by kernel_rfl) ?_
            refine wo_nil ?_
            refine we_then ?_
            refine wc_cond rfl (fun h9 => ?_) (fun h9 => ?_)
            · replace h9 := of_decide_eq_true h9
              refine wc_seq ?_
              refine wc_reg [0, 1] (by kernel_rfl) ?_
              refine wo_run [0, 1] [2, 3] [] (l' := [(2, eV (.slice none 0 0)), (3, eB false)]) (H' := []) (by kernel_rfl) ?_
              refine wo_nil ?_
              refine we_then ?_
              refine wc_ret ?_
              refine we_then_ret ?_
              refine we_block_ret ?_
              refine we_then_ret ?_
              refine we_then_ret ?_
              refine we_block_ret ?_
              refine we_then_ret ?_
              refine we_ret (.inl rfl) (v := .t [sV (.slice none 0 0), sB false]) (by kernel_rfl) ?_
              intro σ w' hf
              have hs : splitB L = none := by first | exact split_short hLn (by omega) | exact split_many hLn (by omega) (by omega) | exact split_part hLn (by omega) (by omega) hsp hrl (by omega) (by omega) | exact split_rest hLn (by omega) (by omega) hsp hrl (by omega) (by omega)
              refine ⟨ld0, ?_, ?_, hf.below noS⟩
              · rw [hs]; exact BBAt.nil _ _
              · rw [hs]; rfl
            · replace h9 := of_decide_eq_false h9
              refine wc_skip ?_
              refine we_then ?_
              refine wc_seq ?_
              refine wc_reg [0, 1, 2, 3] (by kernel_rfl) ?_
              refine wo_run [0] [0, 5, 20, 21, 35] [1] (l' := [(0, eV (.slice ar lr cr)), (5, .s (.a (.ls 1 0 Vs.length cp))), (20, eI .u64 (be8v L)), (21, eI .u64 ((c : Nat) : Int)), (35, eV (.slice ar lr cr))]) (H' := [(1, ⟨[.vals (rowS Vs ++ rs)], 22⟩)]) (by kernel_rfl) ?_
              refine wo_op rfl rfl (ot_call (vs := [sV (.slice ar lr cr)]) rfl rfl rfl Tryd.func44 (by kernel_rfl) (by kernel_rfl) (by kernel_rfl) (eI .u64 (be8v Lr)) (trivial) (fun ρ w h => uint64_any ar lr cr b offr Lr w (h.bats hbX (fun _ _ => trivial)) (by omega) (hLr) ρ)) ?_
              refine wo_op rfl rfl (ot_rd rfl (rd_recast (e := eI .i64 (IntKind.wrap .i64 (be8v Lr))) (eI .i64 (((be8v Lr).toNat : Nat) : Int)) (by kernel_rfl) (congrArg (fun z => eI .i64 z) (w_int hrv.1 (by omega))))) ?_
              refine wo_run [3] [0, 5, 6, 20, 21] [1] (l' := [(0, eV (.slice ar lr cr)), (5, .s (.a (.ls 1 0 Vs.length cp))), (6, eI .i64 (((be8v Lr).toNat : Nat) : Int)), (20, eI .u64 (be8v L)), (21, eI .u64 ((c : Nat) : Int))]) (H' := [(1, ⟨[.vals (rowS Vs ++ rs)], 22⟩)]) (by kernel_rfl) ?_
              refine wo_nil ?_
              refine we_then ?_
              refine wc_seq ?_
              refine wc_reg [0, 1, 2, 3, 4, 5, 6, 7, 8] (by kernel_rfl) ?_
              refine wo_run [0, 1, 2] [0, 6, 20, 21, 38, 39, 40] [1] (l' := [(0, eV (.slice ar lr cr)), (6, eI .i64 (((be8v Lr).toNat : Nat) : Int)), (20, eI .u64 (be8v L)), (21, eI .u64 ((c : Nat) : Int)), (38, .s (.a (.ls 1 0 Vs.length cp))), (39, eV (.slice ar lr cr)), (40, eI .i64 (((be8v Lr).toNat : Nat) : Int))]) (H' := [(1, ⟨[.vals (rowS Vs ++ rs)], 22⟩)]) (by kernel_rfl) ?_
              refine wo_op rfl rfl (ot_rd rfl (rd_recast (e := eI .i64 (IntKind.wrap .i64 (8 + (((be8v Lr).toNat : Nat) : Int)))) (eI .i64 ((8 + ((be8v Lr).toNat) : Nat) : Int)) (by kernel_rfl) (congrArg (fun z => eI .i64 z) (w_add_i64 (a := 8) (b := ((be8v Lr).toNat)) (by omega))))) ?_
              refine wo_op rfl rfl (ot_rd rfl (rd_sliceV (e := 5) (i := 8) (j := (8 + ((be8v Lr).toNat))) (size := 1) (vl := (some (.int .i64 8))) (vh := (some (.int .i64 ((8 + ((be8v Lr).toNat) : Nat) : Int)))) (ad' := (if cr = 8 then ar else ar.map (·.add (8 * 1)))) rfl (by kernel_rfl) (by kernel_rfl) rfl rfl rfl (fun w => sb_lh w true lr cr .i64 .i64 (rfl) (rfl) (by first | assumption | omega) (by first | assumption | omega)) (rfl))) ?_
              refine wo_ox rfl rfl (ox_cloneF (e := 5) (m := ((8 + ((be8v Lr).toNat)) - 8)) (L := ((Lr.take (8 + ((be8v Lr).toNat))).drop 8)) 43 rfl rfl (by kernel_rfl) (by kernel_rfl) (by kernel_rfl) rfl (srcof_bat (e' := 5) (by kernel_rfl) rfl ((hbX.take (m := (8 + ((be8v Lr).toNat))) (by first | assumption | omega)).drop (m := 8) (by first | assumption | omega)) (((hbX.take (m := (8 + ((be8v Lr).toNat))) (by first | assumption | omega)).drop (m := 8) (by first | assumption | omega)).nz)) (by simp only [List.length_take, List.length_drop, hrl]; omega) (by simp only [maxLen]; omega) (by omega) (by kernel_rfl)) (fun ⟨E1, X1, d1⟩ hd1 hc1 => ?_)
              replace hbX := BAt.ext hc1 (fun _ h => h) (fun _ _ h => h) hbX
              replace hall := BAll.app (hd1.1) (BAll.ext hc1 hall)
              refine wo_run [] [0, 6, 20, 21, 38, 43] [1] (l' := [(0, eV (.slice ar lr cr)), (6, eI .i64 (((be8v Lr).toNat : Nat) : Int)), (20, eI .u64 (be8v L)), (21, eI .u64 ((c : Nat) : Int)), (38, .s (.a (.ls 1 0 Vs.length cp))), (43, eV (.slice d1.a d1.len d1.cap))]) (H' := [(1, ⟨[.vals (rowS Vs ++ rs)], 22⟩)]) (by kernel_rfl) ?_
              refine wo_op rfl rfl (ot_bslice (e := 22) (d := 44) (n := 1) (size := 1) [cV (.slice none 0 0)] [cV (.slice d1.a d1.len d1.cap)] rfl rfl rfl (by kernel_rfl) rfl (by kernel_rfl) (okc_one (okc_nil)) (fun _ => rfl) (by kernel_rfl) (by kernel_rfl)) ?_
              refine wo_ox rfl rfl (ox_appendS (e := 22) (m := 1) (size := 1) (bytes := 24) 45 1 Vs.length cp (rowS Vs) [d1.val] rs [44] rfl rfl (by kernel_rfl) (by kernel_rfl) (by kernel_rfl) rfl rfl (by rw [rowS_len, Nat.mul_one]) (ho.2.2.1) (ho.1) (ho.2.1) (srcof_oneV (e' := 22) rfl (by kernel_rfl) rfl rfl) (by simp only [maxLen]; omega) (by omega) (by kernel_rfl)) (fun ⟨c1, r1⟩ hc1 _ => ?_)
              refine wo_flat 45 [.vals (rowS (Vs ++ [d1]) ++ r1)] rfl (fun ρ => by rw [rowS_app]) (okCs_vals _) ?_
              refine wo_run [] [0, 6, 20, 21, 45] [45] (l' := [(0, eV (.slice ar lr cr)), (6, eI .i64 (((be8v Lr).toNat : Nat) : Int)), (20, eI .u64 (be8v L)), (21, eI .u64 ((c : Nat) : Int)), (45, .s (.a (.ls 45 0 (Vs.length + 1) c1)))]) (H' := [(45, ⟨[.vals (rowS (Vs ++ [d1]) ++ r1)], 22⟩)]) (by kernel_rfl) ?_
              refine wo_run [8] [0, 5, 6, 20, 21] [45] (l' := [(0, eV (.slice ar lr cr)), (5, .s (.a (.ls 45 0 (Vs.length + 1) c1))), (6, eI .i64 (((be8v Lr).toNat : Nat) : Int)), (20, eI .u64 (be8v L)), (21, eI .u64 ((c : Nat) : Int))]) (H' := [(45, ⟨[.vals (rowS (Vs ++ [d1]) ++ r1)], 22⟩)]) (by kernel_rfl) ?_
              refine wo_nil ?_
              refine we_then ?_
              have hbXn := hbX.drop (m := 8 + (be8v Lr).toNat) (by omega)
              refine wc_reg [0, 1, 2, 3, 4] (by kernel_rfl) ?_
              refine wo_run [0, 1] [5, 20, 21, 46, 47] [45] (l' := [(5, .s (.a (.ls 45 0 (Vs.length + 1) c1))), (20, eI .u64 (be8v L)), (21, eI .u64 ((c : Nat) : Int)), (46, eV (.slice ar lr cr)), (47, eI .i64 (((be8v Lr).toNat : Nat) : Int))]) (H' := [(45, ⟨[.vals (rowS (Vs ++ [d1]) ++ r1)], 22⟩)]) (by kernel_rfl) ?_
              refine wo_op rfl rfl (ot_rd rfl (rd_recast (e := eI .i64 (IntKind.wrap .i64 (8 + (((be8v Lr).toNat : Nat) : Int)))) (eI .i64 ((8 + ((be8v Lr).toNat) : Nat) : Int)) (by kernel_rfl) (congrArg (fun z => eI .i64 z) (w_add_i64 (a := 8) (b := ((be8v Lr).toNat)) (by omega))))) ?_
              refine wo_op rfl rfl (ot_rd rfl (rd_sliceV (e := 5) (i := (8 + ((be8v Lr).toNat))) (j := lr) (size := 1) (vl := (some (.int .i64 ((8 + ((be8v Lr).toNat) : Nat) : Int)))) (vh := none) (ad' := (if cr = (8 + ((be8v Lr).toNat)) then ar else ar.map (·.add ((8 + ((be8v Lr).toNat)) * 1)))) rfl (by kernel_rfl) (by kernel_rfl) rfl rfl rfl (fun w => sb_l w true lr cr .i64 (rfl) (by first | assumption | omega)) (rfl))) ?_
              refine wo_run [4] [0, 5, 20, 21] [45] (l' := [(0, eV (.slice (if cr = (8 + ((be8v Lr).toNat)) then ar else ar.map (·.add ((8 + ((be8v Lr).toNat)) * 1))) (lr - (8 + ((be8v Lr).toNat))) (cr - (8 + ((be8v Lr).toNat))))), (5, .s (.a (.ls 45 0 (Vs.length + 1) c1))), (20, eI .u64 (be8v L)), (21, eI .u64 ((c : Nat) : Int))]) (H' := [(45, ⟨[.vals (rowS (Vs ++ [d1]) ++ r1)], 22⟩)]) (by kernel_rfl) ?_
              refine wo_nil ?_
              refine we_block ?_
              refine we_then ?_
              refine wc_reg [0, 1] (by kernel_rfl) ?_
              refine wo_op rfl rfl (ot_rd rfl (rd_recast (e := eI .u64 (IntKind.wrap .u64 (((c : Nat) : Int) + 1))) (eI .u64 ((c + 1 : Nat) : Int)) (by kernel_rfl) (congrArg (fun z => eI .u64 z) (w_add_u64 (a := c) (b := 1) (by omega))))) ?_
              refine wo_run [1] [0, 5, 20, 21] [45] (l' := [(0, eV (.slice (if cr = (8 + ((be8v Lr).toNat)) then ar else ar.map (·.add ((8 + ((be8v Lr).toNat)) * 1))) (lr - (8 + ((be8v Lr).toNat))) (cr - (8 + ((be8v Lr).toNat))))), (5, .s (.a (.ls 45 0 (Vs.length + 1) c1))), (20, eI .u64 (be8v L)), (21, eI .u64 ((c + 1 : Nat) : Int))]) (H' := [(45, ⟨[.vals (rowS (Vs ++ [d1]) ++ r1)], 22⟩)]) (by kernel_rfl) ?_
              refine wo_nil ?_
              refine we_rest [0, 5, 20, 21] [45] (l' := [(0, eV (.slice (if cr = (8 + ((be8v Lr).toNat)) then ar else ar.map (·.add ((8 + ((be8v Lr).toNat)) * 1))) (lr - (8 + ((be8v Lr).toNat))) (cr - (8 + ((be8v Lr).toNat))))), (5, .s (.a (.ls 45 0 (Vs.length + 1) c1))), (20, eI .u64 (be8v L)), (21, eI .u64 ((c + 1 : Nat) : Int))]) (H' := [(45, ⟨[.vals (rowS (Vs ++ [d1]) ++ r1)], 22⟩)]) (by kernel_rfl) (by kernel_rfl) ?_
              refine we_ren [(45, 1)] (l' := [(0, eV (.slice (if cr = (8 + ((be8v Lr).toNat)) then ar else ar.map (·.add ((8 + ((be8v Lr).toNat)) * 1))) (lr - (8 + ((be8v Lr).toNat))) (cr - (8 + ((be8v Lr).toNat))))), (5, .s (.a (.ls 1 0 (Vs.length + 1) c1))), (20, eI .u64 (be8v L)), (21, eI .u64 ((c + 1 : Nat) : Int))]) (H' := [(1, ⟨[.vals (rowS (Vs ++ [d1]) ++ r1)], 22⟩)]) (by kernel_rfl) (by kernel_rfl) (by kernel_rfl) ?_
              have hstep := split_step (k := (be8v L).toNat - (c + 1)) (k' := (be8v L).toNat - c) (by omega) (by omega) (by omega : be8v Lr ≤ ((lr - 8 : Nat) : Int)) hrl
              rw [List.drop_take, Nat.add_sub_cancel_left] at hall
              rw [show (Vs.length + 1) = (Vs ++ [d1]).length from by simp]
              exact we_round (E1, X1, c + 1, (if cr = (8 + ((be8v Lr).toNat)) then ar else ar.map (·.add ((8 + ((be8v Lr).toNat)) * 1))), (lr - (8 + ((be8v Lr).toNat))), (cr - (8 + ((be8v Lr).toNat))), (offr + (8 + ((be8v Lr).toNat))), (Lr.drop (8 + ((be8v Lr).toNat))), (Vs ++ [d1]), (Ds ++ [(Lr.drop 8).take (be8v Lr).toNat]), some (c1, r1)) ⟨hbXn, okB_drop hLr _, hall, hXE, trivial, by omega, by have hDs2 := hDs; simp at hDs2 ⊢; omega, split_more hsp hstep (by omega), by omega, by simpa using hc1.1, hc1.2.1, by simpa using hc1.2.2, by simp⟩ (by show (be8v L).toNat - (c + 1) < (be8v L).toNat - c; omega) rfl (sub_ofE [0, 5, 20, 21] rfl) (sub_of [1] rfl)
        · replace h7 := of_decide_eq_false h7
          refine wc_exit ?_
          refine we_then_exit ?_
          refine we_then_exit ?_
          refine we_block_exit ?_
          refine we_then ?_
          refine wc_seq ?_
          refine wc_seq ?_
          refine wc_reg [0, 1, 2] (by kernel_rfl) ?_
          refine wo_run [0, 1, 2] [5, 53] [1] (l' := [(5, .s (.a (.ls 1 0 Vs.length cp))), (53, eB (decide (((lr : Nat) : Int) > 0)))]) (H' := [(1, ⟨[.vals (rowS Vs ++ rs)], 22⟩)]) (by kernel_rfl) ?_
          refine wo_nil ?_
          refine we_then ?_
          refine wc_cond rfl (fun h10 => ?_) (fun h10 => ?_)
          · replace h10 := of_decide_eq_true h10
            refine wc_seq ?_
            refine wc_reg [0, 1] (by kernel_rfl) ?_
            refine wo_run [0, 1] [2, 3] [] (l' := [(2, eV (.slice none 0 0)), (3, eB false)]) (H' := []) (by kernel_rfl) ?_
            refine wo_nil ?_
            refine we_then ?_
            refine wc_ret ?_
            refine we_then_ret ?_
            refine we_ret (.inl rfl) (v := .t [sV (.slice none 0 0), sB false]) (by kernel_rfl) ?_
            intro σ w' hf
            have hs : splitB L = none := by first | exact split_short hLn (by omega) | exact split_many hLn (by omega) (by omega) | exact split_part hLn (by omega) (by omega) hsp hrl (by omega) (by omega) | exact split_rest hLn (by omega) (by omega) hsp hrl (by omega) (by omega)
            refine ⟨ld0, ?_, ?_, hf.below noS⟩
            · rw [hs]; exact BBAt.nil _ _
            · rw [hs]; rfl
          · replace h10 := of_decide_eq_false h10
            refine wc_skip ?_
            refine we_then ?_
            refine wc_seq ?_
            refine wc_reg [0, 1, 2] (by kernel_rfl) ?_
            refine wo_run [0, 1, 2] [2, 3] [1] (l' := [(2, .s (.a (.ls 1 0 Vs.length cp))), (3, eB true)]) (H' := [(1, ⟨[.vals (rowS Vs ++ rs)], 22⟩)]) (by kernel_rfl) ?_
            refine wo_nil ?_
            refine we_then ?_
            refine wc_ret ?_
            refine we_ret (.inl rfl) (v := .t [.a (.ls 1 0 Vs.length cp), sB true]) (by kernel_rfl) ?_
            intro σ w' hf
            have hs : splitB L = some Ds := split_all hLn (by omega) (by omega) hsp hrl (by omega) (by omega)
            refine ⟨⟨some ⟨σ 1, 0, none⟩, Vs.length, cp, σ 1, 0, fun i => Vs.getD i sd0⟩, ?_, ?_, hf.below noS⟩
            · rw [hs]; exact Fin.bball hf noSi (k := 1) rfl rfl ho.1 ho.2.1 hall
            · rw [hs]; rfl

end Go.Proofs.YtjcghjgennddaaaDoor
