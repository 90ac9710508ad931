/- A run of four validators: a move. -/
import Derived.Test.YtckhcmdjgkoocaaRulesP1
namespace Go.Proofs.Ytckhcmdjgkoocaa
open Go.RowKit Go.Sx
set_option linter.unusedVariables false
set_option linter.unusedSimpArgs false


set_option maxHeartbeats 4000000 in
theorem play2_any (r : Run) (cap : Nat) (rest : List Value) (hr : r.ok cap rest) (m : Mv) (hw : (IntKind.wrap .i64 (Int.tmod (IntKind.wrap .u64 m.who) 4)) = 2) (w : World) (ρ : Nat → Nat) (hH : HeapAt ρ [(100000, ⟨(cRun 100001 r.n cap r.s0 r.s1 r.s2), 51⟩), (100001, ⟨[.vals (rowV gB r.L ++ rest)], 47⟩)] w) :
    Calls Try.prog 24 ([sL 100000 0, .agg [cI .i64 m.kind, cI .i64 m.who, cI .i64 m.block, cI .i64 m.view]].map (SV.conc ρ)).toArray w fun r' w' => ∃ (x : Option (Nat × List Value)) (σ : Nat → Nat), playOk r m x ∧ r' = .returned (EV.conc σ (.t [])) ∧ Ran ρ [(100000, ⟨(cRun 100001 r.n cap r.s0 r.s1 r.s2), 51⟩), (100001, ⟨[.vals (rowV gB r.L ++ rest)], 47⟩)] (playH r m 2 cap rest x) w w' σ := by
  refine calls_enter (vs := [sL 100000 0, .agg [cI .i64 m.kind, cI .i64 m.who, cI .i64 m.block, cI .i64 m.view]]) (N := 88) [(100000, ⟨(cRun 100001 r.n cap r.s0 r.s1 r.s2), 51⟩), (100001, ⟨[.vals (rowV gB r.L ++ rest)], 47⟩)] ρ Try.func24 rfl rfl (Nat.le_of_ble_eq_true rfl) (okv_a (okv_agg (okc_one (okc_one (okc_one (okc_one (okc_nil))))) (okv_nil))) hH.hp hH.inj ?_ _ rfl
  refine wc_seq ?_
  refine wc_reg [0] (by kernel_rfl) ?_
  refine wo_run [0] [0, 3] [3, 100000, 100001] (l' := [(0, eL 100000 0), (3, eL 3 0)]) (H' := [(3, ⟨[cI .i64 m.kind, cI .i64 m.who, cI .i64 m.block, cI .i64 m.view], 55⟩), (100000, ⟨(cRun 100001 r.n cap r.s0 r.s1 r.s2), 51⟩), (100001, ⟨[.vals (rowV gB r.L ++ rest)], 47⟩)]) (by kernel_rfl) ?_
  refine wo_nil ?_
  refine we_then ?_
  refine wc_seq ?_
  refine wc_draw (n := 12) [(3, ⟨[cI .i64 m.kind, cI .i64 m.who, cI .i64 m.block, cI .i64 m.view], 55⟩), (100000, ⟨(cRun 100001 r.n cap r.s0 r.s1 r.s2), 51⟩), (100001, ⟨[.vals (rowV gB r.L ++ rest)], 47⟩)] (by kernel_rfl) rfl (sub_of [3, 100000, 100001] (by kernel_rfl)) (fun ρ0 => ?_)
  refine wa_takes (fuel := 5) [0, 1, 2, 3, 4, 5, 6] [0, 3, 8, 12] (listed' := #[true, true, true, true, true, true, true, false, false, false, false, false]) (l' := [(0, eL 100000 0), (3, eL 3 0), (8, eI .u64 (IntKind.wrap .u64 m.block)), (12, .s (.a (.ls 100001 0 r.n cap)))]) (pk_then pk_body) rfl (by kernel_rfl) ?_
  refine wa_take 7 (pk_then pk_body) rfl (by kernel_rfl) rfl rfl (rd_len rfl rfl rfl rfl (fun _ => by kernel_rfl)) ?_
  refine wa_takes (fuel := 3) [8] [0, 3, 8, 14] (listed' := #[true, true, true, true, true, true, true, true, true, false, false, false]) (l' := [(0, eL 100000 0), (3, eL 3 0), (8, eI .u64 (IntKind.wrap .u64 m.block)), (14, eI .u64 (IntKind.wrap .u64 ((r.n : Nat) : Int)))]) (pk_then pk_body) rfl (by kernel_rfl) ?_
  refine wa_take 9 (pk_then pk_body) rfl (by kernel_rfl) rfl rfl (rd_rem (k := .u64) (X := (IntKind.wrap .u64 m.block)) (Y := (IntKind.wrap .u64 ((r.n : Nat) : Int))) rfl rfl rfl (mb_ne hr)) ?_
  refine wa_takes (fuel := 1) [10] [0, 3, 16] (listed' := #[true, true, true, true, true, true, true, true, true, true, true, false]) (l' := [(0, eL 100000 0), (3, eL 3 0), (16, eI .i64 (IntKind.wrap .i64 (Int.tmod (IntKind.wrap .u64 m.block) (IntKind.wrap .u64 ((r.n : Nat) : Int)))))]) (pk_then pk_body) rfl (by kernel_rfl) ?_
  refine wa_take 11 (pk_then pk_body) rfl (by kernel_rfl) rfl rfl (rd_recast (e := eI .i64 (IntKind.wrap .i64 (Int.tmod (IntKind.wrap .u64 m.block) (IntKind.wrap .u64 ((r.n : Nat) : Int))))) (eI .i64 ((mb r m : Nat) : Int)) (by kernel_rfl) (congrArg (fun z => eI .i64 z) (mb_eq hr))) ?_
  refine wa_done (by kernel_rfl) ?_
  refine we_rest [0, 3, 4] [3, 100000, 100001] (l' := [(0, eL 100000 0), (3, eL 3 0), (4, eI .i64 ((mb r m : Nat) : Int))]) (H' := [(3, ⟨[cI .i64 m.kind, cI .i64 m.who, cI .i64 m.block, cI .i64 m.view], 55⟩), (100000, ⟨(cRun 100001 r.n cap r.s0 r.s1 r.s2), 51⟩), (100001, ⟨[.vals (rowV gB r.L ++ rest)], 47⟩)]) (by kernel_rfl) (by kernel_rfl) ?_
  refine we_then ?_
  refine wc_seq ?_
  refine wc_reg [0, 1, 2, 3, 4, 5] (by kernel_rfl) ?_
  refine wo_run [0, 1, 2, 3, 4] [0, 3, 4, 21] [3, 100000, 100001] (l' := [(0, eL 100000 0), (3, eL 3 0), (4, eI .i64 ((mb r m : Nat) : Int)), (21, eI .i64 (IntKind.wrap .i64 (Int.tmod (IntKind.wrap .u64 m.who) 4)))]) (H' := [(3, ⟨[cI .i64 m.kind, cI .i64 m.who, cI .i64 m.block, cI .i64 m.view], 55⟩), (100000, ⟨(cRun 100001 r.n cap r.s0 r.s1 r.s2), 51⟩), (100001, ⟨[.vals (rowV gB r.L ++ rest)], 47⟩)]) (by kernel_rfl) ?_
  refine wo_op rfl rfl (ot_rd rfl (rd_recast (e := eI .i64 (IntKind.wrap .i64 (Int.tmod (IntKind.wrap .u64 m.who) 4))) (eI .i64 2) (by kernel_rfl) (congrArg (fun z => eI .i64 z) hw))) ?_
  refine wo_nil ?_
  refine we_then ?_
  refine wc_seq ?_
  refine wc_reg [0, 1] (by kernel_rfl) ?_
  refine wo_run [0, 1] [0, 3, 4, 5, 23] [3, 100000, 100001] (l' := [(0, eL 100000 0), (3, eL 3 0), (4, eI .i64 ((mb r m : Nat) : Int)), (5, eI .i64 2), (23, eI .i64 m.kind)]) (H' := [(3, ⟨[cI .i64 m.kind, cI .i64 m.who, cI .i64 m.block, cI .i64 m.view], 55⟩), (100000, ⟨(cRun 100001 r.n cap r.s0 r.s1 r.s2), 51⟩), (100001, ⟨[.vals (rowV gB r.L ++ rest)], 47⟩)]) (by kernel_rfl) ?_
  refine wo_nil ?_
  refine we_then ?_
  refine wc_block ?_
  refine wc_seq ?_
  refine wc_reg [0, 1] (by kernel_rfl) ?_
  refine wo_run [0, 1] [0, 3, 4, 5, 23, 41] [3, 100000, 100001] (l' := [(0, eL 100000 0), (3, eL 3 0), (4, eI .i64 ((mb r m : Nat) : Int)), (5, eI .i64 2), (23, eI .i64 m.kind), (41, eB (m.kind == 0))]) (H' := [(3, ⟨[cI .i64 m.kind, cI .i64 m.who, cI .i64 m.block, cI .i64 m.view], 55⟩), (100000, ⟨(cRun 100001 r.n cap r.s0 r.s1 r.s2), 51⟩), (100001, ⟨[.vals (rowV gB r.L ++ rest)], 47⟩)]) (by kernel_rfl) ?_
  refine wo_nil ?_
  refine we_then ?_
  refine wc_cond rfl (fun h1 => ?_) (fun h1 => ?_)
  · replace h1 := eq_of_beq h1
    refine wc_seq ?_
    refine wc_reg [0, 1, 2, 3, 4, 5, 6, 7, 8, 9, 10] (by kernel_rfl) ?_
    refine wo_run [0, 1] [0, 3, 4, 43, 44] [3, 100000, 100001] (l' := [(0, eL 100000 0), (3, eL 3 0), (4, eI .i64 ((mb r m : Nat) : Int)), (43, eL 100000 0), (44, eI .i64 ((mb r m : Nat) : Int))]) (H' := [(3, ⟨[cI .i64 m.kind, cI .i64 m.who, cI .i64 m.block, cI .i64 m.view], 55⟩), (100000, ⟨(cRun 100001 r.n cap r.s0 r.s1 r.s2), 51⟩), (100001, ⟨[.vals (rowV gB r.L ++ rest)], 47⟩)]) (by kernel_rfl) ?_
    refine wo_op rfl rfl (ot_call (vs := [sL 100000 0, sI .i64 ((mb r m : Nat) : Int)]) rfl rfl rfl Try.func27 (by kernel_rfl) (by kernel_rfl) (by kernel_rfl) (eB (certB r.L (mb r m))) (trivial) (fun ρ w h => certified_any r cap rest hr (mb r m) (mb_lt hr) w (fun k => ρ (Sx.look [(100000, 100000), (100001, 100001)] k)) (h.heap (π := [(100000, 100000), (100001, 100001)]) (Hc := [(100000, ⟨(cRun 100001 r.n cap r.s0 r.s1 r.s2), 51⟩), (100001, ⟨[.vals (rowV gB r.L ++ rest)], 47⟩)]) rfl ⟨⟨by kernel_rfl, by kernel_rfl, by kernel_rfl⟩, ⟨by kernel_rfl, by kernel_rfl, by kernel_rfl⟩, trivial⟩))) ?_
    refine wo_run [3] [0, 3, 4, 46] [3, 100000, 100001] (l' := [(0, eL 100000 0), (3, eL 3 0), (4, eI .i64 ((mb r m : Nat) : Int)), (46, eB (certB r.L (mb r m)))]) (H' := [(3, ⟨[cI .i64 m.kind, cI .i64 m.who, cI .i64 m.block, cI .i64 m.view], 55⟩), (100000, ⟨(cRun 100001 r.n cap r.s0 r.s1 r.s2), 51⟩), (100001, ⟨[.vals (rowV gB r.L ++ rest)], 47⟩)]) (by kernel_rfl) ?_
    refine wo_bool 46 rfl (fun h2 => ?_) (fun h2 => ?_)
    · refine wo_run [4, 5, 6, 7] [0, 3, 4, 46, 50] [3, 100000, 100001] (l' := [(0, eL 100000 0), (3, eL 3 0), (4, eI .i64 ((mb r m : Nat) : Int)), (46, eB true), (50, .s (.a (.ls 100001 0 r.n cap)))]) (H' := [(3, ⟨[cI .i64 m.kind, cI .i64 m.who, cI .i64 m.block, cI .i64 m.view], 55⟩), (100000, ⟨(cRun 100001 r.n cap r.s0 r.s1 r.s2), 51⟩), (100001, ⟨[.vals (rowV gB r.L ++ rest)], 47⟩)]) (by kernel_rfl) ?_
      refine wo_op rfl rfl (ot_rd rfl (rd_len rfl rfl rfl rfl (fun _ => by kernel_rfl))) ?_
      refine wo_run [9, 10] [0, 3, 4, 53] [3, 100000, 100001] (l' := [(0, eL 100000 0), (3, eL 3 0), (4, eI .i64 ((mb r m : Nat) : Int)), (53, eB (decide (((r.n : Nat) : Int) < 400)))]) (H' := [(3, ⟨[cI .i64 m.kind, cI .i64 m.who, cI .i64 m.block, cI .i64 m.view], 55⟩), (100000, ⟨(cRun 100001 r.n cap r.s0 r.s1 r.s2), 51⟩), (100001, ⟨[.vals (rowV gB r.L ++ rest)], 47⟩)]) (by kernel_rfl) ?_
      refine wo_nil ?_
      refine we_then ?_
      refine wc_cond rfl (fun h3 => ?_) (fun h3 => ?_)
      · replace h3 := of_decide_eq_true h3
        refine wc_rest [0, 3, 4] [3, 100000, 100001] (l' := [(0, eL 100000 0), (3, eL 3 0), (4, eI .i64 ((mb r m : Nat) : Int))]) (H' := [(3, ⟨[cI .i64 m.kind, cI .i64 m.who, cI .i64 m.block, cI .i64 m.view], 55⟩), (100000, ⟨(cRun 100001 r.n cap r.s0 r.s1 r.s2), 51⟩), (100001, ⟨[.vals (rowV gB r.L ++ rest)], 47⟩)]) (by kernel_rfl) ?_
        refine wc_draw (n := 27) [(3, ⟨[cI .i64 m.kind, cI .i64 m.who, cI .i64 m.block, cI .i64 m.view], 55⟩)] (by kernel_rfl) rfl (sub_of [3] (by kernel_rfl)) (fun ρ0 => ?_)
        refine wa_takes (fuel := 13) [0, 1, 2, 3, 5, 6, 7, 8, 10, 15, 16, 17, 18, 19] [54, 57, 59, 62, 64, 73] (listed' := #[true, true, true, true, false, true, true, true, true, false, true, false, false, false, false, true, true, true, true, true, false, false, false, false, false, false, false]) (l' := [(54, eL 100000 0), (57, eL 100000 0), (59, eI .i64 ((mb r m : Nat) : Int)), (62, eL 100000 0), (64, eI .i64 ((mb r m : Nat) : Int)), (73, eI .i64 (IntKind.wrap .i64 (Int.tmod (IntKind.wrap .u64 m.view) 3)))]) (pk_block pk_body) rfl (by kernel_rfl) ?_
        refine wa_all [4, 9] (by kernel_rfl) rfl (allc ?_ (all1 ?_))
        · refine wi_op rfl rfl (ot_val1 (e := .s (.a (.ls 100001 0 r.n cap))) rfl (by kernel_rfl)) (sub_of [3] (by kernel_rfl)) ?_
          refine wa_all [9] (by kernel_rfl) rfl (all1 ?_)
          refine wi_op rfl rfl (ot_val1 (e := .s (.a (.ls 100001 0 r.n cap))) rfl (by kernel_rfl)) (sub_of [3] (by kernel_rfl)) ?_
          refine wa_take 11 (pk_block pk_body) rfl (by kernel_rfl) rfl rfl (rd_indexL (e := 47) 6 (mb r m) ((mb r m : Nat) : Int) rfl (by kernel_rfl) (by kernel_rfl) rfl rfl (rfl) (mb_lt hr)) ?_
          refine wa_takes (fuel := 9) [12] [54, 58, 59, 66, 73] (listed' := #[true, true, true, true, true, true, true, true, true, true, true, true, true, false, false, true, true, true, true, true, false, false, false, false, false, false, false]) (l' := [(54, eL 100000 0), (58, .s (.a (.ls 100001 0 r.n cap))), (59, eI .i64 ((mb r m : Nat) : Int)), (66, eL 100001 ((0 + (mb r m) * 6) + 1)), (73, eI .i64 (IntKind.wrap .i64 (Int.tmod (IntKind.wrap .u64 m.view) 3)))]) (pk_block pk_body) rfl (by kernel_rfl) ?_
          refine wa_all [13] (by kernel_rfl) rfl (all1 ?_)
          refine wi_op rfl rfl (ot_rd rfl (rd_cellS (b := ⟨[.vals (rowV gB r.L ++ rest)], 47⟩) (.v (.int .i64 (bk r.L (mb r m)).view)) rfl rfl rfl (by kernel_rfl) (fun ρ => view_at (hr.ln (mb_lt hr)) ρ))) (sub_of [3] (by kernel_rfl)) ?_
          refine wa_takes (fuel := 6) [14, 20] [54, 58, 59, 74] (listed' := #[true, true, true, true, true, true, true, true, true, true, true, true, true, true, true, true, true, true, true, true, true, false, false, false, false, false, false]) (l' := [(54, eL 100000 0), (58, .s (.a (.ls 100001 0 r.n cap))), (59, eI .i64 ((mb r m : Nat) : Int)), (74, eI .i64 (IntKind.wrap .i64 ((IntKind.wrap .i64 ((bk r.L (mb r m)).view + 1)) + (IntKind.wrap .i64 (Int.tmod (IntKind.wrap .u64 m.view) 3)))))]) (pk_block pk_body) rfl (by kernel_rfl) ?_
          refine wa_take 21 (pk_block pk_body) rfl (by kernel_rfl) rfl rfl (rd_build (zc := z47) [cI .i64 ((mb r m : Nat) : Int), cI .i64 (IntKind.wrap .i64 ((IntKind.wrap .i64 ((bk r.L (mb r m)).view + 1)) + (IntKind.wrap .i64 (Int.tmod (IntKind.wrap .u64 m.view) 3)))), cB false, cB false, cB false, cB false] rfl z47_zero' z47_ok (fun _ => rfl) (by kernel_rfl) (by kernel_rfl)) ?_
          refine wa_all [22] (by kernel_rfl) rfl (all1 ?_)
          refine wi_op rfl rfl (ot_bslice (e := 47) (d := 76) (n := 1) (size := 6) [cI .i64 0, cI .i64 0, cB false, cB false, cB false, cB false] [cI .i64 ((mb r m : Nat) : Int), cI .i64 (IntKind.wrap .i64 ((IntKind.wrap .i64 ((bk r.L (mb r m)).view + 1)) + (IntKind.wrap .i64 (Int.tmod (IntKind.wrap .u64 m.view) 3)))), cB false, cB false, cB false, cB false] rfl rfl rfl (by kernel_rfl) rfl (by kernel_rfl) (okc_one (okc_one (okc_one (okc_one (okc_one (okc_one (okc_nil))))))) (fun _ => rfl) (by kernel_rfl) (by kernel_rfl)) (sub_of [3] (by kernel_rfl)) ?_
          refine wa_all [23] (by kernel_rfl) rfl (all1 ?_)
          refine wi_ox rfl rfl (ox_append (t := 48) (e := 47) (size := 6) (bytes := 24) (m := 1) 77 100001 r.n cap (rowV gB r.L) ([.int .i64 ((mb r m : Nat) : Int), .int .i64 (IntKind.wrap .i64 ((IntKind.wrap .i64 ((bk r.L (mb r m)).view + 1)) + (IntKind.wrap .i64 (Int.tmod (IntKind.wrap .u64 m.view) 3)))), .bool false, .bool false, .bool false, .bool false]) rest [76, 3, 100000] rfl rfl (by kernel_rfl) (by kernel_rfl) (by kernel_rfl) (by decide) rfl rfl (by rw [rowV_length gB_len, hr.ln0]) (hr.restl) (hr.lenc) (hr.capm) (rfl) (fun u hu => by simp at hu; rcases hu with rfl | rfl | rfl | rfl | rfl | rfl <;> rfl) (news_own 76 [.int .i64 ((mb r m : Nat) : Int), .int .i64 (IntKind.wrap .i64 ((IntKind.wrap .i64 ((bk r.L (mb r m)).view + 1)) + (IntKind.wrap .i64 (Int.tmod (IntKind.wrap .u64 m.view) 3)))), .bool false, .bool false, .bool false, .bool false] rfl rfl (fun _ => rfl)) (by have := hr.small; simp only [maxLen]; omega) (by have := hr.small; omega) (by kernel_rfl)) (fun _ => (sub_of [3] (by kernel_rfl))) (fun ⟨cap1, rest1⟩ hx1 _ => ?_)
          refine wa_takes (fuel := 1) [24, 25] [77, 79] (listed' := #[true, true, true, true, true, true, true, true, true, true, true, true, true, true, true, true, true, true, true, true, true, true, true, true, true, true, false]) (l' := [(77, .s (.a (.ls 77 0 (r.n + 1) cap1))), (79, eL 100000 0)]) (pk_block pk_body) rfl (by kernel_rfl) ?_
          refine wa_all [26] (by kernel_rfl) rfl (all1 ?_)
          refine wi_op rfl rfl (ot_eff (l' := [(77, .s (.a (.ls 77 0 (r.n + 1) cap1))), (79, eL 100000 0)]) (H' := [(77, ⟨[.vals (rowV gB r.L ++ [.int .i64 ((mb r m : Nat) : Int), .int .i64 (IntKind.wrap .i64 ((IntKind.wrap .i64 ((bk r.L (mb r m)).view + 1)) + (IntKind.wrap .i64 (Int.tmod (IntKind.wrap .u64 m.view) 3)))), .bool false, .bool false, .bool false, .bool false] ++ rest1)], 47⟩), (76, ⟨[cI .i64 ((mb r m : Nat) : Int), cI .i64 (IntKind.wrap .i64 ((IntKind.wrap .i64 ((bk r.L (mb r m)).view + 1)) + (IntKind.wrap .i64 (Int.tmod (IntKind.wrap .u64 m.view) 3)))), cB false, cB false, cB false, cB false], 47⟩), (3, ⟨[cI .i64 m.kind, cI .i64 m.who, cI .i64 m.block, cI .i64 m.view], 55⟩), (100000, ⟨[.one (.ls 77 0 (r.n + 1) cap1), cI .i64 r.s0.e, cI .i64 r.s0.v, cI .i64 r.s0.l, .ints .u8 32 r.s0.d, cI .i64 r.s1.e, cI .i64 r.s1.v, cI .i64 r.s1.l, .ints .u8 32 r.s1.d, cI .i64 r.s2.e, cI .i64 r.s2.v, cI .i64 r.s2.l, .ints .u8 32 r.s2.d], 51⟩)]) (by kernel_rfl)) (sub_of [3] (by kernel_rfl)) ?_
          refine wa_done (by kernel_rfl) ?_
          refine we_rest [] [77, 100000] (l' := []) (H' := [(77, ⟨[.vals (rowV gB r.L ++ [.int .i64 ((mb r m : Nat) : Int), .int .i64 (IntKind.wrap .i64 ((IntKind.wrap .i64 ((bk r.L (mb r m)).view + 1)) + (IntKind.wrap .i64 (Int.tmod (IntKind.wrap .u64 m.view) 3)))), .bool false, .bool false, .bool false, .bool false] ++ rest1)], 47⟩), (100000, ⟨[.one (.ls 77 0 (r.n + 1) cap1), cI .i64 r.s0.e, cI .i64 r.s0.v, cI .i64 r.s0.l, .ints .u8 32 r.s0.d, cI .i64 r.s1.e, cI .i64 r.s1.v, cI .i64 r.s1.l, .ints .u8 32 r.s1.d, cI .i64 r.s2.e, cI .i64 r.s2.v, cI .i64 r.s2.l, .ints .u8 32 r.s2.d], 51⟩)]) (by kernel_rfl) (by kernel_rfl) ?_
          refine we_block ?_
          refine we_rest [] [100000, 77] (l' := []) (H' := [(100000, ⟨[.one (.ls 77 0 (r.n + 1) cap1), cI .i64 r.s0.e, cI .i64 r.s0.v, cI .i64 r.s0.l, .ints .u8 32 r.s0.d, cI .i64 r.s1.e, cI .i64 r.s1.v, cI .i64 r.s1.l, .ints .u8 32 r.s1.d, cI .i64 r.s2.e, cI .i64 r.s2.v, cI .i64 r.s2.l, .ints .u8 32 r.s2.d], 51⟩), (77, ⟨[.vals (rowV gB r.L ++ [.int .i64 ((mb r m : Nat) : Int), .int .i64 (IntKind.wrap .i64 ((IntKind.wrap .i64 ((bk r.L (mb r m)).view + 1)) + (IntKind.wrap .i64 (Int.tmod (IntKind.wrap .u64 m.view) 3)))), .bool false, .bool false, .bool false, .bool false] ++ rest1)], 47⟩)]) (by kernel_rfl) (by kernel_rfl) ?_
          refine we_ret (.inr rfl) (v := .t []) (by kernel_rfl) ?_
          intro σ w' hf
          have h3n :  r.n < 400 := by omega
          have hq : playR r m 2 = ⟨r.n + 1, r.L ++ [newB r m], r.s0, r.s1, r.s2⟩ := by simp [playR, grows, h1, h2, h3n]
          refine ⟨some (cap1, rest1), σ, ⟨by simp [grows, h1, h2, h3n], hx1⟩, rfl, ?_⟩
          rw [playH2 hq]
          show Ran _ _ [(100000, ⟨_, 51⟩), (77, ⟨[.vals (rowV gB (r.L ++ [newB r m]) ++ rest1)], 47⟩)] _ _ _
          rw [show rowV gB (r.L ++ [newB r m]) = _ from row_push r.L _ _]
          exact hf.ran rfl rfl
        · refine wi_op rfl rfl (ot_val1 (e := .s (.a (.ls 100001 0 r.n cap))) rfl (by kernel_rfl)) (sub_of [3] (by kernel_rfl)) ?_
          refine wa_take 11 (pk_block pk_body) rfl (by kernel_rfl) rfl rfl (rd_indexL (e := 47) 6 (mb r m) ((mb r m : Nat) : Int) rfl (by kernel_rfl) (by kernel_rfl) rfl rfl (rfl) (mb_lt hr)) ?_
          refine wa_takes (fuel := 10) [12] [54, 57, 59, 66, 73] (listed' := #[true, true, true, true, false, true, true, true, true, true, true, true, true, false, false, true, true, true, true, true, false, false, false, false, false, false, false]) (l' := [(54, eL 100000 0), (57, eL 100000 0), (59, eI .i64 ((mb r m : Nat) : Int)), (66, eL 100001 ((0 + (mb r m) * 6) + 1)), (73, eI .i64 (IntKind.wrap .i64 (Int.tmod (IntKind.wrap .u64 m.view) 3)))]) (pk_block pk_body) rfl (by kernel_rfl) ?_
          refine wa_all [4, 13] (by kernel_rfl) rfl (allc ?_ (all1 ?_))
          · refine wi_op rfl rfl (ot_val1 (e := .s (.a (.ls 100001 0 r.n cap))) rfl (by kernel_rfl)) (sub_of [3] (by kernel_rfl)) ?_
            refine wa_all [13] (by kernel_rfl) rfl (all1 ?_)
            refine wi_op rfl rfl (ot_rd rfl (rd_cellS (b := ⟨[.vals (rowV gB r.L ++ rest)], 47⟩) (.v (.int .i64 (bk r.L (mb r m)).view)) rfl rfl rfl (by kernel_rfl) (fun ρ => view_at (hr.ln (mb_lt hr)) ρ))) (sub_of [3] (by kernel_rfl)) ?_
            refine wa_takes (fuel := 6) [14, 20] [54, 58, 59, 74] (listed' := #[true, true, true, true, true, true, true, true, true, true, true, true, true, true, true, true, true, true, true, true, true, false, false, false, false, false, false]) (l' := [(54, eL 100000 0), (58, .s (.a (.ls 100001 0 r.n cap))), (59, eI .i64 ((mb r m : Nat) : Int)), (74, eI .i64 (IntKind.wrap .i64 ((IntKind.wrap .i64 ((bk r.L (mb r m)).view + 1)) + (IntKind.wrap .i64 (Int.tmod (IntKind.wrap .u64 m.view) 3)))))]) (pk_block pk_body) rfl (by kernel_rfl) ?_
            refine wa_take 21 (pk_block pk_body) rfl (by kernel_rfl) rfl rfl (rd_build (zc := z47) [cI .i64 ((mb r m : Nat) : Int), cI .i64 (IntKind.wrap .i64 ((IntKind.wrap .i64 ((bk r.L (mb r m)).view + 1)) + (IntKind.wrap .i64 (Int.tmod (IntKind.wrap .u64 m.view) 3)))), cB false, cB false, cB false, cB false] rfl z47_zero' z47_ok (fun _ => rfl) (by kernel_rfl) (by kernel_rfl)) ?_
            refine wa_all [22] (by kernel_rfl) rfl (all1 ?_)
            refine wi_op rfl rfl (ot_bslice (e := 47) (d := 76) (n := 1) (size := 6) [cI .i64 0, cI .i64 0, cB false, cB false, cB false, cB false] [cI .i64 ((mb r m : Nat) : Int), cI .i64 (IntKind.wrap .i64 ((IntKind.wrap .i64 ((bk r.L (mb r m)).view + 1)) + (IntKind.wrap .i64 (Int.tmod (IntKind.wrap .u64 m.view) 3)))), cB false, cB false, cB false, cB false] rfl rfl rfl (by kernel_rfl) rfl (by kernel_rfl) (okc_one (okc_one (okc_one (okc_one (okc_one (okc_one (okc_nil))))))) (fun _ => rfl) (by kernel_rfl) (by kernel_rfl)) (sub_of [3] (by kernel_rfl)) ?_
            refine wa_all [23] (by kernel_rfl) rfl (all1 ?_)
            refine wi_ox rfl rfl (ox_append (t := 48) (e := 47) (size := 6) (bytes := 24) (m := 1) 77 100001 r.n cap (rowV gB r.L) ([.int .i64 ((mb r m : Nat) : Int), .int .i64 (IntKind.wrap .i64 ((IntKind.wrap .i64 ((bk r.L (mb r m)).view + 1)) + (IntKind.wrap .i64 (Int.tmod (IntKind.wrap .u64 m.view) 3)))), .bool false, .bool false, .bool false, .bool false]) rest [76, 3, 100000] rfl rfl (by kernel_rfl) (by kernel_rfl) (by kernel_rfl) (by decide) rfl rfl (by rw [rowV_length gB_len, hr.ln0]) (hr.restl) (hr.lenc) (hr.capm) (rfl) (fun u hu => by simp at hu; rcases hu with rfl | rfl | rfl | rfl | rfl | rfl <;> rfl) (news_own 76 [.int .i64 ((mb r m : Nat) : Int), .int .i64 (IntKind.wrap .i64 ((IntKind.wrap .i64 ((bk r.L (mb r m)).view + 1)) + (IntKind.wrap .i64 (Int.tmod (IntKind.wrap .u64 m.view) 3)))), .bool false, .bool false, .bool false, .bool false] rfl rfl (fun _ => rfl)) (by have := hr.small; simp only [maxLen]; omega) (by have := hr.small; omega) (by kernel_rfl)) (fun _ => (sub_of [3] (by kernel_rfl))) (fun ⟨cap1, rest1⟩ hx1 _ => ?_)
            refine wa_takes (fuel := 1) [24, 25] [77, 79] (listed' := #[true, true, true, true, true, true, true, true, true, true, true, true, true, true, true, true, true, true, true, true, true, true, true, true, true, true, false]) (l' := [(77, .s (.a (.ls 77 0 (r.n + 1) cap1))), (79, eL 100000 0)]) (pk_block pk_body) rfl (by kernel_rfl) ?_
            refine wa_all [26] (by kernel_rfl) rfl (all1 ?_)
            refine wi_op rfl rfl (ot_eff (l' := [(77, .s (.a (.ls 77 0 (r.n + 1) cap1))), (79, eL 100000 0)]) (H' := [(77, ⟨[.vals (rowV gB r.L ++ [.int .i64 ((mb r m : Nat) : Int), .int .i64 (IntKind.wrap .i64 ((IntKind.wrap .i64 ((bk r.L (mb r m)).view + 1)) + (IntKind.wrap .i64 (Int.tmod (IntKind.wrap .u64 m.view) 3)))), .bool false, .bool false, .bool false, .bool false] ++ rest1)], 47⟩), (76, ⟨[cI .i64 ((mb r m : Nat) : Int), cI .i64 (IntKind.wrap .i64 ((IntKind.wrap .i64 ((bk r.L (mb r m)).view + 1)) + (IntKind.wrap .i64 (Int.tmod (IntKind.wrap .u64 m.view) 3)))), cB false, cB false, cB false, cB false], 47⟩), (3, ⟨[cI .i64 m.kind, cI .i64 m.who, cI .i64 m.block, cI .i64 m.view], 55⟩), (100000, ⟨[.one (.ls 77 0 (r.n + 1) cap1), cI .i64 r.s0.e, cI .i64 r.s0.v, cI .i64 r.s0.l, .ints .u8 32 r.s0.d, cI .i64 r.s1.e, cI .i64 r.s1.v, cI .i64 r.s1.l, .ints .u8 32 r.s1.d, cI .i64 r.s2.e, cI .i64 r.s2.v, cI .i64 r.s2.l, .ints .u8 32 r.s2.d], 51⟩)]) (by kernel_rfl)) (sub_of [3] (by kernel_rfl)) ?_
            refine wa_done (by kernel_rfl) ?_
            refine we_rest [] [77, 100000] (l' := []) (H' := [(77, ⟨[.vals (rowV gB r.L ++ [.int .i64 ((mb r m : Nat) : Int), .int .i64 (IntKind.wrap .i64 ((IntKind.wrap .i64 ((bk r.L (mb r m)).view + 1)) + (IntKind.wrap .i64 (Int.tmod (IntKind.wrap .u64 m.view) 3)))), .bool false, .bool false, .bool false, .bool false] ++ rest1)], 47⟩), (100000, ⟨[.one (.ls 77 0 (r.n + 1) cap1), cI .i64 r.s0.e, cI .i64 r.s0.v, cI .i64 r.s0.l, .ints .u8 32 r.s0.d, cI .i64 r.s1.e, cI .i64 r.s1.v, cI .i64 r.s1.l, .ints .u8 32 r.s1.d, cI .i64 r.s2.e, cI .i64 r.s2.v, cI .i64 r.s2.l, .ints .u8 32 r.s2.d], 51⟩)]) (by kernel_rfl) (by kernel_rfl) ?_
            refine we_block ?_
            refine we_rest [] [100000, 77] (l' := []) (H' := [(100000, ⟨[.one (.ls 77 0 (r.n + 1) cap1), cI .i64 r.s0.e, cI .i64 r.s0.v, cI .i64 r.s0.l, .ints .u8 32 r.s0.d, cI .i64 r.s1.e, cI .i64 r.s1.v, cI .i64 r.s1.l, .ints .u8 32 r.s1.d, cI .i64 r.s2.e, cI .i64 r.s2.v, cI .i64 r.s2.l, .ints .u8 32 r.s2.d], 51⟩), (77, ⟨[.vals (rowV gB r.L ++ [.int .i64 ((mb r m : Nat) : Int), .int .i64 (IntKind.wrap .i64 ((IntKind.wrap .i64 ((bk r.L (mb r m)).view + 1)) + (IntKind.wrap .i64 (Int.tmod (IntKind.wrap .u64 m.view) 3)))), .bool false, .bool false, .bool false, .bool false] ++ rest1)], 47⟩)]) (by kernel_rfl) (by kernel_rfl) ?_
            refine we_ret (.inr rfl) (v := .t []) (by kernel_rfl) ?_
            intro σ w' hf
            have h3n :  r.n < 400 := by omega
            have hq : playR r m 2 = ⟨r.n + 1, r.L ++ [newB r m], r.s0, r.s1, r.s2⟩ := by simp [playR, grows, h1, h2, h3n]
            refine ⟨some (cap1, rest1), σ, ⟨by simp [grows, h1, h2, h3n], hx1⟩, rfl, ?_⟩
            rw [playH2 hq]
            show Ran _ _ [(100000, ⟨_, 51⟩), (77, ⟨[.vals (rowV gB (r.L ++ [newB r m]) ++ rest1)], 47⟩)] _ _ _
            rw [show rowV gB (r.L ++ [newB r m]) = _ from row_push r.L _ _]
            exact hf.ran rfl rfl
          · refine wi_op rfl rfl (ot_rd rfl (rd_cellS (b := ⟨[.vals (rowV gB r.L ++ rest)], 47⟩) (.v (.int .i64 (bk r.L (mb r m)).view)) rfl rfl rfl (by kernel_rfl) (fun ρ => view_at (hr.ln (mb_lt hr)) ρ))) (sub_of [3] (by kernel_rfl)) ?_
            refine wa_takes (fuel := 7) [14, 20] [54, 57, 59, 74] (listed' := #[true, true, true, true, false, true, true, true, true, true, true, true, true, true, true, true, true, true, true, true, true, false, false, false, false, false, false]) (l' := [(54, eL 100000 0), (57, eL 100000 0), (59, eI .i64 ((mb r m : Nat) : Int)), (74, eI .i64 (IntKind.wrap .i64 ((IntKind.wrap .i64 ((bk r.L (mb r m)).view + 1)) + (IntKind.wrap .i64 (Int.tmod (IntKind.wrap .u64 m.view) 3)))))]) (pk_block pk_body) rfl (by kernel_rfl) ?_
            refine wa_take 21 (pk_block pk_body) rfl (by kernel_rfl) rfl rfl (rd_build (zc := z47) [cI .i64 ((mb r m : Nat) : Int), cI .i64 (IntKind.wrap .i64 ((IntKind.wrap .i64 ((bk r.L (mb r m)).view + 1)) + (IntKind.wrap .i64 (Int.tmod (IntKind.wrap .u64 m.view) 3)))), cB false, cB false, cB false, cB false] rfl z47_zero' z47_ok (fun _ => rfl) (by kernel_rfl) (by kernel_rfl)) ?_
            refine wa_all [4, 22] (by kernel_rfl) rfl (allc ?_ (all1 ?_))
            · refine wi_op rfl rfl (ot_val1 (e := .s (.a (.ls 100001 0 r.n cap))) rfl (by kernel_rfl)) (sub_of [3] (by kernel_rfl)) ?_
              refine wa_all [22] (by kernel_rfl) rfl (all1 ?_)
              refine wi_op rfl rfl (ot_bslice (e := 47) (d := 76) (n := 1) (size := 6) [cI .i64 0, cI .i64 0, cB false, cB false, cB false, cB false] [cI .i64 ((mb r m : Nat) : Int), cI .i64 (IntKind.wrap .i64 ((IntKind.wrap .i64 ((bk r.L (mb r m)).view + 1)) + (IntKind.wrap .i64 (Int.tmod (IntKind.wrap .u64 m.view) 3)))), cB false, cB false, cB false, cB false] rfl rfl rfl (by kernel_rfl) rfl (by kernel_rfl) (okc_one (okc_one (okc_one (okc_one (okc_one (okc_one (okc_nil))))))) (fun _ => rfl) (by kernel_rfl) (by kernel_rfl)) (sub_of [3] (by kernel_rfl)) ?_
              refine wa_all [23] (by kernel_rfl) rfl (all1 ?_)
              refine wi_ox rfl rfl (ox_append (t := 48) (e := 47) (size := 6) (bytes := 24) (m := 1) 77 100001 r.n cap (rowV gB r.L) ([.int .i64 ((mb r m : Nat) : Int), .int .i64 (IntKind.wrap .i64 ((IntKind.wrap .i64 ((bk r.L (mb r m)).view + 1)) + (IntKind.wrap .i64 (Int.tmod (IntKind.wrap .u64 m.view) 3)))), .bool false, .bool false, .bool false, .bool false]) rest [76, 3, 100000] rfl rfl (by kernel_rfl) (by kernel_rfl) (by kernel_rfl) (by decide) rfl rfl (by rw [rowV_length gB_len, hr.ln0]) (hr.restl) (hr.lenc) (hr.capm) (rfl) (fun u hu => by simp at hu; rcases hu with rfl | rfl | rfl | rfl | rfl | rfl <;> rfl) (news_own 76 [.int .i64 ((mb r m : Nat) : Int), .int .i64 (IntKind.wrap .i64 ((IntKind.wrap .i64 ((bk r.L (mb r m)).view + 1)) + (IntKind.wrap .i64 (Int.tmod (IntKind.wrap .u64 m.view) 3)))), .bool false, .bool false, .bool false, .bool false] rfl rfl (fun _ => rfl)) (by have := hr.small; simp only [maxLen]; omega) (by have := hr.small; omega) (by kernel_rfl)) (fun _ => (sub_of [3] (by kernel_rfl))) (fun ⟨cap1, rest1⟩ hx1 _ => ?_)
              refine wa_takes (fuel := 1) [24, 25] [77, 79] (listed' := #[true, true, true, true, true, true, true, true, true, true, true, true, true, true, true, true, true, true, true, true, true, true, true, true, true, true, false]) (l' := [(77, .s (.a (.ls 77 0 (r.n + 1) cap1))), (79, eL 100000 0)]) (pk_block pk_body) rfl (by kernel_rfl) ?_
              refine wa_all [26] (by kernel_rfl) rfl (all1 ?_)
              refine wi_op rfl rfl (ot_eff (l' := [(77, .s (.a (.ls 77 0 (r.n + 1) cap1))), (79, eL 100000 0)]) (H' := [(77, ⟨[.vals (rowV gB r.L ++ [.int .i64 ((mb r m : Nat) : Int), .int .i64 (IntKind.wrap .i64 ((IntKind.wrap .i64 ((bk r.L (mb r m)).view + 1)) + (IntKind.wrap .i64 (Int.tmod (IntKind.wrap .u64 m.view) 3)))), .bool false, .bool false, .bool false, .bool false] ++ rest1)], 47⟩), (76, ⟨[cI .i64 ((mb r m : Nat) : Int), cI .i64 (IntKind.wrap .i64 ((IntKind.wrap .i64 ((bk r.L (mb r m)).view + 1)) + (IntKind.wrap .i64 (Int.tmod (IntKind.wrap .u64 m.view) 3)))), cB false, cB false, cB false, cB false], 47⟩), (3, ⟨[cI .i64 m.kind, cI .i64 m.who, cI .i64 m.block, cI .i64 m.view], 55⟩), (100000, ⟨[.one (.ls 77 0 (r.n + 1) cap1), cI .i64 r.s0.e, cI .i64 r.s0.v, cI .i64 r.s0.l, .ints .u8 32 r.s0.d, cI .i64 r.s1.e, cI .i64 r.s1.v, cI .i64 r.s1.l, .ints .u8 32 r.s1.d, cI .i64 r.s2.e, cI .i64 r.s2.v, cI .i64 r.s2.l, .ints .u8 32 r.s2.d], 51⟩)]) (by kernel_rfl)) (sub_of [3] (by kernel_rfl)) ?_
              refine wa_done (by kernel_rfl) ?_
              refine we_rest [] [77, 100000] (l' := []) (H' := [(77, ⟨[.vals (rowV gB r.L ++ [.int .i64 ((mb r m : Nat) : Int), .int .i64 (IntKind.wrap .i64 ((IntKind.wrap .i64 ((bk r.L (mb r m)).view + 1)) + (IntKind.wrap .i64 (Int.tmod (IntKind.wrap .u64 m.view) 3)))), .bool false, .bool false, .bool false, .bool false] ++ rest1)], 47⟩), (100000, ⟨[.one (.ls 77 0 (r.n + 1) cap1), cI .i64 r.s0.e, cI .i64 r.s0.v, cI .i64 r.s0.l, .ints .u8 32 r.s0.d, cI .i64 r.s1.e, cI .i64 r.s1.v, cI .i64 r.s1.l, .ints .u8 32 r.s1.d, cI .i64 r.s2.e, cI .i64 r.s2.v, cI .i64 r.s2.l, .ints .u8 32 r.s2.d], 51⟩)]) (by kernel_rfl) (by kernel_rfl) ?_
              refine we_block ?_
              refine we_rest [] [100000, 77] (l' := []) (H' := [(100000, ⟨[.one (.ls 77 0 (r.n + 1) cap1), cI .i64 r.s0.e, cI .i64 r.s0.v, cI .i64 r.s0.l, .ints .u8 32 r.s0.d, cI .i64 r.s1.e, cI .i64 r.s1.v, cI .i64 r.s1.l, .ints .u8 32 r.s1.d, cI .i64 r.s2.e, cI .i64 r.s2.v, cI .i64 r.s2.l, .ints .u8 32 r.s2.d], 51⟩), (77, ⟨[.vals (rowV gB r.L ++ [.int .i64 ((mb r m : Nat) : Int), .int .i64 (IntKind.wrap .i64 ((IntKind.wrap .i64 ((bk r.L (mb r m)).view + 1)) + (IntKind.wrap .i64 (Int.tmod (IntKind.wrap .u64 m.view) 3)))), .bool false, .bool false, .bool false, .bool false] ++ rest1)], 47⟩)]) (by kernel_rfl) (by kernel_rfl) ?_
              refine we_ret (.inr rfl) (v := .t []) (by kernel_rfl) ?_
              intro σ w' hf
              have h3n :  r.n < 400 := by omega
              have hq : playR r m 2 = ⟨r.n + 1, r.L ++ [newB r m], r.s0, r.s1, r.s2⟩ := by simp [playR, grows, h1, h2, h3n]
              refine ⟨some (cap1, rest1), σ, ⟨by simp [grows, h1, h2, h3n], hx1⟩, rfl, ?_⟩
              rw [playH2 hq]
              show Ran _ _ [(100000, ⟨_, 51⟩), (77, ⟨[.vals (rowV gB (r.L ++ [newB r m]) ++ rest1)], 47⟩)] _ _ _
              rw [show rowV gB (r.L ++ [newB r m]) = _ from row_push r.L _ _]
              exact hf.ran rfl rfl
            · refine wi_op rfl rfl (ot_bslice (e := 47) (d := 76) (n := 1) (size := 6) [cI .i64 0, cI .i64 0, cB false, cB false, cB false, cB false] [cI .i64 ((mb r m : Nat) : Int), cI .i64 (IntKind.wrap .i64 ((IntKind.wrap .i64 ((bk r.L (mb r m)).view + 1)) + (IntKind.wrap .i64 (Int.tmod (IntKind.wrap .u64 m.view) 3)))), cB false, cB false, cB false, cB false] rfl rfl rfl (by kernel_rfl) rfl (by kernel_rfl) (okc_one (okc_one (okc_one (okc_one (okc_one (okc_one (okc_nil))))))) (fun _ => rfl) (by kernel_rfl) (by kernel_rfl)) (sub_of [3] (by kernel_rfl)) ?_
              refine wa_all [4] (by kernel_rfl) rfl (all1 ?_)
              refine wi_op rfl rfl (ot_val1 (e := .s (.a (.ls 100001 0 r.n cap))) rfl (by kernel_rfl)) (sub_of [3] (by kernel_rfl)) ?_
              refine wa_all [23] (by kernel_rfl) rfl (all1 ?_)
              refine wi_ox rfl rfl (ox_append (t := 48) (e := 47) (size := 6) (bytes := 24) (m := 1) 77 100001 r.n cap (rowV gB r.L) ([.int .i64 ((mb r m : Nat) : Int), .int .i64 (IntKind.wrap .i64 ((IntKind.wrap .i64 ((bk r.L (mb r m)).view + 1)) + (IntKind.wrap .i64 (Int.tmod (IntKind.wrap .u64 m.view) 3)))), .bool false, .bool false, .bool false, .bool false]) rest [76, 3, 100000] rfl rfl (by kernel_rfl) (by kernel_rfl) (by kernel_rfl) (by decide) rfl rfl (by rw [rowV_length gB_len, hr.ln0]) (hr.restl) (hr.lenc) (hr.capm) (rfl) (fun u hu => by simp at hu; rcases hu with rfl | rfl | rfl | rfl | rfl | rfl <;> rfl) (news_own 76 [.int .i64 ((mb r m : Nat) : Int), .int .i64 (IntKind.wrap .i64 ((IntKind.wrap .i64 ((bk r.L (mb r m)).view + 1)) + (IntKind.wrap .i64 (Int.tmod (IntKind.wrap .u64 m.view) 3)))), .bool false, .bool false, .bool false, .bool false] rfl rfl (fun _ => rfl)) (by have := hr.small; simp only [maxLen]; omega) (by have := hr.small; omega) (by kernel_rfl)) (fun _ => (sub_of [3] (by kernel_rfl))) (fun ⟨cap1, rest1⟩ hx1 _ => ?_)
              refine wa_takes (fuel := 1) [24, 25] [77, 79] (listed' := #[true, true, true, true, true, true, true, true, true, true, true, true, true, true, true, true, true, true, true, true, true, true, true, true, true, true, false]) (l' := [(77, .s (.a (.ls 77 0 (r.n + 1) cap1))), (79, eL 100000 0)]) (pk_block pk_body) rfl (by kernel_rfl) ?_
              refine wa_all [26] (by kernel_rfl) rfl (all1 ?_)
              refine wi_op rfl rfl (ot_eff (l' := [(77, .s (.a (.ls 77 0 (r.n + 1) cap1))), (79, eL 100000 0)]) (H' := [(77, ⟨[.vals (rowV gB r.L ++ [.int .i64 ((mb r m : Nat) : Int), .int .i64 (IntKind.wrap .i64 ((IntKind.wrap .i64 ((bk r.L (mb r m)).view + 1)) + (IntKind.wrap .i64 (Int.tmod (IntKind.wrap .u64 m.view) 3)))), .bool false, .bool false, .bool false, .bool false] ++ rest1)], 47⟩), (76, ⟨[cI .i64 ((mb r m : Nat) : Int), cI .i64 (IntKind.wrap .i64 ((IntKind.wrap .i64 ((bk r.L (mb r m)).view + 1)) + (IntKind.wrap .i64 (Int.tmod (IntKind.wrap .u64 m.view) 3)))), cB false, cB false, cB false, cB false], 47⟩), (3, ⟨[cI .i64 m.kind, cI .i64 m.who, cI .i64 m.block, cI .i64 m.view], 55⟩), (100000, ⟨[.one (.ls 77 0 (r.n + 1) cap1), cI .i64 r.s0.e, cI .i64 r.s0.v, cI .i64 r.s0.l, .ints .u8 32 r.s0.d, cI .i64 r.s1.e, cI .i64 r.s1.v, cI .i64 r.s1.l, .ints .u8 32 r.s1.d, cI .i64 r.s2.e, cI .i64 r.s2.v, cI .i64 r.s2.l, .ints .u8 32 r.s2.d], 51⟩)]) (by kernel_rfl)) (sub_of [3] (by kernel_rfl)) ?_
              refine wa_done (by kernel_rfl) ?_
              refine we_rest [] [77, 100000] (l' := []) (H' := [(77, ⟨[.vals (rowV gB r.L ++ [.int .i64 ((mb r m : Nat) : Int), .int .i64 (IntKind.wrap .i64 ((IntKind.wrap .i64 ((bk r.L (mb r m)).view + 1)) + (IntKind.wrap .i64 (Int.tmod (IntKind.wrap .u64 m.view) 3)))), .bool false, .bool false, .bool false, .bool false] ++ rest1)], 47⟩), (100000, ⟨[.one (.ls 77 0 (r.n + 1) cap1), cI .i64 r.s0.e, cI .i64 r.s0.v, cI .i64 r.s0.l, .ints .u8 32 r.s0.d, cI .i64 r.s1.e, cI .i64 r.s1.v, cI .i64 r.s1.l, .ints .u8 32 r.s1.d, cI .i64 r.s2.e, cI .i64 r.s2.v, cI .i64 r.s2.l, .ints .u8 32 r.s2.d], 51⟩)]) (by kernel_rfl) (by kernel_rfl) ?_
              refine we_block ?_
              refine we_rest [] [100000, 77] (l' := []) (H' := [(100000, ⟨[.one (.ls 77 0 (r.n + 1) cap1), cI .i64 r.s0.e, cI .i64 r.s0.v, cI .i64 r.s0.l, .ints .u8 32 r.s0.d, cI .i64 r.s1.e, cI .i64 r.s1.v, cI .i64 r.s1.l, .ints .u8 32 r.s1.d, cI .i64 r.s2.e, cI .i64 r.s2.v, cI .i64 r.s2.l, .ints .u8 32 r.s2.d], 51⟩), (77, ⟨[.vals (rowV gB r.L ++ [.int .i64 ((mb r m : Nat) : Int), .int .i64 (IntKind.wrap .i64 ((IntKind.wrap .i64 ((bk r.L (mb r m)).view + 1)) + (IntKind.wrap .i64 (Int.tmod (IntKind.wrap .u64 m.view) 3)))), .bool false, .bool false, .bool false, .bool false] ++ rest1)], 47⟩)]) (by kernel_rfl) (by kernel_rfl) ?_
              refine we_ret (.inr rfl) (v := .t []) (by kernel_rfl) ?_
              intro σ w' hf
              have h3n :  r.n < 400 := by omega
              have hq : playR r m 2 = ⟨r.n + 1, r.L ++ [newB r m], r.s0, r.s1, r.s2⟩ := by simp [playR, grows, h1, h2, h3n]
              refine ⟨some (cap1, rest1), σ, ⟨by simp [grows, h1, h2, h3n], hx1⟩, rfl, ?_⟩
              rw [playH2 hq]
              show Ran _ _ [(100000, ⟨_, 51⟩), (77, ⟨[.vals (rowV gB (r.L ++ [newB r m]) ++ rest1)], 47⟩)] _ _ _
              rw [show rowV gB (r.L ++ [newB r m]) = _ from row_push r.L _ _]
              exact hf.ran rfl rfl
      · replace h3 := of_decide_eq_false h3
        refine wc_skip ?_
        refine we_block ?_
        refine we_rest [] [100000, 100001] (l' := []) (H' := [(100000, ⟨(cRun 100001 r.n cap r.s0 r.s1 r.s2), 51⟩), (100001, ⟨[.vals (rowV gB r.L ++ rest)], 47⟩)]) (by kernel_rfl) (by kernel_rfl) ?_
        refine we_ret (.inr rfl) (v := .t []) (by kernel_rfl) ?_
        intro σ w' hf
        have h3n : ¬ r.n < 400 := by omega
        have hq : playR r m 2 = (⟨r.n, r.L, r.s0, r.s1, r.s2⟩ : Run) := by simp [playR, grows, setS, getS, h1, h2, h3n]
        refine ⟨none, σ, by show grows r m = false; simp [grows, h1, h2, h3n], rfl, ?_⟩
        rw [playH1 hq]
        exact hf.ran rfl rfl
    · refine wo_run [4, 5, 6, 7, 8, 9, 10] [0, 3, 4, 53] [3, 100000, 100001] (l' := [(0, eL 100000 0), (3, eL 3 0), (4, eI .i64 ((mb r m : Nat) : Int)), (53, eB false)]) (H' := [(3, ⟨[cI .i64 m.kind, cI .i64 m.who, cI .i64 m.block, cI .i64 m.view], 55⟩), (100000, ⟨(cRun 100001 r.n cap r.s0 r.s1 r.s2), 51⟩), (100001, ⟨[.vals (rowV gB r.L ++ rest)], 47⟩)]) (by kernel_rfl) ?_
      refine wo_nil ?_
      refine we_then ?_
      refine wc_false rfl ?_
      refine wc_skip ?_
      refine we_block ?_
      refine we_rest [] [100000, 100001] (l' := []) (H' := [(100000, ⟨(cRun 100001 r.n cap r.s0 r.s1 r.s2), 51⟩), (100001, ⟨[.vals (rowV gB r.L ++ rest)], 47⟩)]) (by kernel_rfl) (by kernel_rfl) ?_
      refine we_ret (.inr rfl) (v := .t []) (by kernel_rfl) ?_
      intro σ w' hf
      have hq : playR r m 2 = (⟨r.n, r.L, r.s0, r.s1, r.s2⟩ : Run) := by simp [playR, grows, setS, getS, h1, h2]
      refine ⟨none, σ, by show grows r m = false; simp [grows, h1, h2], rfl, ?_⟩
      rw [playH1 hq]
      exact hf.ran rfl rfl
  · replace h1 := ne_of_beq_false h1
    refine wc_seq ?_
    refine wc_reg [0, 1] (by kernel_rfl) ?_
    refine wo_run [0, 1] [0, 3, 4, 5, 80] [3, 100000, 100001] (l' := [(0, eL 100000 0), (3, eL 3 0), (4, eI .i64 ((mb r m : Nat) : Int)), (5, eI .i64 2), (80, eB (m.kind == 1))]) (H' := [(3, ⟨[cI .i64 m.kind, cI .i64 m.who, cI .i64 m.block, cI .i64 m.view], 55⟩), (100000, ⟨(cRun 100001 r.n cap r.s0 r.s1 r.s2), 51⟩), (100001, ⟨[.vals (rowV gB r.L ++ rest)], 47⟩)]) (by kernel_rfl) ?_
    refine wo_nil ?_
    refine we_then ?_
    refine wc_cond rfl (fun h4 => ?_) (fun h4 => ?_)
    · replace h4 := eq_of_beq h4
      refine wc_seq ?_
      refine wc_reg [0, 1] (by kernel_rfl) ?_
      refine wo_run [0, 1] [0, 4, 5, 83] [100000, 100001] (l' := [(0, eL 100000 0), (4, eI .i64 ((mb r m : Nat) : Int)), (5, eI .i64 2), (83, eB (decide (((mb r m : Nat) : Int) > 0)))]) (H' := [(100000, ⟨(cRun 100001 r.n cap r.s0 r.s1 r.s2), 51⟩), (100001, ⟨[.vals (rowV gB r.L ++ rest)], 47⟩)]) (by kernel_rfl) ?_
      refine wo_nil ?_
      refine we_then ?_
      refine wc_cond rfl (fun h5 => ?_) (fun h5 => ?_)
      · replace h5 := of_decide_eq_true h5
        refine wc_reg [0, 1, 2, 3] (by kernel_rfl) ?_
        refine wo_run [0, 1, 2] [84, 85, 86] [100000, 100001] (l' := [(84, eL 100000 0), (85, eI .i64 2), (86, eI .i64 ((mb r m : Nat) : Int))]) (H' := [(100000, ⟨(cRun 100001 r.n cap r.s0 r.s1 r.s2), 51⟩), (100001, ⟨[.vals (rowV gB r.L ++ rest)], 47⟩)]) (by kernel_rfl) ?_
        refine wo_ox rfl rfl (ox_callm (τ := Unit) (φ := fun _ => True) [sL 100000 0, sI .i64 2, sI .i64 ((mb r m : Nat) : Int)] [(100000, ⟨(cRun 100001 r.n cap r.s0 r.s1 r.s2), 51⟩), (100001, ⟨[.vals (rowV gB r.L ++ rest)], 47⟩)] [(100000, 100000), (100001, 100001)] [] [] (fun _ => .t []) (fun _ => [(100000, ⟨[.one (.ls 100001 0 ((voteR r 2 (mb r m)).n) cap), cI .i64 (voteR r 2 (mb r m)).s0.e, cI .i64 (voteR r 2 (mb r m)).s0.v, cI .i64 (voteR r 2 (mb r m)).s0.l, .ints .u8 32 ((voteR r 2 (mb r m)).s0.d), cI .i64 (voteR r 2 (mb r m)).s1.e, cI .i64 (voteR r 2 (mb r m)).s1.v, cI .i64 (voteR r 2 (mb r m)).s1.l, .ints .u8 32 ((voteR r 2 (mb r m)).s1.d), cI .i64 (voteR r 2 (mb r m)).s2.e, cI .i64 (voteR r 2 (mb r m)).s2.v, cI .i64 (voteR r 2 (mb r m)).s2.l, .ints .u8 32 ((voteR r 2 (mb r m)).s2.d)], 51⟩), (100001, ⟨[.vals (rowV gB (voteR r 2 (mb r m)).L ++ rest)], 47⟩)]) rfl (by kernel_rfl) rfl Try.func28 (by kernel_rfl) (by kernel_rfl) (by kernel_rfl) (by kernel_rfl) (by kernel_rfl) (by kernel_rfl) (⟨⟨by kernel_rfl, by kernel_rfl, by kernel_rfl⟩, ⟨⟨by kernel_rfl, by kernel_rfl, by kernel_rfl⟩, trivial⟩⟩) (fun _ => by kernel_rfl) (fun _ => by kernel_rfl) (fun _ _ => okv_nil) (fun ρ w _ hh => vote2_any r cap rest hr (mb r m) (mb_lt hr) w _ hh)) (fun _ _ _ => ?_)
        refine wo_run [] [] [100000, 100001] (l' := []) (H' := [(100000, ⟨[.one (.ls 100001 0 ((voteR r 2 (mb r m)).n) cap), cI .i64 (voteR r 2 (mb r m)).s0.e, cI .i64 (voteR r 2 (mb r m)).s0.v, cI .i64 (voteR r 2 (mb r m)).s0.l, .ints .u8 32 ((voteR r 2 (mb r m)).s0.d), cI .i64 (voteR r 2 (mb r m)).s1.e, cI .i64 (voteR r 2 (mb r m)).s1.v, cI .i64 (voteR r 2 (mb r m)).s1.l, .ints .u8 32 ((voteR r 2 (mb r m)).s1.d), cI .i64 (voteR r 2 (mb r m)).s2.e, cI .i64 (voteR r 2 (mb r m)).s2.v, cI .i64 (voteR r 2 (mb r m)).s2.l, .ints .u8 32 ((voteR r 2 (mb r m)).s2.d)], 51⟩), (100001, ⟨[.vals (rowV gB (voteR r 2 (mb r m)).L ++ rest)], 47⟩)]) (by kernel_rfl) ?_
        refine wo_nil ?_
        refine we_block ?_
        refine we_rest [] [100000, 100001] (l' := []) (H' := [(100000, ⟨[.one (.ls 100001 0 ((voteR r 2 (mb r m)).n) cap), cI .i64 (voteR r 2 (mb r m)).s0.e, cI .i64 (voteR r 2 (mb r m)).s0.v, cI .i64 (voteR r 2 (mb r m)).s0.l, .ints .u8 32 ((voteR r 2 (mb r m)).s0.d), cI .i64 (voteR r 2 (mb r m)).s1.e, cI .i64 (voteR r 2 (mb r m)).s1.v, cI .i64 (voteR r 2 (mb r m)).s1.l, .ints .u8 32 ((voteR r 2 (mb r m)).s1.d), cI .i64 (voteR r 2 (mb r m)).s2.e, cI .i64 (voteR r 2 (mb r m)).s2.v, cI .i64 (voteR r 2 (mb r m)).s2.l, .ints .u8 32 ((voteR r 2 (mb r m)).s2.d)], 51⟩), (100001, ⟨[.vals (rowV gB (voteR r 2 (mb r m)).L ++ rest)], 47⟩)]) (by kernel_rfl) (by kernel_rfl) ?_
        refine we_ret (.inr rfl) (v := .t []) (by kernel_rfl) ?_
        intro σ w' hf
        have h5n :  0 < mb r m := by omega
        have hq : playR r m 2 = (voteR r 2 (mb r m)) := by simp [playR, grows, setS, getS, h1, h4, h5n]
        refine ⟨none, σ, by show grows r m = false; simp [grows, h1, h4, h5n], rfl, ?_⟩
        rw [playH1 hq]
        exact hf.ran rfl rfl
      · replace h5 := of_decide_eq_false h5
        refine wc_skip ?_
        refine we_block ?_
        refine we_rest [] [100000, 100001] (l' := []) (H' := [(100000, ⟨(cRun 100001 r.n cap r.s0 r.s1 r.s2), 51⟩), (100001, ⟨[.vals (rowV gB r.L ++ rest)], 47⟩)]) (by kernel_rfl) (by kernel_rfl) ?_
        refine we_ret (.inr rfl) (v := .t []) (by kernel_rfl) ?_
        intro σ w' hf
        have h5n : ¬ 0 < mb r m := by omega
        have hq : playR r m 2 = (⟨r.n, r.L, r.s0, r.s1, r.s2⟩ : Run) := by simp [playR, grows, setS, getS, h1, h4, h5n]
        refine ⟨none, σ, by show grows r m = false; simp [grows, h1, h4, h5n], rfl, ?_⟩
        rw [playH1 hq]
        exact hf.ran rfl rfl
    · replace h4 := ne_of_beq_false h4
      refine wc_seq ?_
      refine wc_reg [0, 1] (by kernel_rfl) ?_
      refine wo_run [0, 1] [0, 3, 5, 25] [3, 100000, 100001] (l' := [(0, eL 100000 0), (3, eL 3 0), (5, eI .i64 2), (25, eB true)]) (H' := [(3, ⟨[cI .i64 m.kind, cI .i64 m.who, cI .i64 m.block, cI .i64 m.view], 55⟩), (100000, ⟨(cRun 100001 r.n cap r.s0 r.s1 r.s2), 51⟩), (100001, ⟨[.vals (rowV gB r.L ++ rest)], 47⟩)]) (by kernel_rfl) ?_
      refine wo_nil ?_
      refine we_then ?_
      refine wc_true rfl ?_
      refine wc_rest [0, 3, 5] [3, 100000, 100001] (l' := [(0, eL 100000 0), (3, eL 3 0), (5, eI .i64 2)]) (H' := [(3, ⟨[cI .i64 m.kind, cI .i64 m.who, cI .i64 m.block, cI .i64 m.view], 55⟩), (100000, ⟨(cRun 100001 r.n cap r.s0 r.s1 r.s2), 51⟩), (100001, ⟨[.vals (rowV gB r.L ++ rest)], 47⟩)]) (by kernel_rfl) ?_
      refine wc_draw (n := 16) [(3, ⟨[cI .i64 m.kind, cI .i64 m.who, cI .i64 m.block, cI .i64 m.view], 55⟩), (100001, ⟨[.vals (rowV gB r.L ++ rest)], 47⟩)] (by kernel_rfl) rfl (sub_of [3, 100001] (by kernel_rfl)) (fun ρ0 => ?_)
      refine wa_takes (fuel := 4) [0, 1, 2, 3, 4, 5, 6, 8, 9, 10, 12, 13] [27, 32, 36, 39] (listed' := #[true, true, true, true, true, true, true, false, true, true, true, false, true, true, false, false]) (l' := [(27, eI .i64 2), (32, eL 100000 71), (36, eI .i64 (Int.tmod m.view 1000)), (39, eL 100000 1)]) (pk_block pk_body) rfl (by kernel_rfl) ?_
      refine wa_all [7] (by kernel_rfl) rfl (all1 ?_)
      refine wi_op rfl rfl (ot_val1 (e := eA (cS r.s2)) rfl (by kernel_rfl)) (sub_of [3, 100001] (by kernel_rfl)) ?_
      refine wa_all [11] (by kernel_rfl) rfl (all1 ?_)
      refine wi_op rfl rfl (ot_call (vs := [.agg (cS r.s2), sI .i64 (Int.tmod m.view 1000)]) rfl rfl rfl Try.func43 (by kernel_rfl) (by kernel_rfl) (by kernel_rfl) (eA (cS (giveUp r.s2 (Int.tmod m.view 1000)))) (okc_one (okc_one (okc_one (okc_ints (Lk.len (lk_giveUp (by first | exact hr.l0 | exact hr.l1 | exact hr.l2))) (okc_nil))))) (fun ρ w _ => giveUp_any r.s2 (hr.l2.len) (Int.tmod m.view 1000) w ρ)) (sub_of [3, 100001] (by kernel_rfl)) ?_
      refine wa_takes (fuel := 1) [14] [37, 40] (listed' := #[true, true, true, true, true, true, true, true, true, true, true, true, true, true, true, false]) (l' := [(37, eA (cS (giveUp r.s2 (Int.tmod m.view 1000)))), (40, eL 100000 71)]) (pk_block pk_body) rfl (by kernel_rfl) ?_
      refine wa_all [15] (by kernel_rfl) rfl (all1 ?_)
      refine wi_op rfl rfl (ot_eff (l' := [(37, eA (cS (giveUp r.s2 (Int.tmod m.view 1000)))), (40, eL 100000 71)]) (H' := [(3, ⟨[cI .i64 m.kind, cI .i64 m.who, cI .i64 m.block, cI .i64 m.view], 55⟩), (100000, ⟨(cRun 100001 r.n cap r.s0 r.s1 (giveUp r.s2 (Int.tmod m.view 1000))), 51⟩), (100001, ⟨[.vals (rowV gB r.L ++ rest)], 47⟩)]) (by kernel_rfl)) (sub_of [3, 100001] (by kernel_rfl)) ?_
      refine wa_done (by kernel_rfl) ?_
      refine we_rest [] [100000, 100001] (l' := []) (H' := [(100000, ⟨(cRun 100001 r.n cap r.s0 r.s1 (giveUp r.s2 (Int.tmod m.view 1000))), 51⟩), (100001, ⟨[.vals (rowV gB r.L ++ rest)], 47⟩)]) (by kernel_rfl) (by kernel_rfl) ?_
      refine we_block ?_
      refine we_rest [] [100000, 100001] (l' := []) (H' := [(100000, ⟨(cRun 100001 r.n cap r.s0 r.s1 (giveUp r.s2 (Int.tmod m.view 1000))), 51⟩), (100001, ⟨[.vals (rowV gB r.L ++ rest)], 47⟩)]) (by kernel_rfl) (by kernel_rfl) ?_
      refine we_ret (.inr rfl) (v := .t []) (by kernel_rfl) ?_
      intro σ w' hf
      have hq : playR r m 2 = (⟨r.n, r.L, r.s0, r.s1, (giveUp r.s2 (Int.tmod m.view 1000))⟩ : Run) := by simp [playR, grows, setS, getS, h1, h4]
      refine ⟨none, σ, by show grows r m = false; simp [grows, h1, h4], rfl, ?_⟩
      rw [playH1 hq]
      exact hf.ran rfl rfl

end Go.Proofs.Ytckhcmdjgkoocaa
