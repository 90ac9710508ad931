/- A run of four validators: a move. -/
import Derived.Test.YtckhcmdjgkoocaaRulesV2
namespace Go.Proofs.Ytckhcmdjgkoocaa
open Go.RowKit Go.Sx
set_option linter.unusedVariables false
set_option linter.unusedSimpArgs false
structure Mv where
  kind : Int
  who : Int
  block : Int
  view : Int
def mb (r : Run) (m : Mv) : Nat := (IntKind.wrap .i64 (Int.tmod (IntKind.wrap .u64 m.block) (IntKind.wrap .u64 ((r.n : Nat) : Int)))).toNat
theorem u64_of {a : Int} (h1 : 0 ≤ a) (h2 : a < 18446744073709551616) : IntKind.wrap .u64 a = a := by
  simp only [IntKind.wrap, IntKind.bits, IntKind.signed]
  simp
  omega
theorem i64_of {a : Int} (h1 : -9223372036854775808 ≤ a) (h2 : a < 9223372036854775808) : IntKind.wrap .i64 a = a := by rw [IntKind.wrap_i64]; omega
theorem u64_ge (a : Int) : 0 ≤ IntKind.wrap .u64 a := by
  simp only [IntKind.wrap, IntKind.bits, IntKind.signed]
  simp
  omega
section
variable {r : Run} {cap : Nat} {rest : List Value}
theorem mb_n (hr : r.ok cap rest) : IntKind.wrap .u64 ((r.n : Nat) : Int) = ((r.n : Nat) : Int) := by
  have := hr.small
  rw [u64_of (by omega) (by omega)]
theorem n_pos (hr : r.ok cap rest) : 0 < r.n := by rw [← hr.ln0]; exact hr.wf.1
theorem mb_ne (hr : r.ok cap rest) : IntKind.wrap .u64 ((r.n : Nat) : Int) ≠ 0 := by
  have := n_pos hr
  rw [mb_n hr]; omega
theorem mb_mod (hr : r.ok cap rest) (x : Int) : 0 ≤ Int.tmod (IntKind.wrap .u64 x) ((r.n : Nat) : Int) ∧ Int.tmod (IntKind.wrap .u64 x) ((r.n : Nat) : Int) < ((r.n : Nat) : Int) := by
  have := n_pos hr
  rw [Int.tmod_eq_emod_of_nonneg (u64_ge x)]
  exact ⟨Int.emod_nonneg _ (by omega), Int.emod_lt_of_pos _ (by omega)⟩
theorem mb_eq {m : Mv} (hr : r.ok cap rest) : IntKind.wrap .i64 (Int.tmod (IntKind.wrap .u64 m.block) (IntKind.wrap .u64 ((r.n : Nat) : Int))) = ((mb r m : Nat) : Int) := by
  unfold mb
  rw [mb_n hr]
  have h := mb_mod hr m.block
  have := hr.small
  rw [i64_of (by omega) (by omega)]
  omega
theorem mb_lt {m : Mv} (hr : r.ok cap rest) : mb r m < r.n := by
  have h := mb_mod hr m.block
  have := hr.small
  unfold mb
  rw [mb_n hr, i64_of (by omega) (by omega)]
  omega
end
def newB (r : Run) (m : Mv) : Bk := ⟨mb r m, IntKind.wrap .i64 (IntKind.wrap .i64 ((bk r.L (mb r m)).view + 1) + IntKind.wrap .i64 (Int.tmod (IntKind.wrap .u64 m.view) 3)), fun _ => false⟩
/-- Does the move put a block more? -/
def grows (r : Run) (m : Mv) : Bool := decide (m.kind = 0) && (certB r.L (mb r m) && decide (r.n < 400))
def playR (r : Run) (m : Mv) (who : Nat) : Run :=
  if m.kind = 0 then (if grows r m then ⟨r.n + 1, r.L ++ [newB r m], r.s0, r.s1, r.s2⟩ else r)
  else if m.kind = 1 then (if 0 < mb r m then voteR r who (mb r m) else r)
  else if who < 3 then setS r who (giveUp (getS r who) (Int.tmod m.view 1000)) else r
def playOk (r : Run) (m : Mv) : Option (Nat × List Value) → Prop
  | none => grows r m = false
  | some x => grows r m = true ∧ r.n + 1 ≤ x.1 ∧ x.1 ≤ maxLen ∧ x.2.length = (x.1 - (r.n + 1)) * 6
def playH (r : Run) (m : Mv) (who cap : Nat) (rest : List Value) : Option (Nat × List Value) → Heap
  | none => [(100000, ⟨cRun 100001 (playR r m who).n cap (playR r m who).s0 (playR r m who).s1 (playR r m who).s2, 51⟩), (100001, ⟨[.vals (rowV gB (playR r m who).L ++ rest)], 47⟩)]
  | some x => [(100000, ⟨cRun 77 (playR r m who).n x.1 (playR r m who).s0 (playR r m who).s1 (playR r m who).s2, 51⟩), (77, ⟨[.vals (rowV gB (playR r m who).L ++ x.2)], 47⟩)]
theorem playH1 {r R : Run} {m : Mv} {who cap : Nat} {rest : List Value} (h : playR r m who = R) : playH r m who cap rest none = [(100000, ⟨cRun 100001 R.n cap R.s0 R.s1 R.s2, 51⟩), (100001, ⟨[.vals (rowV gB R.L ++ rest)], 47⟩)] := by subst h; rfl
theorem playH2 {r R : Run} {m : Mv} {who cap c : Nat} {rest rs : List Value} (h : playR r m who = R) : playH r m who cap rest (some (c, rs)) = [(100000, ⟨cRun 77 R.n c R.s0 R.s1 R.s2, 51⟩), (77, ⟨[.vals (rowV gB R.L ++ rs)], 47⟩)] := by subst h; rfl
theorem voteR_eta (r : Run) (who b : Nat) : voteR r who b = ⟨r.n, (voteR r who b).L, (voteR r who b).s0, (voteR r who b).s1, (voteR r who b).s2⟩ := by
  unfold voteR setS
  (repeat' split) <;> rfl
theorem row_push (L : List Bk) (u : Nat) (v : Int) : rowV gB (L ++ [⟨u, v, fun _ => false⟩]) = rowV gB L ++ [.int .i64 u, .int .i64 v, .bool false, .bool false, .bool false, .bool false] := by rw [rowV_app]; rfl
abbrev z47 : List Chunk := [cI .i64 0, cI .i64 0, cB false, cB false, cB false, cB false]
theorem z47_zero' : (Try.prog.info? 47).bind (·.zero) = some (SV.conc (fun _ => 0) (.agg z47)) := by kernel_rfl
theorem z47_zero : (Try.prog.info? 47).bind (·.zero) = some (SV.conc (fun _ => 0) (.agg z47)) ∨ ∃ v, (Try.prog.info? 47).bind (·.zero) = some v ∧ z47 = [.one (.v v)] ∧ v.oneCell' = true := .inl z47_zero'
theorem z47_ok : okCs z47 := okc_one (okc_one (okc_one (okc_one (okc_one (okc_one (okc_nil))))))

set_option maxHeartbeats 4000000 in
theorem play3_any (r : Run) (cap : Nat) (rest : List Value) (hr : r.ok cap rest) (m : Mv) (hw : (IntKind.wrap .i64 (Int.tmod (IntKind.wrap .u64 m.who) 4)) = 3) (w : World) (ρ : Nat → Nat) (hH : HeapAt ρ [(100000, ⟨(cRun 100001 r.n cap r.s0 r.s1 r.s2), 51⟩), (100001, ⟨[.vals (rowV gB r.L ++ rest)], 47⟩)] w) :
    Calls Try.prog 24 ([sL 100000 0, .agg [cI .i64 m.kind, cI .i64 m.who, cI .i64 m.block, cI .i64 m.view]].map (SV.conc ρ)).toArray w fun r' w' => ∃ (x : Option (Nat × List Value)) (σ : Nat → Nat), playOk r m x ∧ r' = .returned (EV.conc σ (.t [])) ∧ Ran ρ [(100000, ⟨(cRun 100001 r.n cap r.s0 r.s1 r.s2), 51⟩), (100001, ⟨[.vals (rowV gB r.L ++ rest)], 47⟩)] (playH r m 3 cap rest x) w w' σ := by
  refine calls_enter (vs := [sL 100000 0, .agg [cI .i64 m.kind, cI .i64 m.who, cI .i64 m.block, cI .i64 m.view]]) (N := 88) [(100000, ⟨(cRun 100001 r.n cap r.s0 r.s1 r.s2), 51⟩), (100001, ⟨[.vals (rowV gB r.L ++ rest)], 47⟩)] ρ Try.func24 rfl rfl (Nat.le_of_ble_eq_true rfl) (okv_a (okv_agg (okc_one (okc_one (okc_one (okc_one (okc_nil))))) (okv_nil))) hH.hp hH.inj ?_ _ rfl
  refine wc_seq ?_
  refine wc_reg [0] (by kernel_rfl) ?_
  refine wo_run [0] [0, 3] [3, 100000, 100001] (l' := [(0, eL 100000 0), (3, eL 3 0)]) (H' := [(3, ⟨[cI .i64 m.kind, cI .i64 m.who, cI .i64 m.block, cI .i64 m.view], 55⟩), (100000, ⟨(cRun 100001 r.n cap r.s0 r.s1 r.s2), 51⟩), (100001, ⟨[.vals (rowV gB r.L ++ rest)], 47⟩)]) (by kernel_rfl) ?_
  refine wo_nil ?_
  refine we_then ?_
  refine wc_seq ?_
  refine wc_draw (n := 12) [(3, ⟨[cI .i64 m.kind, cI .i64 m.who, cI .i64 m.block, cI .i64 m.view], 55⟩), (100000, ⟨(cRun 100001 r.n cap r.s0 r.s1 r.s2), 51⟩), (100001, ⟨[.vals (rowV gB r.L ++ rest)], 47⟩)] (by kernel_rfl) rfl (sub_of [3, 100000, 100001] (by kernel_rfl)) (fun ρ0 => ?_)
  refine wa_takes (fuel := 5) [0, 1, 2, 3, 4, 5, 6] [0, 3, 8, 12] (listed' := #[true, true, true, true, true, true, true, false, false, false, false, false]) (l' := [(0, eL 100000 0), (3, eL 3 0), (8, eI .u64 (IntKind.wrap .u64 m.block)), (12, .s (.a (.ls 100001 0 r.n cap)))]) (pk_then pk_body) rfl (by kernel_rfl) ?_
  refine wa_take 7 (pk_then pk_body) rfl (by kernel_rfl) rfl rfl (rd_len rfl rfl rfl rfl (fun _ => by kernel_rfl)) ?_
  refine wa_takes (fuel := 3) [8] [0, 3, 8, 14] (listed' := #[true, true, true, true, true, true, true, true, true, false, false, false]) (l' := [(0, eL 100000 0), (3, eL 3 0), (8, eI .u64 (IntKind.wrap .u64 m.block)), (14, eI .u64 (IntKind.wrap .u64 ((r.n : Nat) : Int)))]) (pk_then pk_body) rfl (by kernel_rfl) ?_
  refine wa_take 9 (pk_then pk_body) rfl (by kernel_rfl) rfl rfl (rd_rem (k := .u64) (X := (IntKind.wrap .u64 m.block)) (Y := (IntKind.wrap .u64 ((r.n : Nat) : Int))) rfl rfl rfl (mb_ne hr)) ?_
  refine wa_takes (fuel := 1) [10] [0, 3, 16] (listed' := #[true, true, true, true, true, true, true, true, true, true, true, false]) (l' := [(0, eL 100000 0), (3, eL 3 0), (16, eI .i64 (IntKind.wrap .i64 (Int.tmod (IntKind.wrap .u64 m.block) (IntKind.wrap .u64 ((r.n : Nat) : Int)))))]) (pk_then pk_body) rfl (by kernel_rfl) ?_
  refine wa_take 11 (pk_then pk_body) rfl (by kernel_rfl) rfl rfl (rd_recast (e := eI .i64 (IntKind.wrap .i64 (Int.tmod (IntKind.wrap .u64 m.block) (IntKind.wrap .u64 ((r.n : Nat) : Int))))) (eI .i64 ((mb r m : Nat) : Int)) (by kernel_rfl) (congrArg (fun z => eI .i64 z) (mb_eq hr))) ?_
  refine wa_done (by kernel_rfl) ?_
  refine we_rest [0, 3, 4] [3, 100000, 100001] (l' := [(0, eL 100000 0), (3, eL 3 0), (4, eI .i64 ((mb r m : Nat) : Int))]) (H' := [(3, ⟨[cI .i64 m.kind, cI .i64 m.who, cI .i64 m.block, cI .i64 m.view], 55⟩), (100000, ⟨(cRun 100001 r.n cap r.s0 r.s1 r.s2), 51⟩), (100001, ⟨[.vals (rowV gB r.L ++ rest)], 47⟩)]) (by kernel_rfl) (by kernel_rfl) ?_
  refine we_then ?_
  refine wc_seq ?_
  refine wc_reg [0, 1, 2, 3, 4, 5] (by kernel_rfl) ?_
  refine wo_run [0, 1, 2, 3, 4] [0, 3, 4, 21] [3, 100000, 100001] (l' := [(0, eL 100000 0), (3, eL 3 0), (4, eI .i64 ((mb r m : Nat) : Int)), (21, eI .i64 (IntKind.wrap .i64 (Int.tmod (IntKind.wrap .u64 m.who) 4)))]) (H' := [(3, ⟨[cI .i64 m.kind, cI .i64 m.who, cI .i64 m.block, cI .i64 m.view], 55⟩), (100000, ⟨(cRun 100001 r.n cap r.s0 r.s1 r.s2), 51⟩), (100001, ⟨[.vals (rowV gB r.L ++ rest)], 47⟩)]) (by kernel_rfl) ?_
  refine wo_op rfl rfl (ot_rd rfl (rd_recast (e := eI .i64 (IntKind.wrap .i64 (Int.tmod (IntKind.wrap .u64 m.who) 4))) (eI .i64 3) (by kernel_rfl) (congrArg (fun z => eI .i64 z) hw))) ?_
  refine wo_nil ?_
  refine we_then ?_
  refine wc_seq ?_
  refine wc_reg [0, 1] (by kernel_rfl) ?_
  refine wo_run [0, 1] [0, 3, 4, 5, 23] [3, 100000, 100001] (l' := [(0, eL 100000 0), (3, eL 3 0), (4, eI .i64 ((mb r m : Nat) : Int)), (5, eI .i64 3), (23, eI .i64 m.kind)]) (H' := [(3, ⟨[cI .i64 m.kind, cI .i64 m.who, cI .i64 m.block, cI .i64 m.view], 55⟩), (100000, ⟨(cRun 100001 r.n cap r.s0 r.s1 r.s2), 51⟩), (100001, ⟨[.vals (rowV gB r.L ++ rest)], 47⟩)]) (by kernel_rfl) ?_
  refine wo_nil ?_
  refine we_then ?_
  refine wc_block ?_
  refine wc_seq ?_
  refine wc_reg [0, 1] (by kernel_rfl) ?_
  refine wo_run [0, 1] [0, 3, 4, 5, 23, 41] [3, 100000, 100001] (l' := [(0, eL 100000 0), (3, eL 3 0), (4, eI .i64 ((mb r m : Nat) : Int)), (5, eI .i64 3), (23, eI .i64 m.kind), (41, eB (m.kind == 0))]) (H' := [(3, ⟨[cI .i64 m.kind, cI .i64 m.who, cI .i64 m.block, cI .i64 m.view], 55⟩), (100000, ⟨(cRun 100001 r.n cap r.s0 r.s1 r.s2), 51⟩), (100001, ⟨[.vals (rowV gB r.L ++ rest)], 47⟩)]) (by kernel_rfl) ?_
  refine wo_nil ?_
  refine we_then ?_
  refine wc_cond rfl (fun h1 => ?_) (fun h1 => ?_)
  · replace h1 := eq_of_beq h1
    refine wc_seq ?_
    refine wc_reg [0, 1, 2, 3, 4, 5, 6, 7, 8, 9, 10] (by kernel_rfl) ?_
    refine wo_run [0, 1] [0, 3, 4, 43, 44] [3, 100000, 100001] (l' := [(0, eL 100000 0), (3, eL 3 0), (4, eI .i64 ((mb r m : Nat) : Int)), (43, eL 100000 0), (44, eI .i64 ((mb r m : Nat) : Int))]) (H' := [(3, ⟨[cI .i64 m.kind, cI .i64 m.who, cI .i64 m.block, cI .i64 m.view], 55⟩), (100000, ⟨(cRun 100001 r.n cap r.s0 r.s1 r.s2), 51⟩), (100001, ⟨[.vals (rowV gB r.L ++ rest)], 47⟩)]) (by kernel_rfl) ?_
    refine wo_op rfl rfl (ot_call (vs := [sL 100000 0, sI .i64 ((mb r m : Nat) : Int)]) rfl rfl rfl Try.func27 (by kernel_rfl) (by kernel_rfl) (by kernel_rfl) (eB (certB r.L (mb r m))) (trivial) (fun ρ w h => certified_any r cap rest hr (mb r m) (mb_lt hr) w (fun k => ρ (Sx.look [(100000, 100000), (100001, 100001)] k)) (h.heap (π := [(100000, 100000), (100001, 100001)]) (Hc := [(100000, ⟨(cRun 100001 r.n cap r.s0 r.s1 r.s2), 51⟩), (100001, ⟨[.vals (rowV gB r.L ++ rest)], 47⟩)]) rfl ⟨⟨by kernel_rfl, by kernel_rfl, by kernel_rfl⟩, ⟨by kernel_rfl, by kernel_rfl, by kernel_rfl⟩, trivial⟩))) ?_
    refine wo_run [3] [0, 3, 4, 46] [3, 100000, 100001] (l' := [(0, eL 100000 0), (3, eL 3 0), (4, eI .i64 ((mb r m : Nat) : Int)), (46, eB (certB r.L (mb r m)))]) (H' := [(3, ⟨[cI .i64 m.kind, cI .i64 m.who, cI .i64 m.block, cI .i64 m.view], 55⟩), (100000, ⟨(cRun 100001 r.n cap r.s0 r.s1 r.s2), 51⟩), (100001, ⟨[.vals (rowV gB r.L ++ rest)], 47⟩)]) (by kernel_rfl) ?_
    refine wo_bool 46 rfl (fun h2 => ?_) (fun h2 => ?_)
    · refine wo_run [4, 5, 6, 7] [0, 3, 4, 46, 50] [3, 100000, 100001] (l' := [(0, eL 100000 0), (3, eL 3 0), (4, eI .i64 ((mb r m : Nat) : Int)), (46, eB true), (50, .s (.a (.ls 100001 0 r.n cap)))]) (H' := [(3, ⟨[cI .i64 m.kind, cI .i64 m.who, cI .i64 m.block, cI .i64 m.view], 55⟩), (100000, ⟨(cRun 100001 r.n cap r.s0 r.s1 r.s2), 51⟩), (100001, ⟨[.vals (rowV gB r.L ++ rest)], 47⟩)]) (by kernel_rfl) ?_
      refine wo_op rfl rfl (ot_rd rfl (rd_len rfl rfl rfl rfl (fun _ => by kernel_rfl))) ?_
      refine wo_run [9, 10] [0, 3, 4, 53] [3, 100000, 100001] (l' := [(0, eL 100000 0), (3, eL 3 0), (4, eI .i64 ((mb r m : Nat) : Int)), (53, eB (decide (((r.n : Nat) : Int) < 400)))]) (H' := [(3, ⟨[cI .i64 m.kind, cI .i64 m.who, cI .i64 m.block, cI .i64 m.view], 55⟩), (100000, ⟨(cRun 100001 r.n cap r.s0 r.s1 r.s2), 51⟩), (100001, ⟨[.vals (rowV gB r.L ++ rest)], 47⟩)]) (by kernel_rfl) ?_
      refine wo_nil ?_
      refine we_then ?_
      refine wc_cond rfl (fun h3 => ?_) (fun h3 => ?_)
      · replace h3 := of_decide_eq_true h3
        refine wc_rest [0, 3, 4] [3, 100000, 100001] (l' := [(0, eL 100000 0), (3, eL 3 0), (4, eI .i64 ((mb r m : Nat) : Int))]) (H' := [(3, ⟨[cI .i64 m.kind, cI .i64 m.who, cI .i64 m.block, cI .i64 m.view], 55⟩), (100000, ⟨(cRun 100001 r.n cap r.s0 r.s1 r.s2), 51⟩), (100001, ⟨[.vals (rowV gB r.L ++ rest)], 47⟩)]) (by kernel_rfl) ?_
        refine wc_draw (n := 27) [(3, ⟨[cI .i64 m.kind, cI .i64 m.who, cI .i64 m.block, cI .i64 m.view], 55⟩)] (by kernel_rfl) rfl (sub_of [3] (by kernel_rfl)) (fun ρ0 => ?_)
        refine wa_takes (fuel := 13) [0, 1, 2, 3, 5, 6, 7, 8, 10, 15, 16, 17, 18, 19] [54, 57, 59, 62, 64, 73] (listed' := #[true, true, true, true, false, true, true, true, true, false, true, false, false, false, false, true, true, true, true, true, false, false, false, false, false, false, false]) (l' := [(54, eL 100000 0), (57, eL 100000 0), (59, eI .i64 ((mb r m : Nat) : Int)), (62, eL 100000 0), (64, eI .i64 ((mb r m : Nat) : Int)), (73, eI .i64 (IntKind.wrap .i64 (Int.tmod (IntKind.wrap .u64 m.view) 3)))]) (pk_block pk_body) rfl (by kernel_rfl) ?_
        refine wa_all [4, 9] (by kernel_rfl) rfl (allc ?_ (all1 ?_))
        · refine wi_op rfl rfl (ot_val1 (e := .s (.a (.ls 100001 0 r.n cap))) rfl (by kernel_rfl)) (sub_of [3] (by kernel_rfl)) ?_
          refine wa_all [9] (by kernel_rfl) rfl (all1 ?_)
          refine wi_op rfl rfl (ot_val1 (e := .s (.a (.ls 100001 0 r.n cap))) rfl (by kernel_rfl)) (sub_of [3] (by kernel_rfl)) ?_
          refine wa_take 11 (pk_block pk_body) rfl (by kernel_rfl) rfl rfl (rd_indexL (e := 47) 6 (mb r m) ((mb r m : Nat) : Int) rfl (by kernel_rfl) (by kernel_rfl) rfl rfl (rfl) (mb_lt hr)) ?_
          refine wa_takes (fuel := 9) [12] [54, 58, 59, 66, 73] (listed' := #[true, true, true, true, true, true, true, true, true, true, true, true, true, false, false, true, true, true, true, true, false, false, false, false, false, false, false]) (l' := [(54, eL 100000 0), (58, .s (.a (.ls 100001 0 r.n cap))), (59, eI .i64 ((mb r m : Nat) : Int)), (66, eL 100001 ((0 + (mb r m) * 6) + 1)), (73, eI .i64 (IntKind.wrap .i64 (Int.tmod (IntKind.wrap .u64 m.view) 3)))]) (pk_block pk_body) rfl (by kernel_rfl) ?_
          refine wa_all [13] (by kernel_rfl) rfl (all1 ?_)
          refine wi_op rfl rfl (ot_rd rfl (rd_cellS (b := ⟨[.vals (rowV gB r.L ++ rest)], 47⟩) (.v (.int .i64 (bk r.L (mb r m)).view)) rfl rfl rfl (by kernel_rfl) (fun ρ => view_at (hr.ln (mb_lt hr)) ρ))) (sub_of [3] (by kernel_rfl)) ?_
          refine wa_takes (fuel := 6) [14, 20] [54, 58, 59, 74] (listed' := #[true, true, true, true, true, true, true, true, true, true, true, true, true, true, true, true, true, true, true, true, true, false, false, false, false, false, false]) (l' := [(54, eL 100000 0), (58, .s (.a (.ls 100001 0 r.n cap))), (59, eI .i64 ((mb r m : Nat) : Int)), (74, eI .i64 (IntKind.wrap .i64 ((IntKind.wrap .i64 ((bk r.L (mb r m)).view + 1)) + (IntKind.wrap .i64 (Int.tmod (IntKind.wrap .u64 m.view) 3)))))]) (pk_block pk_body) rfl (by kernel_rfl) ?_
          refine wa_take 21 (pk_block pk_body) rfl (by kernel_rfl) rfl rfl (rd_build (zc := z47) [cI .i64 ((mb r m : Nat) : Int), cI .i64 (IntKind.wrap .i64 ((IntKind.wrap .i64 ((bk r.L (mb r m)).view + 1)) + (IntKind.wrap .i64 (Int.tmod (IntKind.wrap .u64 m.view) 3)))), cB false, cB false, cB false, cB false] rfl z47_zero' z47_ok (fun _ => rfl) (by kernel_rfl) (by kernel_rfl)) ?_
          refine wa_all [22] (by kernel_rfl) rfl (all1 ?_)
          refine wi_op rfl rfl (ot_bslice (e := 47) (d := 76) (n := 1) (size := 6) [cI .i64 0, cI .i64 0, cB false, cB false, cB false, cB false] [cI .i64 ((mb r m : Nat) : Int), cI .i64 (IntKind.wrap .i64 ((IntKind.wrap .i64 ((bk r.L (mb r m)).view + 1)) + (IntKind.wrap .i64 (Int.tmod (IntKind.wrap .u64 m.view) 3)))), cB false, cB false, cB false, cB false] rfl rfl rfl (by kernel_rfl) rfl (by kernel_rfl) (okc_one (okc_one (okc_one (okc_one (okc_one (okc_one (okc_nil))))))) (fun _ => rfl) (by kernel_rfl) (by kernel_rfl)) (sub_of [3] (by kernel_rfl)) ?_
          refine wa_all [23] (by kernel_rfl) rfl (all1 ?_)
          refine wi_ox rfl rfl (ox_append (t := 48) (e := 47) (size := 6) (bytes := 24) (m := 1) 77 100001 r.n cap (rowV gB r.L) ([.int .i64 ((mb r m : Nat) : Int), .int .i64 (IntKind.wrap .i64 ((IntKind.wrap .i64 ((bk r.L (mb r m)).view + 1)) + (IntKind.wrap .i64 (Int.tmod (IntKind.wrap .u64 m.view) 3)))), .bool false, .bool false, .bool false, .bool false]) rest [76, 3, 100000] rfl rfl (by kernel_rfl) (by kernel_rfl) (by kernel_rfl) (by decide) rfl rfl (by rw [rowV_length gB_len, hr.ln0]) (hr.restl) (hr.lenc) (hr.capm) (rfl) (fun u hu => by simp at hu; rcases hu with rfl | rfl | rfl | rfl | rfl | rfl <;> rfl) (news_own 76 [.int .i64 ((mb r m : Nat) : Int), .int .i64 (IntKind.wrap .i64 ((IntKind.wrap .i64 ((bk r.L (mb r m)).view + 1)) + (IntKind.wrap .i64 (Int.tmod (IntKind.wrap .u64 m.view) 3)))), .bool false, .bool false, .bool false, .bool false] rfl rfl (fun _ => rfl)) (by have := hr.small; simp only [maxLen]; omega) (by have := hr.small; omega) (by kernel_rfl)) (fun _ => (sub_of [3] (by kernel_rfl))) (fun ⟨cap1, rest1⟩ hx1 _ => ?_)
          refine wa_takes (fuel := 1) [24, 25] [77, 79] (listed' := #[true, true, true, true, true, true, true, true, true, true, true, true, true, true, true, true, true, true, true, true, true, true, true, true, true, true, false]) (l' := [(77, .s (.a (.ls 77 0 (r.n + 1) cap1))), (79, eL 100000 0)]) (pk_block pk_body) rfl (by kernel_rfl) ?_
          refine wa_all [26] (by kernel_rfl) rfl (all1 ?_)
          refine wi_op rfl rfl (ot_eff (l' := [(77, .s (.a (.ls 77 0 (r.n + 1) cap1))), (79, eL 100000 0)]) (H' := [(77, ⟨[.vals (rowV gB r.L ++ [.int .i64 ((mb r m : Nat) : Int), .int .i64 (IntKind.wrap .i64 ((IntKind.wrap .i64 ((bk r.L (mb r m)).view + 1)) + (IntKind.wrap .i64 (Int.tmod (IntKind.wrap .u64 m.view) 3)))), .bool false, .bool false, .bool false, .bool false] ++ rest1)], 47⟩), (76, ⟨[cI .i64 ((mb r m : Nat) : Int), cI .i64 (IntKind.wrap .i64 ((IntKind.wrap .i64 ((bk r.L (mb r m)).view + 1)) + (IntKind.wrap .i64 (Int.tmod (IntKind.wrap .u64 m.view) 3)))), cB false, cB false, cB false, cB false], 47⟩), (3, ⟨[cI .i64 m.kind, cI .i64 m.who, cI .i64 m.block, cI .i64 m.view], 55⟩), (100000, ⟨[.one (.ls 77 0 (r.n + 1) cap1), cI .i64 r.s0.e, cI .i64 r.s0.v, cI .i64 r.s0.l, .ints .u8 32 r.s0.d, cI .i64 r.s1.e, cI .i64 r.s1.v, cI .i64 r.s1.l, .ints .u8 32 r.s1.d, cI .i64 r.s2.e, cI .i64 r.s2.v, cI .i64 r.s2.l, .ints .u8 32 r.s2.d], 51⟩)]) (by kernel_rfl)) (sub_of [3] (by kernel_rfl)) ?_
          refine wa_done (by kernel_rfl) ?_
          refine we_rest [] [77, 100000] (l' := []) (H' := [(77, ⟨[.vals (rowV gB r.L ++ [.int .i64 ((mb r m : Nat) : Int), .int .i64 (IntKind.wrap .i64 ((IntKind.wrap .i64 ((bk r.L (mb r m)).view + 1)) + (IntKind.wrap .i64 (Int.tmod (IntKind.wrap .u64 m.view) 3)))), .bool false, .bool false, .bool false, .bool false] ++ rest1)], 47⟩), (100000, ⟨[.one (.ls 77 0 (r.n + 1) cap1), cI .i64 r.s0.e, cI .i64 r.s0.v, cI .i64 r.s0.l, .ints .u8 32 r.s0.d, cI .i64 r.s1.e, cI .i64 r.s1.v, cI .i64 r.s1.l, .ints .u8 32 r.s1.d, cI .i64 r.s2.e, cI .i64 r.s2.v, cI .i64 r.s2.l, .ints .u8 32 r.s2.d], 51⟩)]) (by kernel_rfl) (by kernel_rfl) ?_
          refine we_block ?_
          refine we_rest [] [100000, 77] (l' := []) (H' := [(100000, ⟨[.one (.ls 77 0 (r.n + 1) cap1), cI .i64 r.s0.e, cI .i64 r.s0.v, cI .i64 r.s0.l, .ints .u8 32 r.s0.d, cI .i64 r.s1.e, cI .i64 r.s1.v, cI .i64 r.s1.l, .ints .u8 32 r.s1.d, cI .i64 r.s2.e, cI .i64 r.s2.v, cI .i64 r.s2.l, .ints .u8 32 r.s2.d], 51⟩), (77, ⟨[.vals (rowV gB r.L ++ [.int .i64 ((mb r m : Nat) : Int), .int .i64 (IntKind.wrap .i64 ((IntKind.wrap .i64 ((bk r.L (mb r m)).view + 1)) + (IntKind.wrap .i64 (Int.tmod (IntKind.wrap .u64 m.view) 3)))), .bool false, .bool false, .bool false, .bool false] ++ rest1)], 47⟩)]) (by kernel_rfl) (by kernel_rfl) ?_
          refine we_ret (.inr rfl) (v := .t []) (by kernel_rfl) ?_
          intro σ w' hf
          have h3n :  r.n < 400 := by omega
          have hq : playR r m 3 = ⟨r.n + 1, r.L ++ [newB r m], r.s0, r.s1, r.s2⟩ := by simp [playR, grows, h1, h2, h3n]
          refine ⟨some (cap1, rest1), σ, ⟨by simp [grows, h1, h2, h3n], hx1⟩, rfl, ?_⟩
          rw [playH2 hq]
          show Ran _ _ [(100000, ⟨_, 51⟩), (77, ⟨[.vals (rowV gB (r.L ++ [newB r m]) ++ rest1)], 47⟩)] _ _ _
          rw [show rowV gB (r.L ++ [newB r m]) = _ from row_push r.L _ _]
          exact hf.ran rfl rfl
        · refine wi_op rfl rfl (ot_val1 (e := .s (.a (.ls 100001 0 r.n cap))) rfl (by kernel_rfl)) (sub_of [3] (by kernel_rfl)) ?_
          refine wa_take 11 (pk_block pk_body) rfl (by kernel_rfl) rfl rfl (rd_indexL (e := 47) 6 (mb r m) ((mb r m : Nat) : Int) rfl (by kernel_rfl) (by kernel_rfl) rfl rfl (rfl) (mb_lt hr)) ?_
          refine wa_takes (fuel := 10) [12] [54, 57, 59, 66, 73] (listed' := #[true, true, true, true, false, true, true, true, true, true, true, true, true, false, false, true, true, true, true, true, false, false, false, false, false, false, false]) (l' := [(54, eL 100000 0), (57, eL 100000 0), (59, eI .i64 ((mb r m : Nat) : Int)), (66, eL 100001 ((0 + (mb r m) * 6) + 1)), (73, eI .i64 (IntKind.wrap .i64 (Int.tmod (IntKind.wrap .u64 m.view) 3)))]) (pk_block pk_body) rfl (by kernel_rfl) ?_
          refine wa_all [4, 13] (by kernel_rfl) rfl (allc ?_ (all1 ?_))
          · refine wi_op rfl rfl (ot_val1 (e := .s (.a (.ls 100001 0 r.n cap))) rfl (by kernel_rfl)) (sub_of [3] (by kernel_rfl)) ?_
            refine wa_all [13] (by kernel_rfl) rfl (all1 ?_)
            refine wi_op rfl rfl (ot_rd rfl (rd_cellS (b := ⟨[.vals (rowV gB r.L ++ rest)], 47⟩) (.v (.int .i64 (bk r.L (mb r m)).view)) rfl rfl rfl (by kernel_rfl) (fun ρ => view_at (hr.ln (mb_lt hr)) ρ))) (sub_of [3] (by kernel_rfl)) ?_
            refine wa_takes (fuel := 6) [14, 20] [54, 58, 59, 74] (listed' := #[true, true, true, true, true, true, true, true, true, true, true, true, true, true, true, true, true, true, true, true, true, false, false, false, false, false, false]) (l' := [(54, eL 100000 0), (58, .s (.a (.ls 100001 0 r.n cap))), (59, eI .i64 ((mb r m : Nat) : Int)), (74, eI .i64 (IntKind.wrap .i64 ((IntKind.wrap .i64 ((bk r.L (mb r m)).view + 1)) + (IntKind.wrap .i64 (Int.tmod (IntKind.wrap .u64 m.view) 3)))))]) (pk_block pk_body) rfl (by kernel_rfl) ?_
            refine wa_take 21 (pk_block pk_body) rfl (by kernel_rfl) rfl rfl (rd_build (zc := z47) [cI .i64 ((mb r m : Nat) : Int), cI .i64 (IntKind.wrap .i64 ((IntKind.wrap .i64 ((bk r.L (mb r m)).view + 1)) + (IntKind.wrap .i64 (Int.tmod (IntKind.wrap .u64 m.view) 3)))), cB false, cB false, cB false, cB false] rfl z47_zero' z47_ok (fun _ => rfl) (by kernel_rfl) (by kernel_rfl)) ?_
            refine wa_all [22] (by kernel_rfl) rfl (all1 ?_)
            refine wi_op rfl rfl (ot_bslice (e := 47) (d := 76) (n := 1) (size := 6) [cI .i64 0, cI .i64 0, cB false, cB false, cB false, cB false] [cI .i64 ((mb r m : Nat) : Int), cI .i64 (IntKind.wrap .i64 ((IntKind.wrap .i64 ((bk r.L (mb r m)).view + 1)) + (IntKind.wrap .i64 (Int.tmod (IntKind.wrap .u64 m.view) 3)))), cB false, cB false, cB false, cB false] rfl rfl rfl (by kernel_rfl) rfl (by kernel_rfl) (okc_one (okc_one (okc_one (okc_one (okc_one (okc_one (okc_nil))))))) (fun _ => rfl) (by kernel_rfl) (by kernel_rfl)) (sub_of [3] (by kernel_rfl)) ?_
            refine wa_all [23] (by kernel_rfl) rfl (all1 ?_)
            refine wi_ox rfl rfl (ox_append (t := 48) (e := 47) (size := 6) (bytes := 24) (m := 1) 77 100001 r.n cap (rowV gB r.L) ([.int .i64 ((mb r m : Nat) : Int), .int .i64 (IntKind.wrap .i64 ((IntKind.wrap .i64 ((bk r.L (mb r m)).view + 1)) + (IntKind.wrap .i64 (Int.tmod (IntKind.wrap .u64 m.view) 3)))), .bool false, .bool false, .bool false, .bool false]) rest [76, 3, 100000] rfl rfl (by kernel_rfl) (by kernel_rfl) (by kernel_rfl) (by decide) rfl rfl (by rw [rowV_length gB_len, hr.ln0]) (hr.restl) (hr.lenc) (hr.capm) (rfl) (fun u hu => by simp at hu; rcases hu with rfl | rfl | rfl | rfl | rfl | rfl <;> rfl) (news_own 76 [.int .i64 ((mb r m : Nat) : Int), .int .i64 (IntKind.wrap .i64 ((IntKind.wrap .i64 ((bk r.L (mb r m)).view + 1)) + (IntKind.wrap .i64 (Int.tmod (IntKind.wrap .u64 m.view) 3)))), .bool false, .bool false, .bool false, .bool false] rfl rfl (fun _ => rfl)) (by have := hr.small; simp only [maxLen]; omega) (by have := hr.small; omega) (by kernel_rfl)) (fun _ => (sub_of [3] (by kernel_rfl))) (fun ⟨cap1, rest1⟩ hx1 _ => ?_)
            refine wa_takes (fuel := 1) [24, 25] [77, 79] (listed' := #[true, true, true, true, true, true, true, true, true, true, true, true, true, true, true, true, true, true, true, true, true, true, true, true, true, true, false]) (l' := [(77, .s (.a (.ls 77 0 (r.n + 1) cap1))), (79, eL 100000 0)]) (pk_block pk_body) rfl (by kernel_rfl) ?_
            refine wa_all [26] (by kernel_rfl) rfl (all1 ?_)
            refine wi_op rfl rfl (ot_eff (l' := [(77, .s (.a (.ls 77 0 (r.n + 1) cap1))), (79, eL 100000 0)]) (H' := [(77, ⟨[.vals (rowV gB r.L ++ [.int .i64 ((mb r m : Nat) : Int), .int .i64 (IntKind.wrap .i64 ((IntKind.wrap .i64 ((bk r.L (mb r m)).view + 1)) + (IntKind.wrap .i64 (Int.tmod (IntKind.wrap .u64 m.view) 3)))), .bool false, .bool false, .bool false, .bool false] ++ rest1)], 47⟩), (76, ⟨[cI .i64 ((mb r m : Nat) : Int), cI .i64 (IntKind.wrap .i64 ((IntKind.wrap .i64 ((bk r.L (mb r m)).view + 1)) + (IntKind.wrap .i64 (Int.tmod (IntKind.wrap .u64 m.view) 3)))), cB false, cB false, cB false, cB false], 47⟩), (3, ⟨[cI .i64 m.kind, cI .i64 m.who, cI .i64 m.block, cI .i64 m.view], 55⟩), (100000, ⟨[.one (.ls 77 0 (r.n + 1) cap1), cI .i64 r.s0.e, cI .i64 r.s0.v, cI .i64 r.s0.l, .ints .u8 32 r.s0.d, cI .i64 r.s1.e, cI .i64 r.s1.v, cI .i64 r.s1.l, .ints .u8 32 r.s1.d, cI .i64 r.s2.e, cI .i64 r.s2.v, cI .i64 r.s2.l, .ints .u8 32 r.s2.d], 51⟩)]) (by kernel_rfl)) (sub_of [3] (by kernel_rfl)) ?_
            refine wa_done (by kernel_rfl) ?_
            refine we_rest [] [77, 100000] (l' := []) (H' := [(77, ⟨[.vals (rowV gB r.L ++ [.int .i64 ((mb r m : Nat) : Int), .int .i64 (IntKind.wrap .i64 ((IntKind.wrap .i64 ((bk r.L (mb r m)).view + 1)) + (IntKind.wrap .i64 (Int.tmod (IntKind.wrap .u64 m.view) 3)))), .bool false, .bool false, .bool false, .bool false] ++ rest1)], 47⟩), (100000, ⟨[.one (.ls 77 0 (r.n + 1) cap1), cI .i64 r.s0.e, cI .i64 r.s0.v, cI .i64 r.s0.l, .ints .u8 32 r.s0.d, cI .i64 r.s1.e, cI .i64 r.s1.v, cI .i64 r.s1.l, .ints .u8 32 r.s1.d, cI .i64 r.s2.e, cI .i64 r.s2.v, cI .i64 r.s2.l, .ints .u8 32 r.s2.d], 51⟩)]) (by kernel_rfl) (by kernel_rfl) ?_
            refine we_block ?_
            refine we_rest [] [100000, 77] (l' := []) (H' := [(100000, ⟨[.one (.ls 77 0 (r.n + 1) cap1), cI .i64 r.s0.e, cI .i64 r.s0.v, cI .i64 r.s0.l, .ints .u8 32 r.s0.d, cI .i64 r.s1.e, cI .i64 r.s1.v, cI .i64 r.s1.l, .ints .u8 32 r.s1.d, cI .i64 r.s2.e, cI .i64 r.s2.v, cI .i64 r.s2.l, .ints .u8 32 r.s2.d], 51⟩), (77, ⟨[.vals (rowV gB r.L ++ [.int .i64 ((mb r m : Nat) : Int), .int .i64 (IntKind.wrap .i64 ((IntKind.wrap .i64 ((bk r.L (mb r m)).view + 1)) + (IntKind.wrap .i64 (Int.tmod (IntKind.wrap .u64 m.view) 3)))), .bool false, .bool false, .bool false, .bool false] ++ rest1)], 47⟩)]) (by kernel_rfl) (by kernel_rfl) ?_
            refine we_ret (.inr rfl) (v := .t []) (by kernel_rfl) ?_
            intro σ w' hf
            have h3n :  r.n < 400 := by omega
            have hq : playR r m 3 = ⟨r.n + 1, r.L ++ [newB r m], r.s0, r.s1, r.s2⟩ := by simp [playR, grows, h1, h2, h3n]
            refine ⟨some (cap1, rest1), σ, ⟨by simp [grows, h1, h2, h3n], hx1⟩, rfl, ?_⟩
            rw [playH2 hq]
            show Ran _ _ [(100000, ⟨_, 51⟩), (77, ⟨[.vals (rowV gB (r.L ++ [newB r m]) ++ rest1)], 47⟩)] _ _ _
            rw [show rowV gB (r.L ++ [newB r m]) = _ from row_push r.L _ _]
            exact hf.ran rfl rfl
          · refine wi_op rfl rfl (ot_rd rfl (rd_cellS (b := ⟨[.vals (rowV gB r.L ++ rest)], 47⟩) (.v (.int .i64 (bk r.L (mb r m)).view)) rfl rfl rfl (by kernel_rfl) (fun ρ => view_at (hr.ln (mb_lt hr)) ρ))) (sub_of [3] (by kernel_rfl)) ?_
            refine wa_takes (fuel := 7) [14, 20] [54, 57, 59, 74] (listed' := #[true, true, true, true, false, true, true, true, true, true, true, true, true, true, true, true, true, true, true, true, true, false, false, false, false, false, false]) (l' := [(54, eL 100000 0), (57, eL 100000 0), (59, eI .i64 ((mb r m : Nat) : Int)), (74, eI .i64 (IntKind.wrap .i64 ((IntKind.wrap .i64 ((bk r.L (mb r m)).view + 1)) + (IntKind.wrap .i64 (Int.tmod (IntKind.wrap .u64 m.view) 3)))))]) (pk_block pk_body) rfl (by kernel_rfl) ?_
            refine wa_take 21 (pk_block pk_body) rfl (by kernel_rfl) rfl rfl (rd_build (zc := z47) [cI .i64 ((mb r m : Nat) : Int), cI .i64 (IntKind.wrap .i64 ((IntKind.wrap .i64 ((bk r.L (mb r m)).view + 1)) + (IntKind.wrap .i64 (Int.tmod (IntKind.wrap .u64 m.view) 3)))), cB false, cB false, cB false, cB false] rfl z47_zero' z47_ok (fun _ => rfl) (by kernel_rfl) (by kernel_rfl)) ?_
            refine wa_all [4, 22] (by kernel_rfl) rfl (allc ?_ (all1 ?_))
            · refine wi_op rfl rfl (ot_val1 (e := .s (.a (.ls 100001 0 r.n cap))) rfl (by kernel_rfl)) (sub_of [3] (by kernel_rfl)) ?_
              refine wa_all [22] (by kernel_rfl) rfl (all1 ?_)
              refine wi_op rfl rfl (ot_bslice (e := 47) (d := 76) (n := 1) (size := 6) [cI .i64 0, cI .i64 0, cB false, cB false, cB false, cB false] [cI .i64 ((mb r m : Nat) : Int), cI .i64 (IntKind.wrap .i64 ((IntKind.wrap .i64 ((bk r.L (mb r m)).view + 1)) + (IntKind.wrap .i64 (Int.tmod (IntKind.wrap .u64 m.view) 3)))), cB false, cB false, cB false, cB false] rfl rfl rfl (by kernel_rfl) rfl (by kernel_rfl) (okc_one (okc_one (okc_one (okc_one (okc_one (okc_one (okc_nil))))))) (fun _ => rfl) (by kernel_rfl) (by kernel_rfl)) (sub_of [3] (by kernel_rfl)) ?_
              refine wa_all [23] (by kernel_rfl) rfl (all1 ?_)
              refine wi_ox rfl rfl (ox_append (t := 48) (e := 47) (size := 6) (bytes := 24) (m := 1) 77 100001 r.n cap (rowV gB r.L) ([.int .i64 ((mb r m : Nat) : Int), .int .i64 (IntKind.wrap .i64 ((IntKind.wrap .i64 ((bk r.L (mb r m)).view + 1)) + (IntKind.wrap .i64 (Int.tmod (IntKind.wrap .u64 m.view) 3)))), .bool false, .bool false, .bool false, .bool false]) rest [76, 3, 100000] rfl rfl (by kernel_rfl) (by kernel_rfl) (by kernel_rfl) (by decide) rfl rfl (by rw [rowV_length gB_len, hr.ln0]) (hr.restl) (hr.lenc) (hr.capm) (rfl) (fun u hu => by simp at hu; rcases hu with rfl | rfl | rfl | rfl | rfl | rfl <;> rfl) (news_own 76 [.int .i64 ((mb r m : Nat) : Int), .int .i64 (IntKind.wrap .i64 ((IntKind.wrap .i64 ((bk r.L (mb r m)).view + 1)) + (IntKind.wrap .i64 (Int.tmod (IntKind.wrap .u64 m.view) 3)))), .bool false, .bool false, .bool false, .bool false] rfl rfl (fun _ => rfl)) (by have := hr.small; simp only [maxLen]; omega) (by have := hr.small; omega) (by kernel_rfl)) (fun _ => (sub_of [3] (by kernel_rfl))) (fun ⟨cap1, rest1⟩ hx1 _ => ?_)
              refine wa_takes (fuel := 1) [24, 25] [77, 79] (listed' := #[true, true, true, true, true, true, true, true, true, true, true, true, true, true, true, true, true, true, true, true, true, true, true, true, true, true, false]) (l' := [(77, .s (.a (.ls 77 0 (r.n + 1) cap1))), (79, eL 100000 0)]) (pk_block pk_body) rfl (by kernel_rfl) ?_
              refine wa_all [26] (by kernel_rfl) rfl (all1 ?_)
              refine wi_op rfl rfl (ot_eff (l' := [(77, .s (.a (.ls 77 0 (r.n + 1) cap1))), (79, eL 100000 0)]) (H' := [(77, ⟨[.vals (rowV gB r.L ++ [.int .i64 ((mb r m : Nat) : Int), .int .i64 (IntKind.wrap .i64 ((IntKind.wrap .i64 ((bk r.L (mb r m)).view + 1)) + (IntKind.wrap .i64 (Int.tmod (IntKind.wrap .u64 m.view) 3)))), .bool false, .bool false, .bool false, .bool false] ++ rest1)], 47⟩), (76, ⟨[cI .i64 ((mb r m : Nat) : Int), cI .i64 (IntKind.wrap .i64 ((IntKind.wrap .i64 ((bk r.L (mb r m)).view + 1)) + (IntKind.wrap .i64 (Int.tmod (IntKind.wrap .u64 m.view) 3)))), cB false, cB false, cB false, cB false], 47⟩), (3, ⟨[cI .i64 m.kind, cI .i64 m.who, cI .i64 m.block, cI .i64 m.view], 55⟩), (100000, ⟨[.one (.ls 77 0 (r.n + 1) cap1), cI .i64 r.s0.e, cI .i64 r.s0.v, cI .i64 r.s0.l, .ints .u8 32 r.s0.d, cI .i64 r.s1.e, cI .i64 r.s1.v, cI .i64 r.s1.l, .ints .u8 32 r.s1.d, cI .i64 r.s2.e, cI .i64 r.s2.v, cI .i64 r.s2.l, .ints .u8 32 r.s2.d], 51⟩)]) (by kernel_rfl)) (sub_of [3] (by kernel_rfl)) ?_
              refine wa_done (by kernel_rfl) ?_
              refine we_rest [] [77, 100000] (l' := []) (H' := [(77, ⟨[.vals (rowV gB r.L ++ [.int .i64 ((mb r m : Nat) : Int), .int .i64 (IntKind.wrap .i64 ((IntKind.wrap .i64 ((bk r.L (mb r m)).view + 1)) + (IntKind.wrap .i64 (Int.tmod (IntKind.wrap .u64 m.view) 3)))), .bool false, .bool false, .bool false, .bool false] ++ rest1)], 47⟩), (100000, ⟨[.one (.ls 77 0 (r.n + 1) cap1), cI .i64 r.s0.e, cI .i64 r.s0.v, cI .i64 r.s0.l, .ints .u8 32 r.s0.d, cI .i64 r.s1.e, cI .i64 r.s1.v, cI .i64 r.s1.l, .ints .u8 32 r.s1.d, cI .i64 r.s2.e, cI .i64 r.s2.v, cI .i64 r.s2.l, .ints .u8 32 r.s2.d], 51⟩)]) (by kernel_rfl) (by kernel_rfl) ?_
              refine we_block ?_
              refine we_rest [] [100000, 77] (l' := []) (H' := [(100000, ⟨[.one (.ls 77 0 (r.n + 1) cap1), cI .i64 r.s0.e, cI .i64 r.s0.v, cI .i64 r.s0.l, .ints .u8 32 r.s0.d, cI .i64 r.s1.e, cI .i64 r.s1.v, cI .i64 r.s1.l, .ints .u8 32 r.s1.d, cI .i64 r.s2.e, cI .i64 r.s2.v, cI .i64 r.s2.l, .ints .u8 32 r.s2.d], 51⟩), (77, ⟨[.vals (rowV gB r.L ++ [.int .i64 ((mb r m : Nat) : Int), .int .i64 (IntKind.wrap .i64 ((IntKind.wrap .i64 ((bk r.L (mb r m)).view + 1)) + (IntKind.wrap .i64 (Int.tmod (IntKind.wrap .u64 m.view) 3)))), .bool false, .bool false, .bool false, .bool false] ++ rest1)], 47⟩)]) (by kernel_rfl) (by kernel_rfl) ?_
              refine we_ret (.inr rfl) (v := .t []) (by kernel_rfl) ?_
              intro σ w' hf
              have h3n :  r.n < 400 := by omega
              have hq : playR r m 3 = ⟨r.n + 1, r.L ++ [newB r m], r.s0, r.s1, r.s2⟩ := by simp [playR, grows, h1, h2, h3n]
              refine ⟨some (cap1, rest1), σ, ⟨by simp [grows, h1, h2, h3n], hx1⟩, rfl, ?_⟩
              rw [playH2 hq]
              show Ran _ _ [(100000, ⟨_, 51⟩), (77, ⟨[.vals (rowV gB (r.L ++ [newB r m]) ++ rest1)], 47⟩)] _ _ _
              rw [show rowV gB (r.L ++ [newB r m]) = _ from row_push r.L _ _]
              exact hf.ran rfl rfl
            · refine wi_op rfl rfl (ot_bslice (e := 47) (d := 76) (n := 1) (size := 6) [cI .i64 0, cI .i64 0, cB false, cB false, cB false, cB false] [cI .i64 ((mb r m : Nat) : Int), cI .i64 (IntKind.wrap .i64 ((IntKind.wrap .i64 ((bk r.L (mb r m)).view + 1)) + (IntKind.wrap .i64 (Int.tmod (IntKind.wrap .u64 m.view) 3)))), cB false, cB false, cB false, cB false] rfl rfl rfl (by kernel_rfl) rfl (by kernel_rfl) (okc_one (okc_one (okc_one (okc_one (okc_one (okc_one (okc_nil))))))) (fun _ => rfl) (by kernel_rfl) (by kernel_rfl)) (sub_of [3] (by kernel_rfl)) ?_
              refine wa_all [4] (by kernel_rfl) rfl (all1 ?_)
              refine wi_op rfl rfl (ot_val1 (e := .s (.a (.ls 100001 0 r.n cap))) rfl (by kernel_rfl)) (sub_of [3] (by kernel_rfl)) ?_
              refine wa_all [23] (by kernel_rfl) rfl (all1 ?_)
              refine wi_ox rfl rfl (ox_append (t := 48) (e := 47) (size := 6) (bytes := 24) (m := 1) 77 100001 r.n cap (rowV gB r.L) ([.int .i64 ((mb r m : Nat) : Int), .int .i64 (IntKind.wrap .i64 ((IntKind.wrap .i64 ((bk r.L (mb r m)).view + 1)) + (IntKind.wrap .i64 (Int.tmod (IntKind.wrap .u64 m.view) 3)))), .bool false, .bool false, .bool false, .bool false]) rest [76, 3, 100000] rfl rfl (by kernel_rfl) (by kernel_rfl) (by kernel_rfl) (by decide) rfl rfl (by rw [rowV_length gB_len, hr.ln0]) (hr.restl) (hr.lenc) (hr.capm) (rfl) (fun u hu => by simp at hu; rcases hu with rfl | rfl | rfl | rfl | rfl | rfl <;> rfl) (news_own 76 [.int .i64 ((mb r m : Nat) : Int), .int .i64 (IntKind.wrap .i64 ((IntKind.wrap .i64 ((bk r.L (mb r m)).view + 1)) + (IntKind.wrap .i64 (Int.tmod (IntKind.wrap .u64 m.view) 3)))), .bool false, .bool false, .bool false, .bool false] rfl rfl (fun _ => rfl)) (by have := hr.small; simp only [maxLen]; omega) (by have := hr.small; omega) (by kernel_rfl)) (fun _ => (sub_of [3] (by kernel_rfl))) (fun ⟨cap1, rest1⟩ hx1 _ => ?_)
              refine wa_takes (fuel := 1) [24, 25] [77, 79] (listed' := #[true, true, true, true, true, true, true, true, true, true, true, true, true, true, true, true, true, true, true, true, true, true, true, true, true, true, false]) (l' := [(77, .s (.a (.ls 77 0 (r.n + 1) cap1))), (79, eL 100000 0)]) (pk_block pk_body) rfl (by kernel_rfl) ?_
              refine wa_all [26] (by kernel_rfl) rfl (all1 ?_)
              refine wi_op rfl rfl (ot_eff (l' := [(77, .s (.a (.ls 77 0 (r.n + 1) cap1))), (79, eL 100000 0)]) (H' := [(77, ⟨[.vals (rowV gB r.L ++ [.int .i64 ((mb r m : Nat) : Int), .int .i64 (IntKind.wrap .i64 ((IntKind.wrap .i64 ((bk r.L (mb r m)).view + 1)) + (IntKind.wrap .i64 (Int.tmod (IntKind.wrap .u64 m.view) 3)))), .bool false, .bool false, .bool false, .bool false] ++ rest1)], 47⟩), (76, ⟨[cI .i64 ((mb r m : Nat) : Int), cI .i64 (IntKind.wrap .i64 ((IntKind.wrap .i64 ((bk r.L (mb r m)).view + 1)) + (IntKind.wrap .i64 (Int.tmod (IntKind.wrap .u64 m.view) 3)))), cB false, cB false, cB false, cB false], 47⟩), (3, ⟨[cI .i64 m.kind, cI .i64 m.who, cI .i64 m.block, cI .i64 m.view], 55⟩), (100000, ⟨[.one (.ls 77 0 (r.n + 1) cap1), cI .i64 r.s0.e, cI .i64 r.s0.v, cI .i64 r.s0.l, .ints .u8 32 r.s0.d, cI .i64 r.s1.e, cI .i64 r.s1.v, cI .i64 r.s1.l, .ints .u8 32 r.s1.d, cI .i64 r.s2.e, cI .i64 r.s2.v, cI .i64 r.s2.l, .ints .u8 32 r.s2.d], 51⟩)]) (by kernel_rfl)) (sub_of [3] (by kernel_rfl)) ?_
              refine wa_done (by kernel_rfl) ?_
              refine we_rest [] [77, 100000] (l' := []) (H' := [(77, ⟨[.vals (rowV gB r.L ++ [.int .i64 ((mb r m : Nat) : Int), .int .i64 (IntKind.wrap .i64 ((IntKind.wrap .i64 ((bk r.L (mb r m)).view + 1)) + (IntKind.wrap .i64 (Int.tmod (IntKind.wrap .u64 m.view) 3)))), .bool false, .bool false, .bool false, .bool false] ++ rest1)], 47⟩), (100000, ⟨[.one (.ls 77 0 (r.n + 1) cap1), cI .i64 r.s0.e, cI .i64 r.s0.v, cI .i64 r.s0.l, .ints .u8 32 r.s0.d, cI .i64 r.s1.e, cI .i64 r.s1.v, cI .i64 r.s1.l, .ints .u8 32 r.s1.d, cI .i64 r.s2.e, cI .i64 r.s2.v, cI .i64 r.s2.l, .ints .u8 32 r.s2.d], 51⟩)]) (by kernel_rfl) (by kernel_rfl) ?_
              refine we_block ?_
              refine we_rest [] [100000, 77] (l' := []) (H' := [(100000, ⟨[.one (.ls 77 0 (r.n + 1) cap1), cI .i64 r.s0.e, cI .i64 r.s0.v, cI .i64 r.s0.l, .ints .u8 32 r.s0.d, cI .i64 r.s1.e, cI .i64 r.s1.v, cI .i64 r.s1.l, .ints .u8 32 r.s1.d, cI .i64 r.s2.e, cI .i64 r.s2.v, cI .i64 r.s2.l, .ints .u8 32 r.s2.d], 51⟩), (77, ⟨[.vals (rowV gB r.L ++ [.int .i64 ((mb r m : Nat) : Int), .int .i64 (IntKind.wrap .i64 ((IntKind.wrap .i64 ((bk r.L (mb r m)).view + 1)) + (IntKind.wrap .i64 (Int.tmod (IntKind.wrap .u64 m.view) 3)))), .bool false, .bool false, .bool false, .bool false] ++ rest1)], 47⟩)]) (by kernel_rfl) (by kernel_rfl) ?_
              refine we_ret (.inr rfl) (v := .t []) (by kernel_rfl) ?_
              intro σ w' hf
              have h3n :  r.n < 400 := by omega
              have hq : playR r m 3 = ⟨r.n + 1, r.L ++ [newB r m], r.s0, r.s1, r.s2⟩ := by simp [playR, grows, h1, h2, h3n]
              refine ⟨some (cap1, rest1), σ, ⟨by simp [grows, h1, h2, h3n], hx1⟩, rfl, ?_⟩
              rw [playH2 hq]
              show Ran _ _ [(100000, ⟨_, 51⟩), (77, ⟨[.vals (rowV gB (r.L ++ [newB r m]) ++ rest1)], 47⟩)] _ _ _
              rw [show rowV gB (r.L ++ [newB r m]) = _ from row_push r.L _ _]
              exact hf.ran rfl rfl
      · replace h3 := of_decide_eq_false h3
        refine wc_skip ?_
        refine we_block ?_
        refine we_rest [] [100000, 100001] (l' := []) (H' := [(100000, ⟨(cRun 100001 r.n cap r.s0 r.s1 r.s2), 51⟩), (100001, ⟨[.vals (rowV gB r.L ++ rest)], 47⟩)]) (by kernel_rfl) (by kernel_rfl) ?_
        refine we_ret (.inr rfl) (v := .t []) (by kernel_rfl) ?_
        intro σ w' hf
        have h3n : ¬ r.n < 400 := by omega
        have hq : playR r m 3 = (⟨r.n, r.L, r.s0, r.s1, r.s2⟩ : Run) := by simp [playR, grows, setS, getS, h1, h2, h3n]
        refine ⟨none, σ, by show grows r m = false; simp [grows, h1, h2, h3n], rfl, ?_⟩
        rw [playH1 hq]
        exact hf.ran rfl rfl
    · refine wo_run [4, 5, 6, 7, 8, 9, 10] [0, 3, 4, 53] [3, 100000, 100001] (l' := [(0, eL 100000 0), (3, eL 3 0), (4, eI .i64 ((mb r m : Nat) : Int)), (53, eB false)]) (H' := [(3, ⟨[cI .i64 m.kind, cI .i64 m.who, cI .i64 m.block, cI .i64 m.view], 55⟩), (100000, ⟨(cRun 100001 r.n cap r.s0 r.s1 r.s2), 51⟩), (100001, ⟨[.vals (rowV gB r.L ++ rest)], 47⟩)]) (by kernel_rfl) ?_
      refine wo_nil ?_
      refine we_then ?_
      refine wc_false rfl ?_
      refine wc_skip ?_
      refine we_block ?_
      refine we_rest [] [100000, 100001] (l' := []) (H' := [(100000, ⟨(cRun 100001 r.n cap r.s0 r.s1 r.s2), 51⟩), (100001, ⟨[.vals (rowV gB r.L ++ rest)], 47⟩)]) (by kernel_rfl) (by kernel_rfl) ?_
      refine we_ret (.inr rfl) (v := .t []) (by kernel_rfl) ?_
      intro σ w' hf
      have hq : playR r m 3 = (⟨r.n, r.L, r.s0, r.s1, r.s2⟩ : Run) := by simp [playR, grows, setS, getS, h1, h2]
      refine ⟨none, σ, by show grows r m = false; simp [grows, h1, h2], rfl, ?_⟩
      rw [playH1 hq]
      exact hf.ran rfl rfl
  · replace h1 := ne_of_beq_false h1
    refine wc_seq ?_
    refine wc_reg [0, 1] (by kernel_rfl) ?_
    refine wo_run [0, 1] [0, 3, 4, 5, 80] [3, 100000, 100001] (l' := [(0, eL 100000 0), (3, eL 3 0), (4, eI .i64 ((mb r m : Nat) : Int)), (5, eI .i64 3), (80, eB (m.kind == 1))]) (H' := [(3, ⟨[cI .i64 m.kind, cI .i64 m.who, cI .i64 m.block, cI .i64 m.view], 55⟩), (100000, ⟨(cRun 100001 r.n cap r.s0 r.s1 r.s2), 51⟩), (100001, ⟨[.vals (rowV gB r.L ++ rest)], 47⟩)]) (by kernel_rfl) ?_
    refine wo_nil ?_
    refine we_then ?_
    refine wc_cond rfl (fun h4 => ?_) (fun h4 => ?_)
    · replace h4 := eq_of_beq h4
      refine wc_seq ?_
      refine wc_reg [0, 1] (by kernel_rfl) ?_
      refine wo_run [0, 1] [0, 4, 5, 83] [100000, 100001] (l' := [(0, eL 100000 0), (4, eI .i64 ((mb r m : Nat) : Int)), (5, eI .i64 3), (83, eB (decide (((mb r m : Nat) : Int) > 0)))]) (H' := [(100000, ⟨(cRun 100001 r.n cap r.s0 r.s1 r.s2), 51⟩), (100001, ⟨[.vals (rowV gB r.L ++ rest)], 47⟩)]) (by kernel_rfl) ?_
      refine wo_nil ?_
      refine we_then ?_
      refine wc_cond rfl (fun h5 => ?_) (fun h5 => ?_)
      · replace h5 := of_decide_eq_true h5
        refine wc_reg [0, 1, 2, 3] (by kernel_rfl) ?_
        refine wo_run [0, 1, 2] [84, 85, 86] [100000, 100001] (l' := [(84, eL 100000 0), (85, eI .i64 3), (86, eI .i64 ((mb r m : Nat) : Int))]) (H' := [(100000, ⟨(cRun 100001 r.n cap r.s0 r.s1 r.s2), 51⟩), (100001, ⟨[.vals (rowV gB r.L ++ rest)], 47⟩)]) (by kernel_rfl) ?_
        refine wo_ox rfl rfl (ox_callm (τ := Unit) (φ := fun _ => True) [sL 100000 0, sI .i64 3, sI .i64 ((mb r m : Nat) : Int)] [(100000, ⟨(cRun 100001 r.n cap r.s0 r.s1 r.s2), 51⟩), (100001, ⟨[.vals (rowV gB r.L ++ rest)], 47⟩)] [(100000, 100000), (100001, 100001)] [] [] (fun _ => .t []) (fun _ => [(100000, ⟨[.one (.ls 100001 0 ((voteR r 3 (mb r m)).n) cap), cI .i64 (voteR r 3 (mb r m)).s0.e, cI .i64 (voteR r 3 (mb r m)).s0.v, cI .i64 (voteR r 3 (mb r m)).s0.l, .ints .u8 32 ((voteR r 3 (mb r m)).s0.d), cI .i64 (voteR r 3 (mb r m)).s1.e, cI .i64 (voteR r 3 (mb r m)).s1.v, cI .i64 (voteR r 3 (mb r m)).s1.l, .ints .u8 32 ((voteR r 3 (mb r m)).s1.d), cI .i64 (voteR r 3 (mb r m)).s2.e, cI .i64 (voteR r 3 (mb r m)).s2.v, cI .i64 (voteR r 3 (mb r m)).s2.l, .ints .u8 32 ((voteR r 3 (mb r m)).s2.d)], 51⟩), (100001, ⟨[.vals (rowV gB (voteR r 3 (mb r m)).L ++ rest)], 47⟩)]) rfl (by kernel_rfl) rfl Try.func28 (by kernel_rfl) (by kernel_rfl) (by kernel_rfl) (by kernel_rfl) (by kernel_rfl) (by kernel_rfl) (⟨⟨by kernel_rfl, by kernel_rfl, by kernel_rfl⟩, ⟨⟨by kernel_rfl, by kernel_rfl, by kernel_rfl⟩, trivial⟩⟩) (fun _ => by kernel_rfl) (fun _ => by kernel_rfl) (fun _ _ => okv_nil) (fun ρ w _ hh => vote3_any r cap rest hr (mb r m) (mb_lt hr) w _ hh)) (fun _ _ _ => ?_)
        refine wo_run [] [] [100000, 100001] (l' := []) (H' := [(100000, ⟨[.one (.ls 100001 0 ((voteR r 3 (mb r m)).n) cap), cI .i64 (voteR r 3 (mb r m)).s0.e, cI .i64 (voteR r 3 (mb r m)).s0.v, cI .i64 (voteR r 3 (mb r m)).s0.l, .ints .u8 32 ((voteR r 3 (mb r m)).s0.d), cI .i64 (voteR r 3 (mb r m)).s1.e, cI .i64 (voteR r 3 (mb r m)).s1.v, cI .i64 (voteR r 3 (mb r m)).s1.l, .ints .u8 32 ((voteR r 3 (mb r m)).s1.d), cI .i64 (voteR r 3 (mb r m)).s2.e, cI .i64 (voteR r 3 (mb r m)).s2.v, cI .i64 (voteR r 3 (mb r m)).s2.l, .ints .u8 32 ((voteR r 3 (mb r m)).s2.d)], 51⟩), (100001, ⟨[.vals (rowV gB (voteR r 3 (mb r m)).L ++ rest)], 47⟩)]) (by kernel_rfl) ?_
        refine wo_nil ?_
        refine we_block ?_
        refine we_rest [] [100000, 100001] (l' := []) (H' := [(100000, ⟨[.one (.ls 100001 0 ((voteR r 3 (mb r m)).n) cap), cI .i64 (voteR r 3 (mb r m)).s0.e, cI .i64 (voteR r 3 (mb r m)).s0.v, cI .i64 (voteR r 3 (mb r m)).s0.l, .ints .u8 32 ((voteR r 3 (mb r m)).s0.d), cI .i64 (voteR r 3 (mb r m)).s1.e, cI .i64 (voteR r 3 (mb r m)).s1.v, cI .i64 (voteR r 3 (mb r m)).s1.l, .ints .u8 32 ((voteR r 3 (mb r m)).s1.d), cI .i64 (voteR r 3 (mb r m)).s2.e, cI .i64 (voteR r 3 (mb r m)).s2.v, cI .i64 (voteR r 3 (mb r m)).s2.l, .ints .u8 32 ((voteR r 3 (mb r m)).s2.d)], 51⟩), (100001, ⟨[.vals (rowV gB (voteR r 3 (mb r m)).L ++ rest)], 47⟩)]) (by kernel_rfl) (by kernel_rfl) ?_
        refine we_ret (.inr rfl) (v := .t []) (by kernel_rfl) ?_
        intro σ w' hf
        have h5n :  0 < mb r m := by omega
        have hq : playR r m 3 = (voteR r 3 (mb r m)) := by simp [playR, grows, setS, getS, h1, h4, h5n]
        refine ⟨none, σ, by show grows r m = false; simp [grows, h1, h4, h5n], rfl, ?_⟩
        rw [playH1 hq]
        exact hf.ran rfl rfl
      · replace h5 := of_decide_eq_false h5
        refine wc_skip ?_
        refine we_block ?_
        refine we_rest [] [100000, 100001] (l' := []) (H' := [(100000, ⟨(cRun 100001 r.n cap r.s0 r.s1 r.s2), 51⟩), (100001, ⟨[.vals (rowV gB r.L ++ rest)], 47⟩)]) (by kernel_rfl) (by kernel_rfl) ?_
        refine we_ret (.inr rfl) (v := .t []) (by kernel_rfl) ?_
        intro σ w' hf
        have h5n : ¬ 0 < mb r m := by omega
        have hq : playR r m 3 = (⟨r.n, r.L, r.s0, r.s1, r.s2⟩ : Run) := by simp [playR, grows, setS, getS, h1, h4, h5n]
        refine ⟨none, σ, by show grows r m = false; simp [grows, h1, h4, h5n], rfl, ?_⟩
        rw [playH1 hq]
        exact hf.ran rfl rfl
    · replace h4 := ne_of_beq_false h4
      refine wc_seq ?_
      refine wc_reg [0, 1] (by kernel_rfl) ?_
      refine wo_run [0, 1] [0, 3, 5, 25] [3, 100000, 100001] (l' := [(0, eL 100000 0), (3, eL 3 0), (5, eI .i64 3), (25, eB false)]) (H' := [(3, ⟨[cI .i64 m.kind, cI .i64 m.who, cI .i64 m.block, cI .i64 m.view], 55⟩), (100000, ⟨(cRun 100001 r.n cap r.s0 r.s1 r.s2), 51⟩), (100001, ⟨[.vals (rowV gB r.L ++ rest)], 47⟩)]) (by kernel_rfl) ?_
      refine wo_nil ?_
      refine we_then ?_
      refine wc_false rfl ?_
      refine wc_skip ?_
      refine we_block ?_
      refine we_rest [] [100000, 100001] (l' := []) (H' := [(100000, ⟨(cRun 100001 r.n cap r.s0 r.s1 r.s2), 51⟩), (100001, ⟨[.vals (rowV gB r.L ++ rest)], 47⟩)]) (by kernel_rfl) (by kernel_rfl) ?_
      refine we_ret (.inr rfl) (v := .t []) (by kernel_rfl) ?_
      intro σ w' hf
      have hq : playR r m 3 = (⟨r.n, r.L, r.s0, r.s1, r.s2⟩ : Run) := by simp [playR, grows, setS, getS, h1, h4]
      refine ⟨none, σ, by show grows r m = false; simp [grows, h1, h4], rfl, ?_⟩
      rw [playH1 hq]
      exact hf.ran rfl rfl

end Go.Proofs.Ytckhcmdjgkoocaa
