/- SHA-256: the walks. -/
import Derived.Test.YtjcghjgennddaaaDoorProg
import Derived.KernelRfl
import Derived.Test.YtjcghjgennddaaaDoorShaC
import Derived.Test.YtjcghjgennddaaaDoorSxDeep
namespace Go.Proofs.YtjcghjgennddaaaDoor
open Go.RowKit Go.Sx
set_option linter.unusedVariables false
set_option linter.unusedSimpArgs false

/-- Parts, each with its length ahead of it. -/
def jn : List (List Int) → List Int
  | [] => []
  | L :: r => be8 ((L.length : Nat) : Int) ++ L ++ jn r
def joinB (Ls : List (List Int)) : List Int := be8 ((Ls.length : Nat) : Int) ++ jn Ls
def jnp (Ls : List (List Int)) (i : Nat) : List Int := be8 ((Ls.length : Nat) : Int) ++ jn (Ls.take i)
theorem jn_app (A B : List (List Int)) : jn (A ++ B) = jn A ++ jn B := by
  induction A with
  | nil => rfl
  | cons L r ih => simp [jn, ih]
theorem jnp_next {Ls : List (List Int)} {i : Nat} (h : i < Ls.length) : jnp Ls (i + 1) = jnp Ls i ++ be8 (((Ls.getD i []).length : Nat) : Int) ++ Ls.getD i [] := by
  unfold jnp
  rw [take_succ_getD Ls [] h, jn_app]
  simp [jn]
theorem jnp_len {Ls : List (List Int)} {i : Nat} (h : i < Ls.length) : (jnp Ls (i + 1)).length = (jnp Ls i).length + 8 + (Ls.getD i []).length := by
  rw [jnp_next h]; simp only [List.length_append]; simp [be8]
theorem jnp_zero (Ls : List (List Int)) : (jnp Ls 0).length = 8 := by simp [jnp, jn, be8]
theorem jnp_all (Ls : List (List Int)) : jnp Ls Ls.length = joinB Ls := by simp [jnp, joinB]
theorem jnp_mono (Ls : List (List Int)) : ∀ (d i : Nat), i + d = Ls.length → (jnp Ls i).length ≤ (joinB Ls).length
  | 0, i, h => by
    rw [Nat.add_zero] at h
    subst h; rw [jnp_all]; exact Nat.le_refl _
  | d + 1, i, h => by
    have := jnp_mono Ls d (i + 1) (by omega)
    rw [jnp_len (by omega)] at this
    omega
theorem jnp_le {Ls : List (List Int)} {i : Nat} (h : i < Ls.length) : (jnp Ls (i + 1)).length ≤ (joinB Ls).length := jnp_mono Ls (Ls.length - (i + 1)) (i + 1) (by omega)


set_option maxRecDepth 100000 in
set_option maxHeartbeats 4000000 in
theorem join_any (a : Option Addr) (len cap b off : Nat) (V : Nat → SD) (Ls : List (List Int)) (w : World) (ρ : Nat → Nat) (hb : BBAt w (fun _ => True) a len cap b off V Ls) (hbound : (joinB Ls).length ≤ 140737488355328) (hH : HeapAt ρ [] w) :
    Calls Tryd.prog 16 ([sV (.slice a len cap)].map (SV.conc ρ)).toArray w fun r' w' => ∃ (y : Nat × List Value) (σ : Nat → Nat), ((joinB Ls).length ≤ y.1 ∧ y.1 ≤ maxLen ∧ y.2.length = (y.1 - ((joinB Ls).length)) * 1) ∧ r' = .returned (EV.conc σ (.s (.a (.ls 9 0 ((joinB Ls).length) y.1)))) ∧ Ran ρ [] [(9, ⟨[.vals (bV (joinB Ls) ++ y.2)], 5⟩)] w w' σ := by
  have hbX := hb.enter (Y := fun i => i < w.heap.size ∧ ¬ ∃ k b, getH ([] : Heap) k = some b ∧ ρ k = i) (fun i _ h => xI0 i h)
  have hlenm : len ≤ 9223372036854775807 := by have h1 := hb.lc; have h2 := hb.cm; simp only [maxLen] at h2; omega
  refine calls_enter (vs := [sV (.slice a len cap)]) (N := 26) [] ρ Tryd.func16 rfl rfl (Nat.le_of_ble_eq_true rfl) (okv_a (okv_nil)) hH.hp hH.inj ?_ _ rfl
  refine wc_seq ?_
  refine wc_reg [0] (by kernel_rfl) ?_
  refine wo_run [0] [0] [] (l' := [(0, eV (.slice a len cap))]) (H' := []) (by kernel_rfl) ?_
  refine wo_nil ?_
  refine we_then ?_
  refine wc_seq ?_
  refine wc_reg [0, 1, 2, 3, 4] (by kernel_rfl) ?_
  refine wo_run [0, 1] [0, 7] [] (l' := [(0, eV (.slice a len cap)), (7, eI .i64 ((len : Nat) : Int))]) (H' := []) (by kernel_rfl) ?_
  refine wo_op rfl rfl (ot_rd rfl (rd_recast (e := eI .u64 (IntKind.wrap .u64 ((len : Nat) : Int))) (eI .u64 ((len : Nat) : Int)) (by kernel_rfl) (congrArg (fun z => eI .u64 z) (w_nat_u64 (by omega))))) ?_
  refine wo_ox rfl rfl (ox_callm (τ := Nat × List Value) (φ := fun y => (8 ≤ y.1 ∧ y.1 ≤ maxLen ∧ y.2.length = (y.1 - 8) * 1)) [sV (.slice none 0 0), sI .u64 ((len : Nat) : Int)] [] [] [(30, 9)] [] (fun ⟨c1, r1⟩ => .s (.a (.ls 30 0 8 c1))) (fun ⟨c1, r1⟩ => [(30, ⟨[.vals (bV (be8 ((len : Nat) : Int)) ++ r1)], 5⟩)]) rfl (by kernel_rfl) rfl Tryd.func43 (by kernel_rfl) (by kernel_rfl) (by kernel_rfl) (by kernel_rfl) (by kernel_rfl) (by kernel_rfl) (trivial) (fun _ => by kernel_rfl) (fun _ => by kernel_rfl) (fun ⟨c1, r1⟩ _ => trivial) (fun ρ w h hh => appU64_nil ((len : Nat) : Int) w _ hh)) (fun ⟨c1, r1⟩ hc1 _ => ?_)
  refine wo_run [] [0, 9] [9] (l' := [(0, eV (.slice a len cap)), (9, .s (.a (.ls 9 0 8 c1)))]) (H' := [(9, ⟨[.vals (bV (be8 ((len : Nat) : Int)) ++ r1)], 5⟩)]) (by kernel_rfl) ?_
  refine wo_run [4] [0, 3] [9] (l' := [(0, eV (.slice a len cap)), (3, .s (.a (.ls 9 0 8 c1)))]) (H' := [(9, ⟨[.vals (bV (be8 ((len : Nat) : Int)) ++ r1)], 5⟩)]) (by kernel_rfl) ?_
  refine wo_nil ?_
  refine we_then ?_
  refine wc_seq ?_
  refine wc_seq ?_
  refine wc_reg [0, 1, 2] (by kernel_rfl) ?_
  refine wo_run [0, 1, 2] [3, 10, 11, 12] [9] (l' := [(3, .s (.a (.ls 9 0 8 c1))), (10, eV (.slice a len cap)), (11, eI .i64 ((len : Nat) : Int)), (12, eI .i64 0)]) (H' := [(9, ⟨[.vals (bV (be8 ((len : Nat) : Int)) ++ r1)], 5⟩)]) (by kernel_rfl) ?_
  refine wo_nil ?_
  refine we_then ?_
  refine wc_block ?_
  have hz : be8 ((len : Nat) : Int) = jnp Ls 0 := by rw [← hbX.ln]; simp [jnp, jn]
  have hz8 : (8 : Nat) = (jnp Ls 0).length := by simp [jnp, jn, be8]
  rw [hz, hz8]
  refine wc_rest [3, 10, 11, 12] [9] (l' := [(3, .s (.a (.ls 9 0 ((jnp Ls 0).length) c1))), (10, eV (.slice a len cap)), (11, eI .i64 ((len : Nat) : Int)), (12, eI .i64 0)]) (H' := [(9, ⟨[.vals (bV (jnp Ls 0) ++ r1)], 5⟩)]) (by kernel_rfl) ?_
  refine wc_loop (τ := Nat × Nat × List Value) (fun ⟨i, cp, rs⟩ => i ≤ len ∧ (jnp Ls i).length ≤ cp ∧ cp ≤ maxLen ∧ rs.length = (cp - (jnp Ls i).length) * 1) (fun ⟨i, cp, rs⟩ => len - i) (fun _ => _) (fun ⟨i, cp, rs⟩ => [(3, .s (.a (.ls 9 0 ((jnp Ls i).length) cp))), (10, eV (.slice a len cap)), (11, eI .i64 ((len : Nat) : Int)), (12, eI .i64 ((i : Nat) : Int))]) (fun ⟨i, cp, rs⟩ => [(9, ⟨[.vals (bV (jnp Ls i) ++ rs)], 5⟩)]) (0, c1, r1) (⟨Nat.zero_le _, by rw [jnp_zero]; exact hc1.1, hc1.2.1, by rw [jnp_zero]; exact hc1.2.2⟩) rfl rfl rfl ?_
  rintro ⟨i, cp, rs⟩ hj
  obtain ⟨hi, hjc, hcm, hrs⟩ := hj
  refine wc_seq ?_
  refine wc_reg [0] (by kernel_rfl) ?_
  refine wo_run [0] [3, 10, 11, 12, 13] [9] (l' := [(3, .s (.a (.ls 9 0 ((jnp Ls i).length) cp))), (10, eV (.slice a len cap)), (11, eI .i64 ((len : Nat) : Int)), (12, eI .i64 ((i : Nat) : Int)), (13, eB (decide (((i : Nat) : Int) < ((len : Nat) : Int))))]) (H' := [(9, ⟨[.vals (bV (jnp Ls i) ++ rs)], 5⟩)]) (by kernel_rfl) ?_
  refine wo_nil ?_
  refine we_then ?_
  refine wc_seq ?_
  refine wc_cond rfl (fun h1 => ?_) (fun h1 => ?_)
  · replace h1 := of_decide_eq_true h1
    refine wc_skip ?_
    refine we_then ?_
    refine wc_seq ?_
    refine wc_block ?_
    refine wc_seq ?_
    refine wc_reg [0, 1, 2] (by kernel_rfl) ?_
    refine wo_op rfl rfl (ot_rd rfl (rd_indexI (e := 22) b off 1 i ((i : Nat) : Int) rfl (by kernel_rfl) (by kernel_rfl) rfl rfl (rfl) (by omega) (hbX.ptr (Nat.zero_lt_of_lt (show i < len from by omega))).1)) ?_
    refine wo_op rfl rfl (ot_rd rfl (rd_load (v := (sV (.slice ((V i).a) ((V i).len) ((V i).cap)))) b (off + i * 1) 0 [cV (.slice ((V i).a) ((V i).len) ((V i).cap))] rfl (off + i * 1) rfl rfl ((hbX.ptr (Nat.zero_lt_of_lt (show i < len from by omega))).2.1) (hbX.cellsAt (show i < len from by omega)) (okc_one okc_nil) (fun _ => rfl) (by kernel_rfl))) ?_
    refine wo_run [2] [3, 5, 10, 11, 12] [9] (l' := [(3, .s (.a (.ls 9 0 ((jnp Ls i).length) cp))), (5, eV (.slice ((V i).a) ((V i).len) ((V i).cap))), (10, eV (.slice a len cap)), (11, eI .i64 ((len : Nat) : Int)), (12, eI .i64 ((i : Nat) : Int))]) (H' := [(9, ⟨[.vals (bV (jnp Ls i) ++ rs)], 5⟩)]) (by kernel_rfl) ?_
    refine wo_nil ?_
    refine we_then ?_
    refine wc_seq ?_
    have hii : i < Ls.length := by rw [hbX.ln]; omega
    have hel : (Ls.getD i []).length = (V i).len := (hbX.el i (by omega)).ln
    have hbd := jnp_le hii
    rw [jnp_len hii] at hbd
    have hbe : (V i).len ≤ 9223372036854775807 := by have h1 := (hbX.el i (by omega)).lc; have h2 := (hbX.el i (by omega)).cm; simp only [maxLen] at h2; omega
    refine wc_reg [0, 1, 2, 3, 4, 5] (by kernel_rfl) ?_
    refine wo_run [0, 1, 2] [5, 10, 11, 12, 16, 18] [9] (l' := [(5, eV (.slice ((V i).a) ((V i).len) ((V i).cap))), (10, eV (.slice a len cap)), (11, eI .i64 ((len : Nat) : Int)), (12, eI .i64 ((i : Nat) : Int)), (16, .s (.a (.ls 9 0 ((jnp Ls i).length) cp))), (18, eI .i64 (((V i).len : Nat) : Int))]) (H' := [(9, ⟨[.vals (bV (jnp Ls i) ++ rs)], 5⟩)]) (by kernel_rfl) ?_
    refine wo_op rfl rfl (ot_rd rfl (rd_recast (e := eI .u64 (IntKind.wrap .u64 (((V i).len : Nat) : Int))) (eI .u64 (((V i).len : Nat) : Int)) (by kernel_rfl) (congrArg (fun z => eI .u64 z) (w_nat_u64 (by omega))))) ?_
    refine wo_ox rfl rfl (ox_callm (τ := Nat × List Value) (φ := fun y => (((jnp Ls i).length + 8) ≤ y.1 ∧ y.1 ≤ maxLen ∧ y.2.length = (y.1 - ((jnp Ls i).length + 8)) * 1)) [.a (.ls 100000 0 ((jnp Ls i).length) cp), sI .u64 (((V i).len : Nat) : Int)] [(100000, ⟨[.vals (bV (jnp Ls i) ++ rs)], 5⟩)] [(100000, 9)] [(30, 20)] [] (fun ⟨c2, r2⟩ => .s (.a (.ls 30 0 ((jnp Ls i).length + 8) c2))) (fun ⟨c2, r2⟩ => [(30, ⟨[.vals (bV ((jnp Ls i) ++ be8 (((V i).len : Nat) : Int)) ++ r2)], 5⟩)]) rfl (by kernel_rfl) rfl Tryd.func43 (by kernel_rfl) (by kernel_rfl) (by kernel_rfl) (by kernel_rfl) (by kernel_rfl) (by kernel_rfl) (⟨⟨by kernel_rfl, by kernel_rfl, by kernel_rfl⟩, trivial⟩) (fun _ => by kernel_rfl) (fun _ => by kernel_rfl) (fun ⟨c2, r2⟩ _ => trivial) (fun ρ w h hh => appU64_row (jnp Ls i) ((jnp Ls i).length) cp rs (((V i).len : Nat) : Int) (rfl) (hjc) (hcm) (hrs) (by omega) w _ hh)) (fun ⟨c2, r2⟩ hc2 _ => ?_)
    refine wo_run [] [5, 10, 11, 12, 20] [20] (l' := [(5, eV (.slice ((V i).a) ((V i).len) ((V i).cap))), (10, eV (.slice a len cap)), (11, eI .i64 ((len : Nat) : Int)), (12, eI .i64 ((i : Nat) : Int)), (20, .s (.a (.ls 20 0 ((jnp Ls i).length + 8) c2)))]) (H' := [(20, ⟨[.vals (bV ((jnp Ls i) ++ be8 (((V i).len : Nat) : Int)) ++ r2)], 5⟩)]) (by kernel_rfl) ?_
    refine wo_run [5] [3, 5, 10, 11, 12] [20] (l' := [(3, .s (.a (.ls 20 0 ((jnp Ls i).length + 8) c2))), (5, eV (.slice ((V i).a) ((V i).len) ((V i).cap))), (10, eV (.slice a len cap)), (11, eI .i64 ((len : Nat) : Int)), (12, eI .i64 ((i : Nat) : Int))]) (H' := [(20, ⟨[.vals (bV ((jnp Ls i) ++ be8 (((V i).len : Nat) : Int)) ++ r2)], 5⟩)]) (by kernel_rfl) ?_
    refine wo_nil ?_
    refine we_then ?_
    refine wc_reg [0, 1, 2, 3] (by kernel_rfl) ?_
    refine wo_run [0, 1] [10, 11, 12, 21, 22] [20] (l' := [(10, eV (.slice a len cap)), (11, eI .i64 ((len : Nat) : Int)), (12, eI .i64 ((i : Nat) : Int)), (21, .s (.a (.ls 20 0 ((jnp Ls i).length + 8) c2))), (22, eV (.slice ((V i).a) ((V i).len) ((V i).cap)))]) (H' := [(20, ⟨[.vals (bV ((jnp Ls i) ++ be8 (((V i).len : Nat) : Int)) ++ r2)], 5⟩)]) (by kernel_rfl) ?_
    refine wo_ox rfl rfl (ox_appendS (e := 5) (m := (V i).len) (size := 1) (bytes := 1) 23 20 ((jnp Ls i).length + 8) c2 (bV ((jnp Ls i) ++ be8 (((V i).len : Nat) : Int))) ((Ls.getD i []).map (Value.int .u8)) r2 [] rfl rfl (by kernel_rfl) (by kernel_rfl) (by kernel_rfl) rfl rfl (by rw [bV_len, Nat.mul_one]; simp [be8]) (hc2.2.2) (hc2.1) (hc2.2.1) (srcof_bat (e' := 5) (by kernel_rfl) rfl (hbX.el i (show i < len from by omega)) ((hbX.el i (show i < len from by omega)).nz)) (by simp only [maxLen]; omega) (by omega) (by kernel_rfl)) (fun ⟨c3, r3⟩ hc3 _ => ?_)
    refine wo_flat 23 [.vals (bV (((jnp Ls i) ++ be8 (((V i).len : Nat) : Int)) ++ (Ls.getD i [])) ++ r3)] rfl (fun ρ => by simp only [bV, iV, List.map_append]) (okCs_vals _) ?_
    refine wo_run [] [10, 11, 12, 23] [23] (l' := [(10, eV (.slice a len cap)), (11, eI .i64 ((len : Nat) : Int)), (12, eI .i64 ((i : Nat) : Int)), (23, .s (.a (.ls 23 0 (((jnp Ls i).length + 8) + (V i).len) c3)))]) (H' := [(23, ⟨[.vals (bV (((jnp Ls i) ++ be8 (((V i).len : Nat) : Int)) ++ (Ls.getD i [])) ++ r3)], 5⟩)]) (by kernel_rfl) ?_
    refine wo_run [3] [3, 10, 11, 12] [23] (l' := [(3, .s (.a (.ls 23 0 (((jnp Ls i).length + 8) + (V i).len) c3))), (10, eV (.slice a len cap)), (11, eI .i64 ((len : Nat) : Int)), (12, eI .i64 ((i : Nat) : Int))]) (H' := [(23, ⟨[.vals (bV (((jnp Ls i) ++ be8 (((V i).len : Nat) : Int)) ++ (Ls.getD i [])) ++ r3)], 5⟩)]) (by kernel_rfl) ?_
    refine wo_nil ?_
    refine we_block ?_
    refine we_then ?_
    refine wc_reg [0, 1] (by kernel_rfl) ?_
    refine wo_op rfl rfl (ot_rd rfl (rd_recast (e := eI .i64 (IntKind.wrap .i64 (((i : Nat) : Int) + 1))) (eI .i64 ((i + 1 : Nat) : Int)) (by kernel_rfl) (congrArg (fun z => eI .i64 z) (w_add_i64 (a := i) (b := 1) (by omega))))) ?_
    refine wo_run [1] [3, 10, 11, 12] [23] (l' := [(3, .s (.a (.ls 23 0 (((jnp Ls i).length + 8) + (V i).len) c3))), (10, eV (.slice a len cap)), (11, eI .i64 ((len : Nat) : Int)), (12, eI .i64 ((i + 1 : Nat) : Int))]) (H' := [(23, ⟨[.vals (bV (((jnp Ls i) ++ be8 (((V i).len : Nat) : Int)) ++ (Ls.getD i [])) ++ r3)], 5⟩)]) (by kernel_rfl) ?_
    refine wo_nil ?_
    refine we_rest [3, 10, 11, 12] [23] (l' := [(3, .s (.a (.ls 23 0 (((jnp Ls i).length + 8) + (V i).len) c3))), (10, eV (.slice a len cap)), (11, eI .i64 ((len : Nat) : Int)), (12, eI .i64 ((i + 1 : Nat) : Int))]) (H' := [(23, ⟨[.vals (bV (((jnp Ls i) ++ be8 (((V i).len : Nat) : Int)) ++ (Ls.getD i [])) ++ r3)], 5⟩)]) (by kernel_rfl) (by kernel_rfl) ?_
    refine we_ren [(23, 9)] (l' := [(3, .s (.a (.ls 9 0 (((jnp Ls i).length + 8) + (V i).len) c3))), (10, eV (.slice a len cap)), (11, eI .i64 ((len : Nat) : Int)), (12, eI .i64 ((i + 1 : Nat) : Int))]) (H' := [(9, ⟨[.vals (bV (((jnp Ls i) ++ be8 (((V i).len : Nat) : Int)) ++ (Ls.getD i [])) ++ r3)], 5⟩)]) (by kernel_rfl) (by kernel_rfl) (by kernel_rfl) ?_
    refine we_rest [3, 10, 11, 12] [9] (l' := [(3, .s (.a (.ls 9 0 (((jnp Ls i).length + 8) + (V i).len) c3))), (10, eV (.slice a len cap)), (11, eI .i64 ((len : Nat) : Int)), (12, eI .i64 ((i + 1 : Nat) : Int))]) (H' := [(9, ⟨[.vals (bV (((jnp Ls i) ++ be8 (((V i).len : Nat) : Int)) ++ (Ls.getD i [])) ++ r3)], 5⟩)]) (by kernel_rfl) (by kernel_rfl) ?_
    rw [show (bV (((jnp Ls i) ++ be8 (((V i).len : Nat) : Int)) ++ (Ls.getD i [])) ++ r3) = (bV (jnp Ls (i + 1)) ++ r3) from by rw [jnp_next hii, hel]]
    rw [show (((jnp Ls i).length + 8) + (V i).len) = (jnp Ls (i + 1)).length from by rw [jnp_len hii, hel]]
    exact we_round (i + 1, c3, r3) (⟨by omega, by rw [jnp_len hii, hel]; exact hc3.1, hc3.2.1, by rw [jnp_len hii, hel]; exact hc3.2.2⟩) (by show len - (i + 1) < len - i; omega) rfl (sub_ofE [3, 10, 11, 12] rfl) (sub_of [9] rfl)
  · replace h1 := of_decide_eq_false h1
    refine wc_exit ?_
    refine we_then_exit ?_
    refine we_then_exit ?_
    refine we_block_exit ?_
    refine we_then ?_
    refine wc_seq ?_
    refine wc_reg [0, 1] (by kernel_rfl) ?_
    refine wo_run [0, 1] [2] [9] (l' := [(2, .s (.a (.ls 9 0 ((jnp Ls i).length) cp)))]) (H' := [(9, ⟨[.vals (bV (jnp Ls i) ++ rs)], 5⟩)]) (by kernel_rfl) ?_
    refine wo_nil ?_
    refine we_then ?_
    refine wc_ret ?_
    refine we_rest [2] [9] (l' := [(2, .s (.a (.ls 9 0 ((jnp Ls i).length) cp)))]) (H' := [(9, ⟨[.vals (bV (jnp Ls i) ++ rs)], 5⟩)]) (by kernel_rfl) (by kernel_rfl) ?_
    refine we_ret (.inl rfl) (v := .s (.a (.ls 9 0 ((jnp Ls i).length) cp))) (by kernel_rfl) ?_
    obtain rfl : i = len := by omega
    have hall : jnp Ls i = joinB Ls := by rw [← hbX.ln]; exact jnp_all Ls
    rw [hall] at hrs hjc ⊢
    intro σ w' hf
    exact ⟨(cp, rs), σ, ⟨hjc, hcm, hrs⟩, rfl, hf.ran rfl rfl⟩

end Go.Proofs.YtjcghjgennddaaaDoor
