/- SHA-256: the walks. -/
import Derived.Test.YtjcghjgennddaaaDoorProg
import Derived.KernelRfl
import Derived.Test.YtjcghjgennddaaaDoorShaG
import Derived.Test.YtjcghjgennddaaaDoorSxDeep
namespace Go.Proofs.YtjcghjgennddaaaDoor
open Go.RowKit Go.Sx
set_option linter.unusedVariables false
set_option linter.unusedSimpArgs false

theorem padr_j {n j : Nat} (hj : j ≤ padz ((n : Nat) : Int)) (h : Int.tmod (((n + 1 + j : Nat)) : Int) 64 = 56) : j = padz ((n : Nat) : Int) := by
  rw [Int.tmod_eq_emod_of_nonneg (by omega)] at h
  unfold padz at hj ⊢; omega
def outF (h : List Int) : Nat → List Int
  | 0 => List.replicate 32 0
  | i + 1 => (outF h i).set i (IntKind.wrap .u8 (Int.fdiv (h.getD (i / 4) 0) (2 ^ (24 - 8 * (i % 4)))))
theorem outF_dig (h : List Int) : outF h 32 = digF h 8 := rfl
theorem outF_len (h : List Int) : ∀ i, (outF h i).length = 32
  | 0 => by simp [outF]
  | i + 1 => by simp [outF, outF_len h i]
abbrev aL (L : List Int) (len : Nat) : List Int := L ++ pad ((len : Nat) : Int)
abbrev hsQ (L : List Int) (len q : Nat) : List Int := hfold shaK hs0.h (aL L len) q
abbrev cQ (L : List Int) (len q : Nat) : List Int := ((aL L len).drop (64 * q)).take 64
abbrev sQ (L : List Int) (len q : Nat) : List Int := sch (cQ L len q) 64
abbrev rQ (L : List Int) (len q t : Nat) : List Int := rnds shaK (sQ L len q) (hsQ L len q) t
abbrev aQ (L : List Int) (len q i : Nat) : List Int := addv (hsQ L len q) (rQ L len q 64) i
abbrev z24 : List Chunk := [.ints .u8 32 (List.replicate 32 0)]
theorem z24_zero' : (Tryd.prog.info? 24).bind (·.zero) = some (SV.conc (fun _ => 0) (.agg z24)) := by kernel_rfl
theorem z24_zero : (Tryd.prog.info? 24).bind (·.zero) = some (SV.conc (fun _ => 0) (.agg z24)) ∨ ∃ v, (Tryd.prog.info? 24).bind (·.zero) = some v ∧ z24 = [.one (.v v)] ∧ v.oneCell' = true := .inl z24_zero'
theorem z24_ok : okCs z24 := okc_ints (List.length_replicate) (okc_nil)

set_option maxRecDepth 100000 in
set_option maxHeartbeats 16000000 in
theorem rsum_any (a : Option Addr) (len cap b off : Nat) (L : List Int) (w : World) (ρ : Nat → Nat) (hb : BAt w (fun _ => True) a len cap b off L) (hL : OkB L) (hlen : len ≤ 140737488351232) :
    Calls Tryd.prog 15 ([sV (.slice a len cap)].map (SV.conc ρ)).toArray w fun r' w' => r' = .returned (EV.conc ρ (eA [.ints .u8 32 (sumB shaK L)])) ∧ Below w.heap.size w w' := by
  have hbX : BAt w (fun i => i < w.heap.size ∧ ¬ ∃ k b, getH ([] : Heap) k = some b ∧ ρ k = i) a len cap b off L := hb.enter (fun i _ h => xI0 i h)
  have hLn : L.length = len := hb.ln
  obtain ⟨Q, hQ⟩ := padded_len L
  rw [hLn] at hQ
  replace hQ : 64 * Q = (aL L len).length := hQ
  have hAl : (aL L len).length = len + padz ((len : Nat) : Int) + 9 := by rw [List.length_append, hLn, pad_len, ← Nat.add_assoc]
  have hpz := padz_lt ((len : Nat) : Int)
  have hall : OkB (aL L len) := okB_app hL (pad_ok _)
  refine calls_enter (vs := [sV (.slice a len cap)]) (N := 305) [] ρ Tryd.func15 rfl rfl (Nat.le_of_ble_eq_true rfl) (okv_a (okv_nil)) noH noH2 ?_ _ rfl
  refine wc_seq ?_
  refine wc_reg [0] (by kernel_rfl) ?_
  refine wo_op rfl rfl (ot_alloc (d := 2) (cs := z24) rfl rfl z24_zero rfl z24_ok (fun _ => rfl)) ?_
  refine wo_nil ?_
  refine we_then ?_
  refine wc_seq ?_
  refine wc_reg [0, 1, 2, 3, 4, 5] (by kernel_rfl) ?_
  refine wo_ox rfl rfl (ox_callm (τ := (Nat × List Value) × (Nat × List Value)) (φ := fun y => ((8 ≤ y.1.1 ∧ y.1.1 ≤ maxLen ∧ y.1.2.length = (y.1.1 - 8) * 1) ∧ (64 ≤ y.2.1 ∧ y.2.1 ≤ maxLen ∧ y.2.2.length = (y.2.1 - 64) * 1))) [] [] [] [(7, 23), (8, 304)] [2] (fun ⟨⟨c1, r1⟩, ⟨c2, r2⟩⟩ => .t [.a (.ls 7 0 8 c1), .a (.ls 8 0 64 c2)]) (fun ⟨⟨c1, r1⟩, ⟨c2, r2⟩⟩ => [(7, ⟨[.vals (iV .u32 hs0.h ++ r1)], 79⟩), (8, ⟨[.vals (iV .u32 shaK ++ r2)], 79⟩)]) rfl (by kernel_rfl) rfl Tryd.func40 (by kernel_rfl) (by kernel_rfl) (by kernel_rfl) (by kernel_rfl) (by kernel_rfl) (by kernel_rfl) (trivial) (fun _ => by kernel_rfl) (fun _ => by kernel_rfl) (fun ⟨⟨c1, r1⟩, ⟨c2, r2⟩⟩ _ => okv_a (okv_a (okv_nil))) (fun ρ w h hh => numbers_any w _ hh)) (fun ⟨⟨c1, r1⟩, ⟨c2, r2⟩⟩ ⟨hc1, hc2⟩ _ => ?_)
  refine wo_run [] [0, 2, 23] [2, 23, 304] (l' := [(0, eV (.slice a len cap)), (2, eL 2 0), (23, .t [.a (.ls 23 0 8 c1), .a (.ls 304 0 64 c2)])]) (H' := [(2, ⟨[.ints .u8 32 (List.replicate 32 0)], 24⟩), (23, ⟨[.vals (iV .u32 hs0.h ++ r1)], 79⟩), (304, ⟨[.vals (iV .u32 shaK ++ r2)], 79⟩)]) (by kernel_rfl) ?_
  refine wo_run [1, 2, 3, 4, 5] [0, 2, 3, 4] [2, 23, 304] (l' := [(0, eV (.slice a len cap)), (2, eL 2 0), (3, .s (.a (.ls 23 0 8 c1))), (4, .s (.a (.ls 304 0 64 c2)))]) (H' := [(2, ⟨[.ints .u8 32 (List.replicate 32 0)], 24⟩), (23, ⟨[.vals (iV .u32 hs0.h ++ r1)], 79⟩), (304, ⟨[.vals (iV .u32 shaK ++ r2)], 79⟩)]) (by kernel_rfl) ?_
  refine wo_nil ?_
  refine we_then ?_
  refine wc_seq ?_
  refine wc_reg [0, 1, 2, 3, 4, 5] (by kernel_rfl) ?_
  refine wo_op rfl rfl (ot_bslice (e := 5) (d := 26) (n := 0) (size := 1) [] [] rfl rfl rfl (by kernel_rfl) rfl (by kernel_rfl) okc_nil (fun _ => rfl) (by kernel_rfl) (by kernel_rfl)) ?_
  refine wo_flat 26 [.vals (bV [] ++ [])] rfl (fun ρ => rfl) (okCs_vals _) ?_
  refine wo_run [1] [0, 2, 3, 4, 26, 27] [2, 23, 26, 304] (l' := [(0, eV (.slice a len cap)), (2, eL 2 0), (3, .s (.a (.ls 23 0 8 c1))), (4, .s (.a (.ls 304 0 64 c2))), (26, .s (.a (.ls 26 0 0 0))), (27, eV (.slice a len cap))]) (H' := [(2, ⟨[.ints .u8 32 (List.replicate 32 0)], 24⟩), (23, ⟨[.vals (iV .u32 hs0.h ++ r1)], 79⟩), (26, ⟨[.vals (bV [] ++ [])], 5⟩), (304, ⟨[.vals (iV .u32 shaK ++ r2)], 79⟩)]) (by kernel_rfl) ?_
  refine wo_ox rfl rfl (ox_appendS (e := 5) (m := len) (size := 1) (bytes := 1) 28 26 0 0 (bV ([])) (L.map (Value.int .u8)) [] [2, 23, 304] rfl rfl (by kernel_rfl) (by kernel_rfl) (by kernel_rfl) rfl rfl (by simp [bV, iV]) (rfl) (Nat.le_refl _) (Nat.zero_le _) (srcof_bat (e' := 5) (by kernel_rfl) rfl hbX (hbX.nz)) (by simp only [maxLen]; omega) (by omega) (by kernel_rfl)) (fun ⟨c3, r3⟩ hc3 _ => ?_)
  refine wo_flat 28 [.vals (bV ([] ++ L) ++ r3)] rfl (fun ρ => by simp only [bV, iV, List.map_append]) (okCs_vals _) ?_
  rw [show (0 + len : Nat) = len from Nat.zero_add _]
  refine wo_run [] [0, 2, 3, 4, 28] [2, 23, 28, 304] (l' := [(0, eV (.slice a len cap)), (2, eL 2 0), (3, .s (.a (.ls 23 0 8 c1))), (4, .s (.a (.ls 304 0 64 c2))), (28, .s (.a (.ls 28 0 len c3)))]) (H' := [(2, ⟨[.ints .u8 32 (List.replicate 32 0)], 24⟩), (23, ⟨[.vals (iV .u32 hs0.h ++ r1)], 79⟩), (28, ⟨[.vals (bV ([] ++ L) ++ r3)], 5⟩), (304, ⟨[.vals (iV .u32 shaK ++ r2)], 79⟩)]) (by kernel_rfl) ?_
  refine wo_op rfl rfl (ot_bslice (e := 5) (d := 29) (n := 1) (size := 1) [.ints .u8 1 (List.replicate 1 0)] [cI .u8 128] rfl rfl rfl (by kernel_rfl) rfl (by kernel_rfl) (okc_ints (List.length_replicate) (okc_nil)) (fun _ => rfl) (by kernel_rfl) (by kernel_rfl)) ?_
  refine wo_flat 29 [.vals (bV ([128]) ++ [])] rfl (fun ρ => by simp [flat, iV, bV, AV.conc]) (okCs_vals _) ?_
  refine wo_ox rfl rfl (ox_appendS (e := 5) (m := 1) (size := 1) (bytes := 1) 30 28 len c3 (bV ([] ++ L)) (([128]).map (Value.int .u8)) r3 [29, 2, 23, 304] rfl rfl (by kernel_rfl) (by kernel_rfl) (by kernel_rfl) rfl rfl (by simp [bV, iV, hLn]) (by simpa using hc3.2.2) (by simpa using hc3.1) (hc3.2.1) (srcof_row (e' := 5) rfl (by kernel_rfl) rfl (rfl)) (by simp only [maxLen]; omega) (by omega) (by kernel_rfl)) (fun ⟨c4, r4⟩ hc4 _ => ?_)
  refine wo_flat 30 [.vals (bV (([] ++ L) ++ ([128])) ++ r4)] rfl (fun ρ => by simp only [bV, iV, List.map_append]) (okCs_vals _) ?_
  refine wo_run [] [0, 2, 3, 4, 30] [2, 23, 30, 304] (l' := [(0, eV (.slice a len cap)), (2, eL 2 0), (3, .s (.a (.ls 23 0 8 c1))), (4, .s (.a (.ls 304 0 64 c2))), (30, .s (.a (.ls 30 0 (len + 1) c4)))]) (H' := [(2, ⟨[.ints .u8 32 (List.replicate 32 0)], 24⟩), (23, ⟨[.vals (iV .u32 hs0.h ++ r1)], 79⟩), (30, ⟨[.vals (bV (([] ++ L) ++ ([128])) ++ r4)], 5⟩), (304, ⟨[.vals (iV .u32 shaK ++ r2)], 79⟩)]) (by kernel_rfl) ?_
  refine wo_run [5] [0, 2, 3, 4, 5] [2, 23, 30, 304] (l' := [(0, eV (.slice a len cap)), (2, eL 2 0), (3, .s (.a (.ls 23 0 8 c1))), (4, .s (.a (.ls 304 0 64 c2))), (5, .s (.a (.ls 30 0 (len + 1) c4)))]) (H' := [(2, ⟨[.ints .u8 32 (List.replicate 32 0)], 24⟩), (23, ⟨[.vals (iV .u32 hs0.h ++ r1)], 79⟩), (30, ⟨[.vals (bV (([] ++ L) ++ ([128])) ++ r4)], 5⟩), (304, ⟨[.vals (iV .u32 shaK ++ r2)], 79⟩)]) (by kernel_rfl) ?_
  refine wo_nil ?_
  refine we_then ?_
  refine wc_seq ?_
  refine wc_block ?_
  refine wc_rest [0, 2, 3, 4, 5] [2, 23, 30, 304] (l' := [(0, eV (.slice a len cap)), (2, eL 2 0), (3, .s (.a (.ls 23 0 8 c1))), (4, .s (.a (.ls 304 0 64 c2))), (5, .s (.a (.ls 30 0 (len + 1) c4)))]) (H' := [(2, ⟨[.ints .u8 32 (List.replicate 32 0)], 24⟩), (23, ⟨[.vals (iV .u32 hs0.h ++ r1)], 79⟩), (30, ⟨[.vals (bV (([] ++ L) ++ ([128])) ++ r4)], 5⟩), (304, ⟨[.vals (iV .u32 shaK ++ r2)], 79⟩)]) (by kernel_rfl) ?_
  refine wc_loop (τ := Nat × Nat × List Value) (fun ⟨j, cp, rs⟩ => j ≤ padz ((len : Nat) : Int) ∧ len + 1 + j ≤ cp ∧ cp ≤ maxLen ∧ rs.length = (cp - (len + 1 + j)) * 1) (fun ⟨j, cp, rs⟩ => padz ((len : Nat) : Int) - j) (fun _ => _) (fun ⟨j, cp, rs⟩ => [(0, eV (.slice a len cap)), (2, eL 2 0), (3, .s (.a (.ls 23 0 8 c1))), (4, .s (.a (.ls 304 0 64 c2))), (5, .s (.a (.ls 30 0 (len + 1 + j) cp)))]) (fun ⟨j, cp, rs⟩ => [(2, ⟨[.ints .u8 32 (List.replicate 32 0)], 24⟩), (23, ⟨[.vals (iV .u32 hs0.h ++ r1)], 79⟩), (30, ⟨[.vals (bV (L ++ 128 :: List.replicate j 0) ++ rs)], 5⟩), (304, ⟨[.vals (iV .u32 shaK ++ r2)], 79⟩)]) (0, c4, r4) (⟨Nat.zero_le _, hc4.1, hc4.2.1, hc4.2.2⟩) rfl rfl rfl ?_
  rintro ⟨j, cp, rs⟩ hj
  obtain ⟨hj0, hjc, hcm, hrs⟩ := hj
  refine wc_seq ?_
  refine wc_seq ?_
  refine wc_reg [0, 1, 2, 3] (by kernel_rfl) ?_
  refine wo_run [0] [0, 2, 3, 4, 5, 31] [2, 23, 30, 304] (l' := [(0, eV (.slice a len cap)), (2, eL 2 0), (3, .s (.a (.ls 23 0 8 c1))), (4, .s (.a (.ls 304 0 64 c2))), (5, .s (.a (.ls 30 0 (len + 1 + j) cp))), (31, .s (.a (.ls 30 0 (len + 1 + j) cp)))]) (H' := [(2, ⟨[.ints .u8 32 (List.replicate 32 0)], 24⟩), (23, ⟨[.vals (iV .u32 hs0.h ++ r1)], 79⟩), (30, ⟨[.vals (bV (L ++ 128 :: List.replicate j 0) ++ rs)], 5⟩), (304, ⟨[.vals (iV .u32 shaK ++ r2)], 79⟩)]) (by kernel_rfl) ?_
  refine wo_op rfl rfl (ot_rd rfl (rd_len rfl rfl rfl rfl (fun _ => by kernel_rfl))) ?_
  refine wo_run [2, 3] [0, 2, 3, 4, 5, 34] [2, 23, 30, 304] (l' := [(0, eV (.slice a len cap)), (2, eL 2 0), (3, .s (.a (.ls 23 0 8 c1))), (4, .s (.a (.ls 304 0 64 c2))), (5, .s (.a (.ls 30 0 (len + 1 + j) cp))), (34, eB ((Int.tmod (((len + 1 + j) : Nat) : Int) 64) != 56))]) (H' := [(2, ⟨[.ints .u8 32 (List.replicate 32 0)], 24⟩), (23, ⟨[.vals (iV .u32 hs0.h ++ r1)], 79⟩), (30, ⟨[.vals (bV (L ++ 128 :: List.replicate j 0) ++ rs)], 5⟩), (304, ⟨[.vals (iV .u32 shaK ++ r2)], 79⟩)]) (by kernel_rfl) ?_
  refine wo_nil ?_
  refine we_then ?_
  refine wc_cond rfl (fun h1 => ?_) (fun h1 => ?_)
  · replace h1 := bne_iff_ne.1 h1
    refine wc_skip ?_
    refine we_then ?_
    refine wc_block ?_
    refine wc_reg [0, 1, 2, 3] (by kernel_rfl) ?_
    refine wo_run [0] [0, 2, 3, 4, 35] [2, 23, 30, 304] (l' := [(0, eV (.slice a len cap)), (2, eL 2 0), (3, .s (.a (.ls 23 0 8 c1))), (4, .s (.a (.ls 304 0 64 c2))), (35, .s (.a (.ls 30 0 (len + 1 + j) cp)))]) (H' := [(2, ⟨[.ints .u8 32 (List.replicate 32 0)], 24⟩), (23, ⟨[.vals (iV .u32 hs0.h ++ r1)], 79⟩), (30, ⟨[.vals (bV (L ++ 128 :: List.replicate j 0) ++ rs)], 5⟩), (304, ⟨[.vals (iV .u32 shaK ++ r2)], 79⟩)]) (by kernel_rfl) ?_
    refine wo_op rfl rfl (ot_bslice (e := 5) (d := 36) (n := 1) (size := 1) [.ints .u8 1 (List.replicate 1 0)] [cI .u8 0] rfl rfl rfl (by kernel_rfl) rfl (by kernel_rfl) (okc_ints (List.length_replicate) (okc_nil)) (fun _ => rfl) (by kernel_rfl) (by kernel_rfl)) ?_
    refine wo_flat 36 [.vals (bV ([0]) ++ [])] rfl (fun ρ => by simp [flat, iV, bV, AV.conc]) (okCs_vals _) ?_
    refine wo_ox rfl rfl (ox_appendS (e := 5) (m := 1) (size := 1) (bytes := 1) 37 30 (len + 1 + j) cp (bV (L ++ 128 :: List.replicate j 0)) (([0]).map (Value.int .u8)) rs [36, 2, 23, 304] rfl rfl (by kernel_rfl) (by kernel_rfl) (by kernel_rfl) rfl rfl (by rw [bV_len]; simp [hLn]; omega) (hrs) (hjc) (hcm) (srcof_row (e' := 5) rfl (by kernel_rfl) rfl (rfl)) (by simp only [maxLen]; omega) (by omega) (by kernel_rfl)) (fun ⟨c5, r5⟩ hc5 _ => ?_)
    refine wo_flat 37 [.vals (bV ((L ++ 128 :: List.replicate j 0) ++ ([0])) ++ r5)] rfl (fun ρ => by simp only [bV, iV, List.map_append]) (okCs_vals _) ?_
    refine wo_run [] [0, 2, 3, 4, 37] [2, 23, 37, 304] (l' := [(0, eV (.slice a len cap)), (2, eL 2 0), (3, .s (.a (.ls 23 0 8 c1))), (4, .s (.a (.ls 304 0 64 c2))), (37, .s (.a (.ls 37 0 ((len + 1 + j) + 1) c5)))]) (H' := [(2, ⟨[.ints .u8 32 (List.replicate 32 0)], 24⟩), (23, ⟨[.vals (iV .u32 hs0.h ++ r1)], 79⟩), (37, ⟨[.vals (bV ((L ++ 128 :: List.replicate j 0) ++ ([0])) ++ r5)], 5⟩), (304, ⟨[.vals (iV .u32 shaK ++ r2)], 79⟩)]) (by kernel_rfl) ?_
    refine wo_run [3] [0, 2, 3, 4, 5] [2, 23, 37, 304] (l' := [(0, eV (.slice a len cap)), (2, eL 2 0), (3, .s (.a (.ls 23 0 8 c1))), (4, .s (.a (.ls 304 0 64 c2))), (5, .s (.a (.ls 37 0 ((len + 1 + j) + 1) c5)))]) (H' := [(2, ⟨[.ints .u8 32 (List.replicate 32 0)], 24⟩), (23, ⟨[.vals (iV .u32 hs0.h ++ r1)], 79⟩), (37, ⟨[.vals (bV ((L ++ 128 :: List.replicate j 0) ++ ([0])) ++ r5)], 5⟩), (304, ⟨[.vals (iV .u32 shaK ++ r2)], 79⟩)]) (by kernel_rfl) ?_
    refine wo_nil ?_
    refine we_block ?_
    have hj1 := padr_go hj0 h1
    refine we_rest [0, 2, 3, 4, 5] [2, 23, 37, 304] (l' := [(0, eV (.slice a len cap)), (2, eL 2 0), (3, .s (.a (.ls 23 0 8 c1))), (4, .s (.a (.ls 304 0 64 c2))), (5, .s (.a (.ls 37 0 ((len + 1 + j) + 1) c5)))]) (H' := [(2, ⟨[.ints .u8 32 (List.replicate 32 0)], 24⟩), (23, ⟨[.vals (iV .u32 hs0.h ++ r1)], 79⟩), (37, ⟨[.vals (bV ((L ++ 128 :: List.replicate j 0) ++ ([0])) ++ r5)], 5⟩), (304, ⟨[.vals (iV .u32 shaK ++ r2)], 79⟩)]) (by kernel_rfl) (by kernel_rfl) ?_
    refine we_ren [(2, 2), (23, 23), (37, 30), (304, 304)] (l' := [(0, eV (.slice a len cap)), (2, eL 2 0), (3, .s (.a (.ls 23 0 8 c1))), (4, .s (.a (.ls 304 0 64 c2))), (5, .s (.a (.ls 30 0 ((len + 1 + j) + 1) c5)))]) (H' := [(2, ⟨[.ints .u8 32 (List.replicate 32 0)], 24⟩), (23, ⟨[.vals (iV .u32 hs0.h ++ r1)], 79⟩), (30, ⟨[.vals (bV ((L ++ 128 :: List.replicate j 0) ++ ([0])) ++ r5)], 5⟩), (304, ⟨[.vals (iV .u32 shaK ++ r2)], 79⟩)]) (by kernel_rfl) (by kernel_rfl) (by kernel_rfl) ?_
    refine we_rest [0, 2, 3, 4, 5] [2, 23, 30, 304] (l' := [(0, eV (.slice a len cap)), (2, eL 2 0), (3, .s (.a (.ls 23 0 8 c1))), (4, .s (.a (.ls 304 0 64 c2))), (5, .s (.a (.ls 30 0 ((len + 1 + j) + 1) c5)))]) (H' := [(2, ⟨[.ints .u8 32 (List.replicate 32 0)], 24⟩), (23, ⟨[.vals (iV .u32 hs0.h ++ r1)], 79⟩), (30, ⟨[.vals (bV ((L ++ 128 :: List.replicate j 0) ++ ([0])) ++ r5)], 5⟩), (304, ⟨[.vals (iV .u32 shaK ++ r2)], 79⟩)]) (by kernel_rfl) (by kernel_rfl) ?_
    rw [show (bV ((L ++ 128 :: List.replicate j 0) ++ ([0])) ++ r5) = (bV (L ++ 128 :: List.replicate (j + 1) 0) ++ r5) from by rw [List.append_assoc, pad_more]]
    rw [show ((len + 1 + j) + 1) = (len + 1 + (j + 1)) from rfl]
    exact we_round (j + 1, c5, r5) (⟨hj1, by have := hc5.1; omega, hc5.2.1, by have := hc5.2.2; rw [this]; congr 1⟩) (by show padz ((len : Nat) : Int) - (j + 1) < padz ((len : Nat) : Int) - j; omega) rfl (sub_ofE [0, 2, 3, 4, 5] rfl) (sub_of [2, 23, 30, 304] rfl)
  · replace h1 := bne_eq_false_iff_eq.1 h1
    refine wc_exit ?_
    refine we_then_exit ?_
    refine we_then_exit ?_
    refine we_block_exit ?_
    refine we_then ?_
    refine wc_seq ?_
    refine wc_reg [0, 1, 2, 3, 4, 5, 6, 7] (by kernel_rfl) ?_
    refine wo_run [0, 1, 2] [2, 3, 4, 38, 40] [2, 23, 30, 304] (l' := [(2, eL 2 0), (3, .s (.a (.ls 23 0 8 c1))), (4, .s (.a (.ls 304 0 64 c2))), (38, .s (.a (.ls 30 0 (len + 1 + j) cp))), (40, eI .i64 ((len : Nat) : Int))]) (H' := [(2, ⟨[.ints .u8 32 (List.replicate 32 0)], 24⟩), (23, ⟨[.vals (iV .u32 hs0.h ++ r1)], 79⟩), (30, ⟨[.vals (bV (L ++ 128 :: List.replicate j 0) ++ rs)], 5⟩), (304, ⟨[.vals (iV .u32 shaK ++ r2)], 79⟩)]) (by kernel_rfl) ?_
    refine wo_op rfl rfl (ot_rd rfl (rd_recast (e := eI .u64 (IntKind.wrap .u64 ((len : Nat) : Int))) (eI .u64 ((len : Nat) : Int)) (by kernel_rfl) (congrArg (fun z => eI .u64 z) (w_nat_u64 (by omega))))) ?_
    refine wo_op rfl rfl (ot_rd rfl (rd_recast (e := eI .u64 (IntKind.wrap .u64 (8 * ((len : Nat) : Int)))) (eI .u64 ((8 * len : Nat) : Int)) (by kernel_rfl) (congrArg (fun z => eI .u64 z) (w_mul_u64 (a := 8) (b := len) (by omega))))) ?_
    refine wo_ox rfl rfl (ox_callm (τ := Nat × List Value) (φ := fun y => (8 ≤ y.1 ∧ y.1 ≤ maxLen ∧ y.2.length = (y.1 - 8) * 1)) [sI .u64 ((8 * len : Nat) : Int), sI .i64 8] [] [] [(7, 43)] [2, 23, 30, 304] (fun ⟨c6, r6⟩ => .s (.a (.ls 7 0 8 c6))) (fun ⟨c6, r6⟩ => [(7, ⟨[.vals (bV (be8 ((8 * len : Nat) : Int)) ++ r6)], 5⟩)]) rfl (by kernel_rfl) rfl Tryd.func41 (by kernel_rfl) (by kernel_rfl) (by kernel_rfl) (by kernel_rfl) (by kernel_rfl) (by kernel_rfl) (trivial) (fun _ => by kernel_rfl) (fun _ => by kernel_rfl) (fun ⟨c6, r6⟩ _ => trivial) (fun ρ w h hh => rnumber_any ((8 * len : Nat) : Int) w _ hh)) (fun ⟨c6, r6⟩ hc6 _ => ?_)
    refine wo_run [] [2, 3, 4, 38, 43] [2, 23, 30, 43, 304] (l' := [(2, eL 2 0), (3, .s (.a (.ls 23 0 8 c1))), (4, .s (.a (.ls 304 0 64 c2))), (38, .s (.a (.ls 30 0 (len + 1 + j) cp))), (43, .s (.a (.ls 43 0 8 c6)))]) (H' := [(2, ⟨[.ints .u8 32 (List.replicate 32 0)], 24⟩), (23, ⟨[.vals (iV .u32 hs0.h ++ r1)], 79⟩), (30, ⟨[.vals (bV (L ++ 128 :: List.replicate j 0) ++ rs)], 5⟩), (43, ⟨[.vals (bV (be8 ((8 * len : Nat) : Int)) ++ r6)], 5⟩), (304, ⟨[.vals (iV .u32 shaK ++ r2)], 79⟩)]) (by kernel_rfl) ?_
    refine wo_ox rfl rfl (ox_appendS (e := 5) (m := 8) (size := 1) (bytes := 1) 44 30 (len + 1 + j) cp (bV (L ++ 128 :: List.replicate j 0)) ((be8 ((8 * len : Nat) : Int)).map (Value.int .u8)) rs [2, 23, 43, 304] rfl rfl (by kernel_rfl) (by kernel_rfl) (by kernel_rfl) rfl rfl (by rw [bV_len]; simp [hLn]; omega) (hrs) (hjc) (hcm) (srcof_row (e' := 5) rfl (by kernel_rfl) rfl (rfl)) (by simp only [maxLen]; omega) (by omega) (by kernel_rfl)) (fun ⟨c7, r7⟩ hc7 _ => ?_)
    refine wo_flat 44 [.vals (bV ((L ++ 128 :: List.replicate j 0) ++ (be8 ((8 * len : Nat) : Int))) ++ r7)] rfl (fun ρ => by simp only [bV, iV, List.map_append]) (okCs_vals _) ?_
    refine wo_run [] [2, 3, 4, 44] [2, 23, 44, 304] (l' := [(2, eL 2 0), (3, .s (.a (.ls 23 0 8 c1))), (4, .s (.a (.ls 304 0 64 c2))), (44, .s (.a (.ls 44 0 ((len + 1 + j) + 8) c7)))]) (H' := [(2, ⟨[.ints .u8 32 (List.replicate 32 0)], 24⟩), (23, ⟨[.vals (iV .u32 hs0.h ++ r1)], 79⟩), (44, ⟨[.vals (bV ((L ++ 128 :: List.replicate j 0) ++ (be8 ((8 * len : Nat) : Int))) ++ r7)], 5⟩), (304, ⟨[.vals (iV .u32 shaK ++ r2)], 79⟩)]) (by kernel_rfl) ?_
    refine wo_run [7] [2, 3, 4, 5] [2, 23, 44, 304] (l' := [(2, eL 2 0), (3, .s (.a (.ls 23 0 8 c1))), (4, .s (.a (.ls 304 0 64 c2))), (5, .s (.a (.ls 44 0 ((len + 1 + j) + 8) c7)))]) (H' := [(2, ⟨[.ints .u8 32 (List.replicate 32 0)], 24⟩), (23, ⟨[.vals (iV .u32 hs0.h ++ r1)], 79⟩), (44, ⟨[.vals (bV ((L ++ 128 :: List.replicate j 0) ++ (be8 ((8 * len : Nat) : Int))) ++ r7)], 5⟩), (304, ⟨[.vals (iV .u32 shaK ++ r2)], 79⟩)]) (by kernel_rfl) ?_
    refine wo_nil ?_
    refine we_then ?_
    refine wc_seq ?_
    refine wc_seq ?_
    have hje : j = padz ((len : Nat) : Int) := padr_j hj0 h1
    have hnew : ((L ++ 128 :: List.replicate j 0) ++ (be8 ((8 * len : Nat) : Int))) = (aL L len) := by rw [List.append_assoc]; exact congrArg (fun z => L ++ z) (padr_end (by omega) hj0 h1)
    refine wc_flat 44 [.vals (bV (aL L len) ++ r7)] rfl (fun ρ => by rw [← hnew]) (okCs_vals _) ?_
    refine wc_rest [2, 3, 4, 5] [2, 23, 44, 304] (l' := [(2, eL 2 0), (3, .s (.a (.ls 23 0 8 c1))), (4, .s (.a (.ls 304 0 64 c2))), (5, .s (.a (.ls 44 0 ((len + 1 + j) + 8) c7)))]) (H' := [(2, ⟨[.ints .u8 32 (List.replicate 32 0)], 24⟩), (23, ⟨[.vals (iV .u32 hs0.h ++ r1)], 79⟩), (44, ⟨[.vals (bV (aL L len) ++ r7)], 5⟩), (304, ⟨[.vals (iV .u32 shaK ++ r2)], 79⟩)]) (by kernel_rfl) ?_
    rw [show (((len + 1 + j) + 8) : Nat) = (aL L len).length from by rw [hAl, ← hje]; try omega]
    refine wc_reg [0] (by kernel_rfl) ?_
    refine wo_run [0] [2, 3, 4, 5, 6] [2, 23, 44, 304] (l' := [(2, eL 2 0), (3, .s (.a (.ls 23 0 8 c1))), (4, .s (.a (.ls 304 0 64 c2))), (5, .s (.a (.ls 44 0 ((aL L len).length) c7))), (6, eI .i64 0)]) (H' := [(2, ⟨[.ints .u8 32 (List.replicate 32 0)], 24⟩), (23, ⟨[.vals (iV .u32 hs0.h ++ r1)], 79⟩), (44, ⟨[.vals (bV (aL L len) ++ r7)], 5⟩), (304, ⟨[.vals (iV .u32 shaK ++ r2)], 79⟩)]) (by kernel_rfl) ?_
    refine wo_nil ?_
    refine we_then ?_
    refine wc_block ?_
    refine wc_rest [2, 3, 4, 5, 6] [2, 23, 44, 304] (l' := [(2, eL 2 0), (3, .s (.a (.ls 23 0 8 c1))), (4, .s (.a (.ls 304 0 64 c2))), (5, .s (.a (.ls 44 0 ((aL L len).length) c7))), (6, eI .i64 0)]) (H' := [(2, ⟨[.ints .u8 32 (List.replicate 32 0)], 24⟩), (23, ⟨[.vals (iV .u32 hs0.h ++ r1)], 79⟩), (44, ⟨[.vals (bV (aL L len) ++ r7)], 5⟩), (304, ⟨[.vals (iV .u32 shaK ++ r2)], 79⟩)]) (by kernel_rfl) ?_
    refine wc_loop (τ := Nat) (fun q => 64 * q ≤ (aL L len).length) (fun q => (aL L len).length - 64 * q) (fun _ => _) (fun q => [(2, eL 2 0), (3, .s (.a (.ls 23 0 8 c1))), (4, .s (.a (.ls 304 0 64 c2))), (5, .s (.a (.ls 44 0 ((aL L len).length) c7))), (6, eI .i64 ((64 * q : Nat) : Int))]) (fun q => [(2, ⟨[.ints .u8 32 (List.replicate 32 0)], 24⟩), (23, ⟨[.vals (iV .u32 (hsQ L len q) ++ r1)], 79⟩), (44, ⟨[.vals (bV (aL L len) ++ r7)], 5⟩), (304, ⟨[.vals (iV .u32 shaK ++ r2)], 79⟩)]) 0 (Nat.zero_le _) rfl rfl rfl ?_
    rintro q hj
    have hqa : 64 * q ≤ (aL L len).length := hj
    refine wc_seq ?_
    refine wc_seq ?_
    refine wc_reg [0, 1, 2, 3] (by kernel_rfl) ?_
    refine wo_run [0, 1] [2, 3, 4, 5, 6, 45, 46] [2, 23, 44, 304] (l' := [(2, eL 2 0), (3, .s (.a (.ls 23 0 8 c1))), (4, .s (.a (.ls 304 0 64 c2))), (5, .s (.a (.ls 44 0 ((aL L len).length) c7))), (6, eI .i64 ((64 * q : Nat) : Int)), (45, eI .i64 ((64 * q : Nat) : Int)), (46, .s (.a (.ls 44 0 ((aL L len).length) c7)))]) (H' := [(2, ⟨[.ints .u8 32 (List.replicate 32 0)], 24⟩), (23, ⟨[.vals (iV .u32 (hsQ L len q) ++ r1)], 79⟩), (44, ⟨[.vals (bV (aL L len) ++ r7)], 5⟩), (304, ⟨[.vals (iV .u32 shaK ++ r2)], 79⟩)]) (by kernel_rfl) ?_
    refine wo_op rfl rfl (ot_rd rfl (rd_len rfl rfl rfl rfl (fun _ => by kernel_rfl))) ?_
    refine wo_run [3] [2, 3, 4, 5, 6, 48] [2, 23, 44, 304] (l' := [(2, eL 2 0), (3, .s (.a (.ls 23 0 8 c1))), (4, .s (.a (.ls 304 0 64 c2))), (5, .s (.a (.ls 44 0 ((aL L len).length) c7))), (6, eI .i64 ((64 * q : Nat) : Int)), (48, eB (decide (((64 * q : Nat) : Int) < (((aL L len).length : Nat) : Int))))]) (H' := [(2, ⟨[.ints .u8 32 (List.replicate 32 0)], 24⟩), (23, ⟨[.vals (iV .u32 (hsQ L len q) ++ r1)], 79⟩), (44, ⟨[.vals (bV (aL L len) ++ r7)], 5⟩), (304, ⟨[.vals (iV .u32 shaK ++ r2)], 79⟩)]) (by kernel_rfl) ?_
    refine wo_nil ?_
    refine we_then ?_
    refine wc_cond rfl (fun h2 => ?_) (fun h2 => ?_)
    · replace h2 := of_decide_eq_true h2
      refine wc_skip ?_
      refine we_then ?_
      refine wc_seq ?_
      refine wc_block ?_
      refine wc_seq ?_
      have hq64 : 64 * q + 64 ≤ (aL L len).length := by omega
      skip
      refine wc_reg [0, 1] (by kernel_rfl) ?_
      refine wo_op rfl rfl (ot_make (e := 79) (L := 64) (c := 64) (bytes := 4) (v := .int .u32 0) rfl rfl (by kernel_rfl) (by kernel_rfl) (by kernel_rfl) rfl rfl (rfl) (rfl) (by decide) (by decide) (by decide) (by kernel_rfl)) ?_
      refine wo_flat 51 [.vals (iV .u32 (List.replicate 64 0) ++ [])] rfl (fun ρ => by simp [flat, iV, bV, AV.conc]) (okCs_vals _) ?_
      refine wo_run [1] [2, 3, 4, 5, 6, 7] [2, 23, 44, 51, 304] (l' := [(2, eL 2 0), (3, .s (.a (.ls 23 0 8 c1))), (4, .s (.a (.ls 304 0 64 c2))), (5, .s (.a (.ls 44 0 ((aL L len).length) c7))), (6, eI .i64 ((64 * q : Nat) : Int)), (7, .s (.a (.ls 51 0 64 64)))]) (H' := [(2, ⟨[.ints .u8 32 (List.replicate 32 0)], 24⟩), (23, ⟨[.vals (iV .u32 (hsQ L len q) ++ r1)], 79⟩), (44, ⟨[.vals (bV (aL L len) ++ r7)], 5⟩), (51, ⟨[.vals (iV .u32 (List.replicate 64 0) ++ [])], 79⟩), (304, ⟨[.vals (iV .u32 shaK ++ r2)], 79⟩)]) (by kernel_rfl) ?_
      refine wo_nil ?_
      refine we_then ?_
      refine wc_seq ?_
      refine wc_seq ?_
      refine wc_reg [0] (by kernel_rfl) ?_
      refine wo_run [0] [2, 3, 4, 5, 6, 7, 8] [2, 23, 44, 51, 304] (l' := [(2, eL 2 0), (3, .s (.a (.ls 23 0 8 c1))), (4, .s (.a (.ls 304 0 64 c2))), (5, .s (.a (.ls 44 0 ((aL L len).length) c7))), (6, eI .i64 ((64 * q : Nat) : Int)), (7, .s (.a (.ls 51 0 64 64))), (8, eI .i64 0)]) (H' := [(2, ⟨[.ints .u8 32 (List.replicate 32 0)], 24⟩), (23, ⟨[.vals (iV .u32 (hsQ L len q) ++ r1)], 79⟩), (44, ⟨[.vals (bV (aL L len) ++ r7)], 5⟩), (51, ⟨[.vals (iV .u32 (List.replicate 64 0) ++ [])], 79⟩), (304, ⟨[.vals (iV .u32 shaK ++ r2)], 79⟩)]) (by kernel_rfl) ?_
      refine wo_nil ?_
      refine we_then ?_
      refine wc_block ?_
      refine wc_rest [2, 3, 4, 5, 6, 7, 8] [2, 23, 44, 51, 304] (l' := [(2, eL 2 0), (3, .s (.a (.ls 23 0 8 c1))), (4, .s (.a (.ls 304 0 64 c2))), (5, .s (.a (.ls 44 0 ((aL L len).length) c7))), (6, eI .i64 ((64 * q : Nat) : Int)), (7, .s (.a (.ls 51 0 64 64))), (8, eI .i64 0)]) (H' := [(2, ⟨[.ints .u8 32 (List.replicate 32 0)], 24⟩), (23, ⟨[.vals (iV .u32 (hsQ L len q) ++ r1)], 79⟩), (44, ⟨[.vals (bV (aL L len) ++ r7)], 5⟩), (51, ⟨[.vals (iV .u32 (List.replicate 64 0) ++ [])], 79⟩), (304, ⟨[.vals (iV .u32 shaK ++ r2)], 79⟩)]) (by kernel_rfl) ?_
      refine wc_loop (τ := Nat) (fun t => t ≤ 64) (fun t => 64 - t) (fun _ => _) (fun t => [(2, eL 2 0), (3, .s (.a (.ls 23 0 8 c1))), (4, .s (.a (.ls 304 0 64 c2))), (5, .s (.a (.ls 44 0 ((aL L len).length) c7))), (6, eI .i64 ((64 * q : Nat) : Int)), (7, .s (.a (.ls 51 0 64 64))), (8, eI .i64 ((t : Nat) : Int))]) (fun t => [(2, ⟨[.ints .u8 32 (List.replicate 32 0)], 24⟩), (23, ⟨[.vals (iV .u32 (hsQ L len q) ++ r1)], 79⟩), (44, ⟨[.vals (bV (aL L len) ++ r7)], 5⟩), (51, ⟨[.vals (iV .u32 (sch (cQ L len q) t) ++ [])], 79⟩), (304, ⟨[.vals (iV .u32 shaK ++ r2)], 79⟩)]) 0 (Nat.zero_le _) rfl rfl rfl ?_
      rintro t hj
      have ht := hj
      refine wc_seq ?_
      refine wc_seq ?_
      refine wc_reg [0, 1] (by kernel_rfl) ?_
      refine wo_run [0, 1] [2, 3, 4, 5, 6, 7, 8, 53] [2, 23, 44, 51, 304] (l' := [(2, eL 2 0), (3, .s (.a (.ls 23 0 8 c1))), (4, .s (.a (.ls 304 0 64 c2))), (5, .s (.a (.ls 44 0 ((aL L len).length) c7))), (6, eI .i64 ((64 * q : Nat) : Int)), (7, .s (.a (.ls 51 0 64 64))), (8, eI .i64 ((t : Nat) : Int)), (53, eB (decide (((t : Nat) : Int) < 64)))]) (H' := [(2, ⟨[.ints .u8 32 (List.replicate 32 0)], 24⟩), (23, ⟨[.vals (iV .u32 (hsQ L len q) ++ r1)], 79⟩), (44, ⟨[.vals (bV (aL L len) ++ r7)], 5⟩), (51, ⟨[.vals (iV .u32 (sch (cQ L len q) t) ++ [])], 79⟩), (304, ⟨[.vals (iV .u32 shaK ++ r2)], 79⟩)]) (by kernel_rfl) ?_
      refine wo_nil ?_
      refine we_then ?_
      refine wc_cond rfl (fun h3 => ?_) (fun h3 => ?_)
      · replace h3 := of_decide_eq_true h3
        refine wc_skip ?_
        refine we_then ?_
        refine wc_seq ?_
        refine wc_block ?_
        refine wc_seq ?_
        refine wc_seq ?_
        refine wc_reg [0, 1] (by kernel_rfl) ?_
        refine wo_run [0, 1] [2, 3, 4, 5, 6, 7, 8, 57] [2, 23, 44, 51, 304] (l' := [(2, eL 2 0), (3, .s (.a (.ls 23 0 8 c1))), (4, .s (.a (.ls 304 0 64 c2))), (5, .s (.a (.ls 44 0 ((aL L len).length) c7))), (6, eI .i64 ((64 * q : Nat) : Int)), (7, .s (.a (.ls 51 0 64 64))), (8, eI .i64 ((t : Nat) : Int)), (57, eB (decide (((t : Nat) : Int) < 16)))]) (H' := [(2, ⟨[.ints .u8 32 (List.replicate 32 0)], 24⟩), (23, ⟨[.vals (iV .u32 (hsQ L len q) ++ r1)], 79⟩), (44, ⟨[.vals (bV (aL L len) ++ r7)], 5⟩), (51, ⟨[.vals (iV .u32 (sch (cQ L len q) t) ++ [])], 79⟩), (304, ⟨[.vals (iV .u32 shaK ++ r2)], 79⟩)]) (by kernel_rfl) ?_
        refine wo_nil ?_
        refine we_then ?_
        refine wc_cond rfl (fun h4 => ?_) (fun h4 => ?_)
        · replace h4 := of_decide_eq_true h4
          refine wc_seq ?_
          refine wc_reg [0, 1, 2, 3, 4, 5, 6, 7, 8, 9, 10, 11] (by kernel_rfl) ?_
          refine wo_run [0, 1, 2] [2, 3, 4, 5, 6, 7, 8, 58, 59, 60] [2, 23, 44, 51, 304] (l' := [(2, eL 2 0), (3, .s (.a (.ls 23 0 8 c1))), (4, .s (.a (.ls 304 0 64 c2))), (5, .s (.a (.ls 44 0 ((aL L len).length) c7))), (6, eI .i64 ((64 * q : Nat) : Int)), (7, .s (.a (.ls 51 0 64 64))), (8, eI .i64 ((t : Nat) : Int)), (58, .s (.a (.ls 44 0 ((aL L len).length) c7))), (59, eI .i64 ((64 * q : Nat) : Int)), (60, eI .i64 ((t : Nat) : Int))]) (H' := [(2, ⟨[.ints .u8 32 (List.replicate 32 0)], 24⟩), (23, ⟨[.vals (iV .u32 (hsQ L len q) ++ r1)], 79⟩), (44, ⟨[.vals (bV (aL L len) ++ r7)], 5⟩), (51, ⟨[.vals (iV .u32 (sch (cQ L len q) t) ++ [])], 79⟩), (304, ⟨[.vals (iV .u32 shaK ++ r2)], 79⟩)]) (by kernel_rfl) ?_
          refine wo_op rfl rfl (ot_rd rfl (rd_recast (e := eI .i64 (IntKind.wrap .i64 (4 * ((t : Nat) : Int)))) (eI .i64 ((4 * t : Nat) : Int)) (by kernel_rfl) (congrArg (fun z => eI .i64 z) (w_mul_i64 (a := 4) (b := t) (by omega))))) ?_
          refine wo_op rfl rfl (ot_rd rfl (rd_recast (e := eI .i64 (IntKind.wrap .i64 (((64 * q : Nat) : Int) + ((4 * t : Nat) : Int)))) (eI .i64 (((64 * q) + (4 * t) : Nat) : Int)) (by kernel_rfl) (congrArg (fun z => eI .i64 z) (w_add_i64 (a := (64 * q)) (b := (4 * t)) (by omega))))) ?_
          refine wo_run [5, 6] [2, 3, 4, 5, 6, 7, 8, 58, 62, 63, 64] [2, 23, 44, 51, 304] (l' := [(2, eL 2 0), (3, .s (.a (.ls 23 0 8 c1))), (4, .s (.a (.ls 304 0 64 c2))), (5, .s (.a (.ls 44 0 ((aL L len).length) c7))), (6, eI .i64 ((64 * q : Nat) : Int)), (7, .s (.a (.ls 51 0 64 64))), (8, eI .i64 ((t : Nat) : Int)), (58, .s (.a (.ls 44 0 ((aL L len).length) c7))), (62, eI .i64 (((64 * q) + (4 * t) : Nat) : Int)), (63, eI .i64 ((64 * q : Nat) : Int)), (64, eI .i64 ((t : Nat) : Int))]) (H' := [(2, ⟨[.ints .u8 32 (List.replicate 32 0)], 24⟩), (23, ⟨[.vals (iV .u32 (hsQ L len q) ++ r1)], 79⟩), (44, ⟨[.vals (bV (aL L len) ++ r7)], 5⟩), (51, ⟨[.vals (iV .u32 (sch (cQ L len q) t) ++ [])], 79⟩), (304, ⟨[.vals (iV .u32 shaK ++ r2)], 79⟩)]) (by kernel_rfl) ?_
          refine wo_op rfl rfl (ot_rd rfl (rd_recast (e := eI .i64 (IntKind.wrap .i64 (4 * ((t : Nat) : Int)))) (eI .i64 ((4 * t : Nat) : Int)) (by kernel_rfl) (congrArg (fun z => eI .i64 z) (w_mul_i64 (a := 4) (b := t) (by omega))))) ?_
          refine wo_op rfl rfl (ot_rd rfl (rd_recast (e := eI .i64 (IntKind.wrap .i64 (((64 * q : Nat) : Int) + ((4 * t : Nat) : Int)))) (eI .i64 (((64 * q) + (4 * t) : Nat) : Int)) (by kernel_rfl) (congrArg (fun z => eI .i64 z) (w_add_i64 (a := (64 * q)) (b := (4 * t)) (by omega))))) ?_
          refine wo_op rfl rfl (ot_rd rfl (rd_recast (e := eI .i64 (IntKind.wrap .i64 ((((64 * q) + (4 * t) : Nat) : Int) + 4))) (eI .i64 ((((64 * q) + (4 * t)) + 4 : Nat) : Int)) (by kernel_rfl) (congrArg (fun z => eI .i64 z) (w_add_i64 (a := ((64 * q) + (4 * t))) (b := 4) (by omega))))) ?_
          refine wo_op rfl rfl (ot_rd rfl (rd_sliceL (e := 5) (i := ((64 * q) + (4 * t))) (j := (((64 * q) + (4 * t)) + 4)) (size := 1) (vl := (some (.int .i64 (((64 * q) + (4 * t) : Nat) : Int)))) (vh := (some (.int .i64 ((((64 * q) + (4 * t)) + 4 : Nat) : Int)))) rfl (by kernel_rfl) (by kernel_rfl) rfl rfl rfl (fun w => sb_lh w true ((aL L len).length) c7 .i64 .i64 (rfl) (rfl) (by first | assumption | omega) (by first | assumption | omega)) (.inr (by omega)))) ?_
          refine wo_run [11] [2, 3, 4, 5, 6, 7, 8, 9] [2, 23, 44, 51, 304] (l' := [(2, eL 2 0), (3, .s (.a (.ls 23 0 8 c1))), (4, .s (.a (.ls 304 0 64 c2))), (5, .s (.a (.ls 44 0 ((aL L len).length) c7))), (6, eI .i64 ((64 * q : Nat) : Int)), (7, .s (.a (.ls 51 0 64 64))), (8, eI .i64 ((t : Nat) : Int)), (9, .s (.a (.ls 44 (0 + ((64 * q) + (4 * t)) * 1) ((((64 * q) + (4 * t)) + 4) - ((64 * q) + (4 * t))) (c7 - ((64 * q) + (4 * t))))))]) (H' := [(2, ⟨[.ints .u8 32 (List.replicate 32 0)], 24⟩), (23, ⟨[.vals (iV .u32 (hsQ L len q) ++ r1)], 79⟩), (44, ⟨[.vals (bV (aL L len) ++ r7)], 5⟩), (51, ⟨[.vals (iV .u32 (sch (cQ L len q) t) ++ [])], 79⟩), (304, ⟨[.vals (iV .u32 shaK ++ r2)], 79⟩)]) (by kernel_rfl) ?_
          refine wo_nil ?_
          refine we_then ?_
          refine wc_seq ?_
          refine wc_draw (n := 26) [(2, ⟨[.ints .u8 32 (List.replicate 32 0)], 24⟩), (23, ⟨[.vals (iV .u32 (hsQ L len q) ++ r1)], 79⟩), (44, ⟨[.vals (bV (aL L len) ++ r7)], 5⟩), (304, ⟨[.vals (iV .u32 shaK ++ r2)], 79⟩)] (by kernel_rfl) rfl (sub_of [2, 23, 44, 304] (by kernel_rfl)) (fun ρ0 => ?_)
          refine wa_takes (fuel := 20) [0, 1, 2, 7, 13, 19] [2, 3, 4, 5, 6, 7, 8, 69, 70, 71, 76, 82, 88] (listed' := (bs [3, 4, 1, 5, 1, 5, 1, 6])) (l' := [(2, eL 2 0), (3, .s (.a (.ls 23 0 8 c1))), (4, .s (.a (.ls 304 0 64 c2))), (5, .s (.a (.ls 44 0 ((aL L len).length) c7))), (6, eI .i64 ((64 * q : Nat) : Int)), (7, .s (.a (.ls 51 0 64 64))), (8, eI .i64 ((t : Nat) : Int)), (69, .s (.a (.ls 51 0 64 64))), (70, eI .i64 ((t : Nat) : Int)), (71, .s (.a (.ls 44 (0 + ((64 * q) + (4 * t)) * 1) ((((64 * q) + (4 * t)) + 4) - ((64 * q) + (4 * t))) (c7 - ((64 * q) + (4 * t)))))), (76, .s (.a (.ls 44 (0 + ((64 * q) + (4 * t)) * 1) ((((64 * q) + (4 * t)) + 4) - ((64 * q) + (4 * t))) (c7 - ((64 * q) + (4 * t)))))), (82, .s (.a (.ls 44 (0 + ((64 * q) + (4 * t)) * 1) ((((64 * q) + (4 * t)) + 4) - ((64 * q) + (4 * t))) (c7 - ((64 * q) + (4 * t)))))), (88, .s (.a (.ls 44 (0 + ((64 * q) + (4 * t)) * 1) ((((64 * q) + (4 * t)) + 4) - ((64 * q) + (4 * t))) (c7 - ((64 * q) + (4 * t))))))]) (pk_then (pk_then (pk_block (pk_then (pk_then (pk_block (pk_then (pk_block (pk_then (pk_then (pk_block (pk_then pk_body)))))))))))) rfl (by kernel_rfl) ?_
          refine wa_take 3 (pk_then (pk_then (pk_block (pk_then (pk_then (pk_block (pk_then (pk_block (pk_then (pk_then (pk_block (pk_then pk_body)))))))))))) rfl (by kernel_rfl) rfl rfl (rd_indexL (e := 5) 1 0 0 rfl (by kernel_rfl) (by kernel_rfl) rfl rfl (rfl) (by omega)) ?_
          refine wa_take 4 (pk_then (pk_then (pk_block (pk_then (pk_then (pk_block (pk_then (pk_block (pk_then (pk_then (pk_block (pk_then pk_body)))))))))))) rfl (by kernel_rfl) rfl rfl (rd_cellS (b := ⟨[.vals (bV (aL L len) ++ r7)], 5⟩) (.v (.int .u8 ((aL L len).getD ((0 + ((64 * q) + (4 * t)) * 1) + 0 * 1) 0))) rfl rfl rfl (by kernel_rfl) (fun ρ => row_at (i := ((0 + ((64 * q) + (4 * t)) * 1) + 0 * 1)) (by omega) (by omega) ρ)) ?_
          refine wa_takes (fuel := 16) [5, 6] [2, 3, 4, 5, 6, 7, 8, 69, 70, 75, 76, 82, 88] (listed' := (bs [8, 5, 1, 5, 1, 6])) (l' := [(2, eL 2 0), (3, .s (.a (.ls 23 0 8 c1))), (4, .s (.a (.ls 304 0 64 c2))), (5, .s (.a (.ls 44 0 ((aL L len).length) c7))), (6, eI .i64 ((64 * q : Nat) : Int)), (7, .s (.a (.ls 51 0 64 64))), (8, eI .i64 ((t : Nat) : Int)), (69, .s (.a (.ls 51 0 64 64))), (70, eI .i64 ((t : Nat) : Int)), (75, eI .u32 (IntKind.wrap .u32 ((IntKind.wrap .u32 ((aL L len).getD ((0 + ((64 * q) + (4 * t)) * 1) + 0 * 1) 0)) * 2 ^ (24 : Nat)))), (76, .s (.a (.ls 44 (0 + ((64 * q) + (4 * t)) * 1) ((((64 * q) + (4 * t)) + 4) - ((64 * q) + (4 * t))) (c7 - ((64 * q) + (4 * t)))))), (82, .s (.a (.ls 44 (0 + ((64 * q) + (4 * t)) * 1) ((((64 * q) + (4 * t)) + 4) - ((64 * q) + (4 * t))) (c7 - ((64 * q) + (4 * t)))))), (88, .s (.a (.ls 44 (0 + ((64 * q) + (4 * t)) * 1) ((((64 * q) + (4 * t)) + 4) - ((64 * q) + (4 * t))) (c7 - ((64 * q) + (4 * t))))))]) (pk_then (pk_then (pk_block (pk_then (pk_then (pk_block (pk_then (pk_block (pk_then (pk_then (pk_block (pk_then pk_body)))))))))))) rfl (by kernel_rfl) ?_
          refine wa_take 8 (pk_then (pk_then (pk_block (pk_then (pk_then (pk_block (pk_then (pk_block (pk_then (pk_then (pk_block (pk_then pk_body)))))))))))) rfl (by kernel_rfl) rfl rfl (rd_indexL (e := 5) 1 1 1 rfl (by kernel_rfl) (by kernel_rfl) rfl rfl (rfl) (by omega)) ?_
          refine wa_take 9 (pk_then (pk_then (pk_block (pk_then (pk_then (pk_block (pk_then (pk_block (pk_then (pk_then (pk_block (pk_then pk_body)))))))))))) rfl (by kernel_rfl) rfl rfl (rd_cellS (b := ⟨[.vals (bV (aL L len) ++ r7)], 5⟩) (.v (.int .u8 ((aL L len).getD ((0 + ((64 * q) + (4 * t)) * 1) + 1 * 1) 0))) rfl rfl rfl (by kernel_rfl) (fun ρ => row_at (i := ((0 + ((64 * q) + (4 * t)) * 1) + 1 * 1)) (by omega) (by omega) ρ)) ?_
          refine wa_takes (fuel := 11) [10, 11, 12] [2, 3, 4, 5, 6, 7, 8, 69, 70, 81, 82, 88] (listed' := (bs [14, 5, 1, 6])) (l' := [(2, eL 2 0), (3, .s (.a (.ls 23 0 8 c1))), (4, .s (.a (.ls 304 0 64 c2))), (5, .s (.a (.ls 44 0 ((aL L len).length) c7))), (6, eI .i64 ((64 * q : Nat) : Int)), (7, .s (.a (.ls 51 0 64 64))), (8, eI .i64 ((t : Nat) : Int)), (69, .s (.a (.ls 51 0 64 64))), (70, eI .i64 ((t : Nat) : Int)), (81, eI .u32 (bOr .u32 (IntKind.wrap .u32 ((IntKind.wrap .u32 ((aL L len).getD ((0 + ((64 * q) + (4 * t)) * 1) + 0 * 1) 0)) * 2 ^ (24 : Nat))) (IntKind.wrap .u32 ((IntKind.wrap .u32 ((aL L len).getD ((0 + ((64 * q) + (4 * t)) * 1) + 1 * 1) 0)) * 2 ^ (16 : Nat))))), (82, .s (.a (.ls 44 (0 + ((64 * q) + (4 * t)) * 1) ((((64 * q) + (4 * t)) + 4) - ((64 * q) + (4 * t))) (c7 - ((64 * q) + (4 * t)))))), (88, .s (.a (.ls 44 (0 + ((64 * q) + (4 * t)) * 1) ((((64 * q) + (4 * t)) + 4) - ((64 * q) + (4 * t))) (c7 - ((64 * q) + (4 * t))))))]) (pk_then (pk_then (pk_block (pk_then (pk_then (pk_block (pk_then (pk_block (pk_then (pk_then (pk_block (pk_then pk_body)))))))))))) rfl (by kernel_rfl) ?_
          refine wa_take 14 (pk_then (pk_then (pk_block (pk_then (pk_then (pk_block (pk_then (pk_block (pk_then (pk_then (pk_block (pk_then pk_body)))))))))))) rfl (by kernel_rfl) rfl rfl (rd_indexL (e := 5) 1 2 2 rfl (by kernel_rfl) (by kernel_rfl) rfl rfl (rfl) (by omega)) ?_
          refine wa_take 15 (pk_then (pk_then (pk_block (pk_then (pk_then (pk_block (pk_then (pk_block (pk_then (pk_then (pk_block (pk_then pk_body)))))))))))) rfl (by kernel_rfl) rfl rfl (rd_cellS (b := ⟨[.vals (bV (aL L len) ++ r7)], 5⟩) (.v (.int .u8 ((aL L len).getD ((0 + ((64 * q) + (4 * t)) * 1) + 2 * 1) 0))) rfl rfl rfl (by kernel_rfl) (fun ρ => row_at (i := ((0 + ((64 * q) + (4 * t)) * 1) + 2 * 1)) (by omega) (by omega) ρ)) ?_
          refine wa_takes (fuel := 6) [16, 17, 18] [2, 3, 4, 5, 6, 7, 8, 69, 70, 87, 88] (listed' := (bs [20, 6])) (l' := [(2, eL 2 0), (3, .s (.a (.ls 23 0 8 c1))), (4, .s (.a (.ls 304 0 64 c2))), (5, .s (.a (.ls 44 0 ((aL L len).length) c7))), (6, eI .i64 ((64 * q : Nat) : Int)), (7, .s (.a (.ls 51 0 64 64))), (8, eI .i64 ((t : Nat) : Int)), (69, .s (.a (.ls 51 0 64 64))), (70, eI .i64 ((t : Nat) : Int)), (87, eI .u32 (bOr .u32 (bOr .u32 (IntKind.wrap .u32 ((IntKind.wrap .u32 ((aL L len).getD ((0 + ((64 * q) + (4 * t)) * 1) + 0 * 1) 0)) * 2 ^ (24 : Nat))) (IntKind.wrap .u32 ((IntKind.wrap .u32 ((aL L len).getD ((0 + ((64 * q) + (4 * t)) * 1) + 1 * 1) 0)) * 2 ^ (16 : Nat)))) (IntKind.wrap .u32 ((IntKind.wrap .u32 ((aL L len).getD ((0 + ((64 * q) + (4 * t)) * 1) + 2 * 1) 0)) * 2 ^ (8 : Nat))))), (88, .s (.a (.ls 44 (0 + ((64 * q) + (4 * t)) * 1) ((((64 * q) + (4 * t)) + 4) - ((64 * q) + (4 * t))) (c7 - ((64 * q) + (4 * t))))))]) (pk_then (pk_then (pk_block (pk_then (pk_then (pk_block (pk_then (pk_block (pk_then (pk_then (pk_block (pk_then pk_body)))))))))))) rfl (by kernel_rfl) ?_
          refine wa_take 20 (pk_then (pk_then (pk_block (pk_then (pk_then (pk_block (pk_then (pk_block (pk_then (pk_then (pk_block (pk_then pk_body)))))))))))) rfl (by kernel_rfl) rfl rfl (rd_indexL (e := 5) 1 3 3 rfl (by kernel_rfl) (by kernel_rfl) rfl rfl (rfl) (by omega)) ?_
          refine wa_take 21 (pk_then (pk_then (pk_block (pk_then (pk_then (pk_block (pk_then (pk_block (pk_then (pk_then (pk_block (pk_then pk_body)))))))))))) rfl (by kernel_rfl) rfl rfl (rd_cellS (b := ⟨[.vals (bV (aL L len) ++ r7)], 5⟩) (.v (.int .u8 ((aL L len).getD ((0 + ((64 * q) + (4 * t)) * 1) + 3 * 1) 0))) rfl rfl rfl (by kernel_rfl) (fun ρ => row_at (i := ((0 + ((64 * q) + (4 * t)) * 1) + 3 * 1)) (by omega) (by omega) ρ)) ?_
          refine wa_takes (fuel := 2) [22, 23] [2, 3, 4, 5, 6, 7, 8, 69, 70, 92] (listed' := (bs [24, 2])) (l' := [(2, eL 2 0), (3, .s (.a (.ls 23 0 8 c1))), (4, .s (.a (.ls 304 0 64 c2))), (5, .s (.a (.ls 44 0 ((aL L len).length) c7))), (6, eI .i64 ((64 * q : Nat) : Int)), (7, .s (.a (.ls 51 0 64 64))), (8, eI .i64 ((t : Nat) : Int)), (69, .s (.a (.ls 51 0 64 64))), (70, eI .i64 ((t : Nat) : Int)), (92, eI .u32 (bOr .u32 (bOr .u32 (bOr .u32 (IntKind.wrap .u32 ((IntKind.wrap .u32 ((aL L len).getD ((0 + ((64 * q) + (4 * t)) * 1) + 0 * 1) 0)) * 2 ^ (24 : Nat))) (IntKind.wrap .u32 ((IntKind.wrap .u32 ((aL L len).getD ((0 + ((64 * q) + (4 * t)) * 1) + 1 * 1) 0)) * 2 ^ (16 : Nat)))) (IntKind.wrap .u32 ((IntKind.wrap .u32 ((aL L len).getD ((0 + ((64 * q) + (4 * t)) * 1) + 2 * 1) 0)) * 2 ^ (8 : Nat)))) (IntKind.wrap .u32 ((aL L len).getD ((0 + ((64 * q) + (4 * t)) * 1) + 3 * 1) 0))))]) (pk_then (pk_then (pk_block (pk_then (pk_then (pk_block (pk_then (pk_block (pk_then (pk_then (pk_block (pk_then pk_body)))))))))))) rfl (by kernel_rfl) ?_
          refine wa_take 24 (pk_then (pk_then (pk_block (pk_then (pk_then (pk_block (pk_then (pk_block (pk_then (pk_then (pk_block (pk_then pk_body)))))))))))) rfl (by kernel_rfl) rfl rfl (rd_indexL (e := 79) 1 t ((t : Nat) : Int) rfl (by kernel_rfl) (by kernel_rfl) rfl rfl (rfl) (by omega)) ?_
          refine wa_all [25] (by kernel_rfl) rfl (all1 ?_)
          refine wi_op rfl rfl (ot_storeS (b := ⟨[.vals (iV .u32 (sch (cQ L len q) t) ++ [])], 79⟩) (v := (sI .u32 (bOr .u32 (bOr .u32 (bOr .u32 (IntKind.wrap .u32 ((IntKind.wrap .u32 ((aL L len).getD ((0 + ((64 * q) + (4 * t)) * 1) + 0 * 1) 0)) * 2 ^ (24 : Nat))) (IntKind.wrap .u32 ((IntKind.wrap .u32 ((aL L len).getD ((0 + ((64 * q) + (4 * t)) * 1) + 1 * 1) 0)) * 2 ^ (16 : Nat)))) (IntKind.wrap .u32 ((IntKind.wrap .u32 ((aL L len).getD ((0 + ((64 * q) + (4 * t)) * 1) + 2 * 1) 0)) * 2 ^ (8 : Nat)))) (IntKind.wrap .u32 ((aL L len).getD ((0 + ((64 * q) + (4 * t)) * 1) + 3 * 1) 0))))) [.vals (iV .u32 ((sch (cQ L len q) t).set t (bOr .u32 (bOr .u32 (bOr .u32 (IntKind.wrap .u32 ((IntKind.wrap .u32 ((aL L len).getD ((0 + ((64 * q) + (4 * t)) * 1) + 0 * 1) 0)) * 2 ^ (24 : Nat))) (IntKind.wrap .u32 ((IntKind.wrap .u32 ((aL L len).getD ((0 + ((64 * q) + (4 * t)) * 1) + 1 * 1) 0)) * 2 ^ (16 : Nat)))) (IntKind.wrap .u32 ((IntKind.wrap .u32 ((aL L len).getD ((0 + ((64 * q) + (4 * t)) * 1) + 2 * 1) 0)) * 2 ^ (8 : Nat)))) (IntKind.wrap .u32 ((aL L len).getD ((0 + ((64 * q) + (4 * t)) * 1) + 3 * 1) 0)))) ++ [])] rfl rfl rfl rfl rfl rfl (by kernel_rfl) (okCs_vals _) (fun ρ => by rw [flat_vals, List.length_append, iV_len]; have : t < ((sch (cQ L len q) t) : List Int).length := (by rw [sch_len]; omega); simp only [SV.chunks, sz]; omega) (fun ρ => rowi_set (i := t) (by rw [sch_len]; omega) (by omega) ρ)) (sub_of [2, 23, 44, 304] (by kernel_rfl)) ?_
          refine wa_done (by kernel_rfl) ?_
          refine we_rest [2, 3, 4, 5, 6, 7, 8] [2, 23, 44, 51, 304] (l' := [(2, eL 2 0), (3, .s (.a (.ls 23 0 8 c1))), (4, .s (.a (.ls 304 0 64 c2))), (5, .s (.a (.ls 44 0 ((aL L len).length) c7))), (6, eI .i64 ((64 * q : Nat) : Int)), (7, .s (.a (.ls 51 0 64 64))), (8, eI .i64 ((t : Nat) : Int))]) (H' := [(2, ⟨[.ints .u8 32 (List.replicate 32 0)], 24⟩), (23, ⟨[.vals (iV .u32 (hsQ L len q) ++ r1)], 79⟩), (44, ⟨[.vals (bV (aL L len) ++ r7)], 5⟩), (51, ⟨[.vals (iV .u32 ((sch (cQ L len q) t).set t (bOr .u32 (bOr .u32 (bOr .u32 (IntKind.wrap .u32 ((IntKind.wrap .u32 ((aL L len).getD ((0 + ((64 * q) + (4 * t)) * 1) + 0 * 1) 0)) * 2 ^ (24 : Nat))) (IntKind.wrap .u32 ((IntKind.wrap .u32 ((aL L len).getD ((0 + ((64 * q) + (4 * t)) * 1) + 1 * 1) 0)) * 2 ^ (16 : Nat)))) (IntKind.wrap .u32 ((IntKind.wrap .u32 ((aL L len).getD ((0 + ((64 * q) + (4 * t)) * 1) + 2 * 1) 0)) * 2 ^ (8 : Nat)))) (IntKind.wrap .u32 ((aL L len).getD ((0 + ((64 * q) + (4 * t)) * 1) + 3 * 1) 0)))) ++ [])], 79⟩), (304, ⟨[.vals (iV .u32 shaK ++ r2)], 79⟩)]) (by kernel_rfl) (by kernel_rfl) ?_
          refine we_then ?_
          refine wc_exit ?_
          refine we_then_exit ?_
          refine we_block_exit ?_
          refine we_then ?_
          refine wc_reg [0, 1, 2] (by kernel_rfl) ?_
          refine wo_run [0] [2, 3, 4, 5, 6, 7, 54] [2, 23, 44, 51, 304] (l' := [(2, eL 2 0), (3, .s (.a (.ls 23 0 8 c1))), (4, .s (.a (.ls 304 0 64 c2))), (5, .s (.a (.ls 44 0 ((aL L len).length) c7))), (6, eI .i64 ((64 * q : Nat) : Int)), (7, .s (.a (.ls 51 0 64 64))), (54, eI .i64 ((t : Nat) : Int))]) (H' := [(2, ⟨[.ints .u8 32 (List.replicate 32 0)], 24⟩), (23, ⟨[.vals (iV .u32 (hsQ L len q) ++ r1)], 79⟩), (44, ⟨[.vals (bV (aL L len) ++ r7)], 5⟩), (51, ⟨[.vals (iV .u32 ((sch (cQ L len q) t).set t (bOr .u32 (bOr .u32 (bOr .u32 (IntKind.wrap .u32 ((IntKind.wrap .u32 ((aL L len).getD ((0 + ((64 * q) + (4 * t)) * 1) + 0 * 1) 0)) * 2 ^ (24 : Nat))) (IntKind.wrap .u32 ((IntKind.wrap .u32 ((aL L len).getD ((0 + ((64 * q) + (4 * t)) * 1) + 1 * 1) 0)) * 2 ^ (16 : Nat)))) (IntKind.wrap .u32 ((IntKind.wrap .u32 ((aL L len).getD ((0 + ((64 * q) + (4 * t)) * 1) + 2 * 1) 0)) * 2 ^ (8 : Nat)))) (IntKind.wrap .u32 ((aL L len).getD ((0 + ((64 * q) + (4 * t)) * 1) + 3 * 1) 0)))) ++ [])], 79⟩), (304, ⟨[.vals (iV .u32 shaK ++ r2)], 79⟩)]) (by kernel_rfl) ?_
          refine wo_op rfl rfl (ot_rd rfl (rd_recast (e := eI .i64 (IntKind.wrap .i64 (((t : Nat) : Int) + 1))) (eI .i64 ((t + 1 : Nat) : Int)) (by kernel_rfl) (congrArg (fun z => eI .i64 z) (w_add_i64 (a := t) (b := 1) (by omega))))) ?_
          refine wo_run [2] [2, 3, 4, 5, 6, 7, 8] [2, 23, 44, 51, 304] (l' := [(2, eL 2 0), (3, .s (.a (.ls 23 0 8 c1))), (4, .s (.a (.ls 304 0 64 c2))), (5, .s (.a (.ls 44 0 ((aL L len).length) c7))), (6, eI .i64 ((64 * q : Nat) : Int)), (7, .s (.a (.ls 51 0 64 64))), (8, eI .i64 ((t + 1 : Nat) : Int))]) (H' := [(2, ⟨[.ints .u8 32 (List.replicate 32 0)], 24⟩), (23, ⟨[.vals (iV .u32 (hsQ L len q) ++ r1)], 79⟩), (44, ⟨[.vals (bV (aL L len) ++ r7)], 5⟩), (51, ⟨[.vals (iV .u32 ((sch (cQ L len q) t).set t (bOr .u32 (bOr .u32 (bOr .u32 (IntKind.wrap .u32 ((IntKind.wrap .u32 ((aL L len).getD ((0 + ((64 * q) + (4 * t)) * 1) + 0 * 1) 0)) * 2 ^ (24 : Nat))) (IntKind.wrap .u32 ((IntKind.wrap .u32 ((aL L len).getD ((0 + ((64 * q) + (4 * t)) * 1) + 1 * 1) 0)) * 2 ^ (16 : Nat)))) (IntKind.wrap .u32 ((IntKind.wrap .u32 ((aL L len).getD ((0 + ((64 * q) + (4 * t)) * 1) + 2 * 1) 0)) * 2 ^ (8 : Nat)))) (IntKind.wrap .u32 ((aL L len).getD ((0 + ((64 * q) + (4 * t)) * 1) + 3 * 1) 0)))) ++ [])], 79⟩), (304, ⟨[.vals (iV .u32 shaK ++ r2)], 79⟩)]) (by kernel_rfl) ?_
          refine wo_nil ?_
          refine we_rest [2, 3, 4, 5, 6, 7, 8] [2, 23, 44, 51, 304] (l' := [(2, eL 2 0), (3, .s (.a (.ls 23 0 8 c1))), (4, .s (.a (.ls 304 0 64 c2))), (5, .s (.a (.ls 44 0 ((aL L len).length) c7))), (6, eI .i64 ((64 * q : Nat) : Int)), (7, .s (.a (.ls 51 0 64 64))), (8, eI .i64 ((t + 1 : Nat) : Int))]) (H' := [(2, ⟨[.ints .u8 32 (List.replicate 32 0)], 24⟩), (23, ⟨[.vals (iV .u32 (hsQ L len q) ++ r1)], 79⟩), (44, ⟨[.vals (bV (aL L len) ++ r7)], 5⟩), (51, ⟨[.vals (iV .u32 ((sch (cQ L len q) t).set t (bOr .u32 (bOr .u32 (bOr .u32 (IntKind.wrap .u32 ((IntKind.wrap .u32 ((aL L len).getD ((0 + ((64 * q) + (4 * t)) * 1) + 0 * 1) 0)) * 2 ^ (24 : Nat))) (IntKind.wrap .u32 ((IntKind.wrap .u32 ((aL L len).getD ((0 + ((64 * q) + (4 * t)) * 1) + 1 * 1) 0)) * 2 ^ (16 : Nat)))) (IntKind.wrap .u32 ((IntKind.wrap .u32 ((aL L len).getD ((0 + ((64 * q) + (4 * t)) * 1) + 2 * 1) 0)) * 2 ^ (8 : Nat)))) (IntKind.wrap .u32 ((aL L len).getD ((0 + ((64 * q) + (4 * t)) * 1) + 3 * 1) 0)))) ++ [])], 79⟩), (304, ⟨[.vals (iV .u32 shaK ++ r2)], 79⟩)]) (by kernel_rfl) (by kernel_rfl) ?_
          rw [show ((sch (cQ L len q) t).set t (bOr .u32 (bOr .u32 (bOr .u32 (IntKind.wrap .u32 ((IntKind.wrap .u32 ((aL L len).getD ((0 + ((64 * q) + (4 * t)) * 1) + 0 * 1) 0)) * 2 ^ (24 : Nat))) (IntKind.wrap .u32 ((IntKind.wrap .u32 ((aL L len).getD ((0 + ((64 * q) + (4 * t)) * 1) + 1 * 1) 0)) * 2 ^ (16 : Nat)))) (IntKind.wrap .u32 ((IntKind.wrap .u32 ((aL L len).getD ((0 + ((64 * q) + (4 * t)) * 1) + 2 * 1) 0)) * 2 ^ (8 : Nat)))) (IntKind.wrap .u32 ((aL L len).getD ((0 + ((64 * q) + (4 * t)) * 1) + 3 * 1) 0)))) = (sch (cQ L len q) (t + 1)) from by rw [be4_or2 (getD_ok hall _) (getD_ok hall _) (getD_ok hall _) (getD_ok hall _)]; simp only [Nat.zero_add, Nat.mul_one, Nat.zero_mul, Nat.one_mul, Nat.add_zero, sch]; rw [if_pos (by omega), be4_blk _ _ _ (by omega)]]
          exact we_round (t + 1) (by show t + 1 ≤ 64; omega) (by show 64 - (t + 1) < 64 - t; omega) rfl (sub_ofE [2, 3, 4, 5, 6, 7, 8] rfl) (sub_of [2, 23, 44, 51, 304] rfl)
        · replace h4 := of_decide_eq_false h4
          refine wc_skip ?_
          refine we_then ?_
          refine wc_seq ?_
          refine wc_rest [2, 3, 4, 5, 6, 7, 8] [2, 23, 44, 51, 304] (l' := [(2, eL 2 0), (3, .s (.a (.ls 23 0 8 c1))), (4, .s (.a (.ls 304 0 64 c2))), (5, .s (.a (.ls 44 0 ((aL L len).length) c7))), (6, eI .i64 ((64 * q : Nat) : Int)), (7, .s (.a (.ls 51 0 64 64))), (8, eI .i64 ((t : Nat) : Int))]) (H' := [(2, ⟨[.ints .u8 32 (List.replicate 32 0)], 24⟩), (23, ⟨[.vals (iV .u32 (hsQ L len q) ++ r1)], 79⟩), (44, ⟨[.vals (bV (aL L len) ++ r7)], 5⟩), (51, ⟨[.vals (iV .u32 (sch (cQ L len q) t) ++ [])], 79⟩), (304, ⟨[.vals (iV .u32 shaK ++ r2)], 79⟩)]) (by kernel_rfl) ?_
          refine wc_draw (n := 21) [(2, ⟨[.ints .u8 32 (List.replicate 32 0)], 24⟩), (23, ⟨[.vals (iV .u32 (hsQ L len q) ++ r1)], 79⟩), (44, ⟨[.vals (bV (aL L len) ++ r7)], 5⟩), (51, ⟨[.vals (iV .u32 (sch (cQ L len q) t) ++ [])], 79⟩), (304, ⟨[.vals (iV .u32 shaK ++ r2)], 79⟩)] (by kernel_rfl) rfl (sub_of [2, 23, 44, 51, 304] (by kernel_rfl)) (fun ρ0 => ?_)
          refine wa_takes (fuel := 15) [0, 1, 6, 7, 13, 14] [2, 3, 4, 5, 6, 7, 8, 94, 95, 100, 101, 107, 108] (listed' := (bs [2, 4, 2, 5, 2, 6])) (l' := [(2, eL 2 0), (3, .s (.a (.ls 23 0 8 c1))), (4, .s (.a (.ls 304 0 64 c2))), (5, .s (.a (.ls 44 0 ((aL L len).length) c7))), (6, eI .i64 ((64 * q : Nat) : Int)), (7, .s (.a (.ls 51 0 64 64))), (8, eI .i64 ((t : Nat) : Int)), (94, .s (.a (.ls 51 0 64 64))), (95, eI .i64 ((t : Nat) : Int)), (100, .s (.a (.ls 51 0 64 64))), (101, eI .i64 ((t : Nat) : Int)), (107, .s (.a (.ls 51 0 64 64))), (108, eI .i64 ((t : Nat) : Int))]) (pk_then (pk_block (pk_then (pk_then (pk_block (pk_then (pk_block (pk_then (pk_then (pk_block (pk_then pk_body))))))))))) rfl (by kernel_rfl) ?_
          refine wa_take 2 (pk_then (pk_block (pk_then (pk_then (pk_block (pk_then (pk_block (pk_then (pk_then (pk_block (pk_then pk_body))))))))))) rfl (by kernel_rfl) rfl rfl (rd_recast (e := eI .i64 (IntKind.wrap .i64 (((t : Nat) : Int) - 15))) (eI .i64 ((t - 15 : Nat) : Int)) (by kernel_rfl) (congrArg (fun z => eI .i64 z) (w_sub_i64 (a := t) (b := 15) (by omega)))) ?_
          refine wa_take 3 (pk_then (pk_block (pk_then (pk_then (pk_block (pk_then (pk_block (pk_then (pk_then (pk_block (pk_then pk_body))))))))))) rfl (by kernel_rfl) rfl rfl (rd_indexL (e := 79) 1 (t - 15) ((t - 15 : Nat) : Int) rfl (by kernel_rfl) (by kernel_rfl) rfl rfl (rfl) (by omega)) ?_
          refine wa_take 4 (pk_then (pk_block (pk_then (pk_then (pk_block (pk_then (pk_block (pk_then (pk_then (pk_block (pk_then pk_body))))))))))) rfl (by kernel_rfl) rfl rfl (rd_cellS (b := ⟨[.vals (iV .u32 (sch (cQ L len q) t) ++ [])], 79⟩) (.v (.int .u32 ((sch (cQ L len q) t).getD (t - 15) 0))) rfl rfl rfl (by kernel_rfl) (fun ρ => rowi_at (i := (t - 15)) (by rw [sch_len]; omega) (by omega) ρ)) ?_
          refine wa_take 8 (pk_then (pk_block (pk_then (pk_then (pk_block (pk_then (pk_block (pk_then (pk_then (pk_block (pk_then pk_body))))))))))) rfl (by kernel_rfl) rfl rfl (rd_recast (e := eI .i64 (IntKind.wrap .i64 (((t : Nat) : Int) - 15))) (eI .i64 ((t - 15 : Nat) : Int)) (by kernel_rfl) (congrArg (fun z => eI .i64 z) (w_sub_i64 (a := t) (b := 15) (by omega)))) ?_
          refine wa_take 9 (pk_then (pk_block (pk_then (pk_then (pk_block (pk_then (pk_block (pk_then (pk_then (pk_block (pk_then pk_body))))))))))) rfl (by kernel_rfl) rfl rfl (rd_indexL (e := 79) 1 (t - 15) ((t - 15 : Nat) : Int) rfl (by kernel_rfl) (by kernel_rfl) rfl rfl (rfl) (by omega)) ?_
          refine wa_take 10 (pk_then (pk_block (pk_then (pk_then (pk_block (pk_then (pk_block (pk_then (pk_then (pk_block (pk_then pk_body))))))))))) rfl (by kernel_rfl) rfl rfl (rd_cellS (b := ⟨[.vals (iV .u32 (sch (cQ L len q) t) ++ [])], 79⟩) (.v (.int .u32 ((sch (cQ L len q) t).getD (t - 15) 0))) rfl rfl rfl (by kernel_rfl) (fun ρ => rowi_at (i := (t - 15)) (by rw [sch_len]; omega) (by omega) ρ)) ?_
          refine wa_take 15 (pk_then (pk_block (pk_then (pk_then (pk_block (pk_then (pk_block (pk_then (pk_then (pk_block (pk_then pk_body))))))))))) rfl (by kernel_rfl) rfl rfl (rd_recast (e := eI .i64 (IntKind.wrap .i64 (((t : Nat) : Int) - 15))) (eI .i64 ((t - 15 : Nat) : Int)) (by kernel_rfl) (congrArg (fun z => eI .i64 z) (w_sub_i64 (a := t) (b := 15) (by omega)))) ?_
          refine wa_take 16 (pk_then (pk_block (pk_then (pk_then (pk_block (pk_then (pk_block (pk_then (pk_then (pk_block (pk_then pk_body))))))))))) rfl (by kernel_rfl) rfl rfl (rd_indexL (e := 79) 1 (t - 15) ((t - 15 : Nat) : Int) rfl (by kernel_rfl) (by kernel_rfl) rfl rfl (rfl) (by omega)) ?_
          refine wa_take 17 (pk_then (pk_block (pk_then (pk_then (pk_block (pk_then (pk_block (pk_then (pk_then (pk_block (pk_then pk_body))))))))))) rfl (by kernel_rfl) rfl rfl (rd_cellS (b := ⟨[.vals (iV .u32 (sch (cQ L len q) t) ++ [])], 79⟩) (.v (.int .u32 ((sch (cQ L len q) t).getD (t - 15) 0))) rfl rfl rfl (by kernel_rfl) (fun ρ => rowi_at (i := (t - 15)) (by rw [sch_len]; omega) (by omega) ρ)) ?_
          refine wa_takes (fuel := 5) [18] [2, 3, 4, 5, 6, 7, 8, 98, 104, 112] (listed' := (bs [5, 1, 5, 2, 6, 2])) (l' := [(2, eL 2 0), (3, .s (.a (.ls 23 0 8 c1))), (4, .s (.a (.ls 304 0 64 c2))), (5, .s (.a (.ls 44 0 ((aL L len).length) c7))), (6, eI .i64 ((64 * q : Nat) : Int)), (7, .s (.a (.ls 51 0 64 64))), (8, eI .i64 ((t : Nat) : Int)), (98, eI .u32 ((sch (cQ L len q) t).getD (t - 15) 0)), (104, eI .u32 ((sch (cQ L len q) t).getD (t - 15) 0)), (112, eI .u32 (Int.fdiv ((sch (cQ L len q) t).getD (t - 15) 0) (2 ^ (3 : Nat))))]) (pk_then (pk_block (pk_then (pk_then (pk_block (pk_then (pk_block (pk_then (pk_then (pk_block (pk_then pk_body))))))))))) rfl (by kernel_rfl) ?_
          refine wa_all [5] (by kernel_rfl) rfl (all1 ?_)
          refine wi_op rfl rfl (ot_call (vs := [sI .u32 ((sch (cQ L len q) t).getD (t - 15) 0), sI .i64 7]) rfl rfl rfl Tryd.func42 (by kernel_rfl) (by kernel_rfl) (by kernel_rfl) (eI .u32 (rotr 7 ((sch (cQ L len q) t).getD (t - 15) 0))) (trivial) (fun ρ w _ => rrot7_any ((sch (cQ L len q) t).getD (t - 15) 0) w ρ)) (sub_of [2, 23, 44, 51, 304] (by kernel_rfl)) ?_
          refine wa_all [11] (by kernel_rfl) rfl (all1 ?_)
          refine wi_op rfl rfl (ot_call (vs := [sI .u32 ((sch (cQ L len q) t).getD (t - 15) 0), sI .i64 18]) rfl rfl rfl Tryd.func42 (by kernel_rfl) (by kernel_rfl) (by kernel_rfl) (eI .u32 (rotr 18 ((sch (cQ L len q) t).getD (t - 15) 0))) (trivial) (fun ρ w _ => rrot18_any ((sch (cQ L len q) t).getD (t - 15) 0) w ρ)) (sub_of [2, 23, 44, 51, 304] (by kernel_rfl)) ?_
          refine wa_takes (fuel := 0) [12, 19, 20] [2, 3, 4, 5, 6, 7, 8, 10] (listed' := (bs [21])) (l' := [(2, eL 2 0), (3, .s (.a (.ls 23 0 8 c1))), (4, .s (.a (.ls 304 0 64 c2))), (5, .s (.a (.ls 44 0 ((aL L len).length) c7))), (6, eI .i64 ((64 * q : Nat) : Int)), (7, .s (.a (.ls 51 0 64 64))), (8, eI .i64 ((t : Nat) : Int)), (10, eI .u32 (bXor .u32 (bXor .u32 (rotr 7 ((sch (cQ L len q) t).getD (t - 15) 0)) (rotr 18 ((sch (cQ L len q) t).getD (t - 15) 0))) (Int.fdiv ((sch (cQ L len q) t).getD (t - 15) 0) (2 ^ (3 : Nat)))))]) (pk_then (pk_block (pk_then (pk_then (pk_block (pk_then (pk_block (pk_then (pk_then (pk_block (pk_then pk_body))))))))))) rfl (by kernel_rfl) ?_
          refine wa_done (by kernel_rfl) ?_
          refine we_rest [2, 3, 4, 5, 6, 7, 8, 10] [2, 23, 44, 51, 304] (l' := [(2, eL 2 0), (3, .s (.a (.ls 23 0 8 c1))), (4, .s (.a (.ls 304 0 64 c2))), (5, .s (.a (.ls 44 0 ((aL L len).length) c7))), (6, eI .i64 ((64 * q : Nat) : Int)), (7, .s (.a (.ls 51 0 64 64))), (8, eI .i64 ((t : Nat) : Int)), (10, eI .u32 (bXor .u32 (bXor .u32 (rotr 7 ((sch (cQ L len q) t).getD (t - 15) 0)) (rotr 18 ((sch (cQ L len q) t).getD (t - 15) 0))) (Int.fdiv ((sch (cQ L len q) t).getD (t - 15) 0) (2 ^ (3 : Nat)))))]) (H' := [(2, ⟨[.ints .u8 32 (List.replicate 32 0)], 24⟩), (23, ⟨[.vals (iV .u32 (hsQ L len q) ++ r1)], 79⟩), (44, ⟨[.vals (bV (aL L len) ++ r7)], 5⟩), (51, ⟨[.vals (iV .u32 (sch (cQ L len q) t) ++ [])], 79⟩), (304, ⟨[.vals (iV .u32 shaK ++ r2)], 79⟩)]) (by kernel_rfl) (by kernel_rfl) ?_
          refine we_then ?_
          refine wc_seq ?_
          refine wc_draw (n := 21) [(2, ⟨[.ints .u8 32 (List.replicate 32 0)], 24⟩), (23, ⟨[.vals (iV .u32 (hsQ L len q) ++ r1)], 79⟩), (44, ⟨[.vals (bV (aL L len) ++ r7)], 5⟩), (51, ⟨[.vals (iV .u32 (sch (cQ L len q) t) ++ [])], 79⟩), (304, ⟨[.vals (iV .u32 shaK ++ r2)], 79⟩)] (by kernel_rfl) rfl (sub_of [2, 23, 44, 51, 304] (by kernel_rfl)) (fun ρ0 => ?_)
          refine wa_takes (fuel := 15) [0, 1, 6, 7, 13, 14] [2, 3, 4, 5, 6, 7, 8, 10, 114, 115, 120, 121, 127, 128] (listed' := (bs [2, 4, 2, 5, 2, 6])) (l' := [(2, eL 2 0), (3, .s (.a (.ls 23 0 8 c1))), (4, .s (.a (.ls 304 0 64 c2))), (5, .s (.a (.ls 44 0 ((aL L len).length) c7))), (6, eI .i64 ((64 * q : Nat) : Int)), (7, .s (.a (.ls 51 0 64 64))), (8, eI .i64 ((t : Nat) : Int)), (10, eI .u32 (bXor .u32 (bXor .u32 (rotr 7 ((sch (cQ L len q) t).getD (t - 15) 0)) (rotr 18 ((sch (cQ L len q) t).getD (t - 15) 0))) (Int.fdiv ((sch (cQ L len q) t).getD (t - 15) 0) (2 ^ (3 : Nat))))), (114, .s (.a (.ls 51 0 64 64))), (115, eI .i64 ((t : Nat) : Int)), (120, .s (.a (.ls 51 0 64 64))), (121, eI .i64 ((t : Nat) : Int)), (127, .s (.a (.ls 51 0 64 64))), (128, eI .i64 ((t : Nat) : Int))]) (pk_then (pk_block (pk_then (pk_then (pk_block (pk_then (pk_block (pk_then (pk_then (pk_block (pk_then pk_body))))))))))) rfl (by kernel_rfl) ?_
          refine wa_take 2 (pk_then (pk_block (pk_then (pk_then (pk_block (pk_then (pk_block (pk_then (pk_then (pk_block (pk_then pk_body))))))))))) rfl (by kernel_rfl) rfl rfl (rd_recast (e := eI .i64 (IntKind.wrap .i64 (((t : Nat) : Int) - 2))) (eI .i64 ((t - 2 : Nat) : Int)) (by kernel_rfl) (congrArg (fun z => eI .i64 z) (w_sub_i64 (a := t) (b := 2) (by omega)))) ?_
          refine wa_take 3 (pk_then (pk_block (pk_then (pk_then (pk_block (pk_then (pk_block (pk_then (pk_then (pk_block (pk_then pk_body))))))))))) rfl (by kernel_rfl) rfl rfl (rd_indexL (e := 79) 1 (t - 2) ((t - 2 : Nat) : Int) rfl (by kernel_rfl) (by kernel_rfl) rfl rfl (rfl) (by omega)) ?_
          refine wa_take 4 (pk_then (pk_block (pk_then (pk_then (pk_block (pk_then (pk_block (pk_then (pk_then (pk_block (pk_then pk_body))))))))))) rfl (by kernel_rfl) rfl rfl (rd_cellS (b := ⟨[.vals (iV .u32 (sch (cQ L len q) t) ++ [])], 79⟩) (.v (.int .u32 ((sch (cQ L len q) t).getD (t - 2) 0))) rfl rfl rfl (by kernel_rfl) (fun ρ => rowi_at (i := (t - 2)) (by rw [sch_len]; omega) (by omega) ρ)) ?_
          refine wa_take 8 (pk_then (pk_block (pk_then (pk_then (pk_block (pk_then (pk_block (pk_then (pk_then (pk_block (pk_then pk_body))))))))))) rfl (by kernel_rfl) rfl rfl (rd_recast (e := eI .i64 (IntKind.wrap .i64 (((t : Nat) : Int) - 2))) (eI .i64 ((t - 2 : Nat) : Int)) (by kernel_rfl) (congrArg (fun z => eI .i64 z) (w_sub_i64 (a := t) (b := 2) (by omega)))) ?_
          refine wa_take 9 (pk_then (pk_block (pk_then (pk_then (pk_block (pk_then (pk_block (pk_then (pk_then (pk_block (pk_then pk_body))))))))))) rfl (by kernel_rfl) rfl rfl (rd_indexL (e := 79) 1 (t - 2) ((t - 2 : Nat) : Int) rfl (by kernel_rfl) (by kernel_rfl) rfl rfl (rfl) (by omega)) ?_
          refine wa_take 10 (pk_then (pk_block (pk_then (pk_then (pk_block (pk_then (pk_block (pk_then (pk_then (pk_block (pk_then pk_body))))))))))) rfl (by kernel_rfl) rfl rfl (rd_cellS (b := ⟨[.vals (iV .u32 (sch (cQ L len q) t) ++ [])], 79⟩) (.v (.int .u32 ((sch (cQ L len q) t).getD (t - 2) 0))) rfl rfl rfl (by kernel_rfl) (fun ρ => rowi_at (i := (t - 2)) (by rw [sch_len]; omega) (by omega) ρ)) ?_
          refine wa_take 15 (pk_then (pk_block (pk_then (pk_then (pk_block (pk_then (pk_block (pk_then (pk_then (pk_block (pk_then pk_body))))))))))) rfl (by kernel_rfl) rfl rfl (rd_recast (e := eI .i64 (IntKind.wrap .i64 (((t : Nat) : Int) - 2))) (eI .i64 ((t - 2 : Nat) : Int)) (by kernel_rfl) (congrArg (fun z => eI .i64 z) (w_sub_i64 (a := t) (b := 2) (by omega)))) ?_
          refine wa_take 16 (pk_then (pk_block (pk_then (pk_then (pk_block (pk_then (pk_block (pk_then (pk_then (pk_block (pk_then pk_body))))))))))) rfl (by kernel_rfl) rfl rfl (rd_indexL (e := 79) 1 (t - 2) ((t - 2 : Nat) : Int) rfl (by kernel_rfl) (by kernel_rfl) rfl rfl (rfl) (by omega)) ?_
          refine wa_take 17 (pk_then (pk_block (pk_then (pk_then (pk_block (pk_then (pk_block (pk_then (pk_then (pk_block (pk_then pk_body))))))))))) rfl (by kernel_rfl) rfl rfl (rd_cellS (b := ⟨[.vals (iV .u32 (sch (cQ L len q) t) ++ [])], 79⟩) (.v (.int .u32 ((sch (cQ L len q) t).getD (t - 2) 0))) rfl rfl rfl (by kernel_rfl) (fun ρ => rowi_at (i := (t - 2)) (by rw [sch_len]; omega) (by omega) ρ)) ?_
          refine wa_takes (fuel := 5) [18] [2, 3, 4, 5, 6, 7, 8, 10, 118, 124, 132] (listed' := (bs [5, 1, 5, 2, 6, 2])) (l' := [(2, eL 2 0), (3, .s (.a (.ls 23 0 8 c1))), (4, .s (.a (.ls 304 0 64 c2))), (5, .s (.a (.ls 44 0 ((aL L len).length) c7))), (6, eI .i64 ((64 * q : Nat) : Int)), (7, .s (.a (.ls 51 0 64 64))), (8, eI .i64 ((t : Nat) : Int)), (10, eI .u32 (bXor .u32 (bXor .u32 (rotr 7 ((sch (cQ L len q) t).getD (t - 15) 0)) (rotr 18 ((sch (cQ L len q) t).getD (t - 15) 0))) (Int.fdiv ((sch (cQ L len q) t).getD (t - 15) 0) (2 ^ (3 : Nat))))), (118, eI .u32 ((sch (cQ L len q) t).getD (t - 2) 0)), (124, eI .u32 ((sch (cQ L len q) t).getD (t - 2) 0)), (132, eI .u32 (Int.fdiv ((sch (cQ L len q) t).getD (t - 2) 0) (2 ^ (10 : Nat))))]) (pk_then (pk_block (pk_then (pk_then (pk_block (pk_then (pk_block (pk_then (pk_then (pk_block (pk_then pk_body))))))))))) rfl (by kernel_rfl) ?_
          refine wa_all [5] (by kernel_rfl) rfl (all1 ?_)
          refine wi_op rfl rfl (ot_call (vs := [sI .u32 ((sch (cQ L len q) t).getD (t - 2) 0), sI .i64 17]) rfl rfl rfl Tryd.func42 (by kernel_rfl) (by kernel_rfl) (by kernel_rfl) (eI .u32 (rotr 17 ((sch (cQ L len q) t).getD (t - 2) 0))) (trivial) (fun ρ w _ => rrot17_any ((sch (cQ L len q) t).getD (t - 2) 0) w ρ)) (sub_of [2, 23, 44, 51, 304] (by kernel_rfl)) ?_
          refine wa_all [11] (by kernel_rfl) rfl (all1 ?_)
          refine wi_op rfl rfl (ot_call (vs := [sI .u32 ((sch (cQ L len q) t).getD (t - 2) 0), sI .i64 19]) rfl rfl rfl Tryd.func42 (by kernel_rfl) (by kernel_rfl) (by kernel_rfl) (eI .u32 (rotr 19 ((sch (cQ L len q) t).getD (t - 2) 0))) (trivial) (fun ρ w _ => rrot19_any ((sch (cQ L len q) t).getD (t - 2) 0) w ρ)) (sub_of [2, 23, 44, 51, 304] (by kernel_rfl)) ?_
          refine wa_takes (fuel := 0) [12, 19, 20] [2, 3, 4, 5, 6, 7, 8, 10, 11] (listed' := (bs [21])) (l' := [(2, eL 2 0), (3, .s (.a (.ls 23 0 8 c1))), (4, .s (.a (.ls 304 0 64 c2))), (5, .s (.a (.ls 44 0 ((aL L len).length) c7))), (6, eI .i64 ((64 * q : Nat) : Int)), (7, .s (.a (.ls 51 0 64 64))), (8, eI .i64 ((t : Nat) : Int)), (10, eI .u32 (bXor .u32 (bXor .u32 (rotr 7 ((sch (cQ L len q) t).getD (t - 15) 0)) (rotr 18 ((sch (cQ L len q) t).getD (t - 15) 0))) (Int.fdiv ((sch (cQ L len q) t).getD (t - 15) 0) (2 ^ (3 : Nat))))), (11, eI .u32 (bXor .u32 (bXor .u32 (rotr 17 ((sch (cQ L len q) t).getD (t - 2) 0)) (rotr 19 ((sch (cQ L len q) t).getD (t - 2) 0))) (Int.fdiv ((sch (cQ L len q) t).getD (t - 2) 0) (2 ^ (10 : Nat)))))]) (pk_then (pk_block (pk_then (pk_then (pk_block (pk_then (pk_block (pk_then (pk_then (pk_block (pk_then pk_body))))))))))) rfl (by kernel_rfl) ?_
          refine wa_done (by kernel_rfl) ?_
          refine we_rest [2, 3, 4, 5, 6, 7, 8, 10, 11] [2, 23, 44, 51, 304] (l' := [(2, eL 2 0), (3, .s (.a (.ls 23 0 8 c1))), (4, .s (.a (.ls 304 0 64 c2))), (5, .s (.a (.ls 44 0 ((aL L len).length) c7))), (6, eI .i64 ((64 * q : Nat) : Int)), (7, .s (.a (.ls 51 0 64 64))), (8, eI .i64 ((t : Nat) : Int)), (10, eI .u32 (bXor .u32 (bXor .u32 (rotr 7 ((sch (cQ L len q) t).getD (t - 15) 0)) (rotr 18 ((sch (cQ L len q) t).getD (t - 15) 0))) (Int.fdiv ((sch (cQ L len q) t).getD (t - 15) 0) (2 ^ (3 : Nat))))), (11, eI .u32 (bXor .u32 (bXor .u32 (rotr 17 ((sch (cQ L len q) t).getD (t - 2) 0)) (rotr 19 ((sch (cQ L len q) t).getD (t - 2) 0))) (Int.fdiv ((sch (cQ L len q) t).getD (t - 2) 0) (2 ^ (10 : Nat)))))]) (H' := [(2, ⟨[.ints .u8 32 (List.replicate 32 0)], 24⟩), (23, ⟨[.vals (iV .u32 (hsQ L len q) ++ r1)], 79⟩), (44, ⟨[.vals (bV (aL L len) ++ r7)], 5⟩), (51, ⟨[.vals (iV .u32 (sch (cQ L len q) t) ++ [])], 79⟩), (304, ⟨[.vals (iV .u32 shaK ++ r2)], 79⟩)]) (by kernel_rfl) (by kernel_rfl) ?_
          refine we_then ?_
          refine wc_draw (n := 19) [(2, ⟨[.ints .u8 32 (List.replicate 32 0)], 24⟩), (23, ⟨[.vals (iV .u32 (hsQ L len q) ++ r1)], 79⟩), (44, ⟨[.vals (bV (aL L len) ++ r7)], 5⟩), (304, ⟨[.vals (iV .u32 shaK ++ r2)], 79⟩)] (by kernel_rfl) rfl (sub_of [2, 23, 44, 304] (by kernel_rfl)) (fun ρ0 => ?_)
          refine wa_takes (fuel := 11) [0, 1, 2, 3, 4, 9, 11, 12] [2, 3, 4, 5, 6, 7, 8, 134, 135, 136, 137, 138, 143, 145, 146] (listed' := (bs [5, 4, 1, 1, 2, 6])) (l' := [(2, eL 2 0), (3, .s (.a (.ls 23 0 8 c1))), (4, .s (.a (.ls 304 0 64 c2))), (5, .s (.a (.ls 44 0 ((aL L len).length) c7))), (6, eI .i64 ((64 * q : Nat) : Int)), (7, .s (.a (.ls 51 0 64 64))), (8, eI .i64 ((t : Nat) : Int)), (134, .s (.a (.ls 51 0 64 64))), (135, eI .i64 ((t : Nat) : Int)), (136, eI .u32 (bXor .u32 (bXor .u32 (rotr 17 ((sch (cQ L len q) t).getD (t - 2) 0)) (rotr 19 ((sch (cQ L len q) t).getD (t - 2) 0))) (Int.fdiv ((sch (cQ L len q) t).getD (t - 2) 0) (2 ^ (10 : Nat))))), (137, .s (.a (.ls 51 0 64 64))), (138, eI .i64 ((t : Nat) : Int)), (143, eI .u32 (bXor .u32 (bXor .u32 (rotr 7 ((sch (cQ L len q) t).getD (t - 15) 0)) (rotr 18 ((sch (cQ L len q) t).getD (t - 15) 0))) (Int.fdiv ((sch (cQ L len q) t).getD (t - 15) 0) (2 ^ (3 : Nat))))), (145, .s (.a (.ls 51 0 64 64))), (146, eI .i64 ((t : Nat) : Int))]) (pk_block (pk_then (pk_then (pk_block (pk_then (pk_block (pk_then (pk_then (pk_block (pk_then pk_body)))))))))) rfl (by kernel_rfl) ?_
          refine wa_take 5 (pk_block (pk_then (pk_then (pk_block (pk_then (pk_block (pk_then (pk_then (pk_block (pk_then pk_body)))))))))) rfl (by kernel_rfl) rfl rfl (rd_recast (e := eI .i64 (IntKind.wrap .i64 (((t : Nat) : Int) - 7))) (eI .i64 ((t - 7 : Nat) : Int)) (by kernel_rfl) (congrArg (fun z => eI .i64 z) (w_sub_i64 (a := t) (b := 7) (by omega)))) ?_
          refine wa_take 6 (pk_block (pk_then (pk_then (pk_block (pk_then (pk_block (pk_then (pk_then (pk_block (pk_then pk_body)))))))))) rfl (by kernel_rfl) rfl rfl (rd_indexL (e := 79) 1 (t - 7) ((t - 7 : Nat) : Int) rfl (by kernel_rfl) (by kernel_rfl) rfl rfl (rfl) (by omega)) ?_
          refine wa_take 13 (pk_block (pk_then (pk_then (pk_block (pk_then (pk_block (pk_then (pk_then (pk_block (pk_then pk_body)))))))))) rfl (by kernel_rfl) rfl rfl (rd_recast (e := eI .i64 (IntKind.wrap .i64 (((t : Nat) : Int) - 16))) (eI .i64 ((t - 16 : Nat) : Int)) (by kernel_rfl) (congrArg (fun z => eI .i64 z) (w_sub_i64 (a := t) (b := 16) (by omega)))) ?_
          refine wa_take 14 (pk_block (pk_then (pk_then (pk_block (pk_then (pk_block (pk_then (pk_then (pk_block (pk_then pk_body)))))))))) rfl (by kernel_rfl) rfl rfl (rd_indexL (e := 79) 1 (t - 16) ((t - 16 : Nat) : Int) rfl (by kernel_rfl) (by kernel_rfl) rfl rfl (rfl) (by omega)) ?_
          refine wa_all [7, 15] (by kernel_rfl) rfl (allc ?_ (all1 ?_))
          · refine wi_op rfl rfl (ot_rd rfl (rd_cellS (b := ⟨[.vals (iV .u32 (sch (cQ L len q) t) ++ [])], 79⟩) (.v (.int .u32 ((sch (cQ L len q) t).getD (t - 7) 0))) rfl rfl rfl (by kernel_rfl) (fun ρ => rowi_at (i := (t - 7)) (by rw [sch_len]; omega) (by omega) ρ))) (sub_of [2, 23, 44, 304] (by kernel_rfl)) ?_
            refine wa_takes (fuel := 4) [8, 10] [2, 3, 4, 5, 6, 7, 8, 134, 135, 144, 148] (listed' := (bs [15, 4])) (l' := [(2, eL 2 0), (3, .s (.a (.ls 23 0 8 c1))), (4, .s (.a (.ls 304 0 64 c2))), (5, .s (.a (.ls 44 0 ((aL L len).length) c7))), (6, eI .i64 ((64 * q : Nat) : Int)), (7, .s (.a (.ls 51 0 64 64))), (8, eI .i64 ((t : Nat) : Int)), (134, .s (.a (.ls 51 0 64 64))), (135, eI .i64 ((t : Nat) : Int)), (144, eI .u32 (IntKind.wrap .u32 ((IntKind.wrap .u32 ((bXor .u32 (bXor .u32 (rotr 17 ((sch (cQ L len q) t).getD (t - 2) 0)) (rotr 19 ((sch (cQ L len q) t).getD (t - 2) 0))) (Int.fdiv ((sch (cQ L len q) t).getD (t - 2) 0) (2 ^ (10 : Nat)))) + ((sch (cQ L len q) t).getD (t - 7) 0))) + (bXor .u32 (bXor .u32 (rotr 7 ((sch (cQ L len q) t).getD (t - 15) 0)) (rotr 18 ((sch (cQ L len q) t).getD (t - 15) 0))) (Int.fdiv ((sch (cQ L len q) t).getD (t - 15) 0) (2 ^ (3 : Nat))))))), (148, eL 51 (0 + (t - 16) * 1))]) (pk_block (pk_then (pk_then (pk_block (pk_then (pk_block (pk_then (pk_then (pk_block (pk_then pk_body)))))))))) rfl (by kernel_rfl) ?_
            refine wa_all [15] (by kernel_rfl) rfl (all1 ?_)
            refine wi_op rfl rfl (ot_rd rfl (rd_cellS (b := ⟨[.vals (iV .u32 (sch (cQ L len q) t) ++ [])], 79⟩) (.v (.int .u32 ((sch (cQ L len q) t).getD (t - 16) 0))) rfl rfl rfl (by kernel_rfl) (fun ρ => rowi_at (i := (t - 16)) (by rw [sch_len]; omega) (by omega) ρ))) (sub_of [2, 23, 44, 304] (by kernel_rfl)) ?_
            refine wa_takes (fuel := 2) [16] [2, 3, 4, 5, 6, 7, 8, 134, 135, 150] (listed' := (bs [17, 2])) (l' := [(2, eL 2 0), (3, .s (.a (.ls 23 0 8 c1))), (4, .s (.a (.ls 304 0 64 c2))), (5, .s (.a (.ls 44 0 ((aL L len).length) c7))), (6, eI .i64 ((64 * q : Nat) : Int)), (7, .s (.a (.ls 51 0 64 64))), (8, eI .i64 ((t : Nat) : Int)), (134, .s (.a (.ls 51 0 64 64))), (135, eI .i64 ((t : Nat) : Int)), (150, eI .u32 (IntKind.wrap .u32 ((IntKind.wrap .u32 ((IntKind.wrap .u32 ((bXor .u32 (bXor .u32 (rotr 17 ((sch (cQ L len q) t).getD (t - 2) 0)) (rotr 19 ((sch (cQ L len q) t).getD (t - 2) 0))) (Int.fdiv ((sch (cQ L len q) t).getD (t - 2) 0) (2 ^ (10 : Nat)))) + ((sch (cQ L len q) t).getD (t - 7) 0))) + (bXor .u32 (bXor .u32 (rotr 7 ((sch (cQ L len q) t).getD (t - 15) 0)) (rotr 18 ((sch (cQ L len q) t).getD (t - 15) 0))) (Int.fdiv ((sch (cQ L len q) t).getD (t - 15) 0) (2 ^ (3 : Nat)))))) + ((sch (cQ L len q) t).getD (t - 16) 0))))]) (pk_block (pk_then (pk_then (pk_block (pk_then (pk_block (pk_then (pk_then (pk_block (pk_then pk_body)))))))))) rfl (by kernel_rfl) ?_
            refine wa_take 17 (pk_block (pk_then (pk_then (pk_block (pk_then (pk_block (pk_then (pk_then (pk_block (pk_then pk_body)))))))))) rfl (by kernel_rfl) rfl rfl (rd_indexL (e := 79) 1 t ((t : Nat) : Int) rfl (by kernel_rfl) (by kernel_rfl) rfl rfl (rfl) (by omega)) ?_
            refine wa_all [18] (by kernel_rfl) rfl (all1 ?_)
            refine wi_op rfl rfl (ot_storeS (b := ⟨[.vals (iV .u32 (sch (cQ L len q) t) ++ [])], 79⟩) (v := (sI .u32 (IntKind.wrap .u32 ((IntKind.wrap .u32 ((IntKind.wrap .u32 ((bXor .u32 (bXor .u32 (rotr 17 ((sch (cQ L len q) t).getD (t - 2) 0)) (rotr 19 ((sch (cQ L len q) t).getD (t - 2) 0))) (Int.fdiv ((sch (cQ L len q) t).getD (t - 2) 0) (2 ^ (10 : Nat)))) + ((sch (cQ L len q) t).getD (t - 7) 0))) + (bXor .u32 (bXor .u32 (rotr 7 ((sch (cQ L len q) t).getD (t - 15) 0)) (rotr 18 ((sch (cQ L len q) t).getD (t - 15) 0))) (Int.fdiv ((sch (cQ L len q) t).getD (t - 15) 0) (2 ^ (3 : Nat)))))) + ((sch (cQ L len q) t).getD (t - 16) 0))))) [.vals (iV .u32 ((sch (cQ L len q) t).set t (IntKind.wrap .u32 ((IntKind.wrap .u32 ((IntKind.wrap .u32 ((bXor .u32 (bXor .u32 (rotr 17 ((sch (cQ L len q) t).getD (t - 2) 0)) (rotr 19 ((sch (cQ L len q) t).getD (t - 2) 0))) (Int.fdiv ((sch (cQ L len q) t).getD (t - 2) 0) (2 ^ (10 : Nat)))) + ((sch (cQ L len q) t).getD (t - 7) 0))) + (bXor .u32 (bXor .u32 (rotr 7 ((sch (cQ L len q) t).getD (t - 15) 0)) (rotr 18 ((sch (cQ L len q) t).getD (t - 15) 0))) (Int.fdiv ((sch (cQ L len q) t).getD (t - 15) 0) (2 ^ (3 : Nat)))))) + ((sch (cQ L len q) t).getD (t - 16) 0)))) ++ [])] rfl rfl rfl rfl rfl rfl (by kernel_rfl) (okCs_vals _) (fun ρ => by rw [flat_vals, List.length_append, iV_len]; have : t < ((sch (cQ L len q) t) : List Int).length := (by rw [sch_len]; omega); simp only [SV.chunks, sz]; omega) (fun ρ => rowi_set (i := t) (by rw [sch_len]; omega) (by omega) ρ)) (sub_of [2, 23, 44, 304] (by kernel_rfl)) ?_
            refine wa_done (by kernel_rfl) ?_
            refine we_rest [2, 3, 4, 5, 6, 7, 8] [2, 23, 44, 51, 304] (l' := [(2, eL 2 0), (3, .s (.a (.ls 23 0 8 c1))), (4, .s (.a (.ls 304 0 64 c2))), (5, .s (.a (.ls 44 0 ((aL L len).length) c7))), (6, eI .i64 ((64 * q : Nat) : Int)), (7, .s (.a (.ls 51 0 64 64))), (8, eI .i64 ((t : Nat) : Int))]) (H' := [(2, ⟨[.ints .u8 32 (List.replicate 32 0)], 24⟩), (23, ⟨[.vals (iV .u32 (hsQ L len q) ++ r1)], 79⟩), (44, ⟨[.vals (bV (aL L len) ++ r7)], 5⟩), (51, ⟨[.vals (iV .u32 ((sch (cQ L len q) t).set t (IntKind.wrap .u32 ((IntKind.wrap .u32 ((IntKind.wrap .u32 ((bXor .u32 (bXor .u32 (rotr 17 ((sch (cQ L len q) t).getD (t - 2) 0)) (rotr 19 ((sch (cQ L len q) t).getD (t - 2) 0))) (Int.fdiv ((sch (cQ L len q) t).getD (t - 2) 0) (2 ^ (10 : Nat)))) + ((sch (cQ L len q) t).getD (t - 7) 0))) + (bXor .u32 (bXor .u32 (rotr 7 ((sch (cQ L len q) t).getD (t - 15) 0)) (rotr 18 ((sch (cQ L len q) t).getD (t - 15) 0))) (Int.fdiv ((sch (cQ L len q) t).getD (t - 15) 0) (2 ^ (3 : Nat)))))) + ((sch (cQ L len q) t).getD (t - 16) 0)))) ++ [])], 79⟩), (304, ⟨[.vals (iV .u32 shaK ++ r2)], 79⟩)]) (by kernel_rfl) (by kernel_rfl) ?_
            refine we_block ?_
            refine we_then ?_
            refine wc_reg [0, 1, 2] (by kernel_rfl) ?_
            refine wo_run [0] [2, 3, 4, 5, 6, 7, 54] [2, 23, 44, 51, 304] (l' := [(2, eL 2 0), (3, .s (.a (.ls 23 0 8 c1))), (4, .s (.a (.ls 304 0 64 c2))), (5, .s (.a (.ls 44 0 ((aL L len).length) c7))), (6, eI .i64 ((64 * q : Nat) : Int)), (7, .s (.a (.ls 51 0 64 64))), (54, eI .i64 ((t : Nat) : Int))]) (H' := [(2, ⟨[.ints .u8 32 (List.replicate 32 0)], 24⟩), (23, ⟨[.vals (iV .u32 (hsQ L len q) ++ r1)], 79⟩), (44, ⟨[.vals (bV (aL L len) ++ r7)], 5⟩), (51, ⟨[.vals (iV .u32 ((sch (cQ L len q) t).set t (IntKind.wrap .u32 ((IntKind.wrap .u32 ((IntKind.wrap .u32 ((bXor .u32 (bXor .u32 (rotr 17 ((sch (cQ L len q) t).getD (t - 2) 0)) (rotr 19 ((sch (cQ L len q) t).getD (t - 2) 0))) (Int.fdiv ((sch (cQ L len q) t).getD (t - 2) 0) (2 ^ (10 : Nat)))) + ((sch (cQ L len q) t).getD (t - 7) 0))) + (bXor .u32 (bXor .u32 (rotr 7 ((sch (cQ L len q) t).getD (t - 15) 0)) (rotr 18 ((sch (cQ L len q) t).getD (t - 15) 0))) (Int.fdiv ((sch (cQ L len q) t).getD (t - 15) 0) (2 ^ (3 : Nat)))))) + ((sch (cQ L len q) t).getD (t - 16) 0)))) ++ [])], 79⟩), (304, ⟨[.vals (iV .u32 shaK ++ r2)], 79⟩)]) (by kernel_rfl) ?_
            refine wo_op rfl rfl (ot_rd rfl (rd_recast (e := eI .i64 (IntKind.wrap .i64 (((t : Nat) : Int) + 1))) (eI .i64 ((t + 1 : Nat) : Int)) (by kernel_rfl) (congrArg (fun z => eI .i64 z) (w_add_i64 (a := t) (b := 1) (by omega))))) ?_
            refine wo_run [2] [2, 3, 4, 5, 6, 7, 8] [2, 23, 44, 51, 304] (l' := [(2, eL 2 0), (3, .s (.a (.ls 23 0 8 c1))), (4, .s (.a (.ls 304 0 64 c2))), (5, .s (.a (.ls 44 0 ((aL L len).length) c7))), (6, eI .i64 ((64 * q : Nat) : Int)), (7, .s (.a (.ls 51 0 64 64))), (8, eI .i64 ((t + 1 : Nat) : Int))]) (H' := [(2, ⟨[.ints .u8 32 (List.replicate 32 0)], 24⟩), (23, ⟨[.vals (iV .u32 (hsQ L len q) ++ r1)], 79⟩), (44, ⟨[.vals (bV (aL L len) ++ r7)], 5⟩), (51, ⟨[.vals (iV .u32 ((sch (cQ L len q) t).set t (IntKind.wrap .u32 ((IntKind.wrap .u32 ((IntKind.wrap .u32 ((bXor .u32 (bXor .u32 (rotr 17 ((sch (cQ L len q) t).getD (t - 2) 0)) (rotr 19 ((sch (cQ L len q) t).getD (t - 2) 0))) (Int.fdiv ((sch (cQ L len q) t).getD (t - 2) 0) (2 ^ (10 : Nat)))) + ((sch (cQ L len q) t).getD (t - 7) 0))) + (bXor .u32 (bXor .u32 (rotr 7 ((sch (cQ L len q) t).getD (t - 15) 0)) (rotr 18 ((sch (cQ L len q) t).getD (t - 15) 0))) (Int.fdiv ((sch (cQ L len q) t).getD (t - 15) 0) (2 ^ (3 : Nat)))))) + ((sch (cQ L len q) t).getD (t - 16) 0)))) ++ [])], 79⟩), (304, ⟨[.vals (iV .u32 shaK ++ r2)], 79⟩)]) (by kernel_rfl) ?_
            refine wo_nil ?_
            refine we_rest [2, 3, 4, 5, 6, 7, 8] [2, 23, 44, 51, 304] (l' := [(2, eL 2 0), (3, .s (.a (.ls 23 0 8 c1))), (4, .s (.a (.ls 304 0 64 c2))), (5, .s (.a (.ls 44 0 ((aL L len).length) c7))), (6, eI .i64 ((64 * q : Nat) : Int)), (7, .s (.a (.ls 51 0 64 64))), (8, eI .i64 ((t + 1 : Nat) : Int))]) (H' := [(2, ⟨[.ints .u8 32 (List.replicate 32 0)], 24⟩), (23, ⟨[.vals (iV .u32 (hsQ L len q) ++ r1)], 79⟩), (44, ⟨[.vals (bV (aL L len) ++ r7)], 5⟩), (51, ⟨[.vals (iV .u32 ((sch (cQ L len q) t).set t (IntKind.wrap .u32 ((IntKind.wrap .u32 ((IntKind.wrap .u32 ((bXor .u32 (bXor .u32 (rotr 17 ((sch (cQ L len q) t).getD (t - 2) 0)) (rotr 19 ((sch (cQ L len q) t).getD (t - 2) 0))) (Int.fdiv ((sch (cQ L len q) t).getD (t - 2) 0) (2 ^ (10 : Nat)))) + ((sch (cQ L len q) t).getD (t - 7) 0))) + (bXor .u32 (bXor .u32 (rotr 7 ((sch (cQ L len q) t).getD (t - 15) 0)) (rotr 18 ((sch (cQ L len q) t).getD (t - 15) 0))) (Int.fdiv ((sch (cQ L len q) t).getD (t - 15) 0) (2 ^ (3 : Nat)))))) + ((sch (cQ L len q) t).getD (t - 16) 0)))) ++ [])], 79⟩), (304, ⟨[.vals (iV .u32 shaK ++ r2)], 79⟩)]) (by kernel_rfl) (by kernel_rfl) ?_
            rw [show ((sch (cQ L len q) t).set t (IntKind.wrap .u32 ((IntKind.wrap .u32 ((IntKind.wrap .u32 ((bXor .u32 (bXor .u32 (rotr 17 ((sch (cQ L len q) t).getD (t - 2) 0)) (rotr 19 ((sch (cQ L len q) t).getD (t - 2) 0))) (Int.fdiv ((sch (cQ L len q) t).getD (t - 2) 0) (2 ^ (10 : Nat)))) + ((sch (cQ L len q) t).getD (t - 7) 0))) + (bXor .u32 (bXor .u32 (rotr 7 ((sch (cQ L len q) t).getD (t - 15) 0)) (rotr 18 ((sch (cQ L len q) t).getD (t - 15) 0))) (Int.fdiv ((sch (cQ L len q) t).getD (t - 15) 0) (2 ^ (3 : Nat)))))) + ((sch (cQ L len q) t).getD (t - 16) 0)))) = (sch (cQ L len q) (t + 1)) from by simp only [sch]; rw [if_neg (by omega), ← nxtR]; rfl]
            exact we_round (t + 1) (by show t + 1 ≤ 64; omega) (by show 64 - (t + 1) < 64 - t; omega) rfl (sub_ofE [2, 3, 4, 5, 6, 7, 8] rfl) (sub_of [2, 23, 44, 51, 304] rfl)
          · refine wi_op rfl rfl (ot_rd rfl (rd_cellS (b := ⟨[.vals (iV .u32 (sch (cQ L len q) t) ++ [])], 79⟩) (.v (.int .u32 ((sch (cQ L len q) t).getD (t - 16) 0))) rfl rfl rfl (by kernel_rfl) (fun ρ => rowi_at (i := (t - 16)) (by rw [sch_len]; omega) (by omega) ρ))) (sub_of [2, 23, 44, 304] (by kernel_rfl)) ?_
            refine wa_all [7] (by kernel_rfl) rfl (all1 ?_)
            refine wi_op rfl rfl (ot_rd rfl (rd_cellS (b := ⟨[.vals (iV .u32 (sch (cQ L len q) t) ++ [])], 79⟩) (.v (.int .u32 ((sch (cQ L len q) t).getD (t - 7) 0))) rfl rfl rfl (by kernel_rfl) (fun ρ => rowi_at (i := (t - 7)) (by rw [sch_len]; omega) (by omega) ρ))) (sub_of [2, 23, 44, 304] (by kernel_rfl)) ?_
            refine wa_takes (fuel := 2) [8, 10, 16] [2, 3, 4, 5, 6, 7, 8, 134, 135, 150] (listed' := (bs [17, 2])) (l' := [(2, eL 2 0), (3, .s (.a (.ls 23 0 8 c1))), (4, .s (.a (.ls 304 0 64 c2))), (5, .s (.a (.ls 44 0 ((aL L len).length) c7))), (6, eI .i64 ((64 * q : Nat) : Int)), (7, .s (.a (.ls 51 0 64 64))), (8, eI .i64 ((t : Nat) : Int)), (134, .s (.a (.ls 51 0 64 64))), (135, eI .i64 ((t : Nat) : Int)), (150, eI .u32 (IntKind.wrap .u32 ((IntKind.wrap .u32 ((IntKind.wrap .u32 ((bXor .u32 (bXor .u32 (rotr 17 ((sch (cQ L len q) t).getD (t - 2) 0)) (rotr 19 ((sch (cQ L len q) t).getD (t - 2) 0))) (Int.fdiv ((sch (cQ L len q) t).getD (t - 2) 0) (2 ^ (10 : Nat)))) + ((sch (cQ L len q) t).getD (t - 7) 0))) + (bXor .u32 (bXor .u32 (rotr 7 ((sch (cQ L len q) t).getD (t - 15) 0)) (rotr 18 ((sch (cQ L len q) t).getD (t - 15) 0))) (Int.fdiv ((sch (cQ L len q) t).getD (t - 15) 0) (2 ^ (3 : Nat)))))) + ((sch (cQ L len q) t).getD (t - 16) 0))))]) (pk_block (pk_then (pk_then (pk_block (pk_then (pk_block (pk_then (pk_then (pk_block (pk_then pk_body)))))))))) rfl (by kernel_rfl) ?_
            refine wa_take 17 (pk_block (pk_then (pk_then (pk_block (pk_then (pk_block (pk_then (pk_then (pk_block (pk_then pk_body)))))))))) rfl (by kernel_rfl) rfl rfl (rd_indexL (e := 79) 1 t ((t : Nat) : Int) rfl (by kernel_rfl) (by kernel_rfl) rfl rfl (rfl) (by omega)) ?_
            refine wa_all [18] (by kernel_rfl) rfl (all1 ?_)
            refine wi_op rfl rfl (ot_storeS (b := ⟨[.vals (iV .u32 (sch (cQ L len q) t) ++ [])], 79⟩) (v := (sI .u32 (IntKind.wrap .u32 ((IntKind.wrap .u32 ((IntKind.wrap .u32 ((bXor .u32 (bXor .u32 (rotr 17 ((sch (cQ L len q) t).getD (t - 2) 0)) (rotr 19 ((sch (cQ L len q) t).getD (t - 2) 0))) (Int.fdiv ((sch (cQ L len q) t).getD (t - 2) 0) (2 ^ (10 : Nat)))) + ((sch (cQ L len q) t).getD (t - 7) 0))) + (bXor .u32 (bXor .u32 (rotr 7 ((sch (cQ L len q) t).getD (t - 15) 0)) (rotr 18 ((sch (cQ L len q) t).getD (t - 15) 0))) (Int.fdiv ((sch (cQ L len q) t).getD (t - 15) 0) (2 ^ (3 : Nat)))))) + ((sch (cQ L len q) t).getD (t - 16) 0))))) [.vals (iV .u32 ((sch (cQ L len q) t).set t (IntKind.wrap .u32 ((IntKind.wrap .u32 ((IntKind.wrap .u32 ((bXor .u32 (bXor .u32 (rotr 17 ((sch (cQ L len q) t).getD (t - 2) 0)) (rotr 19 ((sch (cQ L len q) t).getD (t - 2) 0))) (Int.fdiv ((sch (cQ L len q) t).getD (t - 2) 0) (2 ^ (10 : Nat)))) + ((sch (cQ L len q) t).getD (t - 7) 0))) + (bXor .u32 (bXor .u32 (rotr 7 ((sch (cQ L len q) t).getD (t - 15) 0)) (rotr 18 ((sch (cQ L len q) t).getD (t - 15) 0))) (Int.fdiv ((sch (cQ L len q) t).getD (t - 15) 0) (2 ^ (3 : Nat)))))) + ((sch (cQ L len q) t).getD (t - 16) 0)))) ++ [])] rfl rfl rfl rfl rfl rfl (by kernel_rfl) (okCs_vals _) (fun ρ => by rw [flat_vals, List.length_append, iV_len]; have : t < ((sch (cQ L len q) t) : List Int).length := (by rw [sch_len]; omega); simp only [SV.chunks, sz]; omega) (fun ρ => rowi_set (i := t) (by rw [sch_len]; omega) (by omega) ρ)) (sub_of [2, 23, 44, 304] (by kernel_rfl)) ?_
            refine wa_done (by kernel_rfl) ?_
            refine we_rest [2, 3, 4, 5, 6, 7, 8] [2, 23, 44, 51, 304] (l' := [(2, eL 2 0), (3, .s (.a (.ls 23 0 8 c1))), (4, .s (.a (.ls 304 0 64 c2))), (5, .s (.a (.ls 44 0 ((aL L len).length) c7))), (6, eI .i64 ((64 * q : Nat) : Int)), (7, .s (.a (.ls 51 0 64 64))), (8, eI .i64 ((t : Nat) : Int))]) (H' := [(2, ⟨[.ints .u8 32 (List.replicate 32 0)], 24⟩), (23, ⟨[.vals (iV .u32 (hsQ L len q) ++ r1)], 79⟩), (44, ⟨[.vals (bV (aL L len) ++ r7)], 5⟩), (51, ⟨[.vals (iV .u32 ((sch (cQ L len q) t).set t (IntKind.wrap .u32 ((IntKind.wrap .u32 ((IntKind.wrap .u32 ((bXor .u32 (bXor .u32 (rotr 17 ((sch (cQ L len q) t).getD (t - 2) 0)) (rotr 19 ((sch (cQ L len q) t).getD (t - 2) 0))) (Int.fdiv ((sch (cQ L len q) t).getD (t - 2) 0) (2 ^ (10 : Nat)))) + ((sch (cQ L len q) t).getD (t - 7) 0))) + (bXor .u32 (bXor .u32 (rotr 7 ((sch (cQ L len q) t).getD (t - 15) 0)) (rotr 18 ((sch (cQ L len q) t).getD (t - 15) 0))) (Int.fdiv ((sch (cQ L len q) t).getD (t - 15) 0) (2 ^ (3 : Nat)))))) + ((sch (cQ L len q) t).getD (t - 16) 0)))) ++ [])], 79⟩), (304, ⟨[.vals (iV .u32 shaK ++ r2)], 79⟩)]) (by kernel_rfl) (by kernel_rfl) ?_
            refine we_block ?_
            refine we_then ?_
            refine wc_reg [0, 1, 2] (by kernel_rfl) ?_
            refine wo_run [0] [2, 3, 4, 5, 6, 7, 54] [2, 23, 44, 51, 304] (l' := [(2, eL 2 0), (3, .s (.a (.ls 23 0 8 c1))), (4, .s (.a (.ls 304 0 64 c2))), (5, .s (.a (.ls 44 0 ((aL L len).length) c7))), (6, eI .i64 ((64 * q : Nat) : Int)), (7, .s (.a (.ls 51 0 64 64))), (54, eI .i64 ((t : Nat) : Int))]) (H' := [(2, ⟨[.ints .u8 32 (List.replicate 32 0)], 24⟩), (23, ⟨[.vals (iV .u32 (hsQ L len q) ++ r1)], 79⟩), (44, ⟨[.vals (bV (aL L len) ++ r7)], 5⟩), (51, ⟨[.vals (iV .u32 ((sch (cQ L len q) t).set t (IntKind.wrap .u32 ((IntKind.wrap .u32 ((IntKind.wrap .u32 ((bXor .u32 (bXor .u32 (rotr 17 ((sch (cQ L len q) t).getD (t - 2) 0)) (rotr 19 ((sch (cQ L len q) t).getD (t - 2) 0))) (Int.fdiv ((sch (cQ L len q) t).getD (t - 2) 0) (2 ^ (10 : Nat)))) + ((sch (cQ L len q) t).getD (t - 7) 0))) + (bXor .u32 (bXor .u32 (rotr 7 ((sch (cQ L len q) t).getD (t - 15) 0)) (rotr 18 ((sch (cQ L len q) t).getD (t - 15) 0))) (Int.fdiv ((sch (cQ L len q) t).getD (t - 15) 0) (2 ^ (3 : Nat)))))) + ((sch (cQ L len q) t).getD (t - 16) 0)))) ++ [])], 79⟩), (304, ⟨[.vals (iV .u32 shaK ++ r2)], 79⟩)]) (by kernel_rfl) ?_
            refine wo_op rfl rfl (ot_rd rfl (rd_recast (e := eI .i64 (IntKind.wrap .i64 (((t : Nat) : Int) + 1))) (eI .i64 ((t + 1 : Nat) : Int)) (by kernel_rfl) (congrArg (fun z => eI .i64 z) (w_add_i64 (a := t) (b := 1) (by omega))))) ?_
            refine wo_run [2] [2, 3, 4, 5, 6, 7, 8] [2, 23, 44, 51, 304] (l' := [(2, eL 2 0), (3, .s (.a (.ls 23 0 8 c1))), (4, .s (.a (.ls 304 0 64 c2))), (5, .s (.a (.ls 44 0 ((aL L len).length) c7))), (6, eI .i64 ((64 * q : Nat) : Int)), (7, .s (.a (.ls 51 0 64 64))), (8, eI .i64 ((t + 1 : Nat) : Int))]) (H' := [(2, ⟨[.ints .u8 32 (List.replicate 32 0)], 24⟩), (23, ⟨[.vals (iV .u32 (hsQ L len q) ++ r1)], 79⟩), (44, ⟨[.vals (bV (aL L len) ++ r7)], 5⟩), (51, ⟨[.vals (iV .u32 ((sch (cQ L len q) t).set t (IntKind.wrap .u32 ((IntKind.wrap .u32 ((IntKind.wrap .u32 ((bXor .u32 (bXor .u32 (rotr 17 ((sch (cQ L len q) t).getD (t - 2) 0)) (rotr 19 ((sch (cQ L len q) t).getD (t - 2) 0))) (Int.fdiv ((sch (cQ L len q) t).getD (t - 2) 0) (2 ^ (10 : Nat)))) + ((sch (cQ L len q) t).getD (t - 7) 0))) + (bXor .u32 (bXor .u32 (rotr 7 ((sch (cQ L len q) t).getD (t - 15) 0)) (rotr 18 ((sch (cQ L len q) t).getD (t - 15) 0))) (Int.fdiv ((sch (cQ L len q) t).getD (t - 15) 0) (2 ^ (3 : Nat)))))) + ((sch (cQ L len q) t).getD (t - 16) 0)))) ++ [])], 79⟩), (304, ⟨[.vals (iV .u32 shaK ++ r2)], 79⟩)]) (by kernel_rfl) ?_
            refine wo_nil ?_
            refine we_rest [2, 3, 4, 5, 6, 7, 8] [2, 23, 44, 51, 304] (l' := [(2, eL 2 0), (3, .s (.a (.ls 23 0 8 c1))), (4, .s (.a (.ls 304 0 64 c2))), (5, .s (.a (.ls 44 0 ((aL L len).length) c7))), (6, eI .i64 ((64 * q : Nat) : Int)), (7, .s (.a (.ls 51 0 64 64))), (8, eI .i64 ((t + 1 : Nat) : Int))]) (H' := [(2, ⟨[.ints .u8 32 (List.replicate 32 0)], 24⟩), (23, ⟨[.vals (iV .u32 (hsQ L len q) ++ r1)], 79⟩), (44, ⟨[.vals (bV (aL L len) ++ r7)], 5⟩), (51, ⟨[.vals (iV .u32 ((sch (cQ L len q) t).set t (IntKind.wrap .u32 ((IntKind.wrap .u32 ((IntKind.wrap .u32 ((bXor .u32 (bXor .u32 (rotr 17 ((sch (cQ L len q) t).getD (t - 2) 0)) (rotr 19 ((sch (cQ L len q) t).getD (t - 2) 0))) (Int.fdiv ((sch (cQ L len q) t).getD (t - 2) 0) (2 ^ (10 : Nat)))) + ((sch (cQ L len q) t).getD (t - 7) 0))) + (bXor .u32 (bXor .u32 (rotr 7 ((sch (cQ L len q) t).getD (t - 15) 0)) (rotr 18 ((sch (cQ L len q) t).getD (t - 15) 0))) (Int.fdiv ((sch (cQ L len q) t).getD (t - 15) 0) (2 ^ (3 : Nat)))))) + ((sch (cQ L len q) t).getD (t - 16) 0)))) ++ [])], 79⟩), (304, ⟨[.vals (iV .u32 shaK ++ r2)], 79⟩)]) (by kernel_rfl) (by kernel_rfl) ?_
            rw [show ((sch (cQ L len q) t).set t (IntKind.wrap .u32 ((IntKind.wrap .u32 ((IntKind.wrap .u32 ((bXor .u32 (bXor .u32 (rotr 17 ((sch (cQ L len q) t).getD (t - 2) 0)) (rotr 19 ((sch (cQ L len q) t).getD (t - 2) 0))) (Int.fdiv ((sch (cQ L len q) t).getD (t - 2) 0) (2 ^ (10 : Nat)))) + ((sch (cQ L len q) t).getD (t - 7) 0))) + (bXor .u32 (bXor .u32 (rotr 7 ((sch (cQ L len q) t).getD (t - 15) 0)) (rotr 18 ((sch (cQ L len q) t).getD (t - 15) 0))) (Int.fdiv ((sch (cQ L len q) t).getD (t - 15) 0) (2 ^ (3 : Nat)))))) + ((sch (cQ L len q) t).getD (t - 16) 0)))) = (sch (cQ L len q) (t + 1)) from by simp only [sch]; rw [if_neg (by omega), ← nxtR]; rfl]
            exact we_round (t + 1) (by show t + 1 ≤ 64; omega) (by show 64 - (t + 1) < 64 - t; omega) rfl (sub_ofE [2, 3, 4, 5, 6, 7, 8] rfl) (sub_of [2, 23, 44, 51, 304] rfl)
      · replace h3 := of_decide_eq_false h3
        refine wc_exit ?_
        refine we_then_exit ?_
        refine we_then_exit ?_
        refine we_block_exit ?_
        refine we_then ?_
        refine wc_seq ?_
        obtain rfl : t = 64 := by omega
        refine wc_reg [0, 1, 2, 3] (by kernel_rfl) ?_
        refine wo_op rfl rfl (ot_bslice (e := 79) (d := 152) (n := 0) (size := 1) [] [] rfl rfl rfl (by kernel_rfl) rfl (by kernel_rfl) okc_nil (fun _ => rfl) (by kernel_rfl) (by kernel_rfl)) ?_
        refine wo_flat 152 [.vals (iV .u32 [] ++ [])] rfl (fun ρ => rfl) (okCs_vals _) ?_
        refine wo_run [1] [2, 3, 4, 5, 6, 7, 152, 153] [2, 23, 44, 51, 152, 304] (l' := [(2, eL 2 0), (3, .s (.a (.ls 23 0 8 c1))), (4, .s (.a (.ls 304 0 64 c2))), (5, .s (.a (.ls 44 0 ((aL L len).length) c7))), (6, eI .i64 ((64 * q : Nat) : Int)), (7, .s (.a (.ls 51 0 64 64))), (152, .s (.a (.ls 152 0 0 0))), (153, .s (.a (.ls 23 0 8 c1)))]) (H' := [(2, ⟨[.ints .u8 32 (List.replicate 32 0)], 24⟩), (23, ⟨[.vals (iV .u32 (hsQ L len q) ++ r1)], 79⟩), (44, ⟨[.vals (bV (aL L len) ++ r7)], 5⟩), (51, ⟨[.vals (iV .u32 (sQ L len q) ++ [])], 79⟩), (152, ⟨[.vals (iV .u32 [] ++ [])], 79⟩), (304, ⟨[.vals (iV .u32 shaK ++ r2)], 79⟩)]) (by kernel_rfl) ?_
        refine wo_ox rfl rfl (ox_appendS (e := 79) (m := 8) (size := 1) (bytes := 4) 154 152 0 0 (iV .u32 ([])) ((hsQ L len q).map (Value.int .u32)) [] [2, 23, 44, 51, 304] rfl rfl (by kernel_rfl) (by kernel_rfl) (by kernel_rfl) rfl rfl (by simp [bV, iV]) (rfl) (Nat.le_refl _) (Nat.zero_le _) (srcof_row (e' := 79) rfl (by kernel_rfl) rfl (hfold_len _ _ rfl q)) (by simp only [maxLen]; omega) (by omega) (by kernel_rfl)) (fun ⟨c8, r8⟩ hc8 _ => ?_)
        refine wo_flat 154 [.vals (iV .u32 ([] ++ (hsQ L len q)) ++ r8)] rfl (fun ρ => by simp only [bV, iV, List.map_append]) (okCs_vals _) ?_
        refine wo_run [] [2, 3, 4, 5, 6, 7, 154] [2, 23, 44, 51, 154, 304] (l' := [(2, eL 2 0), (3, .s (.a (.ls 23 0 8 c1))), (4, .s (.a (.ls 304 0 64 c2))), (5, .s (.a (.ls 44 0 ((aL L len).length) c7))), (6, eI .i64 ((64 * q : Nat) : Int)), (7, .s (.a (.ls 51 0 64 64))), (154, .s (.a (.ls 154 0 8 c8)))]) (H' := [(2, ⟨[.ints .u8 32 (List.replicate 32 0)], 24⟩), (23, ⟨[.vals (iV .u32 (hsQ L len q) ++ r1)], 79⟩), (44, ⟨[.vals (bV (aL L len) ++ r7)], 5⟩), (51, ⟨[.vals (iV .u32 (sQ L len q) ++ [])], 79⟩), (154, ⟨[.vals (iV .u32 ([] ++ (hsQ L len q)) ++ r8)], 79⟩), (304, ⟨[.vals (iV .u32 shaK ++ r2)], 79⟩)]) (by kernel_rfl) ?_
        refine wo_run [3] [2, 3, 4, 5, 6, 7, 12] [2, 23, 44, 51, 154, 304] (l' := [(2, eL 2 0), (3, .s (.a (.ls 23 0 8 c1))), (4, .s (.a (.ls 304 0 64 c2))), (5, .s (.a (.ls 44 0 ((aL L len).length) c7))), (6, eI .i64 ((64 * q : Nat) : Int)), (7, .s (.a (.ls 51 0 64 64))), (12, .s (.a (.ls 154 0 8 c8)))]) (H' := [(2, ⟨[.ints .u8 32 (List.replicate 32 0)], 24⟩), (23, ⟨[.vals (iV .u32 (hsQ L len q) ++ r1)], 79⟩), (44, ⟨[.vals (bV (aL L len) ++ r7)], 5⟩), (51, ⟨[.vals (iV .u32 (sQ L len q) ++ [])], 79⟩), (154, ⟨[.vals (iV .u32 ([] ++ (hsQ L len q)) ++ r8)], 79⟩), (304, ⟨[.vals (iV .u32 shaK ++ r2)], 79⟩)]) (by kernel_rfl) ?_
        refine wo_nil ?_
        refine we_then ?_
        refine wc_seq ?_
        refine wc_seq ?_
        refine wc_reg [0] (by kernel_rfl) ?_
        refine wo_run [0] [2, 3, 4, 5, 6, 7, 12, 13] [2, 23, 44, 51, 154, 304] (l' := [(2, eL 2 0), (3, .s (.a (.ls 23 0 8 c1))), (4, .s (.a (.ls 304 0 64 c2))), (5, .s (.a (.ls 44 0 ((aL L len).length) c7))), (6, eI .i64 ((64 * q : Nat) : Int)), (7, .s (.a (.ls 51 0 64 64))), (12, .s (.a (.ls 154 0 8 c8))), (13, eI .i64 0)]) (H' := [(2, ⟨[.ints .u8 32 (List.replicate 32 0)], 24⟩), (23, ⟨[.vals (iV .u32 (hsQ L len q) ++ r1)], 79⟩), (44, ⟨[.vals (bV (aL L len) ++ r7)], 5⟩), (51, ⟨[.vals (iV .u32 (sQ L len q) ++ [])], 79⟩), (154, ⟨[.vals (iV .u32 ([] ++ (hsQ L len q)) ++ r8)], 79⟩), (304, ⟨[.vals (iV .u32 shaK ++ r2)], 79⟩)]) (by kernel_rfl) ?_
        refine wo_nil ?_
        refine we_then ?_
        refine wc_block ?_
        refine wc_rest [2, 3, 4, 5, 6, 7, 12, 13] [2, 23, 44, 51, 154, 304] (l' := [(2, eL 2 0), (3, .s (.a (.ls 23 0 8 c1))), (4, .s (.a (.ls 304 0 64 c2))), (5, .s (.a (.ls 44 0 ((aL L len).length) c7))), (6, eI .i64 ((64 * q : Nat) : Int)), (7, .s (.a (.ls 51 0 64 64))), (12, .s (.a (.ls 154 0 8 c8))), (13, eI .i64 0)]) (H' := [(2, ⟨[.ints .u8 32 (List.replicate 32 0)], 24⟩), (23, ⟨[.vals (iV .u32 (hsQ L len q) ++ r1)], 79⟩), (44, ⟨[.vals (bV (aL L len) ++ r7)], 5⟩), (51, ⟨[.vals (iV .u32 (sQ L len q) ++ [])], 79⟩), (154, ⟨[.vals (iV .u32 ([] ++ (hsQ L len q)) ++ r8)], 79⟩), (304, ⟨[.vals (iV .u32 shaK ++ r2)], 79⟩)]) (by kernel_rfl) ?_
        refine wc_loop (τ := Nat × Nat × List Value) (fun ⟨t, cv, rv⟩ => t ≤ 64) (fun ⟨t, cv, rv⟩ => 64 - t) (fun _ => _) (fun ⟨t, cv, rv⟩ => [(2, eL 2 0), (3, .s (.a (.ls 23 0 8 c1))), (4, .s (.a (.ls 304 0 64 c2))), (5, .s (.a (.ls 44 0 ((aL L len).length) c7))), (6, eI .i64 ((64 * q : Nat) : Int)), (7, .s (.a (.ls 51 0 64 64))), (12, .s (.a (.ls 154 0 8 cv))), (13, eI .i64 ((t : Nat) : Int))]) (fun ⟨t, cv, rv⟩ => [(2, ⟨[.ints .u8 32 (List.replicate 32 0)], 24⟩), (23, ⟨[.vals (iV .u32 (hsQ L len q) ++ r1)], 79⟩), (44, ⟨[.vals (bV (aL L len) ++ r7)], 5⟩), (51, ⟨[.vals (iV .u32 (sQ L len q) ++ [])], 79⟩), (154, ⟨[.vals (iV .u32 (rQ L len q t) ++ rv)], 79⟩), (304, ⟨[.vals (iV .u32 shaK ++ r2)], 79⟩)]) (0, c8, r8) (Nat.zero_le _) rfl rfl rfl ?_
        rintro ⟨t, cv, rv⟩ hj
        have ht : t ≤ 64 := hj
        refine wc_seq ?_
        refine wc_seq ?_
        refine wc_reg [0, 1] (by kernel_rfl) ?_
        refine wo_run [0, 1] [2, 3, 4, 5, 6, 7, 12, 13, 156] [2, 23, 44, 51, 154, 304] (l' := [(2, eL 2 0), (3, .s (.a (.ls 23 0 8 c1))), (4, .s (.a (.ls 304 0 64 c2))), (5, .s (.a (.ls 44 0 ((aL L len).length) c7))), (6, eI .i64 ((64 * q : Nat) : Int)), (7, .s (.a (.ls 51 0 64 64))), (12, .s (.a (.ls 154 0 8 cv))), (13, eI .i64 ((t : Nat) : Int)), (156, eB (decide (((t : Nat) : Int) < 64)))]) (H' := [(2, ⟨[.ints .u8 32 (List.replicate 32 0)], 24⟩), (23, ⟨[.vals (iV .u32 (hsQ L len q) ++ r1)], 79⟩), (44, ⟨[.vals (bV (aL L len) ++ r7)], 5⟩), (51, ⟨[.vals (iV .u32 (sQ L len q) ++ [])], 79⟩), (154, ⟨[.vals (iV .u32 (rQ L len q t) ++ rv)], 79⟩), (304, ⟨[.vals (iV .u32 shaK ++ r2)], 79⟩)]) (by kernel_rfl) ?_
        refine wo_nil ?_
        refine we_then ?_
        refine wc_cond rfl (fun h5 => ?_) (fun h5 => ?_)
        · replace h5 := of_decide_eq_true h5
          refine wc_skip ?_
          refine we_then ?_
          refine wc_seq ?_
          refine wc_block ?_
          refine wc_seq ?_
          refine wc_rest [2, 3, 4, 5, 6, 7, 12, 13] [2, 23, 44, 51, 154, 304] (l' := [(2, eL 2 0), (3, .s (.a (.ls 23 0 8 c1))), (4, .s (.a (.ls 304 0 64 c2))), (5, .s (.a (.ls 44 0 ((aL L len).length) c7))), (6, eI .i64 ((64 * q : Nat) : Int)), (7, .s (.a (.ls 51 0 64 64))), (12, .s (.a (.ls 154 0 8 cv))), (13, eI .i64 ((t : Nat) : Int))]) (H' := [(2, ⟨[.ints .u8 32 (List.replicate 32 0)], 24⟩), (23, ⟨[.vals (iV .u32 (hsQ L len q) ++ r1)], 79⟩), (44, ⟨[.vals (bV (aL L len) ++ r7)], 5⟩), (51, ⟨[.vals (iV .u32 (sQ L len q) ++ [])], 79⟩), (154, ⟨[.vals (iV .u32 (rQ L len q t) ++ rv)], 79⟩), (304, ⟨[.vals (iV .u32 shaK ++ r2)], 79⟩)]) (by kernel_rfl) ?_
          refine wc_draw (n := 15) [(2, ⟨[.ints .u8 32 (List.replicate 32 0)], 24⟩), (23, ⟨[.vals (iV .u32 (hsQ L len q) ++ r1)], 79⟩), (44, ⟨[.vals (bV (aL L len) ++ r7)], 5⟩), (51, ⟨[.vals (iV .u32 (sQ L len q) ++ [])], 79⟩), (154, ⟨[.vals (iV .u32 (rQ L len q t) ++ rv)], 79⟩), (304, ⟨[.vals (iV .u32 shaK ++ r2)], 79⟩)] (by kernel_rfl) rfl (sub_of [2, 23, 44, 51, 154, 304] (by kernel_rfl)) (fun ρ0 => ?_)
          refine wa_takes (fuel := 12) [0, 4, 9] [2, 3, 4, 5, 6, 7, 12, 13, 159, 163, 168] (listed' := (bs [1, 3, 1, 4, 1, 5])) (l' := [(2, eL 2 0), (3, .s (.a (.ls 23 0 8 c1))), (4, .s (.a (.ls 304 0 64 c2))), (5, .s (.a (.ls 44 0 ((aL L len).length) c7))), (6, eI .i64 ((64 * q : Nat) : Int)), (7, .s (.a (.ls 51 0 64 64))), (12, .s (.a (.ls 154 0 8 cv))), (13, eI .i64 ((t : Nat) : Int)), (159, .s (.a (.ls 154 0 8 cv))), (163, .s (.a (.ls 154 0 8 cv))), (168, .s (.a (.ls 154 0 8 cv)))]) (pk_then (pk_block (pk_then (pk_then (pk_block (pk_then (pk_block (pk_then (pk_then (pk_block (pk_then pk_body))))))))))) rfl (by kernel_rfl) ?_
          refine wa_take 1 (pk_then (pk_block (pk_then (pk_then (pk_block (pk_then (pk_block (pk_then (pk_then (pk_block (pk_then pk_body))))))))))) rfl (by kernel_rfl) rfl rfl (rd_indexL (e := 79) 1 4 4 rfl (by kernel_rfl) (by kernel_rfl) rfl rfl (rfl) (by decide)) ?_
          refine wa_take 2 (pk_then (pk_block (pk_then (pk_then (pk_block (pk_then (pk_block (pk_then (pk_then (pk_block (pk_then pk_body))))))))))) rfl (by kernel_rfl) rfl rfl (rd_cellS (b := ⟨[.vals (iV .u32 (rQ L len q t) ++ rv)], 79⟩) (.v (.int .u32 ((rQ L len q t).getD 4 0))) rfl rfl rfl (by kernel_rfl) (fun ρ => rowi_at (i := 4) (by rw [rnds_len _ _ (hfold_len _ _ rfl q)]; omega) (by omega) ρ)) ?_
          refine wa_take 5 (pk_then (pk_block (pk_then (pk_then (pk_block (pk_then (pk_block (pk_then (pk_then (pk_block (pk_then pk_body))))))))))) rfl (by kernel_rfl) rfl rfl (rd_indexL (e := 79) 1 4 4 rfl (by kernel_rfl) (by kernel_rfl) rfl rfl (rfl) (by decide)) ?_
          refine wa_take 6 (pk_then (pk_block (pk_then (pk_then (pk_block (pk_then (pk_block (pk_then (pk_then (pk_block (pk_then pk_body))))))))))) rfl (by kernel_rfl) rfl rfl (rd_cellS (b := ⟨[.vals (iV .u32 (rQ L len q t) ++ rv)], 79⟩) (.v (.int .u32 ((rQ L len q t).getD 4 0))) rfl rfl rfl (by kernel_rfl) (fun ρ => rowi_at (i := 4) (by rw [rnds_len _ _ (hfold_len _ _ rfl q)]; omega) (by omega) ρ)) ?_
          refine wa_take 10 (pk_then (pk_block (pk_then (pk_then (pk_block (pk_then (pk_block (pk_then (pk_then (pk_block (pk_then pk_body))))))))))) rfl (by kernel_rfl) rfl rfl (rd_indexL (e := 79) 1 4 4 rfl (by kernel_rfl) (by kernel_rfl) rfl rfl (rfl) (by decide)) ?_
          refine wa_take 11 (pk_then (pk_block (pk_then (pk_then (pk_block (pk_then (pk_block (pk_then (pk_then (pk_block (pk_then pk_body))))))))))) rfl (by kernel_rfl) rfl rfl (rd_cellS (b := ⟨[.vals (iV .u32 (rQ L len q t) ++ rv)], 79⟩) (.v (.int .u32 ((rQ L len q t).getD 4 0))) rfl rfl rfl (by kernel_rfl) (fun ρ => rowi_at (i := 4) (by rw [rnds_len _ _ (hfold_len _ _ rfl q)]; omega) (by omega) ρ)) ?_
          refine wa_all [3] (by kernel_rfl) rfl (all1 ?_)
          refine wi_op rfl rfl (ot_call (vs := [sI .u32 ((rQ L len q t).getD 4 0), sI .i64 6]) rfl rfl rfl Tryd.func42 (by kernel_rfl) (by kernel_rfl) (by kernel_rfl) (eI .u32 (rotr 6 ((rQ L len q t).getD 4 0))) (trivial) (fun ρ w _ => rrot6_any ((rQ L len q t).getD 4 0) w ρ)) (sub_of [2, 23, 44, 51, 154, 304] (by kernel_rfl)) ?_
          refine wa_all [7] (by kernel_rfl) rfl (all1 ?_)
          refine wi_op rfl rfl (ot_call (vs := [sI .u32 ((rQ L len q t).getD 4 0), sI .i64 11]) rfl rfl rfl Tryd.func42 (by kernel_rfl) (by kernel_rfl) (by kernel_rfl) (eI .u32 (rotr 11 ((rQ L len q t).getD 4 0))) (trivial) (fun ρ w _ => rrot11_any ((rQ L len q t).getD 4 0) w ρ)) (sub_of [2, 23, 44, 51, 154, 304] (by kernel_rfl)) ?_
          refine wa_takes (fuel := 3) [8] [2, 3, 4, 5, 6, 7, 12, 13, 167, 170] (listed' := (bs [12, 3])) (l' := [(2, eL 2 0), (3, .s (.a (.ls 23 0 8 c1))), (4, .s (.a (.ls 304 0 64 c2))), (5, .s (.a (.ls 44 0 ((aL L len).length) c7))), (6, eI .i64 ((64 * q : Nat) : Int)), (7, .s (.a (.ls 51 0 64 64))), (12, .s (.a (.ls 154 0 8 cv))), (13, eI .i64 ((t : Nat) : Int)), (167, eI .u32 (bXor .u32 (rotr 6 ((rQ L len q t).getD 4 0)) (rotr 11 ((rQ L len q t).getD 4 0)))), (170, eI .u32 ((rQ L len q t).getD 4 0))]) (pk_then (pk_block (pk_then (pk_then (pk_block (pk_then (pk_block (pk_then (pk_then (pk_block (pk_then pk_body))))))))))) rfl (by kernel_rfl) ?_
          refine wa_all [12] (by kernel_rfl) rfl (all1 ?_)
          refine wi_op rfl rfl (ot_call (vs := [sI .u32 ((rQ L len q t).getD 4 0), sI .i64 25]) rfl rfl rfl Tryd.func42 (by kernel_rfl) (by kernel_rfl) (by kernel_rfl) (eI .u32 (rotr 25 ((rQ L len q t).getD 4 0))) (trivial) (fun ρ w _ => rrot25_any ((rQ L len q t).getD 4 0) w ρ)) (sub_of [2, 23, 44, 51, 154, 304] (by kernel_rfl)) ?_
          refine wa_takes (fuel := 0) [13, 14] [2, 3, 4, 5, 6, 7, 12, 13, 14] (listed' := (bs [15])) (l' := [(2, eL 2 0), (3, .s (.a (.ls 23 0 8 c1))), (4, .s (.a (.ls 304 0 64 c2))), (5, .s (.a (.ls 44 0 ((aL L len).length) c7))), (6, eI .i64 ((64 * q : Nat) : Int)), (7, .s (.a (.ls 51 0 64 64))), (12, .s (.a (.ls 154 0 8 cv))), (13, eI .i64 ((t : Nat) : Int)), (14, eI .u32 (bXor .u32 (bXor .u32 (rotr 6 ((rQ L len q t).getD 4 0)) (rotr 11 ((rQ L len q t).getD 4 0))) (rotr 25 ((rQ L len q t).getD 4 0))))]) (pk_then (pk_block (pk_then (pk_then (pk_block (pk_then (pk_block (pk_then (pk_then (pk_block (pk_then pk_body))))))))))) rfl (by kernel_rfl) ?_
          refine wa_done (by kernel_rfl) ?_
          refine we_rest [2, 3, 4, 5, 6, 7, 12, 13, 14] [2, 23, 44, 51, 154, 304] (l' := [(2, eL 2 0), (3, .s (.a (.ls 23 0 8 c1))), (4, .s (.a (.ls 304 0 64 c2))), (5, .s (.a (.ls 44 0 ((aL L len).length) c7))), (6, eI .i64 ((64 * q : Nat) : Int)), (7, .s (.a (.ls 51 0 64 64))), (12, .s (.a (.ls 154 0 8 cv))), (13, eI .i64 ((t : Nat) : Int)), (14, eI .u32 (bXor .u32 (bXor .u32 (rotr 6 ((rQ L len q t).getD 4 0)) (rotr 11 ((rQ L len q t).getD 4 0))) (rotr 25 ((rQ L len q t).getD 4 0))))]) (H' := [(2, ⟨[.ints .u8 32 (List.replicate 32 0)], 24⟩), (23, ⟨[.vals (iV .u32 (hsQ L len q) ++ r1)], 79⟩), (44, ⟨[.vals (bV (aL L len) ++ r7)], 5⟩), (51, ⟨[.vals (iV .u32 (sQ L len q) ++ [])], 79⟩), (154, ⟨[.vals (iV .u32 (rQ L len q t) ++ rv)], 79⟩), (304, ⟨[.vals (iV .u32 shaK ++ r2)], 79⟩)]) (by kernel_rfl) (by kernel_rfl) ?_
          refine we_then ?_
          refine wc_seq ?_
          refine wc_draw (n := 17) [(2, ⟨[.ints .u8 32 (List.replicate 32 0)], 24⟩), (23, ⟨[.vals (iV .u32 (hsQ L len q) ++ r1)], 79⟩), (44, ⟨[.vals (bV (aL L len) ++ r7)], 5⟩), (51, ⟨[.vals (iV .u32 (sQ L len q) ++ [])], 79⟩), (154, ⟨[.vals (iV .u32 (rQ L len q t) ++ rv)], 79⟩), (304, ⟨[.vals (iV .u32 shaK ++ r2)], 79⟩)] (by kernel_rfl) rfl (sub_of [2, 23, 44, 51, 154, 304] (by kernel_rfl)) (fun ρ0 => ?_)
          refine wa_takes (fuel := 13) [0, 3, 7, 11] [2, 3, 4, 5, 6, 7, 12, 13, 14, 173, 176, 180, 184] (listed' := (bs [1, 2, 1, 3, 1, 3, 1, 5])) (l' := [(2, eL 2 0), (3, .s (.a (.ls 23 0 8 c1))), (4, .s (.a (.ls 304 0 64 c2))), (5, .s (.a (.ls 44 0 ((aL L len).length) c7))), (6, eI .i64 ((64 * q : Nat) : Int)), (7, .s (.a (.ls 51 0 64 64))), (12, .s (.a (.ls 154 0 8 cv))), (13, eI .i64 ((t : Nat) : Int)), (14, eI .u32 (bXor .u32 (bXor .u32 (rotr 6 ((rQ L len q t).getD 4 0)) (rotr 11 ((rQ L len q t).getD 4 0))) (rotr 25 ((rQ L len q t).getD 4 0)))), (173, .s (.a (.ls 154 0 8 cv))), (176, .s (.a (.ls 154 0 8 cv))), (180, .s (.a (.ls 154 0 8 cv))), (184, .s (.a (.ls 154 0 8 cv)))]) (pk_then (pk_block (pk_then (pk_then (pk_block (pk_then (pk_block (pk_then (pk_then (pk_block (pk_then pk_body))))))))))) rfl (by kernel_rfl) ?_
          refine wa_take 1 (pk_then (pk_block (pk_then (pk_then (pk_block (pk_then (pk_block (pk_then (pk_then (pk_block (pk_then pk_body))))))))))) rfl (by kernel_rfl) rfl rfl (rd_indexL (e := 79) 1 4 4 rfl (by kernel_rfl) (by kernel_rfl) rfl rfl (rfl) (by decide)) ?_
          refine wa_take 2 (pk_then (pk_block (pk_then (pk_then (pk_block (pk_then (pk_block (pk_then (pk_then (pk_block (pk_then pk_body))))))))))) rfl (by kernel_rfl) rfl rfl (rd_cellS (b := ⟨[.vals (iV .u32 (rQ L len q t) ++ rv)], 79⟩) (.v (.int .u32 ((rQ L len q t).getD 4 0))) rfl rfl rfl (by kernel_rfl) (fun ρ => rowi_at (i := 4) (by rw [rnds_len _ _ (hfold_len _ _ rfl q)]; omega) (by omega) ρ)) ?_
          refine wa_take 4 (pk_then (pk_block (pk_then (pk_then (pk_block (pk_then (pk_block (pk_then (pk_then (pk_block (pk_then pk_body))))))))))) rfl (by kernel_rfl) rfl rfl (rd_indexL (e := 79) 1 5 5 rfl (by kernel_rfl) (by kernel_rfl) rfl rfl (rfl) (by decide)) ?_
          refine wa_take 5 (pk_then (pk_block (pk_then (pk_then (pk_block (pk_then (pk_block (pk_then (pk_then (pk_block (pk_then pk_body))))))))))) rfl (by kernel_rfl) rfl rfl (rd_cellS (b := ⟨[.vals (iV .u32 (rQ L len q t) ++ rv)], 79⟩) (.v (.int .u32 ((rQ L len q t).getD 5 0))) rfl rfl rfl (by kernel_rfl) (fun ρ => rowi_at (i := 5) (by rw [rnds_len _ _ (hfold_len _ _ rfl q)]; omega) (by omega) ρ)) ?_
          refine wa_takes (fuel := 8) [6] [2, 3, 4, 5, 6, 7, 12, 13, 14, 179, 180, 184] (listed' := (bs [8, 3, 1, 5])) (l' := [(2, eL 2 0), (3, .s (.a (.ls 23 0 8 c1))), (4, .s (.a (.ls 304 0 64 c2))), (5, .s (.a (.ls 44 0 ((aL L len).length) c7))), (6, eI .i64 ((64 * q : Nat) : Int)), (7, .s (.a (.ls 51 0 64 64))), (12, .s (.a (.ls 154 0 8 cv))), (13, eI .i64 ((t : Nat) : Int)), (14, eI .u32 (bXor .u32 (bXor .u32 (rotr 6 ((rQ L len q t).getD 4 0)) (rotr 11 ((rQ L len q t).getD 4 0))) (rotr 25 ((rQ L len q t).getD 4 0)))), (179, eI .u32 (bAnd .u32 ((rQ L len q t).getD 4 0) ((rQ L len q t).getD 5 0))), (180, .s (.a (.ls 154 0 8 cv))), (184, .s (.a (.ls 154 0 8 cv)))]) (pk_then (pk_block (pk_then (pk_then (pk_block (pk_then (pk_block (pk_then (pk_then (pk_block (pk_then pk_body))))))))))) rfl (by kernel_rfl) ?_
          refine wa_take 8 (pk_then (pk_block (pk_then (pk_then (pk_block (pk_then (pk_block (pk_then (pk_then (pk_block (pk_then pk_body))))))))))) rfl (by kernel_rfl) rfl rfl (rd_indexL (e := 79) 1 4 4 rfl (by kernel_rfl) (by kernel_rfl) rfl rfl (rfl) (by decide)) ?_
          refine wa_take 9 (pk_then (pk_block (pk_then (pk_then (pk_block (pk_then (pk_block (pk_then (pk_then (pk_block (pk_then pk_body))))))))))) rfl (by kernel_rfl) rfl rfl (rd_cellS (b := ⟨[.vals (iV .u32 (rQ L len q t) ++ rv)], 79⟩) (.v (.int .u32 ((rQ L len q t).getD 4 0))) rfl rfl rfl (by kernel_rfl) (fun ρ => rowi_at (i := 4) (by rw [rnds_len _ _ (hfold_len _ _ rfl q)]; omega) (by omega) ρ)) ?_
          refine wa_takes (fuel := 5) [10] [2, 3, 4, 5, 6, 7, 12, 13, 14, 179, 183, 184] (listed' := (bs [12, 5])) (l' := [(2, eL 2 0), (3, .s (.a (.ls 23 0 8 c1))), (4, .s (.a (.ls 304 0 64 c2))), (5, .s (.a (.ls 44 0 ((aL L len).length) c7))), (6, eI .i64 ((64 * q : Nat) : Int)), (7, .s (.a (.ls 51 0 64 64))), (12, .s (.a (.ls 154 0 8 cv))), (13, eI .i64 ((t : Nat) : Int)), (14, eI .u32 (bXor .u32 (bXor .u32 (rotr 6 ((rQ L len q t).getD 4 0)) (rotr 11 ((rQ L len q t).getD 4 0))) (rotr 25 ((rQ L len q t).getD 4 0)))), (179, eI .u32 (bAnd .u32 ((rQ L len q t).getD 4 0) ((rQ L len q t).getD 5 0))), (183, eI .u32 (bXor .u32 4294967295 ((rQ L len q t).getD 4 0))), (184, .s (.a (.ls 154 0 8 cv)))]) (pk_then (pk_block (pk_then (pk_then (pk_block (pk_then (pk_block (pk_then (pk_then (pk_block (pk_then pk_body))))))))))) rfl (by kernel_rfl) ?_
          refine wa_take 12 (pk_then (pk_block (pk_then (pk_then (pk_block (pk_then (pk_block (pk_then (pk_then (pk_block (pk_then pk_body))))))))))) rfl (by kernel_rfl) rfl rfl (rd_indexL (e := 79) 1 6 6 rfl (by kernel_rfl) (by kernel_rfl) rfl rfl (rfl) (by decide)) ?_
          refine wa_take 13 (pk_then (pk_block (pk_then (pk_then (pk_block (pk_then (pk_block (pk_then (pk_then (pk_block (pk_then pk_body))))))))))) rfl (by kernel_rfl) rfl rfl (rd_cellS (b := ⟨[.vals (iV .u32 (rQ L len q t) ++ rv)], 79⟩) (.v (.int .u32 ((rQ L len q t).getD 6 0))) rfl rfl rfl (by kernel_rfl) (fun ρ => rowi_at (i := 6) (by rw [rnds_len _ _ (hfold_len _ _ rfl q)]; omega) (by omega) ρ)) ?_
          refine wa_takes (fuel := 0) [14, 15, 16] [2, 3, 4, 5, 6, 7, 12, 13, 14, 15] (listed' := (bs [17])) (l' := [(2, eL 2 0), (3, .s (.a (.ls 23 0 8 c1))), (4, .s (.a (.ls 304 0 64 c2))), (5, .s (.a (.ls 44 0 ((aL L len).length) c7))), (6, eI .i64 ((64 * q : Nat) : Int)), (7, .s (.a (.ls 51 0 64 64))), (12, .s (.a (.ls 154 0 8 cv))), (13, eI .i64 ((t : Nat) : Int)), (14, eI .u32 (bXor .u32 (bXor .u32 (rotr 6 ((rQ L len q t).getD 4 0)) (rotr 11 ((rQ L len q t).getD 4 0))) (rotr 25 ((rQ L len q t).getD 4 0)))), (15, eI .u32 (bXor .u32 (bAnd .u32 ((rQ L len q t).getD 4 0) ((rQ L len q t).getD 5 0)) (bAnd .u32 (bXor .u32 4294967295 ((rQ L len q t).getD 4 0)) ((rQ L len q t).getD 6 0))))]) (pk_then (pk_block (pk_then (pk_then (pk_block (pk_then (pk_block (pk_then (pk_then (pk_block (pk_then pk_body))))))))))) rfl (by kernel_rfl) ?_
          refine wa_done (by kernel_rfl) ?_
          refine we_rest [2, 3, 4, 5, 6, 7, 12, 13, 14, 15] [2, 23, 44, 51, 154, 304] (l' := [(2, eL 2 0), (3, .s (.a (.ls 23 0 8 c1))), (4, .s (.a (.ls 304 0 64 c2))), (5, .s (.a (.ls 44 0 ((aL L len).length) c7))), (6, eI .i64 ((64 * q : Nat) : Int)), (7, .s (.a (.ls 51 0 64 64))), (12, .s (.a (.ls 154 0 8 cv))), (13, eI .i64 ((t : Nat) : Int)), (14, eI .u32 (bXor .u32 (bXor .u32 (rotr 6 ((rQ L len q t).getD 4 0)) (rotr 11 ((rQ L len q t).getD 4 0))) (rotr 25 ((rQ L len q t).getD 4 0)))), (15, eI .u32 (bXor .u32 (bAnd .u32 ((rQ L len q t).getD 4 0) ((rQ L len q t).getD 5 0)) (bAnd .u32 (bXor .u32 4294967295 ((rQ L len q t).getD 4 0)) ((rQ L len q t).getD 6 0))))]) (H' := [(2, ⟨[.ints .u8 32 (List.replicate 32 0)], 24⟩), (23, ⟨[.vals (iV .u32 (hsQ L len q) ++ r1)], 79⟩), (44, ⟨[.vals (bV (aL L len) ++ r7)], 5⟩), (51, ⟨[.vals (iV .u32 (sQ L len q) ++ [])], 79⟩), (154, ⟨[.vals (iV .u32 (rQ L len q t) ++ rv)], 79⟩), (304, ⟨[.vals (iV .u32 shaK ++ r2)], 79⟩)]) (by kernel_rfl) (by kernel_rfl) ?_
          refine we_then ?_
          refine wc_seq ?_
          refine wc_draw (n := 18) [(2, ⟨[.ints .u8 32 (List.replicate 32 0)], 24⟩), (23, ⟨[.vals (iV .u32 (hsQ L len q) ++ r1)], 79⟩), (44, ⟨[.vals (bV (aL L len) ++ r7)], 5⟩), (51, ⟨[.vals (iV .u32 (sQ L len q) ++ [])], 79⟩), (154, ⟨[.vals (iV .u32 (rQ L len q t) ++ rv)], 79⟩), (304, ⟨[.vals (iV .u32 shaK ++ r2)], 79⟩)] (by kernel_rfl) rfl (sub_of [2, 23, 44, 51, 154, 304] (by kernel_rfl)) (fun ρ0 => ?_)
          refine wa_takes (fuel := 11) [0, 3, 5, 7, 8, 12, 13] [2, 3, 4, 5, 6, 7, 12, 13, 189, 192, 194, 196, 197, 201, 202] (listed' := (bs [1, 2, 1, 1, 1, 1, 2, 3, 2, 4])) (l' := [(2, eL 2 0), (3, .s (.a (.ls 23 0 8 c1))), (4, .s (.a (.ls 304 0 64 c2))), (5, .s (.a (.ls 44 0 ((aL L len).length) c7))), (6, eI .i64 ((64 * q : Nat) : Int)), (7, .s (.a (.ls 51 0 64 64))), (12, .s (.a (.ls 154 0 8 cv))), (13, eI .i64 ((t : Nat) : Int)), (189, .s (.a (.ls 154 0 8 cv))), (192, eI .u32 (bXor .u32 (bXor .u32 (rotr 6 ((rQ L len q t).getD 4 0)) (rotr 11 ((rQ L len q t).getD 4 0))) (rotr 25 ((rQ L len q t).getD 4 0)))), (194, eI .u32 (bXor .u32 (bAnd .u32 ((rQ L len q t).getD 4 0) ((rQ L len q t).getD 5 0)) (bAnd .u32 (bXor .u32 4294967295 ((rQ L len q t).getD 4 0)) ((rQ L len q t).getD 6 0)))), (196, .s (.a (.ls 304 0 64 c2))), (197, eI .i64 ((t : Nat) : Int)), (201, .s (.a (.ls 51 0 64 64))), (202, eI .i64 ((t : Nat) : Int))]) (pk_then (pk_block (pk_then (pk_then (pk_block (pk_then (pk_block (pk_then (pk_then (pk_block (pk_then pk_body))))))))))) rfl (by kernel_rfl) ?_
          refine wa_take 1 (pk_then (pk_block (pk_then (pk_then (pk_block (pk_then (pk_block (pk_then (pk_then (pk_block (pk_then pk_body))))))))))) rfl (by kernel_rfl) rfl rfl (rd_indexL (e := 79) 1 7 7 rfl (by kernel_rfl) (by kernel_rfl) rfl rfl (rfl) (by decide)) ?_
          refine wa_take 2 (pk_then (pk_block (pk_then (pk_then (pk_block (pk_then (pk_block (pk_then (pk_then (pk_block (pk_then pk_body))))))))))) rfl (by kernel_rfl) rfl rfl (rd_cellS (b := ⟨[.vals (iV .u32 (rQ L len q t) ++ rv)], 79⟩) (.v (.int .u32 ((rQ L len q t).getD 7 0))) rfl rfl rfl (by kernel_rfl) (fun ρ => rowi_at (i := 7) (by rw [rnds_len _ _ (hfold_len _ _ rfl q)]; omega) (by omega) ρ)) ?_
          refine wa_takes (fuel := 7) [4, 6] [2, 3, 4, 5, 6, 7, 12, 13, 195, 196, 197, 201, 202] (listed' := (bs [9, 3, 2, 4])) (l' := [(2, eL 2 0), (3, .s (.a (.ls 23 0 8 c1))), (4, .s (.a (.ls 304 0 64 c2))), (5, .s (.a (.ls 44 0 ((aL L len).length) c7))), (6, eI .i64 ((64 * q : Nat) : Int)), (7, .s (.a (.ls 51 0 64 64))), (12, .s (.a (.ls 154 0 8 cv))), (13, eI .i64 ((t : Nat) : Int)), (195, eI .u32 (IntKind.wrap .u32 ((IntKind.wrap .u32 (((rQ L len q t).getD 7 0) + (bXor .u32 (bXor .u32 (rotr 6 ((rQ L len q t).getD 4 0)) (rotr 11 ((rQ L len q t).getD 4 0))) (rotr 25 ((rQ L len q t).getD 4 0))))) + (bXor .u32 (bAnd .u32 ((rQ L len q t).getD 4 0) ((rQ L len q t).getD 5 0)) (bAnd .u32 (bXor .u32 4294967295 ((rQ L len q t).getD 4 0)) ((rQ L len q t).getD 6 0)))))), (196, .s (.a (.ls 304 0 64 c2))), (197, eI .i64 ((t : Nat) : Int)), (201, .s (.a (.ls 51 0 64 64))), (202, eI .i64 ((t : Nat) : Int))]) (pk_then (pk_block (pk_then (pk_then (pk_block (pk_then (pk_block (pk_then (pk_then (pk_block (pk_then pk_body))))))))))) rfl (by kernel_rfl) ?_
          refine wa_take 9 (pk_then (pk_block (pk_then (pk_then (pk_block (pk_then (pk_block (pk_then (pk_then (pk_block (pk_then pk_body))))))))))) rfl (by kernel_rfl) rfl rfl (rd_indexL (e := 79) 1 t ((t : Nat) : Int) rfl (by kernel_rfl) (by kernel_rfl) rfl rfl (rfl) (by omega)) ?_
          refine wa_take 10 (pk_then (pk_block (pk_then (pk_then (pk_block (pk_then (pk_block (pk_then (pk_then (pk_block (pk_then pk_body))))))))))) rfl (by kernel_rfl) rfl rfl (rd_cellS (b := ⟨[.vals (iV .u32 shaK ++ r2)], 79⟩) (.v (.int .u32 (shaK.getD t 0))) rfl rfl rfl (by kernel_rfl) (fun ρ => rowi_at (i := t) (by show _ < 64; omega) (by omega) ρ)) ?_
          refine wa_takes (fuel := 4) [11] [2, 3, 4, 5, 6, 7, 12, 13, 200, 201, 202] (listed' := (bs [14, 4])) (l' := [(2, eL 2 0), (3, .s (.a (.ls 23 0 8 c1))), (4, .s (.a (.ls 304 0 64 c2))), (5, .s (.a (.ls 44 0 ((aL L len).length) c7))), (6, eI .i64 ((64 * q : Nat) : Int)), (7, .s (.a (.ls 51 0 64 64))), (12, .s (.a (.ls 154 0 8 cv))), (13, eI .i64 ((t : Nat) : Int)), (200, eI .u32 (IntKind.wrap .u32 ((IntKind.wrap .u32 ((IntKind.wrap .u32 (((rQ L len q t).getD 7 0) + (bXor .u32 (bXor .u32 (rotr 6 ((rQ L len q t).getD 4 0)) (rotr 11 ((rQ L len q t).getD 4 0))) (rotr 25 ((rQ L len q t).getD 4 0))))) + (bXor .u32 (bAnd .u32 ((rQ L len q t).getD 4 0) ((rQ L len q t).getD 5 0)) (bAnd .u32 (bXor .u32 4294967295 ((rQ L len q t).getD 4 0)) ((rQ L len q t).getD 6 0))))) + (shaK.getD t 0)))), (201, .s (.a (.ls 51 0 64 64))), (202, eI .i64 ((t : Nat) : Int))]) (pk_then (pk_block (pk_then (pk_then (pk_block (pk_then (pk_block (pk_then (pk_then (pk_block (pk_then pk_body))))))))))) rfl (by kernel_rfl) ?_
          refine wa_take 14 (pk_then (pk_block (pk_then (pk_then (pk_block (pk_then (pk_block (pk_then (pk_then (pk_block (pk_then pk_body))))))))))) rfl (by kernel_rfl) rfl rfl (rd_indexL (e := 79) 1 t ((t : Nat) : Int) rfl (by kernel_rfl) (by kernel_rfl) rfl rfl (rfl) (by omega)) ?_
          refine wa_take 15 (pk_then (pk_block (pk_then (pk_then (pk_block (pk_then (pk_block (pk_then (pk_then (pk_block (pk_then pk_body))))))))))) rfl (by kernel_rfl) rfl rfl (rd_cellS (b := ⟨[.vals (iV .u32 (sQ L len q) ++ [])], 79⟩) (.v (.int .u32 ((sQ L len q).getD t 0))) rfl rfl rfl (by kernel_rfl) (fun ρ => rowi_at (i := t) (by rw [sch_len]; omega) (by omega) ρ)) ?_
          refine wa_takes (fuel := 0) [16, 17] [2, 3, 4, 5, 6, 7, 12, 13, 16] (listed' := (bs [18])) (l' := [(2, eL 2 0), (3, .s (.a (.ls 23 0 8 c1))), (4, .s (.a (.ls 304 0 64 c2))), (5, .s (.a (.ls 44 0 ((aL L len).length) c7))), (6, eI .i64 ((64 * q : Nat) : Int)), (7, .s (.a (.ls 51 0 64 64))), (12, .s (.a (.ls 154 0 8 cv))), (13, eI .i64 ((t : Nat) : Int)), (16, eI .u32 (IntKind.wrap .u32 ((IntKind.wrap .u32 ((IntKind.wrap .u32 ((IntKind.wrap .u32 (((rQ L len q t).getD 7 0) + (bXor .u32 (bXor .u32 (rotr 6 ((rQ L len q t).getD 4 0)) (rotr 11 ((rQ L len q t).getD 4 0))) (rotr 25 ((rQ L len q t).getD 4 0))))) + (bXor .u32 (bAnd .u32 ((rQ L len q t).getD 4 0) ((rQ L len q t).getD 5 0)) (bAnd .u32 (bXor .u32 4294967295 ((rQ L len q t).getD 4 0)) ((rQ L len q t).getD 6 0))))) + (shaK.getD t 0))) + ((sQ L len q).getD t 0))))]) (pk_then (pk_block (pk_then (pk_then (pk_block (pk_then (pk_block (pk_then (pk_then (pk_block (pk_then pk_body))))))))))) rfl (by kernel_rfl) ?_
          refine wa_done (by kernel_rfl) ?_
          refine we_rest [2, 3, 4, 5, 6, 7, 12, 13, 16] [2, 23, 44, 51, 154, 304] (l' := [(2, eL 2 0), (3, .s (.a (.ls 23 0 8 c1))), (4, .s (.a (.ls 304 0 64 c2))), (5, .s (.a (.ls 44 0 ((aL L len).length) c7))), (6, eI .i64 ((64 * q : Nat) : Int)), (7, .s (.a (.ls 51 0 64 64))), (12, .s (.a (.ls 154 0 8 cv))), (13, eI .i64 ((t : Nat) : Int)), (16, eI .u32 (IntKind.wrap .u32 ((IntKind.wrap .u32 ((IntKind.wrap .u32 ((IntKind.wrap .u32 (((rQ L len q t).getD 7 0) + (bXor .u32 (bXor .u32 (rotr 6 ((rQ L len q t).getD 4 0)) (rotr 11 ((rQ L len q t).getD 4 0))) (rotr 25 ((rQ L len q t).getD 4 0))))) + (bXor .u32 (bAnd .u32 ((rQ L len q t).getD 4 0) ((rQ L len q t).getD 5 0)) (bAnd .u32 (bXor .u32 4294967295 ((rQ L len q t).getD 4 0)) ((rQ L len q t).getD 6 0))))) + (shaK.getD t 0))) + ((sQ L len q).getD t 0))))]) (H' := [(2, ⟨[.ints .u8 32 (List.replicate 32 0)], 24⟩), (23, ⟨[.vals (iV .u32 (hsQ L len q) ++ r1)], 79⟩), (44, ⟨[.vals (bV (aL L len) ++ r7)], 5⟩), (51, ⟨[.vals (iV .u32 (sQ L len q) ++ [])], 79⟩), (154, ⟨[.vals (iV .u32 (rQ L len q t) ++ rv)], 79⟩), (304, ⟨[.vals (iV .u32 shaK ++ r2)], 79⟩)]) (by kernel_rfl) (by kernel_rfl) ?_
          refine we_then ?_
          refine wc_seq ?_
          refine wc_draw (n := 15) [(2, ⟨[.ints .u8 32 (List.replicate 32 0)], 24⟩), (23, ⟨[.vals (iV .u32 (hsQ L len q) ++ r1)], 79⟩), (44, ⟨[.vals (bV (aL L len) ++ r7)], 5⟩), (51, ⟨[.vals (iV .u32 (sQ L len q) ++ [])], 79⟩), (154, ⟨[.vals (iV .u32 (rQ L len q t) ++ rv)], 79⟩), (304, ⟨[.vals (iV .u32 shaK ++ r2)], 79⟩)] (by kernel_rfl) rfl (sub_of [2, 23, 44, 51, 154, 304] (by kernel_rfl)) (fun ρ0 => ?_)
          refine wa_takes (fuel := 12) [0, 4, 9] [2, 3, 4, 5, 6, 7, 12, 13, 16, 206, 210, 215] (listed' := (bs [1, 3, 1, 4, 1, 5])) (l' := [(2, eL 2 0), (3, .s (.a (.ls 23 0 8 c1))), (4, .s (.a (.ls 304 0 64 c2))), (5, .s (.a (.ls 44 0 ((aL L len).length) c7))), (6, eI .i64 ((64 * q : Nat) : Int)), (7, .s (.a (.ls 51 0 64 64))), (12, .s (.a (.ls 154 0 8 cv))), (13, eI .i64 ((t : Nat) : Int)), (16, eI .u32 (IntKind.wrap .u32 ((IntKind.wrap .u32 ((IntKind.wrap .u32 ((IntKind.wrap .u32 (((rQ L len q t).getD 7 0) + (bXor .u32 (bXor .u32 (rotr 6 ((rQ L len q t).getD 4 0)) (rotr 11 ((rQ L len q t).getD 4 0))) (rotr 25 ((rQ L len q t).getD 4 0))))) + (bXor .u32 (bAnd .u32 ((rQ L len q t).getD 4 0) ((rQ L len q t).getD 5 0)) (bAnd .u32 (bXor .u32 4294967295 ((rQ L len q t).getD 4 0)) ((rQ L len q t).getD 6 0))))) + (shaK.getD t 0))) + ((sQ L len q).getD t 0)))), (206, .s (.a (.ls 154 0 8 cv))), (210, .s (.a (.ls 154 0 8 cv))), (215, .s (.a (.ls 154 0 8 cv)))]) (pk_then (pk_block (pk_then (pk_then (pk_block (pk_then (pk_block (pk_then (pk_then (pk_block (pk_then pk_body))))))))))) rfl (by kernel_rfl) ?_
          refine wa_take 1 (pk_then (pk_block (pk_then (pk_then (pk_block (pk_then (pk_block (pk_then (pk_then (pk_block (pk_then pk_body))))))))))) rfl (by kernel_rfl) rfl rfl (rd_indexL (e := 79) 1 0 0 rfl (by kernel_rfl) (by kernel_rfl) rfl rfl (rfl) (by decide)) ?_
          refine wa_take 2 (pk_then (pk_block (pk_then (pk_then (pk_block (pk_then (pk_block (pk_then (pk_then (pk_block (pk_then pk_body))))))))))) rfl (by kernel_rfl) rfl rfl (rd_cellS (b := ⟨[.vals (iV .u32 (rQ L len q t) ++ rv)], 79⟩) (.v (.int .u32 ((rQ L len q t).getD 0 0))) rfl rfl rfl (by kernel_rfl) (fun ρ => rowi_at (i := 0) (by rw [rnds_len _ _ (hfold_len _ _ rfl q)]; omega) (by omega) ρ)) ?_
          refine wa_take 5 (pk_then (pk_block (pk_then (pk_then (pk_block (pk_then (pk_block (pk_then (pk_then (pk_block (pk_then pk_body))))))))))) rfl (by kernel_rfl) rfl rfl (rd_indexL (e := 79) 1 0 0 rfl (by kernel_rfl) (by kernel_rfl) rfl rfl (rfl) (by decide)) ?_
          refine wa_take 6 (pk_then (pk_block (pk_then (pk_then (pk_block (pk_then (pk_block (pk_then (pk_then (pk_block (pk_then pk_body))))))))))) rfl (by kernel_rfl) rfl rfl (rd_cellS (b := ⟨[.vals (iV .u32 (rQ L len q t) ++ rv)], 79⟩) (.v (.int .u32 ((rQ L len q t).getD 0 0))) rfl rfl rfl (by kernel_rfl) (fun ρ => rowi_at (i := 0) (by rw [rnds_len _ _ (hfold_len _ _ rfl q)]; omega) (by omega) ρ)) ?_
          refine wa_take 10 (pk_then (pk_block (pk_then (pk_then (pk_block (pk_then (pk_block (pk_then (pk_then (pk_block (pk_then pk_body))))))))))) rfl (by kernel_rfl) rfl rfl (rd_indexL (e := 79) 1 0 0 rfl (by kernel_rfl) (by kernel_rfl) rfl rfl (rfl) (by decide)) ?_
          refine wa_take 11 (pk_then (pk_block (pk_then (pk_then (pk_block (pk_then (pk_block (pk_then (pk_then (pk_block (pk_then pk_body))))))))))) rfl (by kernel_rfl) rfl rfl (rd_cellS (b := ⟨[.vals (iV .u32 (rQ L len q t) ++ rv)], 79⟩) (.v (.int .u32 ((rQ L len q t).getD 0 0))) rfl rfl rfl (by kernel_rfl) (fun ρ => rowi_at (i := 0) (by rw [rnds_len _ _ (hfold_len _ _ rfl q)]; omega) (by omega) ρ)) ?_
          refine wa_all [3] (by kernel_rfl) rfl (all1 ?_)
          refine wi_op rfl rfl (ot_call (vs := [sI .u32 ((rQ L len q t).getD 0 0), sI .i64 2]) rfl rfl rfl Tryd.func42 (by kernel_rfl) (by kernel_rfl) (by kernel_rfl) (eI .u32 (rotr 2 ((rQ L len q t).getD 0 0))) (trivial) (fun ρ w _ => rrot2_any ((rQ L len q t).getD 0 0) w ρ)) (sub_of [2, 23, 44, 51, 154, 304] (by kernel_rfl)) ?_
          refine wa_all [7] (by kernel_rfl) rfl (all1 ?_)
          refine wi_op rfl rfl (ot_call (vs := [sI .u32 ((rQ L len q t).getD 0 0), sI .i64 13]) rfl rfl rfl Tryd.func42 (by kernel_rfl) (by kernel_rfl) (by kernel_rfl) (eI .u32 (rotr 13 ((rQ L len q t).getD 0 0))) (trivial) (fun ρ w _ => rrot13_any ((rQ L len q t).getD 0 0) w ρ)) (sub_of [2, 23, 44, 51, 154, 304] (by kernel_rfl)) ?_
          refine wa_takes (fuel := 3) [8] [2, 3, 4, 5, 6, 7, 12, 13, 16, 214, 217] (listed' := (bs [12, 3])) (l' := [(2, eL 2 0), (3, .s (.a (.ls 23 0 8 c1))), (4, .s (.a (.ls 304 0 64 c2))), (5, .s (.a (.ls 44 0 ((aL L len).length) c7))), (6, eI .i64 ((64 * q : Nat) : Int)), (7, .s (.a (.ls 51 0 64 64))), (12, .s (.a (.ls 154 0 8 cv))), (13, eI .i64 ((t : Nat) : Int)), (16, eI .u32 (IntKind.wrap .u32 ((IntKind.wrap .u32 ((IntKind.wrap .u32 ((IntKind.wrap .u32 (((rQ L len q t).getD 7 0) + (bXor .u32 (bXor .u32 (rotr 6 ((rQ L len q t).getD 4 0)) (rotr 11 ((rQ L len q t).getD 4 0))) (rotr 25 ((rQ L len q t).getD 4 0))))) + (bXor .u32 (bAnd .u32 ((rQ L len q t).getD 4 0) ((rQ L len q t).getD 5 0)) (bAnd .u32 (bXor .u32 4294967295 ((rQ L len q t).getD 4 0)) ((rQ L len q t).getD 6 0))))) + (shaK.getD t 0))) + ((sQ L len q).getD t 0)))), (214, eI .u32 (bXor .u32 (rotr 2 ((rQ L len q t).getD 0 0)) (rotr 13 ((rQ L len q t).getD 0 0)))), (217, eI .u32 ((rQ L len q t).getD 0 0))]) (pk_then (pk_block (pk_then (pk_then (pk_block (pk_then (pk_block (pk_then (pk_then (pk_block (pk_then pk_body))))))))))) rfl (by kernel_rfl) ?_
          refine wa_all [12] (by kernel_rfl) rfl (all1 ?_)
          refine wi_op rfl rfl (ot_call (vs := [sI .u32 ((rQ L len q t).getD 0 0), sI .i64 22]) rfl rfl rfl Tryd.func42 (by kernel_rfl) (by kernel_rfl) (by kernel_rfl) (eI .u32 (rotr 22 ((rQ L len q t).getD 0 0))) (trivial) (fun ρ w _ => rrot22_any ((rQ L len q t).getD 0 0) w ρ)) (sub_of [2, 23, 44, 51, 154, 304] (by kernel_rfl)) ?_
          refine wa_takes (fuel := 0) [13, 14] [2, 3, 4, 5, 6, 7, 12, 13, 16, 17] (listed' := (bs [15])) (l' := [(2, eL 2 0), (3, .s (.a (.ls 23 0 8 c1))), (4, .s (.a (.ls 304 0 64 c2))), (5, .s (.a (.ls 44 0 ((aL L len).length) c7))), (6, eI .i64 ((64 * q : Nat) : Int)), (7, .s (.a (.ls 51 0 64 64))), (12, .s (.a (.ls 154 0 8 cv))), (13, eI .i64 ((t : Nat) : Int)), (16, eI .u32 (IntKind.wrap .u32 ((IntKind.wrap .u32 ((IntKind.wrap .u32 ((IntKind.wrap .u32 (((rQ L len q t).getD 7 0) + (bXor .u32 (bXor .u32 (rotr 6 ((rQ L len q t).getD 4 0)) (rotr 11 ((rQ L len q t).getD 4 0))) (rotr 25 ((rQ L len q t).getD 4 0))))) + (bXor .u32 (bAnd .u32 ((rQ L len q t).getD 4 0) ((rQ L len q t).getD 5 0)) (bAnd .u32 (bXor .u32 4294967295 ((rQ L len q t).getD 4 0)) ((rQ L len q t).getD 6 0))))) + (shaK.getD t 0))) + ((sQ L len q).getD t 0)))), (17, eI .u32 (bXor .u32 (bXor .u32 (rotr 2 ((rQ L len q t).getD 0 0)) (rotr 13 ((rQ L len q t).getD 0 0))) (rotr 22 ((rQ L len q t).getD 0 0))))]) (pk_then (pk_block (pk_then (pk_then (pk_block (pk_then (pk_block (pk_then (pk_then (pk_block (pk_then pk_body))))))))))) rfl (by kernel_rfl) ?_
          refine wa_done (by kernel_rfl) ?_
          refine we_rest [2, 3, 4, 5, 6, 7, 12, 13, 16, 17] [2, 23, 44, 51, 154, 304] (l' := [(2, eL 2 0), (3, .s (.a (.ls 23 0 8 c1))), (4, .s (.a (.ls 304 0 64 c2))), (5, .s (.a (.ls 44 0 ((aL L len).length) c7))), (6, eI .i64 ((64 * q : Nat) : Int)), (7, .s (.a (.ls 51 0 64 64))), (12, .s (.a (.ls 154 0 8 cv))), (13, eI .i64 ((t : Nat) : Int)), (16, eI .u32 (IntKind.wrap .u32 ((IntKind.wrap .u32 ((IntKind.wrap .u32 ((IntKind.wrap .u32 (((rQ L len q t).getD 7 0) + (bXor .u32 (bXor .u32 (rotr 6 ((rQ L len q t).getD 4 0)) (rotr 11 ((rQ L len q t).getD 4 0))) (rotr 25 ((rQ L len q t).getD 4 0))))) + (bXor .u32 (bAnd .u32 ((rQ L len q t).getD 4 0) ((rQ L len q t).getD 5 0)) (bAnd .u32 (bXor .u32 4294967295 ((rQ L len q t).getD 4 0)) ((rQ L len q t).getD 6 0))))) + (shaK.getD t 0))) + ((sQ L len q).getD t 0)))), (17, eI .u32 (bXor .u32 (bXor .u32 (rotr 2 ((rQ L len q t).getD 0 0)) (rotr 13 ((rQ L len q t).getD 0 0))) (rotr 22 ((rQ L len q t).getD 0 0))))]) (H' := [(2, ⟨[.ints .u8 32 (List.replicate 32 0)], 24⟩), (23, ⟨[.vals (iV .u32 (hsQ L len q) ++ r1)], 79⟩), (44, ⟨[.vals (bV (aL L len) ++ r7)], 5⟩), (51, ⟨[.vals (iV .u32 (sQ L len q) ++ [])], 79⟩), (154, ⟨[.vals (iV .u32 (rQ L len q t) ++ rv)], 79⟩), (304, ⟨[.vals (iV .u32 shaK ++ r2)], 79⟩)]) (by kernel_rfl) (by kernel_rfl) ?_
          refine we_then ?_
          refine wc_seq ?_
          refine wc_draw (n := 26) [(2, ⟨[.ints .u8 32 (List.replicate 32 0)], 24⟩), (23, ⟨[.vals (iV .u32 (hsQ L len q) ++ r1)], 79⟩), (44, ⟨[.vals (bV (aL L len) ++ r7)], 5⟩), (51, ⟨[.vals (iV .u32 (sQ L len q) ++ [])], 79⟩), (154, ⟨[.vals (iV .u32 (rQ L len q t) ++ rv)], 79⟩), (304, ⟨[.vals (iV .u32 shaK ++ r2)], 79⟩)] (by kernel_rfl) rfl (sub_of [2, 23, 44, 51, 154, 304] (by kernel_rfl)) (fun ρ0 => ?_)
          refine wa_takes (fuel := 19) [0, 1, 4, 8, 11, 16, 19] [2, 3, 4, 5, 6, 7, 12, 13, 16, 220, 221, 224, 228, 231, 236, 239] (listed' := (bs [2, 2, 1, 3, 1, 2, 1, 4, 1, 2, 1, 6])) (l' := [(2, eL 2 0), (3, .s (.a (.ls 23 0 8 c1))), (4, .s (.a (.ls 304 0 64 c2))), (5, .s (.a (.ls 44 0 ((aL L len).length) c7))), (6, eI .i64 ((64 * q : Nat) : Int)), (7, .s (.a (.ls 51 0 64 64))), (12, .s (.a (.ls 154 0 8 cv))), (13, eI .i64 ((t : Nat) : Int)), (16, eI .u32 (IntKind.wrap .u32 ((IntKind.wrap .u32 ((IntKind.wrap .u32 ((IntKind.wrap .u32 (((rQ L len q t).getD 7 0) + (bXor .u32 (bXor .u32 (rotr 6 ((rQ L len q t).getD 4 0)) (rotr 11 ((rQ L len q t).getD 4 0))) (rotr 25 ((rQ L len q t).getD 4 0))))) + (bXor .u32 (bAnd .u32 ((rQ L len q t).getD 4 0) ((rQ L len q t).getD 5 0)) (bAnd .u32 (bXor .u32 4294967295 ((rQ L len q t).getD 4 0)) ((rQ L len q t).getD 6 0))))) + (shaK.getD t 0))) + ((sQ L len q).getD t 0)))), (220, eI .u32 (bXor .u32 (bXor .u32 (rotr 2 ((rQ L len q t).getD 0 0)) (rotr 13 ((rQ L len q t).getD 0 0))) (rotr 22 ((rQ L len q t).getD 0 0)))), (221, .s (.a (.ls 154 0 8 cv))), (224, .s (.a (.ls 154 0 8 cv))), (228, .s (.a (.ls 154 0 8 cv))), (231, .s (.a (.ls 154 0 8 cv))), (236, .s (.a (.ls 154 0 8 cv))), (239, .s (.a (.ls 154 0 8 cv)))]) (pk_then (pk_block (pk_then (pk_then (pk_block (pk_then (pk_block (pk_then (pk_then (pk_block (pk_then pk_body))))))))))) rfl (by kernel_rfl) ?_
          refine wa_take 2 (pk_then (pk_block (pk_then (pk_then (pk_block (pk_then (pk_block (pk_then (pk_then (pk_block (pk_then pk_body))))))))))) rfl (by kernel_rfl) rfl rfl (rd_indexL (e := 79) 1 0 0 rfl (by kernel_rfl) (by kernel_rfl) rfl rfl (rfl) (by decide)) ?_
          refine wa_take 3 (pk_then (pk_block (pk_then (pk_then (pk_block (pk_then (pk_block (pk_then (pk_then (pk_block (pk_then pk_body))))))))))) rfl (by kernel_rfl) rfl rfl (rd_cellS (b := ⟨[.vals (iV .u32 (rQ L len q t) ++ rv)], 79⟩) (.v (.int .u32 ((rQ L len q t).getD 0 0))) rfl rfl rfl (by kernel_rfl) (fun ρ => rowi_at (i := 0) (by rw [rnds_len _ _ (hfold_len _ _ rfl q)]; omega) (by omega) ρ)) ?_
          refine wa_take 5 (pk_then (pk_block (pk_then (pk_then (pk_block (pk_then (pk_block (pk_then (pk_then (pk_block (pk_then pk_body))))))))))) rfl (by kernel_rfl) rfl rfl (rd_indexL (e := 79) 1 1 1 rfl (by kernel_rfl) (by kernel_rfl) rfl rfl (rfl) (by decide)) ?_
          refine wa_take 6 (pk_then (pk_block (pk_then (pk_then (pk_block (pk_then (pk_block (pk_then (pk_then (pk_block (pk_then pk_body))))))))))) rfl (by kernel_rfl) rfl rfl (rd_cellS (b := ⟨[.vals (iV .u32 (rQ L len q t) ++ rv)], 79⟩) (.v (.int .u32 ((rQ L len q t).getD 1 0))) rfl rfl rfl (by kernel_rfl) (fun ρ => rowi_at (i := 1) (by rw [rnds_len _ _ (hfold_len _ _ rfl q)]; omega) (by omega) ρ)) ?_
          refine wa_takes (fuel := 14) [7] [2, 3, 4, 5, 6, 7, 12, 13, 16, 220, 227, 228, 231, 236, 239] (listed' := (bs [9, 2, 1, 4, 1, 2, 1, 6])) (l' := [(2, eL 2 0), (3, .s (.a (.ls 23 0 8 c1))), (4, .s (.a (.ls 304 0 64 c2))), (5, .s (.a (.ls 44 0 ((aL L len).length) c7))), (6, eI .i64 ((64 * q : Nat) : Int)), (7, .s (.a (.ls 51 0 64 64))), (12, .s (.a (.ls 154 0 8 cv))), (13, eI .i64 ((t : Nat) : Int)), (16, eI .u32 (IntKind.wrap .u32 ((IntKind.wrap .u32 ((IntKind.wrap .u32 ((IntKind.wrap .u32 (((rQ L len q t).getD 7 0) + (bXor .u32 (bXor .u32 (rotr 6 ((rQ L len q t).getD 4 0)) (rotr 11 ((rQ L len q t).getD 4 0))) (rotr 25 ((rQ L len q t).getD 4 0))))) + (bXor .u32 (bAnd .u32 ((rQ L len q t).getD 4 0) ((rQ L len q t).getD 5 0)) (bAnd .u32 (bXor .u32 4294967295 ((rQ L len q t).getD 4 0)) ((rQ L len q t).getD 6 0))))) + (shaK.getD t 0))) + ((sQ L len q).getD t 0)))), (220, eI .u32 (bXor .u32 (bXor .u32 (rotr 2 ((rQ L len q t).getD 0 0)) (rotr 13 ((rQ L len q t).getD 0 0))) (rotr 22 ((rQ L len q t).getD 0 0)))), (227, eI .u32 (bAnd .u32 ((rQ L len q t).getD 0 0) ((rQ L len q t).getD 1 0))), (228, .s (.a (.ls 154 0 8 cv))), (231, .s (.a (.ls 154 0 8 cv))), (236, .s (.a (.ls 154 0 8 cv))), (239, .s (.a (.ls 154 0 8 cv)))]) (pk_then (pk_block (pk_then (pk_then (pk_block (pk_then (pk_block (pk_then (pk_then (pk_block (pk_then pk_body))))))))))) rfl (by kernel_rfl) ?_
          refine wa_take 9 (pk_then (pk_block (pk_then (pk_then (pk_block (pk_then (pk_block (pk_then (pk_then (pk_block (pk_then pk_body))))))))))) rfl (by kernel_rfl) rfl rfl (rd_indexL (e := 79) 1 0 0 rfl (by kernel_rfl) (by kernel_rfl) rfl rfl (rfl) (by decide)) ?_
          refine wa_take 10 (pk_then (pk_block (pk_then (pk_then (pk_block (pk_then (pk_block (pk_then (pk_then (pk_block (pk_then pk_body))))))))))) rfl (by kernel_rfl) rfl rfl (rd_cellS (b := ⟨[.vals (iV .u32 (rQ L len q t) ++ rv)], 79⟩) (.v (.int .u32 ((rQ L len q t).getD 0 0))) rfl rfl rfl (by kernel_rfl) (fun ρ => rowi_at (i := 0) (by rw [rnds_len _ _ (hfold_len _ _ rfl q)]; omega) (by omega) ρ)) ?_
          refine wa_take 12 (pk_then (pk_block (pk_then (pk_then (pk_block (pk_then (pk_block (pk_then (pk_then (pk_block (pk_then pk_body))))))))))) rfl (by kernel_rfl) rfl rfl (rd_indexL (e := 79) 1 2 2 rfl (by kernel_rfl) (by kernel_rfl) rfl rfl (rfl) (by decide)) ?_
          refine wa_take 13 (pk_then (pk_block (pk_then (pk_then (pk_block (pk_then (pk_block (pk_then (pk_then (pk_block (pk_then pk_body))))))))))) rfl (by kernel_rfl) rfl rfl (rd_cellS (b := ⟨[.vals (iV .u32 (rQ L len q t) ++ rv)], 79⟩) (.v (.int .u32 ((rQ L len q t).getD 2 0))) rfl rfl rfl (by kernel_rfl) (fun ρ => rowi_at (i := 2) (by rw [rnds_len _ _ (hfold_len _ _ rfl q)]; omega) (by omega) ρ)) ?_
          refine wa_takes (fuel := 8) [14, 15] [2, 3, 4, 5, 6, 7, 12, 13, 16, 220, 235, 236, 239] (listed' := (bs [17, 2, 1, 6])) (l' := [(2, eL 2 0), (3, .s (.a (.ls 23 0 8 c1))), (4, .s (.a (.ls 304 0 64 c2))), (5, .s (.a (.ls 44 0 ((aL L len).length) c7))), (6, eI .i64 ((64 * q : Nat) : Int)), (7, .s (.a (.ls 51 0 64 64))), (12, .s (.a (.ls 154 0 8 cv))), (13, eI .i64 ((t : Nat) : Int)), (16, eI .u32 (IntKind.wrap .u32 ((IntKind.wrap .u32 ((IntKind.wrap .u32 ((IntKind.wrap .u32 (((rQ L len q t).getD 7 0) + (bXor .u32 (bXor .u32 (rotr 6 ((rQ L len q t).getD 4 0)) (rotr 11 ((rQ L len q t).getD 4 0))) (rotr 25 ((rQ L len q t).getD 4 0))))) + (bXor .u32 (bAnd .u32 ((rQ L len q t).getD 4 0) ((rQ L len q t).getD 5 0)) (bAnd .u32 (bXor .u32 4294967295 ((rQ L len q t).getD 4 0)) ((rQ L len q t).getD 6 0))))) + (shaK.getD t 0))) + ((sQ L len q).getD t 0)))), (220, eI .u32 (bXor .u32 (bXor .u32 (rotr 2 ((rQ L len q t).getD 0 0)) (rotr 13 ((rQ L len q t).getD 0 0))) (rotr 22 ((rQ L len q t).getD 0 0)))), (235, eI .u32 (bXor .u32 (bAnd .u32 ((rQ L len q t).getD 0 0) ((rQ L len q t).getD 1 0)) (bAnd .u32 ((rQ L len q t).getD 0 0) ((rQ L len q t).getD 2 0)))), (236, .s (.a (.ls 154 0 8 cv))), (239, .s (.a (.ls 154 0 8 cv)))]) (pk_then (pk_block (pk_then (pk_then (pk_block (pk_then (pk_block (pk_then (pk_then (pk_block (pk_then pk_body))))))))))) rfl (by kernel_rfl) ?_
          refine wa_take 17 (pk_then (pk_block (pk_then (pk_then (pk_block (pk_then (pk_block (pk_then (pk_then (pk_block (pk_then pk_body))))))))))) rfl (by kernel_rfl) rfl rfl (rd_indexL (e := 79) 1 1 1 rfl (by kernel_rfl) (by kernel_rfl) rfl rfl (rfl) (by decide)) ?_
          refine wa_take 18 (pk_then (pk_block (pk_then (pk_then (pk_block (pk_then (pk_block (pk_then (pk_then (pk_block (pk_then pk_body))))))))))) rfl (by kernel_rfl) rfl rfl (rd_cellS (b := ⟨[.vals (iV .u32 (rQ L len q t) ++ rv)], 79⟩) (.v (.int .u32 ((rQ L len q t).getD 1 0))) rfl rfl rfl (by kernel_rfl) (fun ρ => rowi_at (i := 1) (by rw [rnds_len _ _ (hfold_len _ _ rfl q)]; omega) (by omega) ρ)) ?_
          refine wa_take 20 (pk_then (pk_block (pk_then (pk_then (pk_block (pk_then (pk_block (pk_then (pk_then (pk_block (pk_then pk_body))))))))))) rfl (by kernel_rfl) rfl rfl (rd_indexL (e := 79) 1 2 2 rfl (by kernel_rfl) (by kernel_rfl) rfl rfl (rfl) (by decide)) ?_
          refine wa_take 21 (pk_then (pk_block (pk_then (pk_then (pk_block (pk_then (pk_block (pk_then (pk_then (pk_block (pk_then pk_body))))))))))) rfl (by kernel_rfl) rfl rfl (rd_cellS (b := ⟨[.vals (iV .u32 (rQ L len q t) ++ rv)], 79⟩) (.v (.int .u32 ((rQ L len q t).getD 2 0))) rfl rfl rfl (by kernel_rfl) (fun ρ => rowi_at (i := 2) (by rw [rnds_len _ _ (hfold_len _ _ rfl q)]; omega) (by omega) ρ)) ?_
          refine wa_takes (fuel := 0) [22, 23, 24, 25] [2, 3, 4, 5, 6, 7, 12, 13, 16, 18] (listed' := (bs [26])) (l' := [(2, eL 2 0), (3, .s (.a (.ls 23 0 8 c1))), (4, .s (.a (.ls 304 0 64 c2))), (5, .s (.a (.ls 44 0 ((aL L len).length) c7))), (6, eI .i64 ((64 * q : Nat) : Int)), (7, .s (.a (.ls 51 0 64 64))), (12, .s (.a (.ls 154 0 8 cv))), (13, eI .i64 ((t : Nat) : Int)), (16, eI .u32 (IntKind.wrap .u32 ((IntKind.wrap .u32 ((IntKind.wrap .u32 ((IntKind.wrap .u32 (((rQ L len q t).getD 7 0) + (bXor .u32 (bXor .u32 (rotr 6 ((rQ L len q t).getD 4 0)) (rotr 11 ((rQ L len q t).getD 4 0))) (rotr 25 ((rQ L len q t).getD 4 0))))) + (bXor .u32 (bAnd .u32 ((rQ L len q t).getD 4 0) ((rQ L len q t).getD 5 0)) (bAnd .u32 (bXor .u32 4294967295 ((rQ L len q t).getD 4 0)) ((rQ L len q t).getD 6 0))))) + (shaK.getD t 0))) + ((sQ L len q).getD t 0)))), (18, eI .u32 (IntKind.wrap .u32 ((bXor .u32 (bXor .u32 (rotr 2 ((rQ L len q t).getD 0 0)) (rotr 13 ((rQ L len q t).getD 0 0))) (rotr 22 ((rQ L len q t).getD 0 0))) + (bXor .u32 (bXor .u32 (bAnd .u32 ((rQ L len q t).getD 0 0) ((rQ L len q t).getD 1 0)) (bAnd .u32 ((rQ L len q t).getD 0 0) ((rQ L len q t).getD 2 0))) (bAnd .u32 ((rQ L len q t).getD 1 0) ((rQ L len q t).getD 2 0))))))]) (pk_then (pk_block (pk_then (pk_then (pk_block (pk_then (pk_block (pk_then (pk_then (pk_block (pk_then pk_body))))))))))) rfl (by kernel_rfl) ?_
          refine wa_done (by kernel_rfl) ?_
          refine we_rest [2, 3, 4, 5, 6, 7, 12, 13, 16, 18] [2, 23, 44, 51, 154, 304] (l' := [(2, eL 2 0), (3, .s (.a (.ls 23 0 8 c1))), (4, .s (.a (.ls 304 0 64 c2))), (5, .s (.a (.ls 44 0 ((aL L len).length) c7))), (6, eI .i64 ((64 * q : Nat) : Int)), (7, .s (.a (.ls 51 0 64 64))), (12, .s (.a (.ls 154 0 8 cv))), (13, eI .i64 ((t : Nat) : Int)), (16, eI .u32 (IntKind.wrap .u32 ((IntKind.wrap .u32 ((IntKind.wrap .u32 ((IntKind.wrap .u32 (((rQ L len q t).getD 7 0) + (bXor .u32 (bXor .u32 (rotr 6 ((rQ L len q t).getD 4 0)) (rotr 11 ((rQ L len q t).getD 4 0))) (rotr 25 ((rQ L len q t).getD 4 0))))) + (bXor .u32 (bAnd .u32 ((rQ L len q t).getD 4 0) ((rQ L len q t).getD 5 0)) (bAnd .u32 (bXor .u32 4294967295 ((rQ L len q t).getD 4 0)) ((rQ L len q t).getD 6 0))))) + (shaK.getD t 0))) + ((sQ L len q).getD t 0)))), (18, eI .u32 (IntKind.wrap .u32 ((bXor .u32 (bXor .u32 (rotr 2 ((rQ L len q t).getD 0 0)) (rotr 13 ((rQ L len q t).getD 0 0))) (rotr 22 ((rQ L len q t).getD 0 0))) + (bXor .u32 (bXor .u32 (bAnd .u32 ((rQ L len q t).getD 0 0) ((rQ L len q t).getD 1 0)) (bAnd .u32 ((rQ L len q t).getD 0 0) ((rQ L len q t).getD 2 0))) (bAnd .u32 ((rQ L len q t).getD 1 0) ((rQ L len q t).getD 2 0))))))]) (H' := [(2, ⟨[.ints .u8 32 (List.replicate 32 0)], 24⟩), (23, ⟨[.vals (iV .u32 (hsQ L len q) ++ r1)], 79⟩), (44, ⟨[.vals (bV (aL L len) ++ r7)], 5⟩), (51, ⟨[.vals (iV .u32 (sQ L len q) ++ [])], 79⟩), (154, ⟨[.vals (iV .u32 (rQ L len q t) ++ rv)], 79⟩), (304, ⟨[.vals (iV .u32 shaK ++ r2)], 79⟩)]) (by kernel_rfl) (by kernel_rfl) ?_
          refine we_then ?_
          refine wc_draw (n := 28) [(2, ⟨[.ints .u8 32 (List.replicate 32 0)], 24⟩), (23, ⟨[.vals (iV .u32 (hsQ L len q) ++ r1)], 79⟩), (44, ⟨[.vals (bV (aL L len) ++ r7)], 5⟩), (51, ⟨[.vals (iV .u32 (sQ L len q) ++ [])], 79⟩), (154, ⟨[.vals (iV .u32 (rQ L len q t) ++ rv)], 79⟩), (304, ⟨[.vals (iV .u32 shaK ++ r2)], 79⟩)] (by kernel_rfl) rfl (sub_of [2, 23, 44, 51, 154, 304] (by kernel_rfl)) (fun ρ0 => ?_)
          refine wa_takes (fuel := 17) [0, 1, 2, 3, 6, 9, 12, 15, 17, 20, 23] [2, 3, 4, 5, 6, 7, 12, 13, 247, 248, 251, 254, 257, 260, 262, 265, 268] (listed' := (bs [4, 2, 1, 2, 1, 2, 1, 2, 1, 1, 1, 2, 1, 2, 1, 4])) (l' := [(2, eL 2 0), (3, .s (.a (.ls 23 0 8 c1))), (4, .s (.a (.ls 304 0 64 c2))), (5, .s (.a (.ls 44 0 ((aL L len).length) c7))), (6, eI .i64 ((64 * q : Nat) : Int)), (7, .s (.a (.ls 51 0 64 64))), (12, .s (.a (.ls 154 0 8 cv))), (13, eI .i64 ((t : Nat) : Int)), (247, eI .u32 (IntKind.wrap .u32 ((IntKind.wrap .u32 ((IntKind.wrap .u32 ((IntKind.wrap .u32 ((IntKind.wrap .u32 (((rQ L len q t).getD 7 0) + (bXor .u32 (bXor .u32 (rotr 6 ((rQ L len q t).getD 4 0)) (rotr 11 ((rQ L len q t).getD 4 0))) (rotr 25 ((rQ L len q t).getD 4 0))))) + (bXor .u32 (bAnd .u32 ((rQ L len q t).getD 4 0) ((rQ L len q t).getD 5 0)) (bAnd .u32 (bXor .u32 4294967295 ((rQ L len q t).getD 4 0)) ((rQ L len q t).getD 6 0))))) + (shaK.getD t 0))) + ((sQ L len q).getD t 0))) + (IntKind.wrap .u32 ((bXor .u32 (bXor .u32 (rotr 2 ((rQ L len q t).getD 0 0)) (rotr 13 ((rQ L len q t).getD 0 0))) (rotr 22 ((rQ L len q t).getD 0 0))) + (bXor .u32 (bXor .u32 (bAnd .u32 ((rQ L len q t).getD 0 0) ((rQ L len q t).getD 1 0)) (bAnd .u32 ((rQ L len q t).getD 0 0) ((rQ L len q t).getD 2 0))) (bAnd .u32 ((rQ L len q t).getD 1 0) ((rQ L len q t).getD 2 0)))))))), (248, .s (.a (.ls 154 0 8 cv))), (251, .s (.a (.ls 154 0 8 cv))), (254, .s (.a (.ls 154 0 8 cv))), (257, .s (.a (.ls 154 0 8 cv))), (260, eI .u32 (IntKind.wrap .u32 ((IntKind.wrap .u32 ((IntKind.wrap .u32 ((IntKind.wrap .u32 (((rQ L len q t).getD 7 0) + (bXor .u32 (bXor .u32 (rotr 6 ((rQ L len q t).getD 4 0)) (rotr 11 ((rQ L len q t).getD 4 0))) (rotr 25 ((rQ L len q t).getD 4 0))))) + (bXor .u32 (bAnd .u32 ((rQ L len q t).getD 4 0) ((rQ L len q t).getD 5 0)) (bAnd .u32 (bXor .u32 4294967295 ((rQ L len q t).getD 4 0)) ((rQ L len q t).getD 6 0))))) + (shaK.getD t 0))) + ((sQ L len q).getD t 0)))), (262, .s (.a (.ls 154 0 8 cv))), (265, .s (.a (.ls 154 0 8 cv))), (268, .s (.a (.ls 154 0 8 cv)))]) (pk_block (pk_then (pk_then (pk_block (pk_then (pk_block (pk_then (pk_then (pk_block (pk_then pk_body)))))))))) rfl (by kernel_rfl) ?_
          refine wa_take 4 (pk_block (pk_then (pk_then (pk_block (pk_then (pk_block (pk_then (pk_then (pk_block (pk_then pk_body)))))))))) rfl (by kernel_rfl) rfl rfl (rd_indexL (e := 79) 1 0 0 rfl (by kernel_rfl) (by kernel_rfl) rfl rfl (rfl) (by decide)) ?_
          refine wa_take 5 (pk_block (pk_then (pk_then (pk_block (pk_then (pk_block (pk_then (pk_then (pk_block (pk_then pk_body)))))))))) rfl (by kernel_rfl) rfl rfl (rd_cellS (b := ⟨[.vals (iV .u32 (rQ L len q t) ++ rv)], 79⟩) (.v (.int .u32 ((rQ L len q t).getD 0 0))) rfl rfl rfl (by kernel_rfl) (fun ρ => rowi_at (i := 0) (by rw [rnds_len _ _ (hfold_len _ _ rfl q)]; omega) (by omega) ρ)) ?_
          refine wa_take 7 (pk_block (pk_then (pk_then (pk_block (pk_then (pk_block (pk_then (pk_then (pk_block (pk_then pk_body)))))))))) rfl (by kernel_rfl) rfl rfl (rd_indexL (e := 79) 1 1 1 rfl (by kernel_rfl) (by kernel_rfl) rfl rfl (rfl) (by decide)) ?_
          refine wa_take 8 (pk_block (pk_then (pk_then (pk_block (pk_then (pk_block (pk_then (pk_then (pk_block (pk_then pk_body)))))))))) rfl (by kernel_rfl) rfl rfl (rd_cellS (b := ⟨[.vals (iV .u32 (rQ L len q t) ++ rv)], 79⟩) (.v (.int .u32 ((rQ L len q t).getD 1 0))) rfl rfl rfl (by kernel_rfl) (fun ρ => rowi_at (i := 1) (by rw [rnds_len _ _ (hfold_len _ _ rfl q)]; omega) (by omega) ρ)) ?_
          refine wa_take 10 (pk_block (pk_then (pk_then (pk_block (pk_then (pk_block (pk_then (pk_then (pk_block (pk_then pk_body)))))))))) rfl (by kernel_rfl) rfl rfl (rd_indexL (e := 79) 1 2 2 rfl (by kernel_rfl) (by kernel_rfl) rfl rfl (rfl) (by decide)) ?_
          refine wa_take 11 (pk_block (pk_then (pk_then (pk_block (pk_then (pk_block (pk_then (pk_then (pk_block (pk_then pk_body)))))))))) rfl (by kernel_rfl) rfl rfl (rd_cellS (b := ⟨[.vals (iV .u32 (rQ L len q t) ++ rv)], 79⟩) (.v (.int .u32 ((rQ L len q t).getD 2 0))) rfl rfl rfl (by kernel_rfl) (fun ρ => rowi_at (i := 2) (by rw [rnds_len _ _ (hfold_len _ _ rfl q)]; omega) (by omega) ρ)) ?_
          refine wa_take 13 (pk_block (pk_then (pk_then (pk_block (pk_then (pk_block (pk_then (pk_then (pk_block (pk_then pk_body)))))))))) rfl (by kernel_rfl) rfl rfl (rd_indexL (e := 79) 1 3 3 rfl (by kernel_rfl) (by kernel_rfl) rfl rfl (rfl) (by decide)) ?_
          refine wa_take 14 (pk_block (pk_then (pk_then (pk_block (pk_then (pk_block (pk_then (pk_then (pk_block (pk_then pk_body)))))))))) rfl (by kernel_rfl) rfl rfl (rd_cellS (b := ⟨[.vals (iV .u32 (rQ L len q t) ++ rv)], 79⟩) (.v (.int .u32 ((rQ L len q t).getD 3 0))) rfl rfl rfl (by kernel_rfl) (fun ρ => rowi_at (i := 3) (by rw [rnds_len _ _ (hfold_len _ _ rfl q)]; omega) (by omega) ρ)) ?_
          refine wa_takes (fuel := 8) [16] [2, 3, 4, 5, 6, 7, 12, 13, 247, 250, 253, 256, 261, 262, 265, 268] (listed' := (bs [18, 2, 1, 2, 1, 4])) (l' := [(2, eL 2 0), (3, .s (.a (.ls 23 0 8 c1))), (4, .s (.a (.ls 304 0 64 c2))), (5, .s (.a (.ls 44 0 ((aL L len).length) c7))), (6, eI .i64 ((64 * q : Nat) : Int)), (7, .s (.a (.ls 51 0 64 64))), (12, .s (.a (.ls 154 0 8 cv))), (13, eI .i64 ((t : Nat) : Int)), (247, eI .u32 (IntKind.wrap .u32 ((IntKind.wrap .u32 ((IntKind.wrap .u32 ((IntKind.wrap .u32 ((IntKind.wrap .u32 (((rQ L len q t).getD 7 0) + (bXor .u32 (bXor .u32 (rotr 6 ((rQ L len q t).getD 4 0)) (rotr 11 ((rQ L len q t).getD 4 0))) (rotr 25 ((rQ L len q t).getD 4 0))))) + (bXor .u32 (bAnd .u32 ((rQ L len q t).getD 4 0) ((rQ L len q t).getD 5 0)) (bAnd .u32 (bXor .u32 4294967295 ((rQ L len q t).getD 4 0)) ((rQ L len q t).getD 6 0))))) + (shaK.getD t 0))) + ((sQ L len q).getD t 0))) + (IntKind.wrap .u32 ((bXor .u32 (bXor .u32 (rotr 2 ((rQ L len q t).getD 0 0)) (rotr 13 ((rQ L len q t).getD 0 0))) (rotr 22 ((rQ L len q t).getD 0 0))) + (bXor .u32 (bXor .u32 (bAnd .u32 ((rQ L len q t).getD 0 0) ((rQ L len q t).getD 1 0)) (bAnd .u32 ((rQ L len q t).getD 0 0) ((rQ L len q t).getD 2 0))) (bAnd .u32 ((rQ L len q t).getD 1 0) ((rQ L len q t).getD 2 0)))))))), (250, eI .u32 ((rQ L len q t).getD 0 0)), (253, eI .u32 ((rQ L len q t).getD 1 0)), (256, eI .u32 ((rQ L len q t).getD 2 0)), (261, eI .u32 (IntKind.wrap .u32 (((rQ L len q t).getD 3 0) + (IntKind.wrap .u32 ((IntKind.wrap .u32 ((IntKind.wrap .u32 ((IntKind.wrap .u32 (((rQ L len q t).getD 7 0) + (bXor .u32 (bXor .u32 (rotr 6 ((rQ L len q t).getD 4 0)) (rotr 11 ((rQ L len q t).getD 4 0))) (rotr 25 ((rQ L len q t).getD 4 0))))) + (bXor .u32 (bAnd .u32 ((rQ L len q t).getD 4 0) ((rQ L len q t).getD 5 0)) (bAnd .u32 (bXor .u32 4294967295 ((rQ L len q t).getD 4 0)) ((rQ L len q t).getD 6 0))))) + (shaK.getD t 0))) + ((sQ L len q).getD t 0)))))), (262, .s (.a (.ls 154 0 8 cv))), (265, .s (.a (.ls 154 0 8 cv))), (268, .s (.a (.ls 154 0 8 cv)))]) (pk_block (pk_then (pk_then (pk_block (pk_then (pk_block (pk_then (pk_then (pk_block (pk_then pk_body)))))))))) rfl (by kernel_rfl) ?_
          refine wa_take 18 (pk_block (pk_then (pk_then (pk_block (pk_then (pk_block (pk_then (pk_then (pk_block (pk_then pk_body)))))))))) rfl (by kernel_rfl) rfl rfl (rd_indexL (e := 79) 1 4 4 rfl (by kernel_rfl) (by kernel_rfl) rfl rfl (rfl) (by decide)) ?_
          refine wa_take 19 (pk_block (pk_then (pk_then (pk_block (pk_then (pk_block (pk_then (pk_then (pk_block (pk_then pk_body)))))))))) rfl (by kernel_rfl) rfl rfl (rd_cellS (b := ⟨[.vals (iV .u32 (rQ L len q t) ++ rv)], 79⟩) (.v (.int .u32 ((rQ L len q t).getD 4 0))) rfl rfl rfl (by kernel_rfl) (fun ρ => rowi_at (i := 4) (by rw [rnds_len _ _ (hfold_len _ _ rfl q)]; omega) (by omega) ρ)) ?_
          refine wa_take 21 (pk_block (pk_then (pk_then (pk_block (pk_then (pk_block (pk_then (pk_then (pk_block (pk_then pk_body)))))))))) rfl (by kernel_rfl) rfl rfl (rd_indexL (e := 79) 1 5 5 rfl (by kernel_rfl) (by kernel_rfl) rfl rfl (rfl) (by decide)) ?_
          refine wa_take 22 (pk_block (pk_then (pk_then (pk_block (pk_then (pk_block (pk_then (pk_then (pk_block (pk_then pk_body)))))))))) rfl (by kernel_rfl) rfl rfl (rd_cellS (b := ⟨[.vals (iV .u32 (rQ L len q t) ++ rv)], 79⟩) (.v (.int .u32 ((rQ L len q t).getD 5 0))) rfl rfl rfl (by kernel_rfl) (fun ρ => rowi_at (i := 5) (by rw [rnds_len _ _ (hfold_len _ _ rfl q)]; omega) (by omega) ρ)) ?_
          refine wa_take 24 (pk_block (pk_then (pk_then (pk_block (pk_then (pk_block (pk_then (pk_then (pk_block (pk_then pk_body)))))))))) rfl (by kernel_rfl) rfl rfl (rd_indexL (e := 79) 1 6 6 rfl (by kernel_rfl) (by kernel_rfl) rfl rfl (rfl) (by decide)) ?_
          refine wa_take 25 (pk_block (pk_then (pk_then (pk_block (pk_then (pk_block (pk_then (pk_then (pk_block (pk_then pk_body)))))))))) rfl (by kernel_rfl) rfl rfl (rd_cellS (b := ⟨[.vals (iV .u32 (rQ L len q t) ++ rv)], 79⟩) (.v (.int .u32 ((rQ L len q t).getD 6 0))) rfl rfl rfl (by kernel_rfl) (fun ρ => rowi_at (i := 6) (by rw [rnds_len _ _ (hfold_len _ _ rfl q)]; omega) (by omega) ρ)) ?_
          refine wa_all [26] (by kernel_rfl) rfl (all1 ?_)
          refine wi_op rfl rfl (ot_bslice (e := 79) (d := 271) (n := 8) (size := 1) [.ints .u32 8 (List.replicate 8 0)] [.ints .u32 8 ([(IntKind.wrap .u32 ((IntKind.wrap .u32 ((IntKind.wrap .u32 ((IntKind.wrap .u32 ((IntKind.wrap .u32 (((rQ L len q t).getD 7 0) + (bXor .u32 (bXor .u32 (rotr 6 ((rQ L len q t).getD 4 0)) (rotr 11 ((rQ L len q t).getD 4 0))) (rotr 25 ((rQ L len q t).getD 4 0))))) + (bXor .u32 (bAnd .u32 ((rQ L len q t).getD 4 0) ((rQ L len q t).getD 5 0)) (bAnd .u32 (bXor .u32 4294967295 ((rQ L len q t).getD 4 0)) ((rQ L len q t).getD 6 0))))) + (shaK.getD t 0))) + ((sQ L len q).getD t 0))) + (IntKind.wrap .u32 ((bXor .u32 (bXor .u32 (rotr 2 ((rQ L len q t).getD 0 0)) (rotr 13 ((rQ L len q t).getD 0 0))) (rotr 22 ((rQ L len q t).getD 0 0))) + (bXor .u32 (bXor .u32 (bAnd .u32 ((rQ L len q t).getD 0 0) ((rQ L len q t).getD 1 0)) (bAnd .u32 ((rQ L len q t).getD 0 0) ((rQ L len q t).getD 2 0))) (bAnd .u32 ((rQ L len q t).getD 1 0) ((rQ L len q t).getD 2 0))))))), ((rQ L len q t).getD 0 0), ((rQ L len q t).getD 1 0), ((rQ L len q t).getD 2 0), (IntKind.wrap .u32 (((rQ L len q t).getD 3 0) + (IntKind.wrap .u32 ((IntKind.wrap .u32 ((IntKind.wrap .u32 ((IntKind.wrap .u32 (((rQ L len q t).getD 7 0) + (bXor .u32 (bXor .u32 (rotr 6 ((rQ L len q t).getD 4 0)) (rotr 11 ((rQ L len q t).getD 4 0))) (rotr 25 ((rQ L len q t).getD 4 0))))) + (bXor .u32 (bAnd .u32 ((rQ L len q t).getD 4 0) ((rQ L len q t).getD 5 0)) (bAnd .u32 (bXor .u32 4294967295 ((rQ L len q t).getD 4 0)) ((rQ L len q t).getD 6 0))))) + (shaK.getD t 0))) + ((sQ L len q).getD t 0))))), ((rQ L len q t).getD 4 0), ((rQ L len q t).getD 5 0), ((rQ L len q t).getD 6 0)])] rfl rfl rfl (by kernel_rfl) rfl (by kernel_rfl) (okc_ints (List.length_replicate) (okc_nil)) (fun _ => rfl) (by kernel_rfl) (by kernel_rfl)) (sub_of [2, 23, 44, 51, 154, 304] (by kernel_rfl)) ?_
          refine wa_takes (fuel := 0) [27] [2, 3, 4, 5, 6, 7, 12, 13] (listed' := (bs [28])) (l' := [(2, eL 2 0), (3, .s (.a (.ls 23 0 8 c1))), (4, .s (.a (.ls 304 0 64 c2))), (5, .s (.a (.ls 44 0 ((aL L len).length) c7))), (6, eI .i64 ((64 * q : Nat) : Int)), (7, .s (.a (.ls 51 0 64 64))), (12, .s (.a (.ls 271 0 8 8))), (13, eI .i64 ((t : Nat) : Int))]) (pk_block (pk_then (pk_then (pk_block (pk_then (pk_block (pk_then (pk_then (pk_block (pk_then pk_body)))))))))) rfl (by kernel_rfl) ?_
          refine wa_done (by kernel_rfl) ?_
          refine we_rest [2, 3, 4, 5, 6, 7, 12, 13] [2, 23, 44, 51, 271, 304] (l' := [(2, eL 2 0), (3, .s (.a (.ls 23 0 8 c1))), (4, .s (.a (.ls 304 0 64 c2))), (5, .s (.a (.ls 44 0 ((aL L len).length) c7))), (6, eI .i64 ((64 * q : Nat) : Int)), (7, .s (.a (.ls 51 0 64 64))), (12, .s (.a (.ls 271 0 8 8))), (13, eI .i64 ((t : Nat) : Int))]) (H' := [(2, ⟨[.ints .u8 32 (List.replicate 32 0)], 24⟩), (23, ⟨[.vals (iV .u32 (hsQ L len q) ++ r1)], 79⟩), (44, ⟨[.vals (bV (aL L len) ++ r7)], 5⟩), (51, ⟨[.vals (iV .u32 (sQ L len q) ++ [])], 79⟩), (271, ⟨[.ints .u32 8 ([(IntKind.wrap .u32 ((IntKind.wrap .u32 ((IntKind.wrap .u32 ((IntKind.wrap .u32 ((IntKind.wrap .u32 (((rQ L len q t).getD 7 0) + (bXor .u32 (bXor .u32 (rotr 6 ((rQ L len q t).getD 4 0)) (rotr 11 ((rQ L len q t).getD 4 0))) (rotr 25 ((rQ L len q t).getD 4 0))))) + (bXor .u32 (bAnd .u32 ((rQ L len q t).getD 4 0) ((rQ L len q t).getD 5 0)) (bAnd .u32 (bXor .u32 4294967295 ((rQ L len q t).getD 4 0)) ((rQ L len q t).getD 6 0))))) + (shaK.getD t 0))) + ((sQ L len q).getD t 0))) + (IntKind.wrap .u32 ((bXor .u32 (bXor .u32 (rotr 2 ((rQ L len q t).getD 0 0)) (rotr 13 ((rQ L len q t).getD 0 0))) (rotr 22 ((rQ L len q t).getD 0 0))) + (bXor .u32 (bXor .u32 (bAnd .u32 ((rQ L len q t).getD 0 0) ((rQ L len q t).getD 1 0)) (bAnd .u32 ((rQ L len q t).getD 0 0) ((rQ L len q t).getD 2 0))) (bAnd .u32 ((rQ L len q t).getD 1 0) ((rQ L len q t).getD 2 0))))))), ((rQ L len q t).getD 0 0), ((rQ L len q t).getD 1 0), ((rQ L len q t).getD 2 0), (IntKind.wrap .u32 (((rQ L len q t).getD 3 0) + (IntKind.wrap .u32 ((IntKind.wrap .u32 ((IntKind.wrap .u32 ((IntKind.wrap .u32 (((rQ L len q t).getD 7 0) + (bXor .u32 (bXor .u32 (rotr 6 ((rQ L len q t).getD 4 0)) (rotr 11 ((rQ L len q t).getD 4 0))) (rotr 25 ((rQ L len q t).getD 4 0))))) + (bXor .u32 (bAnd .u32 ((rQ L len q t).getD 4 0) ((rQ L len q t).getD 5 0)) (bAnd .u32 (bXor .u32 4294967295 ((rQ L len q t).getD 4 0)) ((rQ L len q t).getD 6 0))))) + (shaK.getD t 0))) + ((sQ L len q).getD t 0))))), ((rQ L len q t).getD 4 0), ((rQ L len q t).getD 5 0), ((rQ L len q t).getD 6 0)])], 79⟩), (304, ⟨[.vals (iV .u32 shaK ++ r2)], 79⟩)]) (by kernel_rfl) (by kernel_rfl) ?_
          refine we_block ?_
          refine we_then ?_
          refine wc_reg [0, 1, 2] (by kernel_rfl) ?_
          refine wo_run [0] [2, 3, 4, 5, 6, 7, 12, 157] [2, 23, 44, 51, 271, 304] (l' := [(2, eL 2 0), (3, .s (.a (.ls 23 0 8 c1))), (4, .s (.a (.ls 304 0 64 c2))), (5, .s (.a (.ls 44 0 ((aL L len).length) c7))), (6, eI .i64 ((64 * q : Nat) : Int)), (7, .s (.a (.ls 51 0 64 64))), (12, .s (.a (.ls 271 0 8 8))), (157, eI .i64 ((t : Nat) : Int))]) (H' := [(2, ⟨[.ints .u8 32 (List.replicate 32 0)], 24⟩), (23, ⟨[.vals (iV .u32 (hsQ L len q) ++ r1)], 79⟩), (44, ⟨[.vals (bV (aL L len) ++ r7)], 5⟩), (51, ⟨[.vals (iV .u32 (sQ L len q) ++ [])], 79⟩), (271, ⟨[.ints .u32 8 ([(IntKind.wrap .u32 ((IntKind.wrap .u32 ((IntKind.wrap .u32 ((IntKind.wrap .u32 ((IntKind.wrap .u32 (((rQ L len q t).getD 7 0) + (bXor .u32 (bXor .u32 (rotr 6 ((rQ L len q t).getD 4 0)) (rotr 11 ((rQ L len q t).getD 4 0))) (rotr 25 ((rQ L len q t).getD 4 0))))) + (bXor .u32 (bAnd .u32 ((rQ L len q t).getD 4 0) ((rQ L len q t).getD 5 0)) (bAnd .u32 (bXor .u32 4294967295 ((rQ L len q t).getD 4 0)) ((rQ L len q t).getD 6 0))))) + (shaK.getD t 0))) + ((sQ L len q).getD t 0))) + (IntKind.wrap .u32 ((bXor .u32 (bXor .u32 (rotr 2 ((rQ L len q t).getD 0 0)) (rotr 13 ((rQ L len q t).getD 0 0))) (rotr 22 ((rQ L len q t).getD 0 0))) + (bXor .u32 (bXor .u32 (bAnd .u32 ((rQ L len q t).getD 0 0) ((rQ L len q t).getD 1 0)) (bAnd .u32 ((rQ L len q t).getD 0 0) ((rQ L len q t).getD 2 0))) (bAnd .u32 ((rQ L len q t).getD 1 0) ((rQ L len q t).getD 2 0))))))), ((rQ L len q t).getD 0 0), ((rQ L len q t).getD 1 0), ((rQ L len q t).getD 2 0), (IntKind.wrap .u32 (((rQ L len q t).getD 3 0) + (IntKind.wrap .u32 ((IntKind.wrap .u32 ((IntKind.wrap .u32 ((IntKind.wrap .u32 (((rQ L len q t).getD 7 0) + (bXor .u32 (bXor .u32 (rotr 6 ((rQ L len q t).getD 4 0)) (rotr 11 ((rQ L len q t).getD 4 0))) (rotr 25 ((rQ L len q t).getD 4 0))))) + (bXor .u32 (bAnd .u32 ((rQ L len q t).getD 4 0) ((rQ L len q t).getD 5 0)) (bAnd .u32 (bXor .u32 4294967295 ((rQ L len q t).getD 4 0)) ((rQ L len q t).getD 6 0))))) + (shaK.getD t 0))) + ((sQ L len q).getD t 0))))), ((rQ L len q t).getD 4 0), ((rQ L len q t).getD 5 0), ((rQ L len q t).getD 6 0)])], 79⟩), (304, ⟨[.vals (iV .u32 shaK ++ r2)], 79⟩)]) (by kernel_rfl) ?_
          refine wo_op rfl rfl (ot_rd rfl (rd_recast (e := eI .i64 (IntKind.wrap .i64 (((t : Nat) : Int) + 1))) (eI .i64 ((t + 1 : Nat) : Int)) (by kernel_rfl) (congrArg (fun z => eI .i64 z) (w_add_i64 (a := t) (b := 1) (by omega))))) ?_
          refine wo_run [2] [2, 3, 4, 5, 6, 7, 12, 13] [2, 23, 44, 51, 271, 304] (l' := [(2, eL 2 0), (3, .s (.a (.ls 23 0 8 c1))), (4, .s (.a (.ls 304 0 64 c2))), (5, .s (.a (.ls 44 0 ((aL L len).length) c7))), (6, eI .i64 ((64 * q : Nat) : Int)), (7, .s (.a (.ls 51 0 64 64))), (12, .s (.a (.ls 271 0 8 8))), (13, eI .i64 ((t + 1 : Nat) : Int))]) (H' := [(2, ⟨[.ints .u8 32 (List.replicate 32 0)], 24⟩), (23, ⟨[.vals (iV .u32 (hsQ L len q) ++ r1)], 79⟩), (44, ⟨[.vals (bV (aL L len) ++ r7)], 5⟩), (51, ⟨[.vals (iV .u32 (sQ L len q) ++ [])], 79⟩), (271, ⟨[.ints .u32 8 ([(IntKind.wrap .u32 ((IntKind.wrap .u32 ((IntKind.wrap .u32 ((IntKind.wrap .u32 ((IntKind.wrap .u32 (((rQ L len q t).getD 7 0) + (bXor .u32 (bXor .u32 (rotr 6 ((rQ L len q t).getD 4 0)) (rotr 11 ((rQ L len q t).getD 4 0))) (rotr 25 ((rQ L len q t).getD 4 0))))) + (bXor .u32 (bAnd .u32 ((rQ L len q t).getD 4 0) ((rQ L len q t).getD 5 0)) (bAnd .u32 (bXor .u32 4294967295 ((rQ L len q t).getD 4 0)) ((rQ L len q t).getD 6 0))))) + (shaK.getD t 0))) + ((sQ L len q).getD t 0))) + (IntKind.wrap .u32 ((bXor .u32 (bXor .u32 (rotr 2 ((rQ L len q t).getD 0 0)) (rotr 13 ((rQ L len q t).getD 0 0))) (rotr 22 ((rQ L len q t).getD 0 0))) + (bXor .u32 (bXor .u32 (bAnd .u32 ((rQ L len q t).getD 0 0) ((rQ L len q t).getD 1 0)) (bAnd .u32 ((rQ L len q t).getD 0 0) ((rQ L len q t).getD 2 0))) (bAnd .u32 ((rQ L len q t).getD 1 0) ((rQ L len q t).getD 2 0))))))), ((rQ L len q t).getD 0 0), ((rQ L len q t).getD 1 0), ((rQ L len q t).getD 2 0), (IntKind.wrap .u32 (((rQ L len q t).getD 3 0) + (IntKind.wrap .u32 ((IntKind.wrap .u32 ((IntKind.wrap .u32 ((IntKind.wrap .u32 (((rQ L len q t).getD 7 0) + (bXor .u32 (bXor .u32 (rotr 6 ((rQ L len q t).getD 4 0)) (rotr 11 ((rQ L len q t).getD 4 0))) (rotr 25 ((rQ L len q t).getD 4 0))))) + (bXor .u32 (bAnd .u32 ((rQ L len q t).getD 4 0) ((rQ L len q t).getD 5 0)) (bAnd .u32 (bXor .u32 4294967295 ((rQ L len q t).getD 4 0)) ((rQ L len q t).getD 6 0))))) + (shaK.getD t 0))) + ((sQ L len q).getD t 0))))), ((rQ L len q t).getD 4 0), ((rQ L len q t).getD 5 0), ((rQ L len q t).getD 6 0)])], 79⟩), (304, ⟨[.vals (iV .u32 shaK ++ r2)], 79⟩)]) (by kernel_rfl) ?_
          refine wo_nil ?_
          refine we_rest [2, 3, 4, 5, 6, 7, 12, 13] [2, 23, 44, 51, 271, 304] (l' := [(2, eL 2 0), (3, .s (.a (.ls 23 0 8 c1))), (4, .s (.a (.ls 304 0 64 c2))), (5, .s (.a (.ls 44 0 ((aL L len).length) c7))), (6, eI .i64 ((64 * q : Nat) : Int)), (7, .s (.a (.ls 51 0 64 64))), (12, .s (.a (.ls 271 0 8 8))), (13, eI .i64 ((t + 1 : Nat) : Int))]) (H' := [(2, ⟨[.ints .u8 32 (List.replicate 32 0)], 24⟩), (23, ⟨[.vals (iV .u32 (hsQ L len q) ++ r1)], 79⟩), (44, ⟨[.vals (bV (aL L len) ++ r7)], 5⟩), (51, ⟨[.vals (iV .u32 (sQ L len q) ++ [])], 79⟩), (271, ⟨[.ints .u32 8 ([(IntKind.wrap .u32 ((IntKind.wrap .u32 ((IntKind.wrap .u32 ((IntKind.wrap .u32 ((IntKind.wrap .u32 (((rQ L len q t).getD 7 0) + (bXor .u32 (bXor .u32 (rotr 6 ((rQ L len q t).getD 4 0)) (rotr 11 ((rQ L len q t).getD 4 0))) (rotr 25 ((rQ L len q t).getD 4 0))))) + (bXor .u32 (bAnd .u32 ((rQ L len q t).getD 4 0) ((rQ L len q t).getD 5 0)) (bAnd .u32 (bXor .u32 4294967295 ((rQ L len q t).getD 4 0)) ((rQ L len q t).getD 6 0))))) + (shaK.getD t 0))) + ((sQ L len q).getD t 0))) + (IntKind.wrap .u32 ((bXor .u32 (bXor .u32 (rotr 2 ((rQ L len q t).getD 0 0)) (rotr 13 ((rQ L len q t).getD 0 0))) (rotr 22 ((rQ L len q t).getD 0 0))) + (bXor .u32 (bXor .u32 (bAnd .u32 ((rQ L len q t).getD 0 0) ((rQ L len q t).getD 1 0)) (bAnd .u32 ((rQ L len q t).getD 0 0) ((rQ L len q t).getD 2 0))) (bAnd .u32 ((rQ L len q t).getD 1 0) ((rQ L len q t).getD 2 0))))))), ((rQ L len q t).getD 0 0), ((rQ L len q t).getD 1 0), ((rQ L len q t).getD 2 0), (IntKind.wrap .u32 (((rQ L len q t).getD 3 0) + (IntKind.wrap .u32 ((IntKind.wrap .u32 ((IntKind.wrap .u32 ((IntKind.wrap .u32 (((rQ L len q t).getD 7 0) + (bXor .u32 (bXor .u32 (rotr 6 ((rQ L len q t).getD 4 0)) (rotr 11 ((rQ L len q t).getD 4 0))) (rotr 25 ((rQ L len q t).getD 4 0))))) + (bXor .u32 (bAnd .u32 ((rQ L len q t).getD 4 0) ((rQ L len q t).getD 5 0)) (bAnd .u32 (bXor .u32 4294967295 ((rQ L len q t).getD 4 0)) ((rQ L len q t).getD 6 0))))) + (shaK.getD t 0))) + ((sQ L len q).getD t 0))))), ((rQ L len q t).getD 4 0), ((rQ L len q t).getD 5 0), ((rQ L len q t).getD 6 0)])], 79⟩), (304, ⟨[.vals (iV .u32 shaK ++ r2)], 79⟩)]) (by kernel_rfl) (by kernel_rfl) ?_
          refine we_flat 271 [.vals (iV .u32 ([(IntKind.wrap .u32 ((IntKind.wrap .u32 ((IntKind.wrap .u32 ((IntKind.wrap .u32 ((IntKind.wrap .u32 (((rQ L len q t).getD 7 0) + (bXor .u32 (bXor .u32 (rotr 6 ((rQ L len q t).getD 4 0)) (rotr 11 ((rQ L len q t).getD 4 0))) (rotr 25 ((rQ L len q t).getD 4 0))))) + (bXor .u32 (bAnd .u32 ((rQ L len q t).getD 4 0) ((rQ L len q t).getD 5 0)) (bAnd .u32 (bXor .u32 4294967295 ((rQ L len q t).getD 4 0)) ((rQ L len q t).getD 6 0))))) + (shaK.getD t 0))) + ((sQ L len q).getD t 0))) + (IntKind.wrap .u32 ((bXor .u32 (bXor .u32 (rotr 2 ((rQ L len q t).getD 0 0)) (rotr 13 ((rQ L len q t).getD 0 0))) (rotr 22 ((rQ L len q t).getD 0 0))) + (bXor .u32 (bXor .u32 (bAnd .u32 ((rQ L len q t).getD 0 0) ((rQ L len q t).getD 1 0)) (bAnd .u32 ((rQ L len q t).getD 0 0) ((rQ L len q t).getD 2 0))) (bAnd .u32 ((rQ L len q t).getD 1 0) ((rQ L len q t).getD 2 0))))))), ((rQ L len q t).getD 0 0), ((rQ L len q t).getD 1 0), ((rQ L len q t).getD 2 0), (IntKind.wrap .u32 (((rQ L len q t).getD 3 0) + (IntKind.wrap .u32 ((IntKind.wrap .u32 ((IntKind.wrap .u32 ((IntKind.wrap .u32 (((rQ L len q t).getD 7 0) + (bXor .u32 (bXor .u32 (rotr 6 ((rQ L len q t).getD 4 0)) (rotr 11 ((rQ L len q t).getD 4 0))) (rotr 25 ((rQ L len q t).getD 4 0))))) + (bXor .u32 (bAnd .u32 ((rQ L len q t).getD 4 0) ((rQ L len q t).getD 5 0)) (bAnd .u32 (bXor .u32 4294967295 ((rQ L len q t).getD 4 0)) ((rQ L len q t).getD 6 0))))) + (shaK.getD t 0))) + ((sQ L len q).getD t 0))))), ((rQ L len q t).getD 4 0), ((rQ L len q t).getD 5 0), ((rQ L len q t).getD 6 0)]) ++ [])] rfl (fun ρ => by simp [flat, iV]) (okCs_vals _) ?_
          refine we_rest [2, 3, 4, 5, 6, 7, 12, 13] [2, 23, 44, 51, 271, 304] (l' := [(2, eL 2 0), (3, .s (.a (.ls 23 0 8 c1))), (4, .s (.a (.ls 304 0 64 c2))), (5, .s (.a (.ls 44 0 ((aL L len).length) c7))), (6, eI .i64 ((64 * q : Nat) : Int)), (7, .s (.a (.ls 51 0 64 64))), (12, .s (.a (.ls 271 0 8 8))), (13, eI .i64 ((t + 1 : Nat) : Int))]) (H' := [(2, ⟨[.ints .u8 32 (List.replicate 32 0)], 24⟩), (23, ⟨[.vals (iV .u32 (hsQ L len q) ++ r1)], 79⟩), (44, ⟨[.vals (bV (aL L len) ++ r7)], 5⟩), (51, ⟨[.vals (iV .u32 (sQ L len q) ++ [])], 79⟩), (271, ⟨[.vals (iV .u32 ([(IntKind.wrap .u32 ((IntKind.wrap .u32 ((IntKind.wrap .u32 ((IntKind.wrap .u32 ((IntKind.wrap .u32 (((rQ L len q t).getD 7 0) + (bXor .u32 (bXor .u32 (rotr 6 ((rQ L len q t).getD 4 0)) (rotr 11 ((rQ L len q t).getD 4 0))) (rotr 25 ((rQ L len q t).getD 4 0))))) + (bXor .u32 (bAnd .u32 ((rQ L len q t).getD 4 0) ((rQ L len q t).getD 5 0)) (bAnd .u32 (bXor .u32 4294967295 ((rQ L len q t).getD 4 0)) ((rQ L len q t).getD 6 0))))) + (shaK.getD t 0))) + ((sQ L len q).getD t 0))) + (IntKind.wrap .u32 ((bXor .u32 (bXor .u32 (rotr 2 ((rQ L len q t).getD 0 0)) (rotr 13 ((rQ L len q t).getD 0 0))) (rotr 22 ((rQ L len q t).getD 0 0))) + (bXor .u32 (bXor .u32 (bAnd .u32 ((rQ L len q t).getD 0 0) ((rQ L len q t).getD 1 0)) (bAnd .u32 ((rQ L len q t).getD 0 0) ((rQ L len q t).getD 2 0))) (bAnd .u32 ((rQ L len q t).getD 1 0) ((rQ L len q t).getD 2 0))))))), ((rQ L len q t).getD 0 0), ((rQ L len q t).getD 1 0), ((rQ L len q t).getD 2 0), (IntKind.wrap .u32 (((rQ L len q t).getD 3 0) + (IntKind.wrap .u32 ((IntKind.wrap .u32 ((IntKind.wrap .u32 ((IntKind.wrap .u32 (((rQ L len q t).getD 7 0) + (bXor .u32 (bXor .u32 (rotr 6 ((rQ L len q t).getD 4 0)) (rotr 11 ((rQ L len q t).getD 4 0))) (rotr 25 ((rQ L len q t).getD 4 0))))) + (bXor .u32 (bAnd .u32 ((rQ L len q t).getD 4 0) ((rQ L len q t).getD 5 0)) (bAnd .u32 (bXor .u32 4294967295 ((rQ L len q t).getD 4 0)) ((rQ L len q t).getD 6 0))))) + (shaK.getD t 0))) + ((sQ L len q).getD t 0))))), ((rQ L len q t).getD 4 0), ((rQ L len q t).getD 5 0), ((rQ L len q t).getD 6 0)]) ++ [])], 79⟩), (304, ⟨[.vals (iV .u32 shaK ++ r2)], 79⟩)]) (by kernel_rfl) (by kernel_rfl) ?_
          refine we_ren [(2, 2), (23, 23), (44, 44), (51, 51), (271, 154), (304, 304)] (l' := [(2, eL 2 0), (3, .s (.a (.ls 23 0 8 c1))), (4, .s (.a (.ls 304 0 64 c2))), (5, .s (.a (.ls 44 0 ((aL L len).length) c7))), (6, eI .i64 ((64 * q : Nat) : Int)), (7, .s (.a (.ls 51 0 64 64))), (12, .s (.a (.ls 154 0 8 8))), (13, eI .i64 ((t + 1 : Nat) : Int))]) (H' := [(2, ⟨[.ints .u8 32 (List.replicate 32 0)], 24⟩), (23, ⟨[.vals (iV .u32 (hsQ L len q) ++ r1)], 79⟩), (44, ⟨[.vals (bV (aL L len) ++ r7)], 5⟩), (51, ⟨[.vals (iV .u32 (sQ L len q) ++ [])], 79⟩), (154, ⟨[.vals (iV .u32 ([(IntKind.wrap .u32 ((IntKind.wrap .u32 ((IntKind.wrap .u32 ((IntKind.wrap .u32 ((IntKind.wrap .u32 (((rQ L len q t).getD 7 0) + (bXor .u32 (bXor .u32 (rotr 6 ((rQ L len q t).getD 4 0)) (rotr 11 ((rQ L len q t).getD 4 0))) (rotr 25 ((rQ L len q t).getD 4 0))))) + (bXor .u32 (bAnd .u32 ((rQ L len q t).getD 4 0) ((rQ L len q t).getD 5 0)) (bAnd .u32 (bXor .u32 4294967295 ((rQ L len q t).getD 4 0)) ((rQ L len q t).getD 6 0))))) + (shaK.getD t 0))) + ((sQ L len q).getD t 0))) + (IntKind.wrap .u32 ((bXor .u32 (bXor .u32 (rotr 2 ((rQ L len q t).getD 0 0)) (rotr 13 ((rQ L len q t).getD 0 0))) (rotr 22 ((rQ L len q t).getD 0 0))) + (bXor .u32 (bXor .u32 (bAnd .u32 ((rQ L len q t).getD 0 0) ((rQ L len q t).getD 1 0)) (bAnd .u32 ((rQ L len q t).getD 0 0) ((rQ L len q t).getD 2 0))) (bAnd .u32 ((rQ L len q t).getD 1 0) ((rQ L len q t).getD 2 0))))))), ((rQ L len q t).getD 0 0), ((rQ L len q t).getD 1 0), ((rQ L len q t).getD 2 0), (IntKind.wrap .u32 (((rQ L len q t).getD 3 0) + (IntKind.wrap .u32 ((IntKind.wrap .u32 ((IntKind.wrap .u32 ((IntKind.wrap .u32 (((rQ L len q t).getD 7 0) + (bXor .u32 (bXor .u32 (rotr 6 ((rQ L len q t).getD 4 0)) (rotr 11 ((rQ L len q t).getD 4 0))) (rotr 25 ((rQ L len q t).getD 4 0))))) + (bXor .u32 (bAnd .u32 ((rQ L len q t).getD 4 0) ((rQ L len q t).getD 5 0)) (bAnd .u32 (bXor .u32 4294967295 ((rQ L len q t).getD 4 0)) ((rQ L len q t).getD 6 0))))) + (shaK.getD t 0))) + ((sQ L len q).getD t 0))))), ((rQ L len q t).getD 4 0), ((rQ L len q t).getD 5 0), ((rQ L len q t).getD 6 0)]) ++ [])], 79⟩), (304, ⟨[.vals (iV .u32 shaK ++ r2)], 79⟩)]) (by kernel_rfl) (by kernel_rfl) (by kernel_rfl) ?_
          refine we_rest [2, 3, 4, 5, 6, 7, 12, 13] [2, 23, 44, 51, 154, 304] (l' := [(2, eL 2 0), (3, .s (.a (.ls 23 0 8 c1))), (4, .s (.a (.ls 304 0 64 c2))), (5, .s (.a (.ls 44 0 ((aL L len).length) c7))), (6, eI .i64 ((64 * q : Nat) : Int)), (7, .s (.a (.ls 51 0 64 64))), (12, .s (.a (.ls 154 0 8 8))), (13, eI .i64 ((t + 1 : Nat) : Int))]) (H' := [(2, ⟨[.ints .u8 32 (List.replicate 32 0)], 24⟩), (23, ⟨[.vals (iV .u32 (hsQ L len q) ++ r1)], 79⟩), (44, ⟨[.vals (bV (aL L len) ++ r7)], 5⟩), (51, ⟨[.vals (iV .u32 (sQ L len q) ++ [])], 79⟩), (154, ⟨[.vals (iV .u32 ([(IntKind.wrap .u32 ((IntKind.wrap .u32 ((IntKind.wrap .u32 ((IntKind.wrap .u32 ((IntKind.wrap .u32 (((rQ L len q t).getD 7 0) + (bXor .u32 (bXor .u32 (rotr 6 ((rQ L len q t).getD 4 0)) (rotr 11 ((rQ L len q t).getD 4 0))) (rotr 25 ((rQ L len q t).getD 4 0))))) + (bXor .u32 (bAnd .u32 ((rQ L len q t).getD 4 0) ((rQ L len q t).getD 5 0)) (bAnd .u32 (bXor .u32 4294967295 ((rQ L len q t).getD 4 0)) ((rQ L len q t).getD 6 0))))) + (shaK.getD t 0))) + ((sQ L len q).getD t 0))) + (IntKind.wrap .u32 ((bXor .u32 (bXor .u32 (rotr 2 ((rQ L len q t).getD 0 0)) (rotr 13 ((rQ L len q t).getD 0 0))) (rotr 22 ((rQ L len q t).getD 0 0))) + (bXor .u32 (bXor .u32 (bAnd .u32 ((rQ L len q t).getD 0 0) ((rQ L len q t).getD 1 0)) (bAnd .u32 ((rQ L len q t).getD 0 0) ((rQ L len q t).getD 2 0))) (bAnd .u32 ((rQ L len q t).getD 1 0) ((rQ L len q t).getD 2 0))))))), ((rQ L len q t).getD 0 0), ((rQ L len q t).getD 1 0), ((rQ L len q t).getD 2 0), (IntKind.wrap .u32 (((rQ L len q t).getD 3 0) + (IntKind.wrap .u32 ((IntKind.wrap .u32 ((IntKind.wrap .u32 ((IntKind.wrap .u32 (((rQ L len q t).getD 7 0) + (bXor .u32 (bXor .u32 (rotr 6 ((rQ L len q t).getD 4 0)) (rotr 11 ((rQ L len q t).getD 4 0))) (rotr 25 ((rQ L len q t).getD 4 0))))) + (bXor .u32 (bAnd .u32 ((rQ L len q t).getD 4 0) ((rQ L len q t).getD 5 0)) (bAnd .u32 (bXor .u32 4294967295 ((rQ L len q t).getD 4 0)) ((rQ L len q t).getD 6 0))))) + (shaK.getD t 0))) + ((sQ L len q).getD t 0))))), ((rQ L len q t).getD 4 0), ((rQ L len q t).getD 5 0), ((rQ L len q t).getD 6 0)]) ++ [])], 79⟩), (304, ⟨[.vals (iV .u32 shaK ++ r2)], 79⟩)]) (by kernel_rfl) (by kernel_rfl) ?_
          rw [show (([(IntKind.wrap .u32 ((IntKind.wrap .u32 ((IntKind.wrap .u32 ((IntKind.wrap .u32 ((IntKind.wrap .u32 (((rQ L len q t).getD 7 0) + (bXor .u32 (bXor .u32 (rotr 6 ((rQ L len q t).getD 4 0)) (rotr 11 ((rQ L len q t).getD 4 0))) (rotr 25 ((rQ L len q t).getD 4 0))))) + (bXor .u32 (bAnd .u32 ((rQ L len q t).getD 4 0) ((rQ L len q t).getD 5 0)) (bAnd .u32 (bXor .u32 4294967295 ((rQ L len q t).getD 4 0)) ((rQ L len q t).getD 6 0))))) + (shaK.getD t 0))) + ((sQ L len q).getD t 0))) + (IntKind.wrap .u32 ((bXor .u32 (bXor .u32 (rotr 2 ((rQ L len q t).getD 0 0)) (rotr 13 ((rQ L len q t).getD 0 0))) (rotr 22 ((rQ L len q t).getD 0 0))) + (bXor .u32 (bXor .u32 (bAnd .u32 ((rQ L len q t).getD 0 0) ((rQ L len q t).getD 1 0)) (bAnd .u32 ((rQ L len q t).getD 0 0) ((rQ L len q t).getD 2 0))) (bAnd .u32 ((rQ L len q t).getD 1 0) ((rQ L len q t).getD 2 0))))))), ((rQ L len q t).getD 0 0), ((rQ L len q t).getD 1 0), ((rQ L len q t).getD 2 0), (IntKind.wrap .u32 (((rQ L len q t).getD 3 0) + (IntKind.wrap .u32 ((IntKind.wrap .u32 ((IntKind.wrap .u32 ((IntKind.wrap .u32 (((rQ L len q t).getD 7 0) + (bXor .u32 (bXor .u32 (rotr 6 ((rQ L len q t).getD 4 0)) (rotr 11 ((rQ L len q t).getD 4 0))) (rotr 25 ((rQ L len q t).getD 4 0))))) + (bXor .u32 (bAnd .u32 ((rQ L len q t).getD 4 0) ((rQ L len q t).getD 5 0)) (bAnd .u32 (bXor .u32 4294967295 ((rQ L len q t).getD 4 0)) ((rQ L len q t).getD 6 0))))) + (shaK.getD t 0))) + ((sQ L len q).getD t 0))))), ((rQ L len q t).getD 4 0), ((rQ L len q t).getD 5 0), ((rQ L len q t).getD 6 0)]) : List Int) = (rQ L len q (t + 1)) from rfl]
          exact we_round (t + 1, 8, []) (by show t + 1 ≤ 64; omega) (by show 64 - (t + 1) < 64 - t; omega) rfl (sub_ofE [2, 3, 4, 5, 6, 7, 12, 13] rfl) (sub_of [2, 23, 44, 51, 154, 304] rfl)
        · replace h5 := of_decide_eq_false h5
          refine wc_exit ?_
          refine we_then_exit ?_
          refine we_then_exit ?_
          refine we_block_exit ?_
          refine we_then ?_
          refine wc_seq ?_
          obtain rfl : t = 64 := by omega
          refine wc_reg [0] (by kernel_rfl) ?_
          refine wo_run [0] [2, 3, 4, 5, 6, 12, 19] [2, 23, 44, 154, 304] (l' := [(2, eL 2 0), (3, .s (.a (.ls 23 0 8 c1))), (4, .s (.a (.ls 304 0 64 c2))), (5, .s (.a (.ls 44 0 ((aL L len).length) c7))), (6, eI .i64 ((64 * q : Nat) : Int)), (12, .s (.a (.ls 154 0 8 cv))), (19, eI .i64 0)]) (H' := [(2, ⟨[.ints .u8 32 (List.replicate 32 0)], 24⟩), (23, ⟨[.vals (iV .u32 (hsQ L len q) ++ r1)], 79⟩), (44, ⟨[.vals (bV (aL L len) ++ r7)], 5⟩), (154, ⟨[.vals (iV .u32 (rQ L len q 64) ++ rv)], 79⟩), (304, ⟨[.vals (iV .u32 shaK ++ r2)], 79⟩)]) (by kernel_rfl) ?_
          refine wo_nil ?_
          refine we_then ?_
          refine wc_block ?_
          refine wc_rest [2, 3, 4, 5, 6, 12, 19] [2, 23, 44, 154, 304] (l' := [(2, eL 2 0), (3, .s (.a (.ls 23 0 8 c1))), (4, .s (.a (.ls 304 0 64 c2))), (5, .s (.a (.ls 44 0 ((aL L len).length) c7))), (6, eI .i64 ((64 * q : Nat) : Int)), (12, .s (.a (.ls 154 0 8 cv))), (19, eI .i64 0)]) (H' := [(2, ⟨[.ints .u8 32 (List.replicate 32 0)], 24⟩), (23, ⟨[.vals (iV .u32 (hsQ L len q) ++ r1)], 79⟩), (44, ⟨[.vals (bV (aL L len) ++ r7)], 5⟩), (154, ⟨[.vals (iV .u32 (rQ L len q 64) ++ rv)], 79⟩), (304, ⟨[.vals (iV .u32 shaK ++ r2)], 79⟩)]) (by kernel_rfl) ?_
          refine wc_loop (τ := Nat) (fun i => i ≤ 8) (fun i => 8 - i) (fun _ => _) (fun i => [(2, eL 2 0), (3, .s (.a (.ls 23 0 8 c1))), (4, .s (.a (.ls 304 0 64 c2))), (5, .s (.a (.ls 44 0 ((aL L len).length) c7))), (6, eI .i64 ((64 * q : Nat) : Int)), (12, .s (.a (.ls 154 0 8 cv))), (19, eI .i64 ((i : Nat) : Int))]) (fun i => [(2, ⟨[.ints .u8 32 (List.replicate 32 0)], 24⟩), (23, ⟨[.vals (iV .u32 (aQ L len q i) ++ r1)], 79⟩), (44, ⟨[.vals (bV (aL L len) ++ r7)], 5⟩), (154, ⟨[.vals (iV .u32 (rQ L len q 64) ++ rv)], 79⟩), (304, ⟨[.vals (iV .u32 shaK ++ r2)], 79⟩)]) 0 (Nat.zero_le _) rfl rfl rfl ?_
          rintro i hj
          have hi := hj
          refine wc_seq ?_
          refine wc_seq ?_
          refine wc_reg [0, 1] (by kernel_rfl) ?_
          refine wo_run [0, 1] [2, 3, 4, 5, 6, 12, 19, 273] [2, 23, 44, 154, 304] (l' := [(2, eL 2 0), (3, .s (.a (.ls 23 0 8 c1))), (4, .s (.a (.ls 304 0 64 c2))), (5, .s (.a (.ls 44 0 ((aL L len).length) c7))), (6, eI .i64 ((64 * q : Nat) : Int)), (12, .s (.a (.ls 154 0 8 cv))), (19, eI .i64 ((i : Nat) : Int)), (273, eB (decide (((i : Nat) : Int) < 8)))]) (H' := [(2, ⟨[.ints .u8 32 (List.replicate 32 0)], 24⟩), (23, ⟨[.vals (iV .u32 (aQ L len q i) ++ r1)], 79⟩), (44, ⟨[.vals (bV (aL L len) ++ r7)], 5⟩), (154, ⟨[.vals (iV .u32 (rQ L len q 64) ++ rv)], 79⟩), (304, ⟨[.vals (iV .u32 shaK ++ r2)], 79⟩)]) (by kernel_rfl) ?_
          refine wo_nil ?_
          refine we_then ?_
          refine wc_cond rfl (fun h6 => ?_) (fun h6 => ?_)
          · replace h6 := of_decide_eq_true h6
            refine wc_skip ?_
            refine we_then ?_
            refine wc_seq ?_
            refine wc_block ?_
            refine wc_rest [2, 3, 4, 5, 6, 12, 19] [2, 23, 44, 154, 304] (l' := [(2, eL 2 0), (3, .s (.a (.ls 23 0 8 c1))), (4, .s (.a (.ls 304 0 64 c2))), (5, .s (.a (.ls 44 0 ((aL L len).length) c7))), (6, eI .i64 ((64 * q : Nat) : Int)), (12, .s (.a (.ls 154 0 8 cv))), (19, eI .i64 ((i : Nat) : Int))]) (H' := [(2, ⟨[.ints .u8 32 (List.replicate 32 0)], 24⟩), (23, ⟨[.vals (iV .u32 (aQ L len q i) ++ r1)], 79⟩), (44, ⟨[.vals (bV (aL L len) ++ r7)], 5⟩), (154, ⟨[.vals (iV .u32 (rQ L len q 64) ++ rv)], 79⟩), (304, ⟨[.vals (iV .u32 shaK ++ r2)], 79⟩)]) (by kernel_rfl) ?_
            refine wc_draw (n := 11) [(2, ⟨[.ints .u8 32 (List.replicate 32 0)], 24⟩), (44, ⟨[.vals (bV (aL L len) ++ r7)], 5⟩), (154, ⟨[.vals (iV .u32 (rQ L len q 64) ++ rv)], 79⟩), (304, ⟨[.vals (iV .u32 shaK ++ r2)], 79⟩)] (by kernel_rfl) rfl (sub_of [2, 44, 154, 304] (by kernel_rfl)) (fun ρ0 => ?_)
            refine wa_takes (fuel := 7) [0, 1, 4, 5] [2, 3, 4, 5, 6, 12, 19, 276, 277, 280, 281] (listed' := (bs [2, 2, 2, 5])) (l' := [(2, eL 2 0), (3, .s (.a (.ls 23 0 8 c1))), (4, .s (.a (.ls 304 0 64 c2))), (5, .s (.a (.ls 44 0 ((aL L len).length) c7))), (6, eI .i64 ((64 * q : Nat) : Int)), (12, .s (.a (.ls 154 0 8 cv))), (19, eI .i64 ((i : Nat) : Int)), (276, .s (.a (.ls 23 0 8 c1))), (277, eI .i64 ((i : Nat) : Int)), (280, .s (.a (.ls 154 0 8 cv))), (281, eI .i64 ((i : Nat) : Int))]) (pk_block (pk_then (pk_then (pk_block (pk_block (pk_then (pk_then (pk_block (pk_then pk_body))))))))) rfl (by kernel_rfl) ?_
            refine wa_take 2 (pk_block (pk_then (pk_then (pk_block (pk_block (pk_then (pk_then (pk_block (pk_then pk_body))))))))) rfl (by kernel_rfl) rfl rfl (rd_indexL (e := 79) 1 i ((i : Nat) : Int) rfl (by kernel_rfl) (by kernel_rfl) rfl rfl (rfl) (by omega)) ?_
            refine wa_take 6 (pk_block (pk_then (pk_then (pk_block (pk_block (pk_then (pk_then (pk_block (pk_then pk_body))))))))) rfl (by kernel_rfl) rfl rfl (rd_indexL (e := 79) 1 i ((i : Nat) : Int) rfl (by kernel_rfl) (by kernel_rfl) rfl rfl (rfl) (by omega)) ?_
            refine wa_take 7 (pk_block (pk_then (pk_then (pk_block (pk_block (pk_then (pk_then (pk_block (pk_then pk_body))))))))) rfl (by kernel_rfl) rfl rfl (rd_cellS (b := ⟨[.vals (iV .u32 (rQ L len q 64) ++ rv)], 79⟩) (.v (.int .u32 ((rQ L len q 64).getD i 0))) rfl rfl rfl (by kernel_rfl) (fun ρ => rowi_at (i := i) (by rw [rnds_len _ _ (hfold_len _ _ rfl q)]; omega) (by omega) ρ)) ?_
            refine wa_all [3] (by kernel_rfl) rfl (all1 ?_)
            refine wi_op rfl rfl (ot_rd rfl (rd_cellS (b := ⟨[.vals (iV .u32 (aQ L len q i) ++ r1)], 79⟩) (.v (.int .u32 ((aQ L len q i).getD i 0))) rfl rfl rfl (by kernel_rfl) (fun ρ => rowi_at (i := i) (by rw [addv_len _ (hfold_len _ _ rfl q)]; omega) (by omega) ρ))) (sub_of [2, 44, 154, 304] (by kernel_rfl)) ?_
            refine wa_takes (fuel := 2) [8] [2, 3, 4, 5, 6, 12, 19, 276, 277, 284] (listed' := (bs [9, 2])) (l' := [(2, eL 2 0), (3, .s (.a (.ls 23 0 8 c1))), (4, .s (.a (.ls 304 0 64 c2))), (5, .s (.a (.ls 44 0 ((aL L len).length) c7))), (6, eI .i64 ((64 * q : Nat) : Int)), (12, .s (.a (.ls 154 0 8 cv))), (19, eI .i64 ((i : Nat) : Int)), (276, .s (.a (.ls 23 0 8 c1))), (277, eI .i64 ((i : Nat) : Int)), (284, eI .u32 (IntKind.wrap .u32 (((aQ L len q i).getD i 0) + ((rQ L len q 64).getD i 0))))]) (pk_block (pk_then (pk_then (pk_block (pk_block (pk_then (pk_then (pk_block (pk_then pk_body))))))))) rfl (by kernel_rfl) ?_
            refine wa_take 9 (pk_block (pk_then (pk_then (pk_block (pk_block (pk_then (pk_then (pk_block (pk_then pk_body))))))))) rfl (by kernel_rfl) rfl rfl (rd_indexL (e := 79) 1 i ((i : Nat) : Int) rfl (by kernel_rfl) (by kernel_rfl) rfl rfl (rfl) (by omega)) ?_
            refine wa_all [10] (by kernel_rfl) rfl (all1 ?_)
            refine wi_op rfl rfl (ot_storeS (b := ⟨[.vals (iV .u32 (aQ L len q i) ++ r1)], 79⟩) (v := (sI .u32 (IntKind.wrap .u32 (((aQ L len q i).getD i 0) + ((rQ L len q 64).getD i 0))))) [.vals (iV .u32 ((aQ L len q i).set i (IntKind.wrap .u32 (((aQ L len q i).getD i 0) + ((rQ L len q 64).getD i 0)))) ++ r1)] rfl rfl rfl rfl rfl rfl (by kernel_rfl) (okCs_vals _) (fun ρ => by rw [flat_vals, List.length_append, iV_len]; have : i < ((aQ L len q i) : List Int).length := (by rw [addv_len _ (hfold_len _ _ rfl q)]; omega); simp only [SV.chunks, sz]; omega) (fun ρ => rowi_set (i := i) (by rw [addv_len _ (hfold_len _ _ rfl q)]; omega) (by omega) ρ)) (sub_of [2, 44, 154, 304] (by kernel_rfl)) ?_
            refine wa_done (by kernel_rfl) ?_
            refine we_rest [2, 3, 4, 5, 6, 12, 19] [2, 23, 44, 154, 304] (l' := [(2, eL 2 0), (3, .s (.a (.ls 23 0 8 c1))), (4, .s (.a (.ls 304 0 64 c2))), (5, .s (.a (.ls 44 0 ((aL L len).length) c7))), (6, eI .i64 ((64 * q : Nat) : Int)), (12, .s (.a (.ls 154 0 8 cv))), (19, eI .i64 ((i : Nat) : Int))]) (H' := [(2, ⟨[.ints .u8 32 (List.replicate 32 0)], 24⟩), (23, ⟨[.vals (iV .u32 ((aQ L len q i).set i (IntKind.wrap .u32 (((aQ L len q i).getD i 0) + ((rQ L len q 64).getD i 0)))) ++ r1)], 79⟩), (44, ⟨[.vals (bV (aL L len) ++ r7)], 5⟩), (154, ⟨[.vals (iV .u32 (rQ L len q 64) ++ rv)], 79⟩), (304, ⟨[.vals (iV .u32 shaK ++ r2)], 79⟩)]) (by kernel_rfl) (by kernel_rfl) ?_
            refine we_block ?_
            refine we_then ?_
            refine wc_reg [0, 1, 2] (by kernel_rfl) ?_
            refine wo_run [0] [2, 3, 4, 5, 6, 12, 274] [2, 23, 44, 154, 304] (l' := [(2, eL 2 0), (3, .s (.a (.ls 23 0 8 c1))), (4, .s (.a (.ls 304 0 64 c2))), (5, .s (.a (.ls 44 0 ((aL L len).length) c7))), (6, eI .i64 ((64 * q : Nat) : Int)), (12, .s (.a (.ls 154 0 8 cv))), (274, eI .i64 ((i : Nat) : Int))]) (H' := [(2, ⟨[.ints .u8 32 (List.replicate 32 0)], 24⟩), (23, ⟨[.vals (iV .u32 ((aQ L len q i).set i (IntKind.wrap .u32 (((aQ L len q i).getD i 0) + ((rQ L len q 64).getD i 0)))) ++ r1)], 79⟩), (44, ⟨[.vals (bV (aL L len) ++ r7)], 5⟩), (154, ⟨[.vals (iV .u32 (rQ L len q 64) ++ rv)], 79⟩), (304, ⟨[.vals (iV .u32 shaK ++ r2)], 79⟩)]) (by kernel_rfl) ?_
            refine wo_op rfl rfl (ot_rd rfl (rd_recast (e := eI .i64 (IntKind.wrap .i64 (((i : Nat) : Int) + 1))) (eI .i64 ((i + 1 : Nat) : Int)) (by kernel_rfl) (congrArg (fun z => eI .i64 z) (w_add_i64 (a := i) (b := 1) (by omega))))) ?_
            refine wo_run [2] [2, 3, 4, 5, 6, 12, 19] [2, 23, 44, 154, 304] (l' := [(2, eL 2 0), (3, .s (.a (.ls 23 0 8 c1))), (4, .s (.a (.ls 304 0 64 c2))), (5, .s (.a (.ls 44 0 ((aL L len).length) c7))), (6, eI .i64 ((64 * q : Nat) : Int)), (12, .s (.a (.ls 154 0 8 cv))), (19, eI .i64 ((i + 1 : Nat) : Int))]) (H' := [(2, ⟨[.ints .u8 32 (List.replicate 32 0)], 24⟩), (23, ⟨[.vals (iV .u32 ((aQ L len q i).set i (IntKind.wrap .u32 (((aQ L len q i).getD i 0) + ((rQ L len q 64).getD i 0)))) ++ r1)], 79⟩), (44, ⟨[.vals (bV (aL L len) ++ r7)], 5⟩), (154, ⟨[.vals (iV .u32 (rQ L len q 64) ++ rv)], 79⟩), (304, ⟨[.vals (iV .u32 shaK ++ r2)], 79⟩)]) (by kernel_rfl) ?_
            refine wo_nil ?_
            refine we_rest [2, 3, 4, 5, 6, 12, 19] [2, 23, 44, 154, 304] (l' := [(2, eL 2 0), (3, .s (.a (.ls 23 0 8 c1))), (4, .s (.a (.ls 304 0 64 c2))), (5, .s (.a (.ls 44 0 ((aL L len).length) c7))), (6, eI .i64 ((64 * q : Nat) : Int)), (12, .s (.a (.ls 154 0 8 cv))), (19, eI .i64 ((i + 1 : Nat) : Int))]) (H' := [(2, ⟨[.ints .u8 32 (List.replicate 32 0)], 24⟩), (23, ⟨[.vals (iV .u32 ((aQ L len q i).set i (IntKind.wrap .u32 (((aQ L len q i).getD i 0) + ((rQ L len q 64).getD i 0)))) ++ r1)], 79⟩), (44, ⟨[.vals (bV (aL L len) ++ r7)], 5⟩), (154, ⟨[.vals (iV .u32 (rQ L len q 64) ++ rv)], 79⟩), (304, ⟨[.vals (iV .u32 shaK ++ r2)], 79⟩)]) (by kernel_rfl) (by kernel_rfl) ?_
            rw [show ((aQ L len q i).set i (IntKind.wrap .u32 (((aQ L len q i).getD i 0) + ((rQ L len q 64).getD i 0)))) = (aQ L len q (i + 1)) from rfl]
            exact we_round (i + 1) (by show i + 1 ≤ 8; omega) (by show 8 - (i + 1) < 8 - i; omega) rfl (sub_ofE [2, 3, 4, 5, 6, 12, 19] rfl) (sub_of [2, 23, 44, 154, 304] rfl)
          · replace h6 := of_decide_eq_false h6
            refine wc_exit ?_
            refine we_then_exit ?_
            refine we_then_exit ?_
            refine we_block_exit ?_
            refine we_block ?_
            refine we_then ?_
            obtain rfl : i = 8 := by omega
            refine wc_reg [0, 1, 2] (by kernel_rfl) ?_
            refine wo_run [0] [2, 3, 4, 5, 49] [2, 23, 44, 304] (l' := [(2, eL 2 0), (3, .s (.a (.ls 23 0 8 c1))), (4, .s (.a (.ls 304 0 64 c2))), (5, .s (.a (.ls 44 0 ((aL L len).length) c7))), (49, eI .i64 ((64 * q : Nat) : Int))]) (H' := [(2, ⟨[.ints .u8 32 (List.replicate 32 0)], 24⟩), (23, ⟨[.vals (iV .u32 (aQ L len q 8) ++ r1)], 79⟩), (44, ⟨[.vals (bV (aL L len) ++ r7)], 5⟩), (304, ⟨[.vals (iV .u32 shaK ++ r2)], 79⟩)]) (by kernel_rfl) ?_
            refine wo_op rfl rfl (ot_rd rfl (rd_recast (e := eI .i64 (IntKind.wrap .i64 (((64 * q : Nat) : Int) + 64))) (eI .i64 (((64 * q) + 64 : Nat) : Int)) (by kernel_rfl) (congrArg (fun z => eI .i64 z) (w_add_i64 (a := (64 * q)) (b := 64) (by omega))))) ?_
            refine wo_run [2] [2, 3, 4, 5, 6] [2, 23, 44, 304] (l' := [(2, eL 2 0), (3, .s (.a (.ls 23 0 8 c1))), (4, .s (.a (.ls 304 0 64 c2))), (5, .s (.a (.ls 44 0 ((aL L len).length) c7))), (6, eI .i64 (((64 * q) + 64 : Nat) : Int))]) (H' := [(2, ⟨[.ints .u8 32 (List.replicate 32 0)], 24⟩), (23, ⟨[.vals (iV .u32 (aQ L len q 8) ++ r1)], 79⟩), (44, ⟨[.vals (bV (aL L len) ++ r7)], 5⟩), (304, ⟨[.vals (iV .u32 shaK ++ r2)], 79⟩)]) (by kernel_rfl) ?_
            refine wo_nil ?_
            refine we_rest [2, 3, 4, 5, 6] [2, 23, 44, 304] (l' := [(2, eL 2 0), (3, .s (.a (.ls 23 0 8 c1))), (4, .s (.a (.ls 304 0 64 c2))), (5, .s (.a (.ls 44 0 ((aL L len).length) c7))), (6, eI .i64 (((64 * q) + 64 : Nat) : Int))]) (H' := [(2, ⟨[.ints .u8 32 (List.replicate 32 0)], 24⟩), (23, ⟨[.vals (iV .u32 (aQ L len q 8) ++ r1)], 79⟩), (44, ⟨[.vals (bV (aL L len) ++ r7)], 5⟩), (304, ⟨[.vals (iV .u32 shaK ++ r2)], 79⟩)]) (by kernel_rfl) (by kernel_rfl) ?_
            rw [show (iV .u32 (aQ L len q 8) ++ r1) = (iV .u32 (hsQ L len (q + 1)) ++ r1) from rfl]
            rw [show (((64 * q) + 64 : Nat) : Int) = ((64 * (q + 1) : Nat) : Int) from by congr 1]
            exact we_round (q + 1) (by show 64 * (q + 1) ≤ (aL L len).length; omega) (by show (aL L len).length - 64 * (q + 1) < (aL L len).length - 64 * q; omega) rfl (sub_ofE [2, 3, 4, 5, 6] rfl) (sub_of [2, 23, 44, 304] rfl)
    · replace h2 := of_decide_eq_false h2
      refine wc_exit ?_
      refine we_then_exit ?_
      refine we_then_exit ?_
      refine we_block_exit ?_
      refine we_then ?_
      refine wc_seq ?_
      refine wc_reg [0, 1, 2] (by kernel_rfl) ?_
      refine wo_op rfl rfl (ot_rd rfl (rd_build (zc := z24) [.ints .u8 32 (List.replicate 32 0)] rfl z24_zero' z24_ok (fun _ => rfl) (by kernel_rfl) (by kernel_rfl))) ?_
      refine wo_op rfl rfl (ot_alloc (d := 20) (cs := z24) rfl rfl z24_zero rfl z24_ok (fun _ => rfl)) ?_
      refine wo_run [2] [2, 3, 20] [2, 20, 23] (l' := [(2, eL 2 0), (3, .s (.a (.ls 23 0 8 c1))), (20, eL 20 0)]) (H' := [(2, ⟨[.ints .u8 32 (List.replicate 32 0)], 24⟩), (20, ⟨[.ints .u8 32 (List.replicate 32 0)], 24⟩), (23, ⟨[.vals (iV .u32 (hsQ L len q) ++ r1)], 79⟩)]) (by kernel_rfl) ?_
      refine wo_nil ?_
      refine we_then ?_
      refine wc_seq ?_
      refine wc_seq ?_
      refine wc_reg [0] (by kernel_rfl) ?_
      refine wo_run [0] [2, 3, 20, 21] [2, 20, 23] (l' := [(2, eL 2 0), (3, .s (.a (.ls 23 0 8 c1))), (20, eL 20 0), (21, eI .i64 0)]) (H' := [(2, ⟨[.ints .u8 32 (List.replicate 32 0)], 24⟩), (20, ⟨[.ints .u8 32 (List.replicate 32 0)], 24⟩), (23, ⟨[.vals (iV .u32 (hsQ L len q) ++ r1)], 79⟩)]) (by kernel_rfl) ?_
      refine wo_nil ?_
      refine we_then ?_
      refine wc_block ?_
      refine wc_loopn 33 ?_
      refine wr_go ?_
      refine wc_seq ?_
      refine wc_seq ?_
      refine wc_reg [0, 1] (by kernel_rfl) ?_
      refine wo_run [0, 1] [2, 3, 20, 21, 288] [2, 20, 23] (l' := [(2, eL 2 0), (3, .s (.a (.ls 23 0 8 c1))), (20, eL 20 0), (21, eI .i64 0), (288, eB true)]) (H' := [(2, ⟨[.ints .u8 32 (List.replicate 32 0)], 24⟩), (20, ⟨[.ints .u8 32 (List.replicate 32 0)], 24⟩), (23, ⟨[.vals (iV .u32 (hsQ L len q) ++ r1)], 79⟩)]) (by kernel_rfl) ?_
      refine wo_nil ?_
      refine we_then ?_
      refine wc_true rfl ?_
      refine wc_skip ?_
      refine we_then ?_
      refine wc_seq ?_
      refine wc_block ?_
      refine wc_reg [0, 1, 2, 3, 4, 5, 6, 7, 8, 9, 10, 11, 12, 13] (by kernel_rfl) ?_
      refine wo_run [0, 1, 2, 3] [2, 3, 20, 21, 291, 292, 294] [2, 20, 23] (l' := [(2, eL 2 0), (3, .s (.a (.ls 23 0 8 c1))), (20, eL 20 0), (21, eI .i64 0), (291, eI .i64 0), (292, .s (.a (.ls 23 0 8 c1))), (294, eI .i64 0)]) (H' := [(2, ⟨[.ints .u8 32 (List.replicate 32 0)], 24⟩), (20, ⟨[.ints .u8 32 (List.replicate 32 0)], 24⟩), (23, ⟨[.vals (iV .u32 (hsQ L len q) ++ r1)], 79⟩)]) (by kernel_rfl) ?_
      refine wo_op rfl rfl (ot_rd rfl (rd_indexL (e := 79) 1 0 0 rfl (by kernel_rfl) (by kernel_rfl) rfl rfl (rfl) (by decide))) ?_
      refine wo_op rfl rfl (ot_rd rfl (rd_cellS (b := ⟨[.vals (iV .u32 (hsQ L len q) ++ r1)], 79⟩) (.v (.int .u32 ((hsQ L len q).getD 0 0))) rfl rfl rfl (by kernel_rfl) (fun ρ => rowi_at (i := 0) (by rw [hfold_len _ _ rfl]; omega) (by omega) ρ))) ?_
      refine wo_run [6, 7, 8, 9, 10, 11, 12, 13] [2, 3, 20, 21] [2, 20, 23] (l' := [(2, eL 2 0), (3, .s (.a (.ls 23 0 8 c1))), (20, eL 20 0), (21, eI .i64 0)]) (H' := [(2, ⟨[.ints .u8 32 (List.replicate 32 0)], 24⟩), (20, ⟨[.ints .u8 32 ((List.replicate 32 0).set 0 (IntKind.wrap .u8 (Int.fdiv ((hsQ L len q).getD 0 0) (2 ^ (24 : Nat)))))], 24⟩), (23, ⟨[.vals (iV .u32 (hsQ L len q) ++ r1)], 79⟩)]) (by kernel_rfl) ?_
      refine wo_nil ?_
      refine we_block ?_
      refine we_then ?_
      refine wc_reg [0, 1, 2] (by kernel_rfl) ?_
      refine wo_run [0, 1, 2] [2, 3, 20, 21] [2, 20, 23] (l' := [(2, eL 2 0), (3, .s (.a (.ls 23 0 8 c1))), (20, eL 20 0), (21, eI .i64 1)]) (H' := [(2, ⟨[.ints .u8 32 (List.replicate 32 0)], 24⟩), (20, ⟨[.ints .u8 32 ((List.replicate 32 0).set 0 (IntKind.wrap .u8 (Int.fdiv ((hsQ L len q).getD 0 0) (2 ^ (24 : Nat)))))], 24⟩), (23, ⟨[.vals (iV .u32 (hsQ L len q) ++ r1)], 79⟩)]) (by kernel_rfl) ?_
      refine wo_nil ?_
      refine we_rest [2, 3, 20, 21] [2, 20, 23] (l' := [(2, eL 2 0), (3, .s (.a (.ls 23 0 8 c1))), (20, eL 20 0), (21, eI .i64 1)]) (H' := [(2, ⟨[.ints .u8 32 (List.replicate 32 0)], 24⟩), (20, ⟨[.ints .u8 32 (outF (hsQ L len q) 1)], 24⟩), (23, ⟨[.vals (iV .u32 (hsQ L len q) ++ r1)], 79⟩)]) (by kernel_rfl) (by kernel_rfl) ?_
      refine we_unr ?_
      refine wr_go ?_
      refine wc_seq ?_
      refine wc_seq ?_
      refine wc_reg [0, 1] (by kernel_rfl) ?_
      refine wo_run [0, 1] [2, 3, 20, 21, 288] [2, 20, 23] (l' := [(2, eL 2 0), (3, .s (.a (.ls 23 0 8 c1))), (20, eL 20 0), (21, eI .i64 1), (288, eB true)]) (H' := [(2, ⟨[.ints .u8 32 (List.replicate 32 0)], 24⟩), (20, ⟨[.ints .u8 32 (outF (hsQ L len q) 1)], 24⟩), (23, ⟨[.vals (iV .u32 (hsQ L len q) ++ r1)], 79⟩)]) (by kernel_rfl) ?_
      refine wo_nil ?_
      refine we_then ?_
      refine wc_true rfl ?_
      refine wc_skip ?_
      refine we_then ?_
      refine wc_seq ?_
      refine wc_block ?_
      refine wc_reg [0, 1, 2, 3, 4, 5, 6, 7, 8, 9, 10, 11, 12, 13] (by kernel_rfl) ?_
      refine wo_run [0, 1, 2, 3] [2, 3, 20, 21, 291, 292, 294] [2, 20, 23] (l' := [(2, eL 2 0), (3, .s (.a (.ls 23 0 8 c1))), (20, eL 20 0), (21, eI .i64 1), (291, eI .i64 1), (292, .s (.a (.ls 23 0 8 c1))), (294, eI .i64 0)]) (H' := [(2, ⟨[.ints .u8 32 (List.replicate 32 0)], 24⟩), (20, ⟨[.ints .u8 32 (outF (hsQ L len q) 1)], 24⟩), (23, ⟨[.vals (iV .u32 (hsQ L len q) ++ r1)], 79⟩)]) (by kernel_rfl) ?_
      refine wo_op rfl rfl (ot_rd rfl (rd_indexL (e := 79) 1 0 0 rfl (by kernel_rfl) (by kernel_rfl) rfl rfl (rfl) (by decide))) ?_
      refine wo_op rfl rfl (ot_rd rfl (rd_cellS (b := ⟨[.vals (iV .u32 (hsQ L len q) ++ r1)], 79⟩) (.v (.int .u32 ((hsQ L len q).getD 0 0))) rfl rfl rfl (by kernel_rfl) (fun ρ => rowi_at (i := 0) (by rw [hfold_len _ _ rfl]; omega) (by omega) ρ))) ?_
      refine wo_run [6, 7, 8, 9, 10, 11, 12, 13] [2, 3, 20, 21] [2, 20, 23] (l' := [(2, eL 2 0), (3, .s (.a (.ls 23 0 8 c1))), (20, eL 20 0), (21, eI .i64 1)]) (H' := [(2, ⟨[.ints .u8 32 (List.replicate 32 0)], 24⟩), (20, ⟨[.ints .u8 32 ((outF (hsQ L len q) 1).set 1 (IntKind.wrap .u8 (Int.fdiv ((hsQ L len q).getD 0 0) (2 ^ (16 : Nat)))))], 24⟩), (23, ⟨[.vals (iV .u32 (hsQ L len q) ++ r1)], 79⟩)]) (by kernel_rfl) ?_
      refine wo_nil ?_
      refine we_block ?_
      refine we_then ?_
      refine wc_reg [0, 1, 2] (by kernel_rfl) ?_
      refine wo_run [0, 1, 2] [2, 3, 20, 21] [2, 20, 23] (l' := [(2, eL 2 0), (3, .s (.a (.ls 23 0 8 c1))), (20, eL 20 0), (21, eI .i64 2)]) (H' := [(2, ⟨[.ints .u8 32 (List.replicate 32 0)], 24⟩), (20, ⟨[.ints .u8 32 ((outF (hsQ L len q) 1).set 1 (IntKind.wrap .u8 (Int.fdiv ((hsQ L len q).getD 0 0) (2 ^ (16 : Nat)))))], 24⟩), (23, ⟨[.vals (iV .u32 (hsQ L len q) ++ r1)], 79⟩)]) (by kernel_rfl) ?_
      refine wo_nil ?_
      refine we_rest [2, 3, 20, 21] [2, 20, 23] (l' := [(2, eL 2 0), (3, .s (.a (.ls 23 0 8 c1))), (20, eL 20 0), (21, eI .i64 2)]) (H' := [(2, ⟨[.ints .u8 32 (List.replicate 32 0)], 24⟩), (20, ⟨[.ints .u8 32 (outF (hsQ L len q) 2)], 24⟩), (23, ⟨[.vals (iV .u32 (hsQ L len q) ++ r1)], 79⟩)]) (by kernel_rfl) (by kernel_rfl) ?_
      refine we_unr ?_
      refine wr_go ?_
      refine wc_seq ?_
      refine wc_seq ?_
      refine wc_reg [0, 1] (by kernel_rfl) ?_
      refine wo_run [0, 1] [2, 3, 20, 21, 288] [2, 20, 23] (l' := [(2, eL 2 0), (3, .s (.a (.ls 23 0 8 c1))), (20, eL 20 0), (21, eI .i64 2), (288, eB true)]) (H' := [(2, ⟨[.ints .u8 32 (List.replicate 32 0)], 24⟩), (20, ⟨[.ints .u8 32 (outF (hsQ L len q) 2)], 24⟩), (23, ⟨[.vals (iV .u32 (hsQ L len q) ++ r1)], 79⟩)]) (by kernel_rfl) ?_
      refine wo_nil ?_
      refine we_then ?_
      refine wc_true rfl ?_
      refine wc_skip ?_
      refine we_then ?_
      refine wc_seq ?_
      refine wc_block ?_
      refine wc_reg [0, 1, 2, 3, 4, 5, 6, 7, 8, 9, 10, 11, 12, 13] (by kernel_rfl) ?_
      refine wo_run [0, 1, 2, 3] [2, 3, 20, 21, 291, 292, 294] [2, 20, 23] (l' := [(2, eL 2 0), (3, .s (.a (.ls 23 0 8 c1))), (20, eL 20 0), (21, eI .i64 2), (291, eI .i64 2), (292, .s (.a (.ls 23 0 8 c1))), (294, eI .i64 0)]) (H' := [(2, ⟨[.ints .u8 32 (List.replicate 32 0)], 24⟩), (20, ⟨[.ints .u8 32 (outF (hsQ L len q) 2)], 24⟩), (23, ⟨[.vals (iV .u32 (hsQ L len q) ++ r1)], 79⟩)]) (by kernel_rfl) ?_
      refine wo_op rfl rfl (ot_rd rfl (rd_indexL (e := 79) 1 0 0 rfl (by kernel_rfl) (by kernel_rfl) rfl rfl (rfl) (by decide))) ?_
      refine wo_op rfl rfl (ot_rd rfl (rd_cellS (b := ⟨[.vals (iV .u32 (hsQ L len q) ++ r1)], 79⟩) (.v (.int .u32 ((hsQ L len q).getD 0 0))) rfl rfl rfl (by kernel_rfl) (fun ρ => rowi_at (i := 0) (by rw [hfold_len _ _ rfl]; omega) (by omega) ρ))) ?_
      refine wo_run [6, 7, 8, 9, 10, 11, 12, 13] [2, 3, 20, 21] [2, 20, 23] (l' := [(2, eL 2 0), (3, .s (.a (.ls 23 0 8 c1))), (20, eL 20 0), (21, eI .i64 2)]) (H' := [(2, ⟨[.ints .u8 32 (List.replicate 32 0)], 24⟩), (20, ⟨[.ints .u8 32 ((outF (hsQ L len q) 2).set 2 (IntKind.wrap .u8 (Int.fdiv ((hsQ L len q).getD 0 0) (2 ^ (8 : Nat)))))], 24⟩), (23, ⟨[.vals (iV .u32 (hsQ L len q) ++ r1)], 79⟩)]) (by kernel_rfl) ?_
      refine wo_nil ?_
      refine we_block ?_
      refine we_then ?_
      refine wc_reg [0, 1, 2] (by kernel_rfl) ?_
      refine wo_run [0, 1, 2] [2, 3, 20, 21] [2, 20, 23] (l' := [(2, eL 2 0), (3, .s (.a (.ls 23 0 8 c1))), (20, eL 20 0), (21, eI .i64 3)]) (H' := [(2, ⟨[.ints .u8 32 (List.replicate 32 0)], 24⟩), (20, ⟨[.ints .u8 32 ((outF (hsQ L len q) 2).set 2 (IntKind.wrap .u8 (Int.fdiv ((hsQ L len q).getD 0 0) (2 ^ (8 : Nat)))))], 24⟩), (23, ⟨[.vals (iV .u32 (hsQ L len q) ++ r1)], 79⟩)]) (by kernel_rfl) ?_
      refine wo_nil ?_
      refine we_rest [2, 3, 20, 21] [2, 20, 23] (l' := [(2, eL 2 0), (3, .s (.a (.ls 23 0 8 c1))), (20, eL 20 0), (21, eI .i64 3)]) (H' := [(2, ⟨[.ints .u8 32 (List.replicate 32 0)], 24⟩), (20, ⟨[.ints .u8 32 (outF (hsQ L len q) 3)], 24⟩), (23, ⟨[.vals (iV .u32 (hsQ L len q) ++ r1)], 79⟩)]) (by kernel_rfl) (by kernel_rfl) ?_
      refine we_unr ?_
      refine wr_go ?_
      refine wc_seq ?_
      refine wc_seq ?_
      refine wc_reg [0, 1] (by kernel_rfl) ?_
      refine wo_run [0, 1] [2, 3, 20, 21, 288] [2, 20, 23] (l' := [(2, eL 2 0), (3, .s (.a (.ls 23 0 8 c1))), (20, eL 20 0), (21, eI .i64 3), (288, eB true)]) (H' := [(2, ⟨[.ints .u8 32 (List.replicate 32 0)], 24⟩), (20, ⟨[.ints .u8 32 (outF (hsQ L len q) 3)], 24⟩), (23, ⟨[.vals (iV .u32 (hsQ L len q) ++ r1)], 79⟩)]) (by kernel_rfl) ?_
      refine wo_nil ?_
      refine we_then ?_
      refine wc_true rfl ?_
      refine wc_skip ?_
      refine we_then ?_
      refine wc_seq ?_
      refine wc_block ?_
      refine wc_reg [0, 1, 2, 3, 4, 5, 6, 7, 8, 9, 10, 11, 12, 13] (by kernel_rfl) ?_
      refine wo_run [0, 1, 2, 3] [2, 3, 20, 21, 291, 292, 294] [2, 20, 23] (l' := [(2, eL 2 0), (3, .s (.a (.ls 23 0 8 c1))), (20, eL 20 0), (21, eI .i64 3), (291, eI .i64 3), (292, .s (.a (.ls 23 0 8 c1))), (294, eI .i64 0)]) (H' := [(2, ⟨[.ints .u8 32 (List.replicate 32 0)], 24⟩), (20, ⟨[.ints .u8 32 (outF (hsQ L len q) 3)], 24⟩), (23, ⟨[.vals (iV .u32 (hsQ L len q) ++ r1)], 79⟩)]) (by kernel_rfl) ?_
      refine wo_op rfl rfl (ot_rd rfl (rd_indexL (e := 79) 1 0 0 rfl (by kernel_rfl) (by kernel_rfl) rfl rfl (rfl) (by decide))) ?_
      refine wo_op rfl rfl (ot_rd rfl (rd_cellS (b := ⟨[.vals (iV .u32 (hsQ L len q) ++ r1)], 79⟩) (.v (.int .u32 ((hsQ L len q).getD 0 0))) rfl rfl rfl (by kernel_rfl) (fun ρ => rowi_at (i := 0) (by rw [hfold_len _ _ rfl]; omega) (by omega) ρ))) ?_
      refine wo_run [6, 7, 8, 9, 10, 11, 12, 13] [2, 3, 20, 21] [2, 20, 23] (l' := [(2, eL 2 0), (3, .s (.a (.ls 23 0 8 c1))), (20, eL 20 0), (21, eI .i64 3)]) (H' := [(2, ⟨[.ints .u8 32 (List.replicate 32 0)], 24⟩), (20, ⟨[.ints .u8 32 ((outF (hsQ L len q) 3).set 3 (IntKind.wrap .u8 (Int.fdiv ((hsQ L len q).getD 0 0) (2 ^ (0 : Nat)))))], 24⟩), (23, ⟨[.vals (iV .u32 (hsQ L len q) ++ r1)], 79⟩)]) (by kernel_rfl) ?_
      refine wo_nil ?_
      refine we_block ?_
      refine we_then ?_
      refine wc_reg [0, 1, 2] (by kernel_rfl) ?_
      refine wo_run [0, 1, 2] [2, 3, 20, 21] [2, 20, 23] (l' := [(2, eL 2 0), (3, .s (.a (.ls 23 0 8 c1))), (20, eL 20 0), (21, eI .i64 4)]) (H' := [(2, ⟨[.ints .u8 32 (List.replicate 32 0)], 24⟩), (20, ⟨[.ints .u8 32 ((outF (hsQ L len q) 3).set 3 (IntKind.wrap .u8 (Int.fdiv ((hsQ L len q).getD 0 0) (2 ^ (0 : Nat)))))], 24⟩), (23, ⟨[.vals (iV .u32 (hsQ L len q) ++ r1)], 79⟩)]) (by kernel_rfl) ?_
      refine wo_nil ?_
      refine we_rest [2, 3, 20, 21] [2, 20, 23] (l' := [(2, eL 2 0), (3, .s (.a (.ls 23 0 8 c1))), (20, eL 20 0), (21, eI .i64 4)]) (H' := [(2, ⟨[.ints .u8 32 (List.replicate 32 0)], 24⟩), (20, ⟨[.ints .u8 32 (outF (hsQ L len q) 4)], 24⟩), (23, ⟨[.vals (iV .u32 (hsQ L len q) ++ r1)], 79⟩)]) (by kernel_rfl) (by kernel_rfl) ?_
      refine we_unr ?_
      refine wr_go ?_
      refine wc_seq ?_
      refine wc_seq ?_
      refine wc_reg [0, 1] (by kernel_rfl) ?_
      refine wo_run [0, 1] [2, 3, 20, 21, 288] [2, 20, 23] (l' := [(2, eL 2 0), (3, .s (.a (.ls 23 0 8 c1))), (20, eL 20 0), (21, eI .i64 4), (288, eB true)]) (H' := [(2, ⟨[.ints .u8 32 (List.replicate 32 0)], 24⟩), (20, ⟨[.ints .u8 32 (outF (hsQ L len q) 4)], 24⟩), (23, ⟨[.vals (iV .u32 (hsQ L len q) ++ r1)], 79⟩)]) (by kernel_rfl) ?_
      refine wo_nil ?_
      refine we_then ?_
      refine wc_true rfl ?_
      refine wc_skip ?_
      refine we_then ?_
      refine wc_seq ?_
      refine wc_block ?_
      refine wc_reg [0, 1, 2, 3, 4, 5, 6, 7, 8, 9, 10, 11, 12, 13] (by kernel_rfl) ?_
      refine wo_run [0, 1, 2, 3] [2, 3, 20, 21, 291, 292, 294] [2, 20, 23] (l' := [(2, eL 2 0), (3, .s (.a (.ls 23 0 8 c1))), (20, eL 20 0), (21, eI .i64 4), (291, eI .i64 4), (292, .s (.a (.ls 23 0 8 c1))), (294, eI .i64 1)]) (H' := [(2, ⟨[.ints .u8 32 (List.replicate 32 0)], 24⟩), (20, ⟨[.ints .u8 32 (outF (hsQ L len q) 4)], 24⟩), (23, ⟨[.vals (iV .u32 (hsQ L len q) ++ r1)], 79⟩)]) (by kernel_rfl) ?_
      refine wo_op rfl rfl (ot_rd rfl (rd_indexL (e := 79) 1 1 1 rfl (by kernel_rfl) (by kernel_rfl) rfl rfl (rfl) (by decide))) ?_
      refine wo_op rfl rfl (ot_rd rfl (rd_cellS (b := ⟨[.vals (iV .u32 (hsQ L len q) ++ r1)], 79⟩) (.v (.int .u32 ((hsQ L len q).getD 1 0))) rfl rfl rfl (by kernel_rfl) (fun ρ => rowi_at (i := 1) (by rw [hfold_len _ _ rfl]; omega) (by omega) ρ))) ?_
      refine wo_run [6, 7, 8, 9, 10, 11, 12, 13] [2, 3, 20, 21] [2, 20, 23] (l' := [(2, eL 2 0), (3, .s (.a (.ls 23 0 8 c1))), (20, eL 20 0), (21, eI .i64 4)]) (H' := [(2, ⟨[.ints .u8 32 (List.replicate 32 0)], 24⟩), (20, ⟨[.ints .u8 32 ((outF (hsQ L len q) 4).set 4 (IntKind.wrap .u8 (Int.fdiv ((hsQ L len q).getD 1 0) (2 ^ (24 : Nat)))))], 24⟩), (23, ⟨[.vals (iV .u32 (hsQ L len q) ++ r1)], 79⟩)]) (by kernel_rfl) ?_
      refine wo_nil ?_
      refine we_block ?_
      refine we_then ?_
      refine wc_reg [0, 1, 2] (by kernel_rfl) ?_
      refine wo_run [0, 1, 2] [2, 3, 20, 21] [2, 20, 23] (l' := [(2, eL 2 0), (3, .s (.a (.ls 23 0 8 c1))), (20, eL 20 0), (21, eI .i64 5)]) (H' := [(2, ⟨[.ints .u8 32 (List.replicate 32 0)], 24⟩), (20, ⟨[.ints .u8 32 ((outF (hsQ L len q) 4).set 4 (IntKind.wrap .u8 (Int.fdiv ((hsQ L len q).getD 1 0) (2 ^ (24 : Nat)))))], 24⟩), (23, ⟨[.vals (iV .u32 (hsQ L len q) ++ r1)], 79⟩)]) (by kernel_rfl) ?_
      refine wo_nil ?_
      refine we_rest [2, 3, 20, 21] [2, 20, 23] (l' := [(2, eL 2 0), (3, .s (.a (.ls 23 0 8 c1))), (20, eL 20 0), (21, eI .i64 5)]) (H' := [(2, ⟨[.ints .u8 32 (List.replicate 32 0)], 24⟩), (20, ⟨[.ints .u8 32 (outF (hsQ L len q) 5)], 24⟩), (23, ⟨[.vals (iV .u32 (hsQ L len q) ++ r1)], 79⟩)]) (by kernel_rfl) (by kernel_rfl) ?_
      refine we_unr ?_
      refine wr_go ?_
      refine wc_seq ?_
      refine wc_seq ?_
      refine wc_reg [0, 1] (by kernel_rfl) ?_
      refine wo_run [0, 1] [2, 3, 20, 21, 288] [2, 20, 23] (l' := [(2, eL 2 0), (3, .s (.a (.ls 23 0 8 c1))), (20, eL 20 0), (21, eI .i64 5), (288, eB true)]) (H' := [(2, ⟨[.ints .u8 32 (List.replicate 32 0)], 24⟩), (20, ⟨[.ints .u8 32 (outF (hsQ L len q) 5)], 24⟩), (23, ⟨[.vals (iV .u32 (hsQ L len q) ++ r1)], 79⟩)]) (by kernel_rfl) ?_
      refine wo_nil ?_
      refine we_then ?_
      refine wc_true rfl ?_
      refine wc_skip ?_
      refine we_then ?_
      refine wc_seq ?_
      refine wc_block ?_
      refine wc_reg [0, 1, 2, 3, 4, 5, 6, 7, 8, 9, 10, 11, 12, 13] (by kernel_rfl) ?_
      refine wo_run [0, 1, 2, 3] [2, 3, 20, 21, 291, 292, 294] [2, 20, 23] (l' := [(2, eL 2 0), (3, .s (.a (.ls 23 0 8 c1))), (20, eL 20 0), (21, eI .i64 5), (291, eI .i64 5), (292, .s (.a (.ls 23 0 8 c1))), (294, eI .i64 1)]) (H' := [(2, ⟨[.ints .u8 32 (List.replicate 32 0)], 24⟩), (20, ⟨[.ints .u8 32 (outF (hsQ L len q) 5)], 24⟩), (23, ⟨[.vals (iV .u32 (hsQ L len q) ++ r1)], 79⟩)]) (by kernel_rfl) ?_
      refine wo_op rfl rfl (ot_rd rfl (rd_indexL (e := 79) 1 1 1 rfl (by kernel_rfl) (by kernel_rfl) rfl rfl (rfl) (by decide))) ?_
      refine wo_op rfl rfl (ot_rd rfl (rd_cellS (b := ⟨[.vals (iV .u32 (hsQ L len q) ++ r1)], 79⟩) (.v (.int .u32 ((hsQ L len q).getD 1 0))) rfl rfl rfl (by kernel_rfl) (fun ρ => rowi_at (i := 1) (by rw [hfold_len _ _ rfl]; omega) (by omega) ρ))) ?_
      refine wo_run [6, 7, 8, 9, 10, 11, 12, 13] [2, 3, 20, 21] [2, 20, 23] (l' := [(2, eL 2 0), (3, .s (.a (.ls 23 0 8 c1))), (20, eL 20 0), (21, eI .i64 5)]) (H' := [(2, ⟨[.ints .u8 32 (List.replicate 32 0)], 24⟩), (20, ⟨[.ints .u8 32 ((outF (hsQ L len q) 5).set 5 (IntKind.wrap .u8 (Int.fdiv ((hsQ L len q).getD 1 0) (2 ^ (16 : Nat)))))], 24⟩), (23, ⟨[.vals (iV .u32 (hsQ L len q) ++ r1)], 79⟩)]) (by kernel_rfl) ?_
      refine wo_nil ?_
      refine we_block ?_
      refine we_then ?_
      refine wc_reg [0, 1, 2] (by kernel_rfl) ?_
      refine wo_run [0, 1, 2] [2, 3, 20, 21] [2, 20, 23] (l' := [(2, eL 2 0), (3, .s (.a (.ls 23 0 8 c1))), (20, eL 20 0), (21, eI .i64 6)]) (H' := [(2, ⟨[.ints .u8 32 (List.replicate 32 0)], 24⟩), (20, ⟨[.ints .u8 32 ((outF (hsQ L len q) 5).set 5 (IntKind.wrap .u8 (Int.fdiv ((hsQ L len q).getD 1 0) (2 ^ (16 : Nat)))))], 24⟩), (23, ⟨[.vals (iV .u32 (hsQ L len q) ++ r1)], 79⟩)]) (by kernel_rfl) ?_
      refine wo_nil ?_
      refine we_rest [2, 3, 20, 21] [2, 20, 23] (l' := [(2, eL 2 0), (3, .s (.a (.ls 23 0 8 c1))), (20, eL 20 0), (21, eI .i64 6)]) (H' := [(2, ⟨[.ints .u8 32 (List.replicate 32 0)], 24⟩), (20, ⟨[.ints .u8 32 (outF (hsQ L len q) 6)], 24⟩), (23, ⟨[.vals (iV .u32 (hsQ L len q) ++ r1)], 79⟩)]) (by kernel_rfl) (by kernel_rfl) ?_
      refine we_unr ?_
      refine wr_go ?_
      refine wc_seq ?_
      refine wc_seq ?_
      refine wc_reg [0, 1] (by kernel_rfl) ?_
      refine wo_run [0, 1] [2, 3, 20, 21, 288] [2, 20, 23] (l' := [(2, eL 2 0), (3, .s (.a (.ls 23 0 8 c1))), (20, eL 20 0), (21, eI .i64 6), (288, eB true)]) (H' := [(2, ⟨[.ints .u8 32 (List.replicate 32 0)], 24⟩), (20, ⟨[.ints .u8 32 (outF (hsQ L len q) 6)], 24⟩), (23, ⟨[.vals (iV .u32 (hsQ L len q) ++ r1)], 79⟩)]) (by kernel_rfl) ?_
      refine wo_nil ?_
      refine we_then ?_
      refine wc_true rfl ?_
      refine wc_skip ?_
      refine we_then ?_
      refine wc_seq ?_
      refine wc_block ?_
      refine wc_reg [0, 1, 2, 3, 4, 5, 6, 7, 8, 9, 10, 11, 12, 13] (by kernel_rfl) ?_
      refine wo_run [0, 1, 2, 3] [2, 3, 20, 21, 291, 292, 294] [2, 20, 23] (l' := [(2, eL 2 0), (3, .s (.a (.ls 23 0 8 c1))), (20, eL 20 0), (21, eI .i64 6), (291, eI .i64 6), (292, .s (.a (.ls 23 0 8 c1))), (294, eI .i64 1)]) (H' := [(2, ⟨[.ints .u8 32 (List.replicate 32 0)], 24⟩), (20, ⟨[.ints .u8 32 (outF (hsQ L len q) 6)], 24⟩), (23, ⟨[.vals (iV .u32 (hsQ L len q) ++ r1)], 79⟩)]) (by kernel_rfl) ?_
      refine wo_op rfl rfl (ot_rd rfl (rd_indexL (e := 79) 1 1 1 rfl (by kernel_rfl) (by kernel_rfl) rfl rfl (rfl) (by decide))) ?_
      refine wo_op rfl rfl (ot_rd rfl (rd_cellS (b := ⟨[.vals (iV .u32 (hsQ L len q) ++ r1)], 79⟩) (.v (.int .u32 ((hsQ L len q).getD 1 0))) rfl rfl rfl (by kernel_rfl) (fun ρ => rowi_at (i := 1) (by rw [hfold_len _ _ rfl]; omega) (by omega) ρ))) ?_
      refine wo_run [6, 7, 8, 9, 10, 11, 12, 13] [2, 3, 20, 21] [2, 20, 23] (l' := [(2, eL 2 0), (3, .s (.a (.ls 23 0 8 c1))), (20, eL 20 0), (21, eI .i64 6)]) (H' := [(2, ⟨[.ints .u8 32 (List.replicate 32 0)], 24⟩), (20, ⟨[.ints .u8 32 ((outF (hsQ L len q) 6).set 6 (IntKind.wrap .u8 (Int.fdiv ((hsQ L len q).getD 1 0) (2 ^ (8 : Nat)))))], 24⟩), (23, ⟨[.vals (iV .u32 (hsQ L len q) ++ r1)], 79⟩)]) (by kernel_rfl) ?_
      refine wo_nil ?_
      refine we_block ?_
      refine we_then ?_
      refine wc_reg [0, 1, 2] (by kernel_rfl) ?_
      refine wo_run [0, 1, 2] [2, 3, 20, 21] [2, 20, 23] (l' := [(2, eL 2 0), (3, .s (.a (.ls 23 0 8 c1))), (20, eL 20 0), (21, eI .i64 7)]) (H' := [(2, ⟨[.ints .u8 32 (List.replicate 32 0)], 24⟩), (20, ⟨[.ints .u8 32 ((outF (hsQ L len q) 6).set 6 (IntKind.wrap .u8 (Int.fdiv ((hsQ L len q).getD 1 0) (2 ^ (8 : Nat)))))], 24⟩), (23, ⟨[.vals (iV .u32 (hsQ L len q) ++ r1)], 79⟩)]) (by kernel_rfl) ?_
      refine wo_nil ?_
      refine we_rest [2, 3, 20, 21] [2, 20, 23] (l' := [(2, eL 2 0), (3, .s (.a (.ls 23 0 8 c1))), (20, eL 20 0), (21, eI .i64 7)]) (H' := [(2, ⟨[.ints .u8 32 (List.replicate 32 0)], 24⟩), (20, ⟨[.ints .u8 32 (outF (hsQ L len q) 7)], 24⟩), (23, ⟨[.vals (iV .u32 (hsQ L len q) ++ r1)], 79⟩)]) (by kernel_rfl) (by kernel_rfl) ?_
      refine we_unr ?_
      refine wr_go ?_
      refine wc_seq ?_
      refine wc_seq ?_
      refine wc_reg [0, 1] (by kernel_rfl) ?_
      refine wo_run [0, 1] [2, 3, 20, 21, 288] [2, 20, 23] (l' := [(2, eL 2 0), (3, .s (.a (.ls 23 0 8 c1))), (20, eL 20 0), (21, eI .i64 7), (288, eB true)]) (H' := [(2, ⟨[.ints .u8 32 (List.replicate 32 0)], 24⟩), (20, ⟨[.ints .u8 32 (outF (hsQ L len q) 7)], 24⟩), (23, ⟨[.vals (iV .u32 (hsQ L len q) ++ r1)], 79⟩)]) (by kernel_rfl) ?_
      refine wo_nil ?_
      refine we_then ?_
      refine wc_true rfl ?_
      refine wc_skip ?_
      refine we_then ?_
      refine wc_seq ?_
      refine wc_block ?_
      refine wc_reg [0, 1, 2, 3, 4, 5, 6, 7, 8, 9, 10, 11, 12, 13] (by kernel_rfl) ?_
      refine wo_run [0, 1, 2, 3] [2, 3, 20, 21, 291, 292, 294] [2, 20, 23] (l' := [(2, eL 2 0), (3, .s (.a (.ls 23 0 8 c1))), (20, eL 20 0), (21, eI .i64 7), (291, eI .i64 7), (292, .s (.a (.ls 23 0 8 c1))), (294, eI .i64 1)]) (H' := [(2, ⟨[.ints .u8 32 (List.replicate 32 0)], 24⟩), (20, ⟨[.ints .u8 32 (outF (hsQ L len q) 7)], 24⟩), (23, ⟨[.vals (iV .u32 (hsQ L len q) ++ r1)], 79⟩)]) (by kernel_rfl) ?_
      refine wo_op rfl rfl (ot_rd rfl (rd_indexL (e := 79) 1 1 1 rfl (by kernel_rfl) (by kernel_rfl) rfl rfl (rfl) (by decide))) ?_
      refine wo_op rfl rfl (ot_rd rfl (rd_cellS (b := ⟨[.vals (iV .u32 (hsQ L len q) ++ r1)], 79⟩) (.v (.int .u32 ((hsQ L len q).getD 1 0))) rfl rfl rfl (by kernel_rfl) (fun ρ => rowi_at (i := 1) (by rw [hfold_len _ _ rfl]; omega) (by omega) ρ))) ?_
      refine wo_run [6, 7, 8, 9, 10, 11, 12, 13] [2, 3, 20, 21] [2, 20, 23] (l' := [(2, eL 2 0), (3, .s (.a (.ls 23 0 8 c1))), (20, eL 20 0), (21, eI .i64 7)]) (H' := [(2, ⟨[.ints .u8 32 (List.replicate 32 0)], 24⟩), (20, ⟨[.ints .u8 32 ((outF (hsQ L len q) 7).set 7 (IntKind.wrap .u8 (Int.fdiv ((hsQ L len q).getD 1 0) (2 ^ (0 : Nat)))))], 24⟩), (23, ⟨[.vals (iV .u32 (hsQ L len q) ++ r1)], 79⟩)]) (by kernel_rfl) ?_
      refine wo_nil ?_
      refine we_block ?_
      refine we_then ?_
      refine wc_reg [0, 1, 2] (by kernel_rfl) ?_
      refine wo_run [0, 1, 2] [2, 3, 20, 21] [2, 20, 23] (l' := [(2, eL 2 0), (3, .s (.a (.ls 23 0 8 c1))), (20, eL 20 0), (21, eI .i64 8)]) (H' := [(2, ⟨[.ints .u8 32 (List.replicate 32 0)], 24⟩), (20, ⟨[.ints .u8 32 ((outF (hsQ L len q) 7).set 7 (IntKind.wrap .u8 (Int.fdiv ((hsQ L len q).getD 1 0) (2 ^ (0 : Nat)))))], 24⟩), (23, ⟨[.vals (iV .u32 (hsQ L len q) ++ r1)], 79⟩)]) (by kernel_rfl) ?_
      refine wo_nil ?_
      refine we_rest [2, 3, 20, 21] [2, 20, 23] (l' := [(2, eL 2 0), (3, .s (.a (.ls 23 0 8 c1))), (20, eL 20 0), (21, eI .i64 8)]) (H' := [(2, ⟨[.ints .u8 32 (List.replicate 32 0)], 24⟩), (20, ⟨[.ints .u8 32 (outF (hsQ L len q) 8)], 24⟩), (23, ⟨[.vals (iV .u32 (hsQ L len q) ++ r1)], 79⟩)]) (by kernel_rfl) (by kernel_rfl) ?_
      refine we_unr ?_
      refine wr_go ?_
      refine wc_seq ?_
      refine wc_seq ?_
      refine wc_reg [0, 1] (by kernel_rfl) ?_
      refine wo_run [0, 1] [2, 3, 20, 21, 288] [2, 20, 23] (l' := [(2, eL 2 0), (3, .s (.a (.ls 23 0 8 c1))), (20, eL 20 0), (21, eI .i64 8), (288, eB true)]) (H' := [(2, ⟨[.ints .u8 32 (List.replicate 32 0)], 24⟩), (20, ⟨[.ints .u8 32 (outF (hsQ L len q) 8)], 24⟩), (23, ⟨[.vals (iV .u32 (hsQ L len q) ++ r1)], 79⟩)]) (by kernel_rfl) ?_
      refine wo_nil ?_
      refine we_then ?_
      refine wc_true rfl ?_
      refine wc_skip ?_
      refine we_then ?_
      refine wc_seq ?_
      refine wc_block ?_
      refine wc_reg [0, 1, 2, 3, 4, 5, 6, 7, 8, 9, 10, 11, 12, 13] (by kernel_rfl) ?_
      refine wo_run [0, 1, 2, 3] [2, 3, 20, 21, 291, 292, 294] [2, 20, 23] (l' := [(2, eL 2 0), (3, .s (.a (.ls 23 0 8 c1))), (20, eL 20 0), (21, eI .i64 8), (291, eI .i64 8), (292, .s (.a (.ls 23 0 8 c1))), (294, eI .i64 2)]) (H' := [(2, ⟨[.ints .u8 32 (List.replicate 32 0)], 24⟩), (20, ⟨[.ints .u8 32 (outF (hsQ L len q) 8)], 24⟩), (23, ⟨[.vals (iV .u32 (hsQ L len q) ++ r1)], 79⟩)]) (by kernel_rfl) ?_
      refine wo_op rfl rfl (ot_rd rfl (rd_indexL (e := 79) 1 2 2 rfl (by kernel_rfl) (by kernel_rfl) rfl rfl (rfl) (by decide))) ?_
      refine wo_op rfl rfl (ot_rd rfl (rd_cellS (b := ⟨[.vals (iV .u32 (hsQ L len q) ++ r1)], 79⟩) (.v (.int .u32 ((hsQ L len q).getD 2 0))) rfl rfl rfl (by kernel_rfl) (fun ρ => rowi_at (i := 2) (by rw [hfold_len _ _ rfl]; omega) (by omega) ρ))) ?_
      refine wo_run [6, 7, 8, 9, 10, 11, 12, 13] [2, 3, 20, 21] [2, 20, 23] (l' := [(2, eL 2 0), (3, .s (.a (.ls 23 0 8 c1))), (20, eL 20 0), (21, eI .i64 8)]) (H' := [(2, ⟨[.ints .u8 32 (List.replicate 32 0)], 24⟩), (20, ⟨[.ints .u8 32 ((outF (hsQ L len q) 8).set 8 (IntKind.wrap .u8 (Int.fdiv ((hsQ L len q).getD 2 0) (2 ^ (24 : Nat)))))], 24⟩), (23, ⟨[.vals (iV .u32 (hsQ L len q) ++ r1)], 79⟩)]) (by kernel_rfl) ?_
      refine wo_nil ?_
      refine we_block ?_
      refine we_then ?_
      refine wc_reg [0, 1, 2] (by kernel_rfl) ?_
      refine wo_run [0, 1, 2] [2, 3, 20, 21] [2, 20, 23] (l' := [(2, eL 2 0), (3, .s (.a (.ls 23 0 8 c1))), (20, eL 20 0), (21, eI .i64 9)]) (H' := [(2, ⟨[.ints .u8 32 (List.replicate 32 0)], 24⟩), (20, ⟨[.ints .u8 32 ((outF (hsQ L len q) 8).set 8 (IntKind.wrap .u8 (Int.fdiv ((hsQ L len q).getD 2 0) (2 ^ (24 : Nat)))))], 24⟩), (23, ⟨[.vals (iV .u32 (hsQ L len q) ++ r1)], 79⟩)]) (by kernel_rfl) ?_
      refine wo_nil ?_
      refine we_rest [2, 3, 20, 21] [2, 20, 23] (l' := [(2, eL 2 0), (3, .s (.a (.ls 23 0 8 c1))), (20, eL 20 0), (21, eI .i64 9)]) (H' := [(2, ⟨[.ints .u8 32 (List.replicate 32 0)], 24⟩), (20, ⟨[.ints .u8 32 (outF (hsQ L len q) 9)], 24⟩), (23, ⟨[.vals (iV .u32 (hsQ L len q) ++ r1)], 79⟩)]) (by kernel_rfl) (by kernel_rfl) ?_
      refine we_unr ?_
      refine wr_go ?_
      refine wc_seq ?_
      refine wc_seq ?_
      refine wc_reg [0, 1] (by kernel_rfl) ?_
      refine wo_run [0, 1] [2, 3, 20, 21, 288] [2, 20, 23] (l' := [(2, eL 2 0), (3, .s (.a (.ls 23 0 8 c1))), (20, eL 20 0), (21, eI .i64 9), (288, eB true)]) (H' := [(2, ⟨[.ints .u8 32 (List.replicate 32 0)], 24⟩), (20, ⟨[.ints .u8 32 (outF (hsQ L len q) 9)], 24⟩), (23, ⟨[.vals (iV .u32 (hsQ L len q) ++ r1)], 79⟩)]) (by kernel_rfl) ?_
      refine wo_nil ?_
      refine we_then ?_
      refine wc_true rfl ?_
      refine wc_skip ?_
      refine we_then ?_
      refine wc_seq ?_
      refine wc_block ?_
      refine wc_reg [0, 1, 2, 3, 4, 5, 6, 7, 8, 9, 10, 11, 12, 13] (by kernel_rfl) ?_
      refine wo_run [0, 1, 2, 3] [2, 3, 20, 21, 291, 292, 294] [2, 20, 23] (l' := [(2, eL 2 0), (3, .s (.a (.ls 23 0 8 c1))), (20, eL 20 0), (21, eI .i64 9), (291, eI .i64 9), (292, .s (.a (.ls 23 0 8 c1))), (294, eI .i64 2)]) (H' := [(2, ⟨[.ints .u8 32 (List.replicate 32 0)], 24⟩), (20, ⟨[.ints .u8 32 (outF (hsQ L len q) 9)], 24⟩), (23, ⟨[.vals (iV .u32 (hsQ L len q) ++ r1)], 79⟩)]) (by kernel_rfl) ?_
      refine wo_op rfl rfl (ot_rd rfl (rd_indexL (e := 79) 1 2 2 rfl (by kernel_rfl) (by kernel_rfl) rfl rfl (rfl) (by decide))) ?_
      refine wo_op rfl rfl (ot_rd rfl (rd_cellS (b := ⟨[.vals (iV .u32 (hsQ L len q) ++ r1)], 79⟩) (.v (.int .u32 ((hsQ L len q).getD 2 0))) rfl rfl rfl (by kernel_rfl) (fun ρ => rowi_at (i := 2) (by rw [hfold_len _ _ rfl]; omega) (by omega) ρ))) ?_
      refine wo_run [6, 7, 8, 9, 10, 11, 12, 13] [2, 3, 20, 21] [2, 20, 23] (l' := [(2, eL 2 0), (3, .s (.a (.ls 23 0 8 c1))), (20, eL 20 0), (21, eI .i64 9)]) (H' := [(2, ⟨[.ints .u8 32 (List.replicate 32 0)], 24⟩), (20, ⟨[.ints .u8 32 ((outF (hsQ L len q) 9).set 9 (IntKind.wrap .u8 (Int.fdiv ((hsQ L len q).getD 2 0) (2 ^ (16 : Nat)))))], 24⟩), (23, ⟨[.vals (iV .u32 (hsQ L len q) ++ r1)], 79⟩)]) (by kernel_rfl) ?_
      refine wo_nil ?_
      refine we_block ?_
      refine we_then ?_
      refine wc_reg [0, 1, 2] (by kernel_rfl) ?_
      refine wo_run [0, 1, 2] [2, 3, 20, 21] [2, 20, 23] (l' := [(2, eL 2 0), (3, .s (.a (.ls 23 0 8 c1))), (20, eL 20 0), (21, eI .i64 10)]) (H' := [(2, ⟨[.ints .u8 32 (List.replicate 32 0)], 24⟩), (20, ⟨[.ints .u8 32 ((outF (hsQ L len q) 9).set 9 (IntKind.wrap .u8 (Int.fdiv ((hsQ L len q).getD 2 0) (2 ^ (16 : Nat)))))], 24⟩), (23, ⟨[.vals (iV .u32 (hsQ L len q) ++ r1)], 79⟩)]) (by kernel_rfl) ?_
      refine wo_nil ?_
      refine we_rest [2, 3, 20, 21] [2, 20, 23] (l' := [(2, eL 2 0), (3, .s (.a (.ls 23 0 8 c1))), (20, eL 20 0), (21, eI .i64 10)]) (H' := [(2, ⟨[.ints .u8 32 (List.replicate 32 0)], 24⟩), (20, ⟨[.ints .u8 32 (outF (hsQ L len q) 10)], 24⟩), (23, ⟨[.vals (iV .u32 (hsQ L len q) ++ r1)], 79⟩)]) (by kernel_rfl) (by kernel_rfl) ?_
      refine we_unr ?_
      refine wr_go ?_
      refine wc_seq ?_
      refine wc_seq ?_
      refine wc_reg [0, 1] (by kernel_rfl) ?_
      refine wo_run [0, 1] [2, 3, 20, 21, 288] [2, 20, 23] (l' := [(2, eL 2 0), (3, .s (.a (.ls 23 0 8 c1))), (20, eL 20 0), (21, eI .i64 10), (288, eB true)]) (H' := [(2, ⟨[.ints .u8 32 (List.replicate 32 0)], 24⟩), (20, ⟨[.ints .u8 32 (outF (hsQ L len q) 10)], 24⟩), (23, ⟨[.vals (iV .u32 (hsQ L len q) ++ r1)], 79⟩)]) (by kernel_rfl) ?_
      refine wo_nil ?_
      refine we_then ?_
      refine wc_true rfl ?_
      refine wc_skip ?_
      refine we_then ?_
      refine wc_seq ?_
      refine wc_block ?_
      refine wc_reg [0, 1, 2, 3, 4, 5, 6, 7, 8, 9, 10, 11, 12, 13] (by kernel_rfl) ?_
      refine wo_run [0, 1, 2, 3] [2, 3, 20, 21, 291, 292, 294] [2, 20, 23] (l' := [(2, eL 2 0), (3, .s (.a (.ls 23 0 8 c1))), (20, eL 20 0), (21, eI .i64 10), (291, eI .i64 10), (292, .s (.a (.ls 23 0 8 c1))), (294, eI .i64 2)]) (H' := [(2, ⟨[.ints .u8 32 (List.replicate 32 0)], 24⟩), (20, ⟨[.ints .u8 32 (outF (hsQ L len q) 10)], 24⟩), (23, ⟨[.vals (iV .u32 (hsQ L len q) ++ r1)], 79⟩)]) (by kernel_rfl) ?_
      refine wo_op rfl rfl (ot_rd rfl (rd_indexL (e := 79) 1 2 2 rfl (by kernel_rfl) (by kernel_rfl) rfl rfl (rfl) (by decide))) ?_
      refine wo_op rfl rfl (ot_rd rfl (rd_cellS (b := ⟨[.vals (iV .u32 (hsQ L len q) ++ r1)], 79⟩) (.v (.int .u32 ((hsQ L len q).getD 2 0))) rfl rfl rfl (by kernel_rfl) (fun ρ => rowi_at (i := 2) (by rw [hfold_len _ _ rfl]; omega) (by omega) ρ))) ?_
      refine wo_run [6, 7, 8, 9, 10, 11, 12, 13] [2, 3, 20, 21] [2, 20, 23] (l' := [(2, eL 2 0), (3, .s (.a (.ls 23 0 8 c1))), (20, eL 20 0), (21, eI .i64 10)]) (H' := [(2, ⟨[.ints .u8 32 (List.replicate 32 0)], 24⟩), (20, ⟨[.ints .u8 32 ((outF (hsQ L len q) 10).set 10 (IntKind.wrap .u8 (Int.fdiv ((hsQ L len q).getD 2 0) (2 ^ (8 : Nat)))))], 24⟩), (23, ⟨[.vals (iV .u32 (hsQ L len q) ++ r1)], 79⟩)]) (by kernel_rfl) ?_
      refine wo_nil ?_
      refine we_block ?_
      refine we_then ?_
      refine wc_reg [0, 1, 2] (by kernel_rfl) ?_
      refine wo_run [0, 1, 2] [2, 3, 20, 21] [2, 20, 23] (l' := [(2, eL 2 0), (3, .s (.a (.ls 23 0 8 c1))), (20, eL 20 0), (21, eI .i64 11)]) (H' := [(2, ⟨[.ints .u8 32 (List.replicate 32 0)], 24⟩), (20, ⟨[.ints .u8 32 ((outF (hsQ L len q) 10).set 10 (IntKind.wrap .u8 (Int.fdiv ((hsQ L len q).getD 2 0) (2 ^ (8 : Nat)))))], 24⟩), (23, ⟨[.vals (iV .u32 (hsQ L len q) ++ r1)], 79⟩)]) (by kernel_rfl) ?_
      refine wo_nil ?_
      refine we_rest [2, 3, 20, 21] [2, 20, 23] (l' := [(2, eL 2 0), (3, .s (.a (.ls 23 0 8 c1))), (20, eL 20 0), (21, eI .i64 11)]) (H' := [(2, ⟨[.ints .u8 32 (List.replicate 32 0)], 24⟩), (20, ⟨[.ints .u8 32 (outF (hsQ L len q) 11)], 24⟩), (23, ⟨[.vals (iV .u32 (hsQ L len q) ++ r1)], 79⟩)]) (by kernel_rfl) (by kernel_rfl) ?_
      refine we_unr ?_
      refine wr_go ?_
      refine wc_seq ?_
      refine wc_seq ?_
      refine wc_reg [0, 1] (by kernel_rfl) ?_
      refine wo_run [0, 1] [2, 3, 20, 21, 288] [2, 20, 23] (l' := [(2, eL 2 0), (3, .s (.a (.ls 23 0 8 c1))), (20, eL 20 0), (21, eI .i64 11), (288, eB true)]) (H' := [(2, ⟨[.ints .u8 32 (List.replicate 32 0)], 24⟩), (20, ⟨[.ints .u8 32 (outF (hsQ L len q) 11)], 24⟩), (23, ⟨[.vals (iV .u32 (hsQ L len q) ++ r1)], 79⟩)]) (by kernel_rfl) ?_
      refine wo_nil ?_
      refine we_then ?_
      refine wc_true rfl ?_
      refine wc_skip ?_
      refine we_then ?_
      refine wc_seq ?_
      refine wc_block ?_
      refine wc_reg [0, 1, 2, 3, 4, 5, 6, 7, 8, 9, 10, 11, 12, 13] (by kernel_rfl) ?_
      refine wo_run [0, 1, 2, 3] [2, 3, 20, 21, 291, 292, 294] [2, 20, 23] (l' := [(2, eL 2 0), (3, .s (.a (.ls 23 0 8 c1))), (20, eL 20 0), (21, eI .i64 11), (291, eI .i64 11), (292, .s (.a (.ls 23 0 8 c1))), (294, eI .i64 2)]) (H' := [(2, ⟨[.ints .u8 32 (List.replicate 32 0)], 24⟩), (20, ⟨[.ints .u8 32 (outF (hsQ L len q) 11)], 24⟩), (23, ⟨[.vals (iV .u32 (hsQ L len q) ++ r1)], 79⟩)]) (by kernel_rfl) ?_
      refine wo_op rfl rfl (ot_rd rfl (rd_indexL (e := 79) 1 2 2 rfl (by kernel_rfl) (by kernel_rfl) rfl rfl (rfl) (by decide))) ?_
      refine wo_op rfl rfl (ot_rd rfl (rd_cellS (b := ⟨[.vals (iV .u32 (hsQ L len q) ++ r1)], 79⟩) (.v (.int .u32 ((hsQ L len q).getD 2 0))) rfl rfl rfl (by kernel_rfl) (fun ρ => rowi_at (i := 2) (by rw [hfold_len _ _ rfl]; omega) (by omega) ρ))) ?_
      refine wo_run [6, 7, 8, 9, 10, 11, 12, 13] [2, 3, 20, 21] [2, 20, 23] (l' := [(2, eL 2 0), (3, .s (.a (.ls 23 0 8 c1))), (20, eL 20 0), (21, eI .i64 11)]) (H' := [(2, ⟨[.ints .u8 32 (List.replicate 32 0)], 24⟩), (20, ⟨[.ints .u8 32 ((outF (hsQ L len q) 11).set 11 (IntKind.wrap .u8 (Int.fdiv ((hsQ L len q).getD 2 0) (2 ^ (0 : Nat)))))], 24⟩), (23, ⟨[.vals (iV .u32 (hsQ L len q) ++ r1)], 79⟩)]) (by kernel_rfl) ?_
      refine wo_nil ?_
      refine we_block ?_
      refine we_then ?_
      refine wc_reg [0, 1, 2] (by kernel_rfl) ?_
      refine wo_run [0, 1, 2] [2, 3, 20, 21] [2, 20, 23] (l' := [(2, eL 2 0), (3, .s (.a (.ls 23 0 8 c1))), (20, eL 20 0), (21, eI .i64 12)]) (H' := [(2, ⟨[.ints .u8 32 (List.replicate 32 0)], 24⟩), (20, ⟨[.ints .u8 32 ((outF (hsQ L len q) 11).set 11 (IntKind.wrap .u8 (Int.fdiv ((hsQ L len q).getD 2 0) (2 ^ (0 : Nat)))))], 24⟩), (23, ⟨[.vals (iV .u32 (hsQ L len q) ++ r1)], 79⟩)]) (by kernel_rfl) ?_
      refine wo_nil ?_
      refine we_rest [2, 3, 20, 21] [2, 20, 23] (l' := [(2, eL 2 0), (3, .s (.a (.ls 23 0 8 c1))), (20, eL 20 0), (21, eI .i64 12)]) (H' := [(2, ⟨[.ints .u8 32 (List.replicate 32 0)], 24⟩), (20, ⟨[.ints .u8 32 (outF (hsQ L len q) 12)], 24⟩), (23, ⟨[.vals (iV .u32 (hsQ L len q) ++ r1)], 79⟩)]) (by kernel_rfl) (by kernel_rfl) ?_
      refine we_unr ?_
      refine wr_go ?_
      refine wc_seq ?_
      refine wc_seq ?_
      refine wc_reg [0, 1] (by kernel_rfl) ?_
      refine wo_run [0, 1] [2, 3, 20, 21, 288] [2, 20, 23] (l' := [(2, eL 2 0), (3, .s (.a (.ls 23 0 8 c1))), (20, eL 20 0), (21, eI .i64 12), (288, eB true)]) (H' := [(2, ⟨[.ints .u8 32 (List.replicate 32 0)], 24⟩), (20, ⟨[.ints .u8 32 (outF (hsQ L len q) 12)], 24⟩), (23, ⟨[.vals (iV .u32 (hsQ L len q) ++ r1)], 79⟩)]) (by kernel_rfl) ?_
      refine wo_nil ?_
      refine we_then ?_
      refine wc_true rfl ?_
      refine wc_skip ?_
      refine we_then ?_
      refine wc_seq ?_
      refine wc_block ?_
      refine wc_reg [0, 1, 2, 3, 4, 5, 6, 7, 8, 9, 10, 11, 12, 13] (by kernel_rfl) ?_
      refine wo_run [0, 1, 2, 3] [2, 3, 20, 21, 291, 292, 294] [2, 20, 23] (l' := [(2, eL 2 0), (3, .s (.a (.ls 23 0 8 c1))), (20, eL 20 0), (21, eI .i64 12), (291, eI .i64 12), (292, .s (.a (.ls 23 0 8 c1))), (294, eI .i64 3)]) (H' := [(2, ⟨[.ints .u8 32 (List.replicate 32 0)], 24⟩), (20, ⟨[.ints .u8 32 (outF (hsQ L len q) 12)], 24⟩), (23, ⟨[.vals (iV .u32 (hsQ L len q) ++ r1)], 79⟩)]) (by kernel_rfl) ?_
      refine wo_op rfl rfl (ot_rd rfl (rd_indexL (e := 79) 1 3 3 rfl (by kernel_rfl) (by kernel_rfl) rfl rfl (rfl) (by decide))) ?_
      refine wo_op rfl rfl (ot_rd rfl (rd_cellS (b := ⟨[.vals (iV .u32 (hsQ L len q) ++ r1)], 79⟩) (.v (.int .u32 ((hsQ L len q).getD 3 0))) rfl rfl rfl (by kernel_rfl) (fun ρ => rowi_at (i := 3) (by rw [hfold_len _ _ rfl]; omega) (by omega) ρ))) ?_
      refine wo_run [6, 7, 8, 9, 10, 11, 12, 13] [2, 3, 20, 21] [2, 20, 23] (l' := [(2, eL 2 0), (3, .s (.a (.ls 23 0 8 c1))), (20, eL 20 0), (21, eI .i64 12)]) (H' := [(2, ⟨[.ints .u8 32 (List.replicate 32 0)], 24⟩), (20, ⟨[.ints .u8 32 ((outF (hsQ L len q) 12).set 12 (IntKind.wrap .u8 (Int.fdiv ((hsQ L len q).getD 3 0) (2 ^ (24 : Nat)))))], 24⟩), (23, ⟨[.vals (iV .u32 (hsQ L len q) ++ r1)], 79⟩)]) (by kernel_rfl) ?_
      refine wo_nil ?_
      refine we_block ?_
      refine we_then ?_
      refine wc_reg [0, 1, 2] (by kernel_rfl) ?_
      refine wo_run [0, 1, 2] [2, 3, 20, 21] [2, 20, 23] (l' := [(2, eL 2 0), (3, .s (.a (.ls 23 0 8 c1))), (20, eL 20 0), (21, eI .i64 13)]) (H' := [(2, ⟨[.ints .u8 32 (List.replicate 32 0)], 24⟩), (20, ⟨[.ints .u8 32 ((outF (hsQ L len q) 12).set 12 (IntKind.wrap .u8 (Int.fdiv ((hsQ L len q).getD 3 0) (2 ^ (24 : Nat)))))], 24⟩), (23, ⟨[.vals (iV .u32 (hsQ L len q) ++ r1)], 79⟩)]) (by kernel_rfl) ?_
      refine wo_nil ?_
      refine we_rest [2, 3, 20, 21] [2, 20, 23] (l' := [(2, eL 2 0), (3, .s (.a (.ls 23 0 8 c1))), (20, eL 20 0), (21, eI .i64 13)]) (H' := [(2, ⟨[.ints .u8 32 (List.replicate 32 0)], 24⟩), (20, ⟨[.ints .u8 32 (outF (hsQ L len q) 13)], 24⟩), (23, ⟨[.vals (iV .u32 (hsQ L len q) ++ r1)], 79⟩)]) (by kernel_rfl) (by kernel_rfl) ?_
      refine we_unr ?_
      refine wr_go ?_
      refine wc_seq ?_
      refine wc_seq ?_
      refine wc_reg [0, 1] (by kernel_rfl) ?_
      refine wo_run [0, 1] [2, 3, 20, 21, 288] [2, 20, 23] (l' := [(2, eL 2 0), (3, .s (.a (.ls 23 0 8 c1))), (20, eL 20 0), (21, eI .i64 13), (288, eB true)]) (H' := [(2, ⟨[.ints .u8 32 (List.replicate 32 0)], 24⟩), (20, ⟨[.ints .u8 32 (outF (hsQ L len q) 13)], 24⟩), (23, ⟨[.vals (iV .u32 (hsQ L len q) ++ r1)], 79⟩)]) (by kernel_rfl) ?_
      refine wo_nil ?_
      refine we_then ?_
      refine wc_true rfl ?_
      refine wc_skip ?_
      refine we_then ?_
      refine wc_seq ?_
      refine wc_block ?_
      refine wc_reg [0, 1, 2, 3, 4, 5, 6, 7, 8, 9, 10, 11, 12, 13] (by kernel_rfl) ?_
      refine wo_run [0, 1, 2, 3] [2, 3, 20, 21, 291, 292, 294] [2, 20, 23] (l' := [(2, eL 2 0), (3, .s (.a (.ls 23 0 8 c1))), (20, eL 20 0), (21, eI .i64 13), (291, eI .i64 13), (292, .s (.a (.ls 23 0 8 c1))), (294, eI .i64 3)]) (H' := [(2, ⟨[.ints .u8 32 (List.replicate 32 0)], 24⟩), (20, ⟨[.ints .u8 32 (outF (hsQ L len q) 13)], 24⟩), (23, ⟨[.vals (iV .u32 (hsQ L len q) ++ r1)], 79⟩)]) (by kernel_rfl) ?_
      refine wo_op rfl rfl (ot_rd rfl (rd_indexL (e := 79) 1 3 3 rfl (by kernel_rfl) (by kernel_rfl) rfl rfl (rfl) (by decide))) ?_
      refine wo_op rfl rfl (ot_rd rfl (rd_cellS (b := ⟨[.vals (iV .u32 (hsQ L len q) ++ r1)], 79⟩) (.v (.int .u32 ((hsQ L len q).getD 3 0))) rfl rfl rfl (by kernel_rfl) (fun ρ => rowi_at (i := 3) (by rw [hfold_len _ _ rfl]; omega) (by omega) ρ))) ?_
      refine wo_run [6, 7, 8, 9, 10, 11, 12, 13] [2, 3, 20, 21] [2, 20, 23] (l' := [(2, eL 2 0), (3, .s (.a (.ls 23 0 8 c1))), (20, eL 20 0), (21, eI .i64 13)]) (H' := [(2, ⟨[.ints .u8 32 (List.replicate 32 0)], 24⟩), (20, ⟨[.ints .u8 32 ((outF (hsQ L len q) 13).set 13 (IntKind.wrap .u8 (Int.fdiv ((hsQ L len q).getD 3 0) (2 ^ (16 : Nat)))))], 24⟩), (23, ⟨[.vals (iV .u32 (hsQ L len q) ++ r1)], 79⟩)]) (by kernel_rfl) ?_
      refine wo_nil ?_
      refine we_block ?_
      refine we_then ?_
      refine wc_reg [0, 1, 2] (by kernel_rfl) ?_
      refine wo_run [0, 1, 2] [2, 3, 20, 21] [2, 20, 23] (l' := [(2, eL 2 0), (3, .s (.a (.ls 23 0 8 c1))), (20, eL 20 0), (21, eI .i64 14)]) (H' := [(2, ⟨[.ints .u8 32 (List.replicate 32 0)], 24⟩), (20, ⟨[.ints .u8 32 ((outF (hsQ L len q) 13).set 13 (IntKind.wrap .u8 (Int.fdiv ((hsQ L len q).getD 3 0) (2 ^ (16 : Nat)))))], 24⟩), (23, ⟨[.vals (iV .u32 (hsQ L len q) ++ r1)], 79⟩)]) (by kernel_rfl) ?_
      refine wo_nil ?_
      refine we_rest [2, 3, 20, 21] [2, 20, 23] (l' := [(2, eL 2 0), (3, .s (.a (.ls 23 0 8 c1))), (20, eL 20 0), (21, eI .i64 14)]) (H' := [(2, ⟨[.ints .u8 32 (List.replicate 32 0)], 24⟩), (20, ⟨[.ints .u8 32 (outF (hsQ L len q) 14)], 24⟩), (23, ⟨[.vals (iV .u32 (hsQ L len q) ++ r1)], 79⟩)]) (by kernel_rfl) (by kernel_rfl) ?_
      refine we_unr ?_
      refine wr_go ?_
      refine wc_seq ?_
      refine wc_seq ?_
      refine wc_reg [0, 1] (by kernel_rfl) ?_
      refine wo_run [0, 1] [2, 3, 20, 21, 288] [2, 20, 23] (l' := [(2, eL 2 0), (3, .s (.a (.ls 23 0 8 c1))), (20, eL 20 0), (21, eI .i64 14), (288, eB true)]) (H' := [(2, ⟨[.ints .u8 32 (List.replicate 32 0)], 24⟩), (20, ⟨[.ints .u8 32 (outF (hsQ L len q) 14)], 24⟩), (23, ⟨[.vals (iV .u32 (hsQ L len q) ++ r1)], 79⟩)]) (by kernel_rfl) ?_
      refine wo_nil ?_
      refine we_then ?_
      refine wc_true rfl ?_
      refine wc_skip ?_
      refine we_then ?_
      refine wc_seq ?_
      refine wc_block ?_
      refine wc_reg [0, 1, 2, 3, 4, 5, 6, 7, 8, 9, 10, 11, 12, 13] (by kernel_rfl) ?_
      refine wo_run [0, 1, 2, 3] [2, 3, 20, 21, 291, 292, 294] [2, 20, 23] (l' := [(2, eL 2 0), (3, .s (.a (.ls 23 0 8 c1))), (20, eL 20 0), (21, eI .i64 14), (291, eI .i64 14), (292, .s (.a (.ls 23 0 8 c1))), (294, eI .i64 3)]) (H' := [(2, ⟨[.ints .u8 32 (List.replicate 32 0)], 24⟩), (20, ⟨[.ints .u8 32 (outF (hsQ L len q) 14)], 24⟩), (23, ⟨[.vals (iV .u32 (hsQ L len q) ++ r1)], 79⟩)]) (by kernel_rfl) ?_
      refine wo_op rfl rfl (ot_rd rfl (rd_indexL (e := 79) 1 3 3 rfl (by kernel_rfl) (by kernel_rfl) rfl rfl (rfl) (by decide))) ?_
      refine wo_op rfl rfl (ot_rd rfl (rd_cellS (b := ⟨[.vals (iV .u32 (hsQ L len q) ++ r1)], 79⟩) (.v (.int .u32 ((hsQ L len q).getD 3 0))) rfl rfl rfl (by kernel_rfl) (fun ρ => rowi_at (i := 3) (by rw [hfold_len _ _ rfl]; omega) (by omega) ρ))) ?_
      refine wo_run [6, 7, 8, 9, 10, 11, 12, 13] [2, 3, 20, 21] [2, 20, 23] (l' := [(2, eL 2 0), (3, .s (.a (.ls 23 0 8 c1))), (20, eL 20 0), (21, eI .i64 14)]) (H' := [(2, ⟨[.ints .u8 32 (List.replicate 32 0)], 24⟩), (20, ⟨[.ints .u8 32 ((outF (hsQ L len q) 14).set 14 (IntKind.wrap .u8 (Int.fdiv ((hsQ L len q).getD 3 0) (2 ^ (8 : Nat)))))], 24⟩), (23, ⟨[.vals (iV .u32 (hsQ L len q) ++ r1)], 79⟩)]) (by kernel_rfl) ?_
      refine wo_nil ?_
      refine we_block ?_
      refine we_then ?_
      refine wc_reg [0, 1, 2] (by kernel_rfl) ?_
      refine wo_run [0, 1, 2] [2, 3, 20, 21] [2, 20, 23] (l' := [(2, eL 2 0), (3, .s (.a (.ls 23 0 8 c1))), (20, eL 20 0), (21, eI .i64 15)]) (H' := [(2, ⟨[.ints .u8 32 (List.replicate 32 0)], 24⟩), (20, ⟨[.ints .u8 32 ((outF (hsQ L len q) 14).set 14 (IntKind.wrap .u8 (Int.fdiv ((hsQ L len q).getD 3 0) (2 ^ (8 : Nat)))))], 24⟩), (23, ⟨[.vals (iV .u32 (hsQ L len q) ++ r1)], 79⟩)]) (by kernel_rfl) ?_
      refine wo_nil ?_
      refine we_rest [2, 3, 20, 21] [2, 20, 23] (l' := [(2, eL 2 0), (3, .s (.a (.ls 23 0 8 c1))), (20, eL 20 0), (21, eI .i64 15)]) (H' := [(2, ⟨[.ints .u8 32 (List.replicate 32 0)], 24⟩), (20, ⟨[.ints .u8 32 (outF (hsQ L len q) 15)], 24⟩), (23, ⟨[.vals (iV .u32 (hsQ L len q) ++ r1)], 79⟩)]) (by kernel_rfl) (by kernel_rfl) ?_
      refine we_unr ?_
      refine wr_go ?_
      refine wc_seq ?_
      refine wc_seq ?_
      refine wc_reg [0, 1] (by kernel_rfl) ?_
      refine wo_run [0, 1] [2, 3, 20, 21, 288] [2, 20, 23] (l' := [(2, eL 2 0), (3, .s (.a (.ls 23 0 8 c1))), (20, eL 20 0), (21, eI .i64 15), (288, eB true)]) (H' := [(2, ⟨[.ints .u8 32 (List.replicate 32 0)], 24⟩), (20, ⟨[.ints .u8 32 (outF (hsQ L len q) 15)], 24⟩), (23, ⟨[.vals (iV .u32 (hsQ L len q) ++ r1)], 79⟩)]) (by kernel_rfl) ?_
      refine wo_nil ?_
      refine we_then ?_
      refine wc_true rfl ?_
      refine wc_skip ?_
      refine we_then ?_
      refine wc_seq ?_
      refine wc_block ?_
      refine wc_reg [0, 1, 2, 3, 4, 5, 6, 7, 8, 9, 10, 11, 12, 13] (by kernel_rfl) ?_
      refine wo_run [0, 1, 2, 3] [2, 3, 20, 21, 291, 292, 294] [2, 20, 23] (l' := [(2, eL 2 0), (3, .s (.a (.ls 23 0 8 c1))), (20, eL 20 0), (21, eI .i64 15), (291, eI .i64 15), (292, .s (.a (.ls 23 0 8 c1))), (294, eI .i64 3)]) (H' := [(2, ⟨[.ints .u8 32 (List.replicate 32 0)], 24⟩), (20, ⟨[.ints .u8 32 (outF (hsQ L len q) 15)], 24⟩), (23, ⟨[.vals (iV .u32 (hsQ L len q) ++ r1)], 79⟩)]) (by kernel_rfl) ?_
      refine wo_op rfl rfl (ot_rd rfl (rd_indexL (e := 79) 1 3 3 rfl (by kernel_rfl) (by kernel_rfl) rfl rfl (rfl) (by decide))) ?_
      refine wo_op rfl rfl (ot_rd rfl (rd_cellS (b := ⟨[.vals (iV .u32 (hsQ L len q) ++ r1)], 79⟩) (.v (.int .u32 ((hsQ L len q).getD 3 0))) rfl rfl rfl (by kernel_rfl) (fun ρ => rowi_at (i := 3) (by rw [hfold_len _ _ rfl]; omega) (by omega) ρ))) ?_
      refine wo_run [6, 7, 8, 9, 10, 11, 12, 13] [2, 3, 20, 21] [2, 20, 23] (l' := [(2, eL 2 0), (3, .s (.a (.ls 23 0 8 c1))), (20, eL 20 0), (21, eI .i64 15)]) (H' := [(2, ⟨[.ints .u8 32 (List.replicate 32 0)], 24⟩), (20, ⟨[.ints .u8 32 ((outF (hsQ L len q) 15).set 15 (IntKind.wrap .u8 (Int.fdiv ((hsQ L len q).getD 3 0) (2 ^ (0 : Nat)))))], 24⟩), (23, ⟨[.vals (iV .u32 (hsQ L len q) ++ r1)], 79⟩)]) (by kernel_rfl) ?_
      refine wo_nil ?_
      refine we_block ?_
      refine we_then ?_
      refine wc_reg [0, 1, 2] (by kernel_rfl) ?_
      refine wo_run [0, 1, 2] [2, 3, 20, 21] [2, 20, 23] (l' := [(2, eL 2 0), (3, .s (.a (.ls 23 0 8 c1))), (20, eL 20 0), (21, eI .i64 16)]) (H' := [(2, ⟨[.ints .u8 32 (List.replicate 32 0)], 24⟩), (20, ⟨[.ints .u8 32 ((outF (hsQ L len q) 15).set 15 (IntKind.wrap .u8 (Int.fdiv ((hsQ L len q).getD 3 0) (2 ^ (0 : Nat)))))], 24⟩), (23, ⟨[.vals (iV .u32 (hsQ L len q) ++ r1)], 79⟩)]) (by kernel_rfl) ?_
      refine wo_nil ?_
      refine we_rest [2, 3, 20, 21] [2, 20, 23] (l' := [(2, eL 2 0), (3, .s (.a (.ls 23 0 8 c1))), (20, eL 20 0), (21, eI .i64 16)]) (H' := [(2, ⟨[.ints .u8 32 (List.replicate 32 0)], 24⟩), (20, ⟨[.ints .u8 32 (outF (hsQ L len q) 16)], 24⟩), (23, ⟨[.vals (iV .u32 (hsQ L len q) ++ r1)], 79⟩)]) (by kernel_rfl) (by kernel_rfl) ?_
      refine we_unr ?_
      refine wr_go ?_
      refine wc_seq ?_
      refine wc_seq ?_
      refine wc_reg [0, 1] (by kernel_rfl) ?_
      refine wo_run [0, 1] [2, 3, 20, 21, 288] [2, 20, 23] (l' := [(2, eL 2 0), (3, .s (.a (.ls 23 0 8 c1))), (20, eL 20 0), (21, eI .i64 16), (288, eB true)]) (H' := [(2, ⟨[.ints .u8 32 (List.replicate 32 0)], 24⟩), (20, ⟨[.ints .u8 32 (outF (hsQ L len q) 16)], 24⟩), (23, ⟨[.vals (iV .u32 (hsQ L len q) ++ r1)], 79⟩)]) (by kernel_rfl) ?_
      refine wo_nil ?_
      refine we_then ?_
      refine wc_true rfl ?_
      refine wc_skip ?_
      refine we_then ?_
      refine wc_seq ?_
      refine wc_block ?_
      refine wc_reg [0, 1, 2, 3, 4, 5, 6, 7, 8, 9, 10, 11, 12, 13] (by kernel_rfl) ?_
      refine wo_run [0, 1, 2, 3] [2, 3, 20, 21, 291, 292, 294] [2, 20, 23] (l' := [(2, eL 2 0), (3, .s (.a (.ls 23 0 8 c1))), (20, eL 20 0), (21, eI .i64 16), (291, eI .i64 16), (292, .s (.a (.ls 23 0 8 c1))), (294, eI .i64 4)]) (H' := [(2, ⟨[.ints .u8 32 (List.replicate 32 0)], 24⟩), (20, ⟨[.ints .u8 32 (outF (hsQ L len q) 16)], 24⟩), (23, ⟨[.vals (iV .u32 (hsQ L len q) ++ r1)], 79⟩)]) (by kernel_rfl) ?_
      refine wo_op rfl rfl (ot_rd rfl (rd_indexL (e := 79) 1 4 4 rfl (by kernel_rfl) (by kernel_rfl) rfl rfl (rfl) (by decide))) ?_
      refine wo_op rfl rfl (ot_rd rfl (rd_cellS (b := ⟨[.vals (iV .u32 (hsQ L len q) ++ r1)], 79⟩) (.v (.int .u32 ((hsQ L len q).getD 4 0))) rfl rfl rfl (by kernel_rfl) (fun ρ => rowi_at (i := 4) (by rw [hfold_len _ _ rfl]; omega) (by omega) ρ))) ?_
      refine wo_run [6, 7, 8, 9, 10, 11, 12, 13] [2, 3, 20, 21] [2, 20, 23] (l' := [(2, eL 2 0), (3, .s (.a (.ls 23 0 8 c1))), (20, eL 20 0), (21, eI .i64 16)]) (H' := [(2, ⟨[.ints .u8 32 (List.replicate 32 0)], 24⟩), (20, ⟨[.ints .u8 32 ((outF (hsQ L len q) 16).set 16 (IntKind.wrap .u8 (Int.fdiv ((hsQ L len q).getD 4 0) (2 ^ (24 : Nat)))))], 24⟩), (23, ⟨[.vals (iV .u32 (hsQ L len q) ++ r1)], 79⟩)]) (by kernel_rfl) ?_
      refine wo_nil ?_
      refine we_block ?_
      refine we_then ?_
      refine wc_reg [0, 1, 2] (by kernel_rfl) ?_
      refine wo_run [0, 1, 2] [2, 3, 20, 21] [2, 20, 23] (l' := [(2, eL 2 0), (3, .s (.a (.ls 23 0 8 c1))), (20, eL 20 0), (21, eI .i64 17)]) (H' := [(2, ⟨[.ints .u8 32 (List.replicate 32 0)], 24⟩), (20, ⟨[.ints .u8 32 ((outF (hsQ L len q) 16).set 16 (IntKind.wrap .u8 (Int.fdiv ((hsQ L len q).getD 4 0) (2 ^ (24 : Nat)))))], 24⟩), (23, ⟨[.vals (iV .u32 (hsQ L len q) ++ r1)], 79⟩)]) (by kernel_rfl) ?_
      refine wo_nil ?_
      refine we_rest [2, 3, 20, 21] [2, 20, 23] (l' := [(2, eL 2 0), (3, .s (.a (.ls 23 0 8 c1))), (20, eL 20 0), (21, eI .i64 17)]) (H' := [(2, ⟨[.ints .u8 32 (List.replicate 32 0)], 24⟩), (20, ⟨[.ints .u8 32 (outF (hsQ L len q) 17)], 24⟩), (23, ⟨[.vals (iV .u32 (hsQ L len q) ++ r1)], 79⟩)]) (by kernel_rfl) (by kernel_rfl) ?_
      refine we_unr ?_
      refine wr_go ?_
      refine wc_seq ?_
      refine wc_seq ?_
      refine wc_reg [0, 1] (by kernel_rfl) ?_
      refine wo_run [0, 1] [2, 3, 20, 21, 288] [2, 20, 23] (l' := [(2, eL 2 0), (3, .s (.a (.ls 23 0 8 c1))), (20, eL 20 0), (21, eI .i64 17), (288, eB true)]) (H' := [(2, ⟨[.ints .u8 32 (List.replicate 32 0)], 24⟩), (20, ⟨[.ints .u8 32 (outF (hsQ L len q) 17)], 24⟩), (23, ⟨[.vals (iV .u32 (hsQ L len q) ++ r1)], 79⟩)]) (by kernel_rfl) ?_
      refine wo_nil ?_
      refine we_then ?_
      refine wc_true rfl ?_
      refine wc_skip ?_
      refine we_then ?_
      refine wc_seq ?_
      refine wc_block ?_
      refine wc_reg [0, 1, 2, 3, 4, 5, 6, 7, 8, 9, 10, 11, 12, 13] (by kernel_rfl) ?_
      refine wo_run [0, 1, 2, 3] [2, 3, 20, 21, 291, 292, 294] [2, 20, 23] (l' := [(2, eL 2 0), (3, .s (.a (.ls 23 0 8 c1))), (20, eL 20 0), (21, eI .i64 17), (291, eI .i64 17), (292, .s (.a (.ls 23 0 8 c1))), (294, eI .i64 4)]) (H' := [(2, ⟨[.ints .u8 32 (List.replicate 32 0)], 24⟩), (20, ⟨[.ints .u8 32 (outF (hsQ L len q) 17)], 24⟩), (23, ⟨[.vals (iV .u32 (hsQ L len q) ++ r1)], 79⟩)]) (by kernel_rfl) ?_
      refine wo_op rfl rfl (ot_rd rfl (rd_indexL (e := 79) 1 4 4 rfl (by kernel_rfl) (by kernel_rfl) rfl rfl (rfl) (by decide))) ?_
      refine wo_op rfl rfl (ot_rd rfl (rd_cellS (b := ⟨[.vals (iV .u32 (hsQ L len q) ++ r1)], 79⟩) (.v (.int .u32 ((hsQ L len q).getD 4 0))) rfl rfl rfl (by kernel_rfl) (fun ρ => rowi_at (i := 4) (by rw [hfold_len _ _ rfl]; omega) (by omega) ρ))) ?_
      refine wo_run [6, 7, 8, 9, 10, 11, 12, 13] [2, 3, 20, 21] [2, 20, 23] (l' := [(2, eL 2 0), (3, .s (.a (.ls 23 0 8 c1))), (20, eL 20 0), (21, eI .i64 17)]) (H' := [(2, ⟨[.ints .u8 32 (List.replicate 32 0)], 24⟩), (20, ⟨[.ints .u8 32 ((outF (hsQ L len q) 17).set 17 (IntKind.wrap .u8 (Int.fdiv ((hsQ L len q).getD 4 0) (2 ^ (16 : Nat)))))], 24⟩), (23, ⟨[.vals (iV .u32 (hsQ L len q) ++ r1)], 79⟩)]) (by kernel_rfl) ?_
      refine wo_nil ?_
      refine we_block ?_
      refine we_then ?_
      refine wc_reg [0, 1, 2] (by kernel_rfl) ?_
      refine wo_run [0, 1, 2] [2, 3, 20, 21] [2, 20, 23] (l' := [(2, eL 2 0), (3, .s (.a (.ls 23 0 8 c1))), (20, eL 20 0), (21, eI .i64 18)]) (H' := [(2, ⟨[.ints .u8 32 (List.replicate 32 0)], 24⟩), (20, ⟨[.ints .u8 32 ((outF (hsQ L len q) 17).set 17 (IntKind.wrap .u8 (Int.fdiv ((hsQ L len q).getD 4 0) (2 ^ (16 : Nat)))))], 24⟩), (23, ⟨[.vals (iV .u32 (hsQ L len q) ++ r1)], 79⟩)]) (by kernel_rfl) ?_
      refine wo_nil ?_
      refine we_rest [2, 3, 20, 21] [2, 20, 23] (l' := [(2, eL 2 0), (3, .s (.a (.ls 23 0 8 c1))), (20, eL 20 0), (21, eI .i64 18)]) (H' := [(2, ⟨[.ints .u8 32 (List.replicate 32 0)], 24⟩), (20, ⟨[.ints .u8 32 (outF (hsQ L len q) 18)], 24⟩), (23, ⟨[.vals (iV .u32 (hsQ L len q) ++ r1)], 79⟩)]) (by kernel_rfl) (by kernel_rfl) ?_
      refine we_unr ?_
      refine wr_go ?_
      refine wc_seq ?_
      refine wc_seq ?_
      refine wc_reg [0, 1] (by kernel_rfl) ?_
      refine wo_run [0, 1] [2, 3, 20, 21, 288] [2, 20, 23] (l' := [(2, eL 2 0), (3, .s (.a (.ls 23 0 8 c1))), (20, eL 20 0), (21, eI .i64 18), (288, eB true)]) (H' := [(2, ⟨[.ints .u8 32 (List.replicate 32 0)], 24⟩), (20, ⟨[.ints .u8 32 (outF (hsQ L len q) 18)], 24⟩), (23, ⟨[.vals (iV .u32 (hsQ L len q) ++ r1)], 79⟩)]) (by kernel_rfl) ?_
      refine wo_nil ?_
      refine we_then ?_
      refine wc_true rfl ?_
      refine wc_skip ?_
      refine we_then ?_
      refine wc_seq ?_
      refine wc_block ?_
      refine wc_reg [0, 1, 2, 3, 4, 5, 6, 7, 8, 9, 10, 11, 12, 13] (by kernel_rfl) ?_
      refine wo_run [0, 1, 2, 3] [2, 3, 20, 21, 291, 292, 294] [2, 20, 23] (l' := [(2, eL 2 0), (3, .s (.a (.ls 23 0 8 c1))), (20, eL 20 0), (21, eI .i64 18), (291, eI .i64 18), (292, .s (.a (.ls 23 0 8 c1))), (294, eI .i64 4)]) (H' := [(2, ⟨[.ints .u8 32 (List.replicate 32 0)], 24⟩), (20, ⟨[.ints .u8 32 (outF (hsQ L len q) 18)], 24⟩), (23, ⟨[.vals (iV .u32 (hsQ L len q) ++ r1)], 79⟩)]) (by kernel_rfl) ?_
      refine wo_op rfl rfl (ot_rd rfl (rd_indexL (e := 79) 1 4 4 rfl (by kernel_rfl) (by kernel_rfl) rfl rfl (rfl) (by decide))) ?_
      refine wo_op rfl rfl (ot_rd rfl (rd_cellS (b := ⟨[.vals (iV .u32 (hsQ L len q) ++ r1)], 79⟩) (.v (.int .u32 ((hsQ L len q).getD 4 0))) rfl rfl rfl (by kernel_rfl) (fun ρ => rowi_at (i := 4) (by rw [hfold_len _ _ rfl]; omega) (by omega) ρ))) ?_
      refine wo_run [6, 7, 8, 9, 10, 11, 12, 13] [2, 3, 20, 21] [2, 20, 23] (l' := [(2, eL 2 0), (3, .s (.a (.ls 23 0 8 c1))), (20, eL 20 0), (21, eI .i64 18)]) (H' := [(2, ⟨[.ints .u8 32 (List.replicate 32 0)], 24⟩), (20, ⟨[.ints .u8 32 ((outF (hsQ L len q) 18).set 18 (IntKind.wrap .u8 (Int.fdiv ((hsQ L len q).getD 4 0) (2 ^ (8 : Nat)))))], 24⟩), (23, ⟨[.vals (iV .u32 (hsQ L len q) ++ r1)], 79⟩)]) (by kernel_rfl) ?_
      refine wo_nil ?_
      refine we_block ?_
      refine we_then ?_
      refine wc_reg [0, 1, 2] (by kernel_rfl) ?_
      refine wo_run [0, 1, 2] [2, 3, 20, 21] [2, 20, 23] (l' := [(2, eL 2 0), (3, .s (.a (.ls 23 0 8 c1))), (20, eL 20 0), (21, eI .i64 19)]) (H' := [(2, ⟨[.ints .u8 32 (List.replicate 32 0)], 24⟩), (20, ⟨[.ints .u8 32 ((outF (hsQ L len q) 18).set 18 (IntKind.wrap .u8 (Int.fdiv ((hsQ L len q).getD 4 0) (2 ^ (8 : Nat)))))], 24⟩), (23, ⟨[.vals (iV .u32 (hsQ L len q) ++ r1)], 79⟩)]) (by kernel_rfl) ?_
      refine wo_nil ?_
      refine we_rest [2, 3, 20, 21] [2, 20, 23] (l' := [(2, eL 2 0), (3, .s (.a (.ls 23 0 8 c1))), (20, eL 20 0), (21, eI .i64 19)]) (H' := [(2, ⟨[.ints .u8 32 (List.replicate 32 0)], 24⟩), (20, ⟨[.ints .u8 32 (outF (hsQ L len q) 19)], 24⟩), (23, ⟨[.vals (iV .u32 (hsQ L len q) ++ r1)], 79⟩)]) (by kernel_rfl) (by kernel_rfl) ?_
      refine we_unr ?_
      refine wr_go ?_
      refine wc_seq ?_
      refine wc_seq ?_
      refine wc_reg [0, 1] (by kernel_rfl) ?_
      refine wo_run [0, 1] [2, 3, 20, 21, 288] [2, 20, 23] (l' := [(2, eL 2 0), (3, .s (.a (.ls 23 0 8 c1))), (20, eL 20 0), (21, eI .i64 19), (288, eB true)]) (H' := [(2, ⟨[.ints .u8 32 (List.replicate 32 0)], 24⟩), (20, ⟨[.ints .u8 32 (outF (hsQ L len q) 19)], 24⟩), (23, ⟨[.vals (iV .u32 (hsQ L len q) ++ r1)], 79⟩)]) (by kernel_rfl) ?_
      refine wo_nil ?_
      refine we_then ?_
      refine wc_true rfl ?_
      refine wc_skip ?_
      refine we_then ?_
      refine wc_seq ?_
      refine wc_block ?_
      refine wc_reg [0, 1, 2, 3, 4, 5, 6, 7, 8, 9, 10, 11, 12, 13] (by kernel_rfl) ?_
      refine wo_run [0, 1, 2, 3] [2, 3, 20, 21, 291, 292, 294] [2, 20, 23] (l' := [(2, eL 2 0), (3, .s (.a (.ls 23 0 8 c1))), (20, eL 20 0), (21, eI .i64 19), (291, eI .i64 19), (292, .s (.a (.ls 23 0 8 c1))), (294, eI .i64 4)]) (H' := [(2, ⟨[.ints .u8 32 (List.replicate 32 0)], 24⟩), (20, ⟨[.ints .u8 32 (outF (hsQ L len q) 19)], 24⟩), (23, ⟨[.vals (iV .u32 (hsQ L len q) ++ r1)], 79⟩)]) (by kernel_rfl) ?_
      refine wo_op rfl rfl (ot_rd rfl (rd_indexL (e := 79) 1 4 4 rfl (by kernel_rfl) (by kernel_rfl) rfl rfl (rfl) (by decide))) ?_
      refine wo_op rfl rfl (ot_rd rfl (rd_cellS (b := ⟨[.vals (iV .u32 (hsQ L len q) ++ r1)], 79⟩) (.v (.int .u32 ((hsQ L len q).getD 4 0))) rfl rfl rfl (by kernel_rfl) (fun ρ => rowi_at (i := 4) (by rw [hfold_len _ _ rfl]; omega) (by omega) ρ))) ?_
      refine wo_run [6, 7, 8, 9, 10, 11, 12, 13] [2, 3, 20, 21] [2, 20, 23] (l' := [(2, eL 2 0), (3, .s (.a (.ls 23 0 8 c1))), (20, eL 20 0), (21, eI .i64 19)]) (H' := [(2, ⟨[.ints .u8 32 (List.replicate 32 0)], 24⟩), (20, ⟨[.ints .u8 32 ((outF (hsQ L len q) 19).set 19 (IntKind.wrap .u8 (Int.fdiv ((hsQ L len q).getD 4 0) (2 ^ (0 : Nat)))))], 24⟩), (23, ⟨[.vals (iV .u32 (hsQ L len q) ++ r1)], 79⟩)]) (by kernel_rfl) ?_
      refine wo_nil ?_
      refine we_block ?_
      refine we_then ?_
      refine wc_reg [0, 1, 2] (by kernel_rfl) ?_
      refine wo_run [0, 1, 2] [2, 3, 20, 21] [2, 20, 23] (l' := [(2, eL 2 0), (3, .s (.a (.ls 23 0 8 c1))), (20, eL 20 0), (21, eI .i64 20)]) (H' := [(2, ⟨[.ints .u8 32 (List.replicate 32 0)], 24⟩), (20, ⟨[.ints .u8 32 ((outF (hsQ L len q) 19).set 19 (IntKind.wrap .u8 (Int.fdiv ((hsQ L len q).getD 4 0) (2 ^ (0 : Nat)))))], 24⟩), (23, ⟨[.vals (iV .u32 (hsQ L len q) ++ r1)], 79⟩)]) (by kernel_rfl) ?_
      refine wo_nil ?_
      refine we_rest [2, 3, 20, 21] [2, 20, 23] (l' := [(2, eL 2 0), (3, .s (.a (.ls 23 0 8 c1))), (20, eL 20 0), (21, eI .i64 20)]) (H' := [(2, ⟨[.ints .u8 32 (List.replicate 32 0)], 24⟩), (20, ⟨[.ints .u8 32 (outF (hsQ L len q) 20)], 24⟩), (23, ⟨[.vals (iV .u32 (hsQ L len q) ++ r1)], 79⟩)]) (by kernel_rfl) (by kernel_rfl) ?_
      refine we_unr ?_
      refine wr_go ?_
      refine wc_seq ?_
      refine wc_seq ?_
      refine wc_reg [0, 1] (by kernel_rfl) ?_
      refine wo_run [0, 1] [2, 3, 20, 21, 288] [2, 20, 23] (l' := [(2, eL 2 0), (3, .s (.a (.ls 23 0 8 c1))), (20, eL 20 0), (21, eI .i64 20), (288, eB true)]) (H' := [(2, ⟨[.ints .u8 32 (List.replicate 32 0)], 24⟩), (20, ⟨[.ints .u8 32 (outF (hsQ L len q) 20)], 24⟩), (23, ⟨[.vals (iV .u32 (hsQ L len q) ++ r1)], 79⟩)]) (by kernel_rfl) ?_
      refine wo_nil ?_
      refine we_then ?_
      refine wc_true rfl ?_
      refine wc_skip ?_
      refine we_then ?_
      refine wc_seq ?_
      refine wc_block ?_
      refine wc_reg [0, 1, 2, 3, 4, 5, 6, 7, 8, 9, 10, 11, 12, 13] (by kernel_rfl) ?_
      refine wo_run [0, 1, 2, 3] [2, 3, 20, 21, 291, 292, 294] [2, 20, 23] (l' := [(2, eL 2 0), (3, .s (.a (.ls 23 0 8 c1))), (20, eL 20 0), (21, eI .i64 20), (291, eI .i64 20), (292, .s (.a (.ls 23 0 8 c1))), (294, eI .i64 5)]) (H' := [(2, ⟨[.ints .u8 32 (List.replicate 32 0)], 24⟩), (20, ⟨[.ints .u8 32 (outF (hsQ L len q) 20)], 24⟩), (23, ⟨[.vals (iV .u32 (hsQ L len q) ++ r1)], 79⟩)]) (by kernel_rfl) ?_
      refine wo_op rfl rfl (ot_rd rfl (rd_indexL (e := 79) 1 5 5 rfl (by kernel_rfl) (by kernel_rfl) rfl rfl (rfl) (by decide))) ?_
      refine wo_op rfl rfl (ot_rd rfl (rd_cellS (b := ⟨[.vals (iV .u32 (hsQ L len q) ++ r1)], 79⟩) (.v (.int .u32 ((hsQ L len q).getD 5 0))) rfl rfl rfl (by kernel_rfl) (fun ρ => rowi_at (i := 5) (by rw [hfold_len _ _ rfl]; omega) (by omega) ρ))) ?_
      refine wo_run [6, 7, 8, 9, 10, 11, 12, 13] [2, 3, 20, 21] [2, 20, 23] (l' := [(2, eL 2 0), (3, .s (.a (.ls 23 0 8 c1))), (20, eL 20 0), (21, eI .i64 20)]) (H' := [(2, ⟨[.ints .u8 32 (List.replicate 32 0)], 24⟩), (20, ⟨[.ints .u8 32 ((outF (hsQ L len q) 20).set 20 (IntKind.wrap .u8 (Int.fdiv ((hsQ L len q).getD 5 0) (2 ^ (24 : Nat)))))], 24⟩), (23, ⟨[.vals (iV .u32 (hsQ L len q) ++ r1)], 79⟩)]) (by kernel_rfl) ?_
      refine wo_nil ?_
      refine we_block ?_
      refine we_then ?_
      refine wc_reg [0, 1, 2] (by kernel_rfl) ?_
      refine wo_run [0, 1, 2] [2, 3, 20, 21] [2, 20, 23] (l' := [(2, eL 2 0), (3, .s (.a (.ls 23 0 8 c1))), (20, eL 20 0), (21, eI .i64 21)]) (H' := [(2, ⟨[.ints .u8 32 (List.replicate 32 0)], 24⟩), (20, ⟨[.ints .u8 32 ((outF (hsQ L len q) 20).set 20 (IntKind.wrap .u8 (Int.fdiv ((hsQ L len q).getD 5 0) (2 ^ (24 : Nat)))))], 24⟩), (23, ⟨[.vals (iV .u32 (hsQ L len q) ++ r1)], 79⟩)]) (by kernel_rfl) ?_
      refine wo_nil ?_
      refine we_rest [2, 3, 20, 21] [2, 20, 23] (l' := [(2, eL 2 0), (3, .s (.a (.ls 23 0 8 c1))), (20, eL 20 0), (21, eI .i64 21)]) (H' := [(2, ⟨[.ints .u8 32 (List.replicate 32 0)], 24⟩), (20, ⟨[.ints .u8 32 (outF (hsQ L len q) 21)], 24⟩), (23, ⟨[.vals (iV .u32 (hsQ L len q) ++ r1)], 79⟩)]) (by kernel_rfl) (by kernel_rfl) ?_
      refine we_unr ?_
      refine wr_go ?_
      refine wc_seq ?_
      refine wc_seq ?_
      refine wc_reg [0, 1] (by kernel_rfl) ?_
      refine wo_run [0, 1] [2, 3, 20, 21, 288] [2, 20, 23] (l' := [(2, eL 2 0), (3, .s (.a (.ls 23 0 8 c1))), (20, eL 20 0), (21, eI .i64 21), (288, eB true)]) (H' := [(2, ⟨[.ints .u8 32 (List.replicate 32 0)], 24⟩), (20, ⟨[.ints .u8 32 (outF (hsQ L len q) 21)], 24⟩), (23, ⟨[.vals (iV .u32 (hsQ L len q) ++ r1)], 79⟩)]) (by kernel_rfl) ?_
      refine wo_nil ?_
      refine we_then ?_
      refine wc_true rfl ?_
      refine wc_skip ?_
      refine we_then ?_
      refine wc_seq ?_
      refine wc_block ?_
      refine wc_reg [0, 1, 2, 3, 4, 5, 6, 7, 8, 9, 10, 11, 12, 13] (by kernel_rfl) ?_
      refine wo_run [0, 1, 2, 3] [2, 3, 20, 21, 291, 292, 294] [2, 20, 23] (l' := [(2, eL 2 0), (3, .s (.a (.ls 23 0 8 c1))), (20, eL 20 0), (21, eI .i64 21), (291, eI .i64 21), (292, .s (.a (.ls 23 0 8 c1))), (294, eI .i64 5)]) (H' := [(2, ⟨[.ints .u8 32 (List.replicate 32 0)], 24⟩), (20, ⟨[.ints .u8 32 (outF (hsQ L len q) 21)], 24⟩), (23, ⟨[.vals (iV .u32 (hsQ L len q) ++ r1)], 79⟩)]) (by kernel_rfl) ?_
      refine wo_op rfl rfl (ot_rd rfl (rd_indexL (e := 79) 1 5 5 rfl (by kernel_rfl) (by kernel_rfl) rfl rfl (rfl) (by decide))) ?_
      refine wo_op rfl rfl (ot_rd rfl (rd_cellS (b := ⟨[.vals (iV .u32 (hsQ L len q) ++ r1)], 79⟩) (.v (.int .u32 ((hsQ L len q).getD 5 0))) rfl rfl rfl (by kernel_rfl) (fun ρ => rowi_at (i := 5) (by rw [hfold_len _ _ rfl]; omega) (by omega) ρ))) ?_
      refine wo_run [6, 7, 8, 9, 10, 11, 12, 13] [2, 3, 20, 21] [2, 20, 23] (l' := [(2, eL 2 0), (3, .s (.a (.ls 23 0 8 c1))), (20, eL 20 0), (21, eI .i64 21)]) (H' := [(2, ⟨[.ints .u8 32 (List.replicate 32 0)], 24⟩), (20, ⟨[.ints .u8 32 ((outF (hsQ L len q) 21).set 21 (IntKind.wrap .u8 (Int.fdiv ((hsQ L len q).getD 5 0) (2 ^ (16 : Nat)))))], 24⟩), (23, ⟨[.vals (iV .u32 (hsQ L len q) ++ r1)], 79⟩)]) (by kernel_rfl) ?_
      refine wo_nil ?_
      refine we_block ?_
      refine we_then ?_
      refine wc_reg [0, 1, 2] (by kernel_rfl) ?_
      refine wo_run [0, 1, 2] [2, 3, 20, 21] [2, 20, 23] (l' := [(2, eL 2 0), (3, .s (.a (.ls 23 0 8 c1))), (20, eL 20 0), (21, eI .i64 22)]) (H' := [(2, ⟨[.ints .u8 32 (List.replicate 32 0)], 24⟩), (20, ⟨[.ints .u8 32 ((outF (hsQ L len q) 21).set 21 (IntKind.wrap .u8 (Int.fdiv ((hsQ L len q).getD 5 0) (2 ^ (16 : Nat)))))], 24⟩), (23, ⟨[.vals (iV .u32 (hsQ L len q) ++ r1)], 79⟩)]) (by kernel_rfl) ?_
      refine wo_nil ?_
      refine we_rest [2, 3, 20, 21] [2, 20, 23] (l' := [(2, eL 2 0), (3, .s (.a (.ls 23 0 8 c1))), (20, eL 20 0), (21, eI .i64 22)]) (H' := [(2, ⟨[.ints .u8 32 (List.replicate 32 0)], 24⟩), (20, ⟨[.ints .u8 32 (outF (hsQ L len q) 22)], 24⟩), (23, ⟨[.vals (iV .u32 (hsQ L len q) ++ r1)], 79⟩)]) (by kernel_rfl) (by kernel_rfl) ?_
      refine we_unr ?_
      refine wr_go ?_
      refine wc_seq ?_
      refine wc_seq ?_
      refine wc_reg [0, 1] (by kernel_rfl) ?_
      refine wo_run [0, 1] [2, 3, 20, 21, 288] [2, 20, 23] (l' := [(2, eL 2 0), (3, .s (.a (.ls 23 0 8 c1))), (20, eL 20 0), (21, eI .i64 22), (288, eB true)]) (H' := [(2, ⟨[.ints .u8 32 (List.replicate 32 0)], 24⟩), (20, ⟨[.ints .u8 32 (outF (hsQ L len q) 22)], 24⟩), (23, ⟨[.vals (iV .u32 (hsQ L len q) ++ r1)], 79⟩)]) (by kernel_rfl) ?_
      refine wo_nil ?_
      refine we_then ?_
      refine wc_true rfl ?_
      refine wc_skip ?_
      refine we_then ?_
      refine wc_seq ?_
      refine wc_block ?_
      refine wc_reg [0, 1, 2, 3, 4, 5, 6, 7, 8, 9, 10, 11, 12, 13] (by kernel_rfl) ?_
      refine wo_run [0, 1, 2, 3] [2, 3, 20, 21, 291, 292, 294] [2, 20, 23] (l' := [(2, eL 2 0), (3, .s (.a (.ls 23 0 8 c1))), (20, eL 20 0), (21, eI .i64 22), (291, eI .i64 22), (292, .s (.a (.ls 23 0 8 c1))), (294, eI .i64 5)]) (H' := [(2, ⟨[.ints .u8 32 (List.replicate 32 0)], 24⟩), (20, ⟨[.ints .u8 32 (outF (hsQ L len q) 22)], 24⟩), (23, ⟨[.vals (iV .u32 (hsQ L len q) ++ r1)], 79⟩)]) (by kernel_rfl) ?_
      refine wo_op rfl rfl (ot_rd rfl (rd_indexL (e := 79) 1 5 5 rfl (by kernel_rfl) (by kernel_rfl) rfl rfl (rfl) (by decide))) ?_
      refine wo_op rfl rfl (ot_rd rfl (rd_cellS (b := ⟨[.vals (iV .u32 (hsQ L len q) ++ r1)], 79⟩) (.v (.int .u32 ((hsQ L len q).getD 5 0))) rfl rfl rfl (by kernel_rfl) (fun ρ => rowi_at (i := 5) (by rw [hfold_len _ _ rfl]; omega) (by omega) ρ))) ?_
      refine wo_run [6, 7, 8, 9, 10, 11, 12, 13] [2, 3, 20, 21] [2, 20, 23] (l' := [(2, eL 2 0), (3, .s (.a (.ls 23 0 8 c1))), (20, eL 20 0), (21, eI .i64 22)]) (H' := [(2, ⟨[.ints .u8 32 (List.replicate 32 0)], 24⟩), (20, ⟨[.ints .u8 32 ((outF (hsQ L len q) 22).set 22 (IntKind.wrap .u8 (Int.fdiv ((hsQ L len q).getD 5 0) (2 ^ (8 : Nat)))))], 24⟩), (23, ⟨[.vals (iV .u32 (hsQ L len q) ++ r1)], 79⟩)]) (by kernel_rfl) ?_
      refine wo_nil ?_
      refine we_block ?_
      refine we_then ?_
      refine wc_reg [0, 1, 2] (by kernel_rfl) ?_
      refine wo_run [0, 1, 2] [2, 3, 20, 21] [2, 20, 23] (l' := [(2, eL 2 0), (3, .s (.a (.ls 23 0 8 c1))), (20, eL 20 0), (21, eI .i64 23)]) (H' := [(2, ⟨[.ints .u8 32 (List.replicate 32 0)], 24⟩), (20, ⟨[.ints .u8 32 ((outF (hsQ L len q) 22).set 22 (IntKind.wrap .u8 (Int.fdiv ((hsQ L len q).getD 5 0) (2 ^ (8 : Nat)))))], 24⟩), (23, ⟨[.vals (iV .u32 (hsQ L len q) ++ r1)], 79⟩)]) (by kernel_rfl) ?_
      refine wo_nil ?_
      refine we_rest [2, 3, 20, 21] [2, 20, 23] (l' := [(2, eL 2 0), (3, .s (.a (.ls 23 0 8 c1))), (20, eL 20 0), (21, eI .i64 23)]) (H' := [(2, ⟨[.ints .u8 32 (List.replicate 32 0)], 24⟩), (20, ⟨[.ints .u8 32 (outF (hsQ L len q) 23)], 24⟩), (23, ⟨[.vals (iV .u32 (hsQ L len q) ++ r1)], 79⟩)]) (by kernel_rfl) (by kernel_rfl) ?_
      refine we_unr ?_
      refine wr_go ?_
      refine wc_seq ?_
      refine wc_seq ?_
      refine wc_reg [0, 1] (by kernel_rfl) ?_
      refine wo_run [0, 1] [2, 3, 20, 21, 288] [2, 20, 23] (l' := [(2, eL 2 0), (3, .s (.a (.ls 23 0 8 c1))), (20, eL 20 0), (21, eI .i64 23), (288, eB true)]) (H' := [(2, ⟨[.ints .u8 32 (List.replicate 32 0)], 24⟩), (20, ⟨[.ints .u8 32 (outF (hsQ L len q) 23)], 24⟩), (23, ⟨[.vals (iV .u32 (hsQ L len q) ++ r1)], 79⟩)]) (by kernel_rfl) ?_
      refine wo_nil ?_
      refine we_then ?_
      refine wc_true rfl ?_
      refine wc_skip ?_
      refine we_then ?_
      refine wc_seq ?_
      refine wc_block ?_
      refine wc_reg [0, 1, 2, 3, 4, 5, 6, 7, 8, 9, 10, 11, 12, 13] (by kernel_rfl) ?_
      refine wo_run [0, 1, 2, 3] [2, 3, 20, 21, 291, 292, 294] [2, 20, 23] (l' := [(2, eL 2 0), (3, .s (.a (.ls 23 0 8 c1))), (20, eL 20 0), (21, eI .i64 23), (291, eI .i64 23), (292, .s (.a (.ls 23 0 8 c1))), (294, eI .i64 5)]) (H' := [(2, ⟨[.ints .u8 32 (List.replicate 32 0)], 24⟩), (20, ⟨[.ints .u8 32 (outF (hsQ L len q) 23)], 24⟩), (23, ⟨[.vals (iV .u32 (hsQ L len q) ++ r1)], 79⟩)]) (by kernel_rfl) ?_
      refine wo_op rfl rfl (ot_rd rfl (rd_indexL (e := 79) 1 5 5 rfl (by kernel_rfl) (by kernel_rfl) rfl rfl (rfl) (by decide))) ?_
      refine wo_op rfl rfl (ot_rd rfl (rd_cellS (b := ⟨[.vals (iV .u32 (hsQ L len q) ++ r1)], 79⟩) (.v (.int .u32 ((hsQ L len q).getD 5 0))) rfl rfl rfl (by kernel_rfl) (fun ρ => rowi_at (i := 5) (by rw [hfold_len _ _ rfl]; omega) (by omega) ρ))) ?_
      refine wo_run [6, 7, 8, 9, 10, 11, 12, 13] [2, 3, 20, 21] [2, 20, 23] (l' := [(2, eL 2 0), (3, .s (.a (.ls 23 0 8 c1))), (20, eL 20 0), (21, eI .i64 23)]) (H' := [(2, ⟨[.ints .u8 32 (List.replicate 32 0)], 24⟩), (20, ⟨[.ints .u8 32 ((outF (hsQ L len q) 23).set 23 (IntKind.wrap .u8 (Int.fdiv ((hsQ L len q).getD 5 0) (2 ^ (0 : Nat)))))], 24⟩), (23, ⟨[.vals (iV .u32 (hsQ L len q) ++ r1)], 79⟩)]) (by kernel_rfl) ?_
      refine wo_nil ?_
      refine we_block ?_
      refine we_then ?_
      refine wc_reg [0, 1, 2] (by kernel_rfl) ?_
      refine wo_run [0, 1, 2] [2, 3, 20, 21] [2, 20, 23] (l' := [(2, eL 2 0), (3, .s (.a (.ls 23 0 8 c1))), (20, eL 20 0), (21, eI .i64 24)]) (H' := [(2, ⟨[.ints .u8 32 (List.replicate 32 0)], 24⟩), (20, ⟨[.ints .u8 32 ((outF (hsQ L len q) 23).set 23 (IntKind.wrap .u8 (Int.fdiv ((hsQ L len q).getD 5 0) (2 ^ (0 : Nat)))))], 24⟩), (23, ⟨[.vals (iV .u32 (hsQ L len q) ++ r1)], 79⟩)]) (by kernel_rfl) ?_
      refine wo_nil ?_
      refine we_rest [2, 3, 20, 21] [2, 20, 23] (l' := [(2, eL 2 0), (3, .s (.a (.ls 23 0 8 c1))), (20, eL 20 0), (21, eI .i64 24)]) (H' := [(2, ⟨[.ints .u8 32 (List.replicate 32 0)], 24⟩), (20, ⟨[.ints .u8 32 (outF (hsQ L len q) 24)], 24⟩), (23, ⟨[.vals (iV .u32 (hsQ L len q) ++ r1)], 79⟩)]) (by kernel_rfl) (by kernel_rfl) ?_
      refine we_unr ?_
      refine wr_go ?_
      refine wc_seq ?_
      refine wc_seq ?_
      refine wc_reg [0, 1] (by kernel_rfl) ?_
      refine wo_run [0, 1] [2, 3, 20, 21, 288] [2, 20, 23] (l' := [(2, eL 2 0), (3, .s (.a (.ls 23 0 8 c1))), (20, eL 20 0), (21, eI .i64 24), (288, eB true)]) (H' := [(2, ⟨[.ints .u8 32 (List.replicate 32 0)], 24⟩), (20, ⟨[.ints .u8 32 (outF (hsQ L len q) 24)], 24⟩), (23, ⟨[.vals (iV .u32 (hsQ L len q) ++ r1)], 79⟩)]) (by kernel_rfl) ?_
      refine wo_nil ?_
      refine we_then ?_
      refine wc_true rfl ?_
      refine wc_skip ?_
      refine we_then ?_
      refine wc_seq ?_
      refine wc_block ?_
      refine wc_reg [0, 1, 2, 3, 4, 5, 6, 7, 8, 9, 10, 11, 12, 13] (by kernel_rfl) ?_
      refine wo_run [0, 1, 2, 3] [2, 3, 20, 21, 291, 292, 294] [2, 20, 23] (l' := [(2, eL 2 0), (3, .s (.a (.ls 23 0 8 c1))), (20, eL 20 0), (21, eI .i64 24), (291, eI .i64 24), (292, .s (.a (.ls 23 0 8 c1))), (294, eI .i64 6)]) (H' := [(2, ⟨[.ints .u8 32 (List.replicate 32 0)], 24⟩), (20, ⟨[.ints .u8 32 (outF (hsQ L len q) 24)], 24⟩), (23, ⟨[.vals (iV .u32 (hsQ L len q) ++ r1)], 79⟩)]) (by kernel_rfl) ?_
      refine wo_op rfl rfl (ot_rd rfl (rd_indexL (e := 79) 1 6 6 rfl (by kernel_rfl) (by kernel_rfl) rfl rfl (rfl) (by decide))) ?_
      refine wo_op rfl rfl (ot_rd rfl (rd_cellS (b := ⟨[.vals (iV .u32 (hsQ L len q) ++ r1)], 79⟩) (.v (.int .u32 ((hsQ L len q).getD 6 0))) rfl rfl rfl (by kernel_rfl) (fun ρ => rowi_at (i := 6) (by rw [hfold_len _ _ rfl]; omega) (by omega) ρ))) ?_
      refine wo_run [6, 7, 8, 9, 10, 11, 12, 13] [2, 3, 20, 21] [2, 20, 23] (l' := [(2, eL 2 0), (3, .s (.a (.ls 23 0 8 c1))), (20, eL 20 0), (21, eI .i64 24)]) (H' := [(2, ⟨[.ints .u8 32 (List.replicate 32 0)], 24⟩), (20, ⟨[.ints .u8 32 ((outF (hsQ L len q) 24).set 24 (IntKind.wrap .u8 (Int.fdiv ((hsQ L len q).getD 6 0) (2 ^ (24 : Nat)))))], 24⟩), (23, ⟨[.vals (iV .u32 (hsQ L len q) ++ r1)], 79⟩)]) (by kernel_rfl) ?_
      refine wo_nil ?_
      refine we_block ?_
      refine we_then ?_
      refine wc_reg [0, 1, 2] (by kernel_rfl) ?_
      refine wo_run [0, 1, 2] [2, 3, 20, 21] [2, 20, 23] (l' := [(2, eL 2 0), (3, .s (.a (.ls 23 0 8 c1))), (20, eL 20 0), (21, eI .i64 25)]) (H' := [(2, ⟨[.ints .u8 32 (List.replicate 32 0)], 24⟩), (20, ⟨[.ints .u8 32 ((outF (hsQ L len q) 24).set 24 (IntKind.wrap .u8 (Int.fdiv ((hsQ L len q).getD 6 0) (2 ^ (24 : Nat)))))], 24⟩), (23, ⟨[.vals (iV .u32 (hsQ L len q) ++ r1)], 79⟩)]) (by kernel_rfl) ?_
      refine wo_nil ?_
      refine we_rest [2, 3, 20, 21] [2, 20, 23] (l' := [(2, eL 2 0), (3, .s (.a (.ls 23 0 8 c1))), (20, eL 20 0), (21, eI .i64 25)]) (H' := [(2, ⟨[.ints .u8 32 (List.replicate 32 0)], 24⟩), (20, ⟨[.ints .u8 32 (outF (hsQ L len q) 25)], 24⟩), (23, ⟨[.vals (iV .u32 (hsQ L len q) ++ r1)], 79⟩)]) (by kernel_rfl) (by kernel_rfl) ?_
      refine we_unr ?_
      refine wr_go ?_
      refine wc_seq ?_
      refine wc_seq ?_
      refine wc_reg [0, 1] (by kernel_rfl) ?_
      refine wo_run [0, 1] [2, 3, 20, 21, 288] [2, 20, 23] (l' := [(2, eL 2 0), (3, .s (.a (.ls 23 0 8 c1))), (20, eL 20 0), (21, eI .i64 25), (288, eB true)]) (H' := [(2, ⟨[.ints .u8 32 (List.replicate 32 0)], 24⟩), (20, ⟨[.ints .u8 32 (outF (hsQ L len q) 25)], 24⟩), (23, ⟨[.vals (iV .u32 (hsQ L len q) ++ r1)], 79⟩)]) (by kernel_rfl) ?_
      refine wo_nil ?_
      refine we_then ?_
      refine wc_true rfl ?_
      refine wc_skip ?_
      refine we_then ?_
      refine wc_seq ?_
      refine wc_block ?_
      refine wc_reg [0, 1, 2, 3, 4, 5, 6, 7, 8, 9, 10, 11, 12, 13] (by kernel_rfl) ?_
      refine wo_run [0, 1, 2, 3] [2, 3, 20, 21, 291, 292, 294] [2, 20, 23] (l' := [(2, eL 2 0), (3, .s (.a (.ls 23 0 8 c1))), (20, eL 20 0), (21, eI .i64 25), (291, eI .i64 25), (292, .s (.a (.ls 23 0 8 c1))), (294, eI .i64 6)]) (H' := [(2, ⟨[.ints .u8 32 (List.replicate 32 0)], 24⟩), (20, ⟨[.ints .u8 32 (outF (hsQ L len q) 25)], 24⟩), (23, ⟨[.vals (iV .u32 (hsQ L len q) ++ r1)], 79⟩)]) (by kernel_rfl) ?_
      refine wo_op rfl rfl (ot_rd rfl (rd_indexL (e := 79) 1 6 6 rfl (by kernel_rfl) (by kernel_rfl) rfl rfl (rfl) (by decide))) ?_
      refine wo_op rfl rfl (ot_rd rfl (rd_cellS (b := ⟨[.vals (iV .u32 (hsQ L len q) ++ r1)], 79⟩) (.v (.int .u32 ((hsQ L len q).getD 6 0))) rfl rfl rfl (by kernel_rfl) (fun ρ => rowi_at (i := 6) (by rw [hfold_len _ _ rfl]; omega) (by omega) ρ))) ?_
      refine wo_run [6, 7, 8, 9, 10, 11, 12, 13] [2, 3, 20, 21] [2, 20, 23] (l' := [(2, eL 2 0), (3, .s (.a (.ls 23 0 8 c1))), (20, eL 20 0), (21, eI .i64 25)]) (H' := [(2, ⟨[.ints .u8 32 (List.replicate 32 0)], 24⟩), (20, ⟨[.ints .u8 32 ((outF (hsQ L len q) 25).set 25 (IntKind.wrap .u8 (Int.fdiv ((hsQ L len q).getD 6 0) (2 ^ (16 : Nat)))))], 24⟩), (23, ⟨[.vals (iV .u32 (hsQ L len q) ++ r1)], 79⟩)]) (by kernel_rfl) ?_
      refine wo_nil ?_
      refine we_block ?_
      refine we_then ?_
      refine wc_reg [0, 1, 2] (by kernel_rfl) ?_
      refine wo_run [0, 1, 2] [2, 3, 20, 21] [2, 20, 23] (l' := [(2, eL 2 0), (3, .s (.a (.ls 23 0 8 c1))), (20, eL 20 0), (21, eI .i64 26)]) (H' := [(2, ⟨[.ints .u8 32 (List.replicate 32 0)], 24⟩), (20, ⟨[.ints .u8 32 ((outF (hsQ L len q) 25).set 25 (IntKind.wrap .u8 (Int.fdiv ((hsQ L len q).getD 6 0) (2 ^ (16 : Nat)))))], 24⟩), (23, ⟨[.vals (iV .u32 (hsQ L len q) ++ r1)], 79⟩)]) (by kernel_rfl) ?_
      refine wo_nil ?_
      refine we_rest [2, 3, 20, 21] [2, 20, 23] (l' := [(2, eL 2 0), (3, .s (.a (.ls 23 0 8 c1))), (20, eL 20 0), (21, eI .i64 26)]) (H' := [(2, ⟨[.ints .u8 32 (List.replicate 32 0)], 24⟩), (20, ⟨[.ints .u8 32 (outF (hsQ L len q) 26)], 24⟩), (23, ⟨[.vals (iV .u32 (hsQ L len q) ++ r1)], 79⟩)]) (by kernel_rfl) (by kernel_rfl) ?_
      refine we_unr ?_
      refine wr_go ?_
      refine wc_seq ?_
      refine wc_seq ?_
      refine wc_reg [0, 1] (by kernel_rfl) ?_
      refine wo_run [0, 1] [2, 3, 20, 21, 288] [2, 20, 23] (l' := [(2, eL 2 0), (3, .s (.a (.ls 23 0 8 c1))), (20, eL 20 0), (21, eI .i64 26), (288, eB true)]) (H' := [(2, ⟨[.ints .u8 32 (List.replicate 32 0)], 24⟩), (20, ⟨[.ints .u8 32 (outF (hsQ L len q) 26)], 24⟩), (23, ⟨[.vals (iV .u32 (hsQ L len q) ++ r1)], 79⟩)]) (by kernel_rfl) ?_
      refine wo_nil ?_
      refine we_then ?_
      refine wc_true rfl ?_
      refine wc_skip ?_
      refine we_then ?_
      refine wc_seq ?_
      refine wc_block ?_
      refine wc_reg [0, 1, 2, 3, 4, 5, 6, 7, 8, 9, 10, 11, 12, 13] (by kernel_rfl) ?_
      refine wo_run [0, 1, 2, 3] [2, 3, 20, 21, 291, 292, 294] [2, 20, 23] (l' := [(2, eL 2 0), (3, .s (.a (.ls 23 0 8 c1))), (20, eL 20 0), (21, eI .i64 26), (291, eI .i64 26), (292, .s (.a (.ls 23 0 8 c1))), (294, eI .i64 6)]) (H' := [(2, ⟨[.ints .u8 32 (List.replicate 32 0)], 24⟩), (20, ⟨[.ints .u8 32 (outF (hsQ L len q) 26)], 24⟩), (23, ⟨[.vals (iV .u32 (hsQ L len q) ++ r1)], 79⟩)]) (by kernel_rfl) ?_
      refine wo_op rfl rfl (ot_rd rfl (rd_indexL (e := 79) 1 6 6 rfl (by kernel_rfl) (by kernel_rfl) rfl rfl (rfl) (by decide))) ?_
      refine wo_op rfl rfl (ot_rd rfl (rd_cellS (b := ⟨[.vals (iV .u32 (hsQ L len q) ++ r1)], 79⟩) (.v (.int .u32 ((hsQ L len q).getD 6 0))) rfl rfl rfl (by kernel_rfl) (fun ρ => rowi_at (i := 6) (by rw [hfold_len _ _ rfl]; omega) (by omega) ρ))) ?_
      refine wo_run [6, 7, 8, 9, 10, 11, 12, 13] [2, 3, 20, 21] [2, 20, 23] (l' := [(2, eL 2 0), (3, .s (.a (.ls 23 0 8 c1))), (20, eL 20 0), (21, eI .i64 26)]) (H' := [(2, ⟨[.ints .u8 32 (List.replicate 32 0)], 24⟩), (20, ⟨[.ints .u8 32 ((outF (hsQ L len q) 26).set 26 (IntKind.wrap .u8 (Int.fdiv ((hsQ L len q).getD 6 0) (2 ^ (8 : Nat)))))], 24⟩), (23, ⟨[.vals (iV .u32 (hsQ L len q) ++ r1)], 79⟩)]) (by kernel_rfl) ?_
      refine wo_nil ?_
      refine we_block ?_
      refine we_then ?_
      refine wc_reg [0, 1, 2] (by kernel_rfl) ?_
      refine wo_run [0, 1, 2] [2, 3, 20, 21] [2, 20, 23] (l' := [(2, eL 2 0), (3, .s (.a (.ls 23 0 8 c1))), (20, eL 20 0), (21, eI .i64 27)]) (H' := [(2, ⟨[.ints .u8 32 (List.replicate 32 0)], 24⟩), (20, ⟨[.ints .u8 32 ((outF (hsQ L len q) 26).set 26 (IntKind.wrap .u8 (Int.fdiv ((hsQ L len q).getD 6 0) (2 ^ (8 : Nat)))))], 24⟩), (23, ⟨[.vals (iV .u32 (hsQ L len q) ++ r1)], 79⟩)]) (by kernel_rfl) ?_
      refine wo_nil ?_
      refine we_rest [2, 3, 20, 21] [2, 20, 23] (l' := [(2, eL 2 0), (3, .s (.a (.ls 23 0 8 c1))), (20, eL 20 0), (21, eI .i64 27)]) (H' := [(2, ⟨[.ints .u8 32 (List.replicate 32 0)], 24⟩), (20, ⟨[.ints .u8 32 (outF (hsQ L len q) 27)], 24⟩), (23, ⟨[.vals (iV .u32 (hsQ L len q) ++ r1)], 79⟩)]) (by kernel_rfl) (by kernel_rfl) ?_
      refine we_unr ?_
      refine wr_go ?_
      refine wc_seq ?_
      refine wc_seq ?_
      refine wc_reg [0, 1] (by kernel_rfl) ?_
      refine wo_run [0, 1] [2, 3, 20, 21, 288] [2, 20, 23] (l' := [(2, eL 2 0), (3, .s (.a (.ls 23 0 8 c1))), (20, eL 20 0), (21, eI .i64 27), (288, eB true)]) (H' := [(2, ⟨[.ints .u8 32 (List.replicate 32 0)], 24⟩), (20, ⟨[.ints .u8 32 (outF (hsQ L len q) 27)], 24⟩), (23, ⟨[.vals (iV .u32 (hsQ L len q) ++ r1)], 79⟩)]) (by kernel_rfl) ?_
      refine wo_nil ?_
      refine we_then ?_
      refine wc_true rfl ?_
      refine wc_skip ?_
      refine we_then ?_
      refine wc_seq ?_
      refine wc_block ?_
      refine wc_reg [0, 1, 2, 3, 4, 5, 6, 7, 8, 9, 10, 11, 12, 13] (by kernel_rfl) ?_
      refine wo_run [0, 1, 2, 3] [2, 3, 20, 21, 291, 292, 294] [2, 20, 23] (l' := [(2, eL 2 0), (3, .s (.a (.ls 23 0 8 c1))), (20, eL 20 0), (21, eI .i64 27), (291, eI .i64 27), (292, .s (.a (.ls 23 0 8 c1))), (294, eI .i64 6)]) (H' := [(2, ⟨[.ints .u8 32 (List.replicate 32 0)], 24⟩), (20, ⟨[.ints .u8 32 (outF (hsQ L len q) 27)], 24⟩), (23, ⟨[.vals (iV .u32 (hsQ L len q) ++ r1)], 79⟩)]) (by kernel_rfl) ?_
      refine wo_op rfl rfl (ot_rd rfl (rd_indexL (e := 79) 1 6 6 rfl (by kernel_rfl) (by kernel_rfl) rfl rfl (rfl) (by decide))) ?_
      refine wo_op rfl rfl (ot_rd rfl (rd_cellS (b := ⟨[.vals (iV .u32 (hsQ L len q) ++ r1)], 79⟩) (.v (.int .u32 ((hsQ L len q).getD 6 0))) rfl rfl rfl (by kernel_rfl) (fun ρ => rowi_at (i := 6) (by rw [hfold_len _ _ rfl]; omega) (by omega) ρ))) ?_
      refine wo_run [6, 7, 8, 9, 10, 11, 12, 13] [2, 3, 20, 21] [2, 20, 23] (l' := [(2, eL 2 0), (3, .s (.a (.ls 23 0 8 c1))), (20, eL 20 0), (21, eI .i64 27)]) (H' := [(2, ⟨[.ints .u8 32 (List.replicate 32 0)], 24⟩), (20, ⟨[.ints .u8 32 ((outF (hsQ L len q) 27).set 27 (IntKind.wrap .u8 (Int.fdiv ((hsQ L len q).getD 6 0) (2 ^ (0 : Nat)))))], 24⟩), (23, ⟨[.vals (iV .u32 (hsQ L len q) ++ r1)], 79⟩)]) (by kernel_rfl) ?_
      refine wo_nil ?_
      refine we_block ?_
      refine we_then ?_
      refine wc_reg [0, 1, 2] (by kernel_rfl) ?_
      refine wo_run [0, 1, 2] [2, 3, 20, 21] [2, 20, 23] (l' := [(2, eL 2 0), (3, .s (.a (.ls 23 0 8 c1))), (20, eL 20 0), (21, eI .i64 28)]) (H' := [(2, ⟨[.ints .u8 32 (List.replicate 32 0)], 24⟩), (20, ⟨[.ints .u8 32 ((outF (hsQ L len q) 27).set 27 (IntKind.wrap .u8 (Int.fdiv ((hsQ L len q).getD 6 0) (2 ^ (0 : Nat)))))], 24⟩), (23, ⟨[.vals (iV .u32 (hsQ L len q) ++ r1)], 79⟩)]) (by kernel_rfl) ?_
      refine wo_nil ?_
      refine we_rest [2, 3, 20, 21] [2, 20, 23] (l' := [(2, eL 2 0), (3, .s (.a (.ls 23 0 8 c1))), (20, eL 20 0), (21, eI .i64 28)]) (H' := [(2, ⟨[.ints .u8 32 (List.replicate 32 0)], 24⟩), (20, ⟨[.ints .u8 32 (outF (hsQ L len q) 28)], 24⟩), (23, ⟨[.vals (iV .u32 (hsQ L len q) ++ r1)], 79⟩)]) (by kernel_rfl) (by kernel_rfl) ?_
      refine we_unr ?_
      refine wr_go ?_
      refine wc_seq ?_
      refine wc_seq ?_
      refine wc_reg [0, 1] (by kernel_rfl) ?_
      refine wo_run [0, 1] [2, 3, 20, 21, 288] [2, 20, 23] (l' := [(2, eL 2 0), (3, .s (.a (.ls 23 0 8 c1))), (20, eL 20 0), (21, eI .i64 28), (288, eB true)]) (H' := [(2, ⟨[.ints .u8 32 (List.replicate 32 0)], 24⟩), (20, ⟨[.ints .u8 32 (outF (hsQ L len q) 28)], 24⟩), (23, ⟨[.vals (iV .u32 (hsQ L len q) ++ r1)], 79⟩)]) (by kernel_rfl) ?_
      refine wo_nil ?_
      refine we_then ?_
      refine wc_true rfl ?_
      refine wc_skip ?_
      refine we_then ?_
      refine wc_seq ?_
      refine wc_block ?_
      refine wc_reg [0, 1, 2, 3, 4, 5, 6, 7, 8, 9, 10, 11, 12, 13] (by kernel_rfl) ?_
      refine wo_run [0, 1, 2, 3] [2, 3, 20, 21, 291, 292, 294] [2, 20, 23] (l' := [(2, eL 2 0), (3, .s (.a (.ls 23 0 8 c1))), (20, eL 20 0), (21, eI .i64 28), (291, eI .i64 28), (292, .s (.a (.ls 23 0 8 c1))), (294, eI .i64 7)]) (H' := [(2, ⟨[.ints .u8 32 (List.replicate 32 0)], 24⟩), (20, ⟨[.ints .u8 32 (outF (hsQ L len q) 28)], 24⟩), (23, ⟨[.vals (iV .u32 (hsQ L len q) ++ r1)], 79⟩)]) (by kernel_rfl) ?_
      refine wo_op rfl rfl (ot_rd rfl (rd_indexL (e := 79) 1 7 7 rfl (by kernel_rfl) (by kernel_rfl) rfl rfl (rfl) (by decide))) ?_
      refine wo_op rfl rfl (ot_rd rfl (rd_cellS (b := ⟨[.vals (iV .u32 (hsQ L len q) ++ r1)], 79⟩) (.v (.int .u32 ((hsQ L len q).getD 7 0))) rfl rfl rfl (by kernel_rfl) (fun ρ => rowi_at (i := 7) (by rw [hfold_len _ _ rfl]; omega) (by omega) ρ))) ?_
      refine wo_run [6, 7, 8, 9, 10, 11, 12, 13] [2, 3, 20, 21] [2, 20, 23] (l' := [(2, eL 2 0), (3, .s (.a (.ls 23 0 8 c1))), (20, eL 20 0), (21, eI .i64 28)]) (H' := [(2, ⟨[.ints .u8 32 (List.replicate 32 0)], 24⟩), (20, ⟨[.ints .u8 32 ((outF (hsQ L len q) 28).set 28 (IntKind.wrap .u8 (Int.fdiv ((hsQ L len q).getD 7 0) (2 ^ (24 : Nat)))))], 24⟩), (23, ⟨[.vals (iV .u32 (hsQ L len q) ++ r1)], 79⟩)]) (by kernel_rfl) ?_
      refine wo_nil ?_
      refine we_block ?_
      refine we_then ?_
      refine wc_reg [0, 1, 2] (by kernel_rfl) ?_
      refine wo_run [0, 1, 2] [2, 3, 20, 21] [2, 20, 23] (l' := [(2, eL 2 0), (3, .s (.a (.ls 23 0 8 c1))), (20, eL 20 0), (21, eI .i64 29)]) (H' := [(2, ⟨[.ints .u8 32 (List.replicate 32 0)], 24⟩), (20, ⟨[.ints .u8 32 ((outF (hsQ L len q) 28).set 28 (IntKind.wrap .u8 (Int.fdiv ((hsQ L len q).getD 7 0) (2 ^ (24 : Nat)))))], 24⟩), (23, ⟨[.vals (iV .u32 (hsQ L len q) ++ r1)], 79⟩)]) (by kernel_rfl) ?_
      refine wo_nil ?_
      refine we_rest [2, 3, 20, 21] [2, 20, 23] (l' := [(2, eL 2 0), (3, .s (.a (.ls 23 0 8 c1))), (20, eL 20 0), (21, eI .i64 29)]) (H' := [(2, ⟨[.ints .u8 32 (List.replicate 32 0)], 24⟩), (20, ⟨[.ints .u8 32 (outF (hsQ L len q) 29)], 24⟩), (23, ⟨[.vals (iV .u32 (hsQ L len q) ++ r1)], 79⟩)]) (by kernel_rfl) (by kernel_rfl) ?_
      refine we_unr ?_
      refine wr_go ?_
      refine wc_seq ?_
      refine wc_seq ?_
      refine wc_reg [0, 1] (by kernel_rfl) ?_
      refine wo_run [0, 1] [2, 3, 20, 21, 288] [2, 20, 23] (l' := [(2, eL 2 0), (3, .s (.a (.ls 23 0 8 c1))), (20, eL 20 0), (21, eI .i64 29), (288, eB true)]) (H' := [(2, ⟨[.ints .u8 32 (List.replicate 32 0)], 24⟩), (20, ⟨[.ints .u8 32 (outF (hsQ L len q) 29)], 24⟩), (23, ⟨[.vals (iV .u32 (hsQ L len q) ++ r1)], 79⟩)]) (by kernel_rfl) ?_
      refine wo_nil ?_
      refine we_then ?_
      refine wc_true rfl ?_
      refine wc_skip ?_
      refine we_then ?_
      refine wc_seq ?_
      refine wc_block ?_
      refine wc_reg [0, 1, 2, 3, 4, 5, 6, 7, 8, 9, 10, 11, 12, 13] (by kernel_rfl) ?_
      refine wo_run [0, 1, 2, 3] [2, 3, 20, 21, 291, 292, 294] [2, 20, 23] (l' := [(2, eL 2 0), (3, .s (.a (.ls 23 0 8 c1))), (20, eL 20 0), (21, eI .i64 29), (291, eI .i64 29), (292, .s (.a (.ls 23 0 8 c1))), (294, eI .i64 7)]) (H' := [(2, ⟨[.ints .u8 32 (List.replicate 32 0)], 24⟩), (20, ⟨[.ints .u8 32 (outF (hsQ L len q) 29)], 24⟩), (23, ⟨[.vals (iV .u32 (hsQ L len q) ++ r1)], 79⟩)]) (by kernel_rfl) ?_
      refine wo_op rfl rfl (ot_rd rfl (rd_indexL (e := 79) 1 7 7 rfl (by kernel_rfl) (by kernel_rfl) rfl rfl (rfl) (by decide))) ?_
      refine wo_op rfl rfl (ot_rd rfl (rd_cellS (b := ⟨[.vals (iV .u32 (hsQ L len q) ++ r1)], 79⟩) (.v (.int .u32 ((hsQ L len q).getD 7 0))) rfl rfl rfl (by kernel_rfl) (fun ρ => rowi_at (i := 7) (by rw [hfold_len _ _ rfl]; omega) (by omega) ρ))) ?_
      refine wo_run [6, 7, 8, 9, 10, 11, 12, 13] [2, 3, 20, 21] [2, 20, 23] (l' := [(2, eL 2 0), (3, .s (.a (.ls 23 0 8 c1))), (20, eL 20 0), (21, eI .i64 29)]) (H' := [(2, ⟨[.ints .u8 32 (List.replicate 32 0)], 24⟩), (20, ⟨[.ints .u8 32 ((outF (hsQ L len q) 29).set 29 (IntKind.wrap .u8 (Int.fdiv ((hsQ L len q).getD 7 0) (2 ^ (16 : Nat)))))], 24⟩), (23, ⟨[.vals (iV .u32 (hsQ L len q) ++ r1)], 79⟩)]) (by kernel_rfl) ?_
      refine wo_nil ?_
      refine we_block ?_
      refine we_then ?_
      refine wc_reg [0, 1, 2] (by kernel_rfl) ?_
      refine wo_run [0, 1, 2] [2, 3, 20, 21] [2, 20, 23] (l' := [(2, eL 2 0), (3, .s (.a (.ls 23 0 8 c1))), (20, eL 20 0), (21, eI .i64 30)]) (H' := [(2, ⟨[.ints .u8 32 (List.replicate 32 0)], 24⟩), (20, ⟨[.ints .u8 32 ((outF (hsQ L len q) 29).set 29 (IntKind.wrap .u8 (Int.fdiv ((hsQ L len q).getD 7 0) (2 ^ (16 : Nat)))))], 24⟩), (23, ⟨[.vals (iV .u32 (hsQ L len q) ++ r1)], 79⟩)]) (by kernel_rfl) ?_
      refine wo_nil ?_
      refine we_rest [2, 3, 20, 21] [2, 20, 23] (l' := [(2, eL 2 0), (3, .s (.a (.ls 23 0 8 c1))), (20, eL 20 0), (21, eI .i64 30)]) (H' := [(2, ⟨[.ints .u8 32 (List.replicate 32 0)], 24⟩), (20, ⟨[.ints .u8 32 (outF (hsQ L len q) 30)], 24⟩), (23, ⟨[.vals (iV .u32 (hsQ L len q) ++ r1)], 79⟩)]) (by kernel_rfl) (by kernel_rfl) ?_
      refine we_unr ?_
      refine wr_go ?_
      refine wc_seq ?_
      refine wc_seq ?_
      refine wc_reg [0, 1] (by kernel_rfl) ?_
      refine wo_run [0, 1] [2, 3, 20, 21, 288] [2, 20, 23] (l' := [(2, eL 2 0), (3, .s (.a (.ls 23 0 8 c1))), (20, eL 20 0), (21, eI .i64 30), (288, eB true)]) (H' := [(2, ⟨[.ints .u8 32 (List.replicate 32 0)], 24⟩), (20, ⟨[.ints .u8 32 (outF (hsQ L len q) 30)], 24⟩), (23, ⟨[.vals (iV .u32 (hsQ L len q) ++ r1)], 79⟩)]) (by kernel_rfl) ?_
      refine wo_nil ?_
      refine we_then ?_
      refine wc_true rfl ?_
      refine wc_skip ?_
      refine we_then ?_
      refine wc_seq ?_
      refine wc_block ?_
      refine wc_reg [0, 1, 2, 3, 4, 5, 6, 7, 8, 9, 10, 11, 12, 13] (by kernel_rfl) ?_
      refine wo_run [0, 1, 2, 3] [2, 3, 20, 21, 291, 292, 294] [2, 20, 23] (l' := [(2, eL 2 0), (3, .s (.a (.ls 23 0 8 c1))), (20, eL 20 0), (21, eI .i64 30), (291, eI .i64 30), (292, .s (.a (.ls 23 0 8 c1))), (294, eI .i64 7)]) (H' := [(2, ⟨[.ints .u8 32 (List.replicate 32 0)], 24⟩), (20, ⟨[.ints .u8 32 (outF (hsQ L len q) 30)], 24⟩), (23, ⟨[.vals (iV .u32 (hsQ L len q) ++ r1)], 79⟩)]) (by kernel_rfl) ?_
      refine wo_op rfl rfl (ot_rd rfl (rd_indexL (e := 79) 1 7 7 rfl (by kernel_rfl) (by kernel_rfl) rfl rfl (rfl) (by decide))) ?_
      refine wo_op rfl rfl (ot_rd rfl (rd_cellS (b := ⟨[.vals (iV .u32 (hsQ L len q) ++ r1)], 79⟩) (.v (.int .u32 ((hsQ L len q).getD 7 0))) rfl rfl rfl (by kernel_rfl) (fun ρ => rowi_at (i := 7) (by rw [hfold_len _ _ rfl]; omega) (by omega) ρ))) ?_
      refine wo_run [6, 7, 8, 9, 10, 11, 12, 13] [2, 3, 20, 21] [2, 20, 23] (l' := [(2, eL 2 0), (3, .s (.a (.ls 23 0 8 c1))), (20, eL 20 0), (21, eI .i64 30)]) (H' := [(2, ⟨[.ints .u8 32 (List.replicate 32 0)], 24⟩), (20, ⟨[.ints .u8 32 ((outF (hsQ L len q) 30).set 30 (IntKind.wrap .u8 (Int.fdiv ((hsQ L len q).getD 7 0) (2 ^ (8 : Nat)))))], 24⟩), (23, ⟨[.vals (iV .u32 (hsQ L len q) ++ r1)], 79⟩)]) (by kernel_rfl) ?_
      refine wo_nil ?_
      refine we_block ?_
      refine we_then ?_
      refine wc_reg [0, 1, 2] (by kernel_rfl) ?_
      refine wo_run [0, 1, 2] [2, 3, 20, 21] [2, 20, 23] (l' := [(2, eL 2 0), (3, .s (.a (.ls 23 0 8 c1))), (20, eL 20 0), (21, eI .i64 31)]) (H' := [(2, ⟨[.ints .u8 32 (List.replicate 32 0)], 24⟩), (20, ⟨[.ints .u8 32 ((outF (hsQ L len q) 30).set 30 (IntKind.wrap .u8 (Int.fdiv ((hsQ L len q).getD 7 0) (2 ^ (8 : Nat)))))], 24⟩), (23, ⟨[.vals (iV .u32 (hsQ L len q) ++ r1)], 79⟩)]) (by kernel_rfl) ?_
      refine wo_nil ?_
      refine we_rest [2, 3, 20, 21] [2, 20, 23] (l' := [(2, eL 2 0), (3, .s (.a (.ls 23 0 8 c1))), (20, eL 20 0), (21, eI .i64 31)]) (H' := [(2, ⟨[.ints .u8 32 (List.replicate 32 0)], 24⟩), (20, ⟨[.ints .u8 32 (outF (hsQ L len q) 31)], 24⟩), (23, ⟨[.vals (iV .u32 (hsQ L len q) ++ r1)], 79⟩)]) (by kernel_rfl) (by kernel_rfl) ?_
      refine we_unr ?_
      refine wr_go ?_
      refine wc_seq ?_
      refine wc_seq ?_
      refine wc_reg [0, 1] (by kernel_rfl) ?_
      refine wo_run [0, 1] [2, 3, 20, 21, 288] [2, 20, 23] (l' := [(2, eL 2 0), (3, .s (.a (.ls 23 0 8 c1))), (20, eL 20 0), (21, eI .i64 31), (288, eB true)]) (H' := [(2, ⟨[.ints .u8 32 (List.replicate 32 0)], 24⟩), (20, ⟨[.ints .u8 32 (outF (hsQ L len q) 31)], 24⟩), (23, ⟨[.vals (iV .u32 (hsQ L len q) ++ r1)], 79⟩)]) (by kernel_rfl) ?_
      refine wo_nil ?_
      refine we_then ?_
      refine wc_true rfl ?_
      refine wc_skip ?_
      refine we_then ?_
      refine wc_seq ?_
      refine wc_block ?_
      refine wc_reg [0, 1, 2, 3, 4, 5, 6, 7, 8, 9, 10, 11, 12, 13] (by kernel_rfl) ?_
      refine wo_run [0, 1, 2, 3] [2, 3, 20, 21, 291, 292, 294] [2, 20, 23] (l' := [(2, eL 2 0), (3, .s (.a (.ls 23 0 8 c1))), (20, eL 20 0), (21, eI .i64 31), (291, eI .i64 31), (292, .s (.a (.ls 23 0 8 c1))), (294, eI .i64 7)]) (H' := [(2, ⟨[.ints .u8 32 (List.replicate 32 0)], 24⟩), (20, ⟨[.ints .u8 32 (outF (hsQ L len q) 31)], 24⟩), (23, ⟨[.vals (iV .u32 (hsQ L len q) ++ r1)], 79⟩)]) (by kernel_rfl) ?_
      refine wo_op rfl rfl (ot_rd rfl (rd_indexL (e := 79) 1 7 7 rfl (by kernel_rfl) (by kernel_rfl) rfl rfl (rfl) (by decide))) ?_
      refine wo_op rfl rfl (ot_rd rfl (rd_cellS (b := ⟨[.vals (iV .u32 (hsQ L len q) ++ r1)], 79⟩) (.v (.int .u32 ((hsQ L len q).getD 7 0))) rfl rfl rfl (by kernel_rfl) (fun ρ => rowi_at (i := 7) (by rw [hfold_len _ _ rfl]; omega) (by omega) ρ))) ?_
      refine wo_run [6, 7, 8, 9, 10, 11, 12, 13] [2, 3, 20, 21] [2, 20, 23] (l' := [(2, eL 2 0), (3, .s (.a (.ls 23 0 8 c1))), (20, eL 20 0), (21, eI .i64 31)]) (H' := [(2, ⟨[.ints .u8 32 (List.replicate 32 0)], 24⟩), (20, ⟨[.ints .u8 32 ((outF (hsQ L len q) 31).set 31 (IntKind.wrap .u8 (Int.fdiv ((hsQ L len q).getD 7 0) (2 ^ (0 : Nat)))))], 24⟩), (23, ⟨[.vals (iV .u32 (hsQ L len q) ++ r1)], 79⟩)]) (by kernel_rfl) ?_
      refine wo_nil ?_
      refine we_block ?_
      refine we_then ?_
      refine wc_reg [0, 1, 2] (by kernel_rfl) ?_
      refine wo_run [0, 1, 2] [2, 3, 20, 21] [2, 20, 23] (l' := [(2, eL 2 0), (3, .s (.a (.ls 23 0 8 c1))), (20, eL 20 0), (21, eI .i64 32)]) (H' := [(2, ⟨[.ints .u8 32 (List.replicate 32 0)], 24⟩), (20, ⟨[.ints .u8 32 ((outF (hsQ L len q) 31).set 31 (IntKind.wrap .u8 (Int.fdiv ((hsQ L len q).getD 7 0) (2 ^ (0 : Nat)))))], 24⟩), (23, ⟨[.vals (iV .u32 (hsQ L len q) ++ r1)], 79⟩)]) (by kernel_rfl) ?_
      refine wo_nil ?_
      refine we_rest [2, 3, 20, 21] [2, 20, 23] (l' := [(2, eL 2 0), (3, .s (.a (.ls 23 0 8 c1))), (20, eL 20 0), (21, eI .i64 32)]) (H' := [(2, ⟨[.ints .u8 32 (List.replicate 32 0)], 24⟩), (20, ⟨[.ints .u8 32 (outF (hsQ L len q) 32)], 24⟩), (23, ⟨[.vals (iV .u32 (hsQ L len q) ++ r1)], 79⟩)]) (by kernel_rfl) (by kernel_rfl) ?_
      refine we_unr ?_
      refine wr_go ?_
      refine wc_seq ?_
      refine wc_seq ?_
      refine wc_reg [0, 1] (by kernel_rfl) ?_
      refine wo_run [0, 1] [2, 3, 20, 21, 288] [2, 20, 23] (l' := [(2, eL 2 0), (3, .s (.a (.ls 23 0 8 c1))), (20, eL 20 0), (21, eI .i64 32), (288, eB false)]) (H' := [(2, ⟨[.ints .u8 32 (List.replicate 32 0)], 24⟩), (20, ⟨[.ints .u8 32 (outF (hsQ L len q) 32)], 24⟩), (23, ⟨[.vals (iV .u32 (hsQ L len q) ++ r1)], 79⟩)]) (by kernel_rfl) ?_
      refine wo_nil ?_
      refine we_then ?_
      refine wc_false rfl ?_
      refine wc_exit ?_
      refine we_then_exit ?_
      refine we_then_exit ?_
      refine we_block_exit ?_
      refine we_then ?_
      refine wc_seq ?_
      refine wc_reg [0, 1] (by kernel_rfl) ?_
      refine wo_run [0, 1] [2] [2] (l' := [(2, eL 2 0)]) (H' := [(2, ⟨[.ints .u8 32 (outF (hsQ L len q) 32)], 24⟩)]) (by kernel_rfl) ?_
      refine wo_nil ?_
      refine we_then ?_
      refine wc_ret ?_
      refine we_ret (.inl rfl) (v := eA [.ints .u8 32 (outF (hsQ L len q) 32)]) (by kernel_rfl) ?_
      intro σ w' hf
      have e := sumB_fold (q := q) hL (by omega) (by rw [hLn]; show 64 * q = (aL L len).length; omega)
      rw [hLn] at e
      rw [e, ← outF_dig]
      exact ⟨rfl, hf.below noS⟩

end Go.Proofs.YtjcghjgennddaaaDoor
