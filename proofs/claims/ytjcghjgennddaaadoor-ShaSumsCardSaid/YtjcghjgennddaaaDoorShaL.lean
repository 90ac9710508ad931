/- SHA-256: the walks. -/
import Derived.Test.YtjcghjgennddaaaDoorProg
import Derived.KernelRfl
import Derived.Test.YtjcghjgennddaaaDoorShaK
import Derived.Test.YtjcghjgennddaaaDoorSxFrz
namespace Go.Proofs.YtjcghjgennddaaaDoor
open Go.RowKit Go.Sx
set_option linter.unusedVariables false
set_option linter.unusedSimpArgs false

theorem KAt.ext {C C' : Ctx} (h : CExt C C') (hX : C.X gK) (hK : KAt C.E) : KAt C'.E := by
  refine ⟨fun j v hv => ?_, h.lt hX hK.lt⟩
  have := hK.cells j v hv
  unfold World.cell? at this ⊢
  rw [show C'.E.heap[gK]? = C.E.heap[gK]? from (h.X _ hX).2]
  exact this
theorem okB_dec {L : List Int} (h : (L.all fun x => decide (0 ≤ x ∧ x < 256)) = true) : OkB L := fun x hx => of_decide_eq_true (List.all_eq_true.1 h x hx)
theorem fx1 : (sumB shaK [97, 98, 99]).getD 0 0 = 186 := by decide +kernel
theorem fx2 : (sumB shaK [97, 98, 99]).getD 31 0 = 173 := by decide +kernel
theorem fx3 : (sumB shaK []).getD 0 0 = 227 := by decide +kernel
theorem fx4 : (sumB shaK []).getD 31 0 = 85 := by decide +kernel
theorem fx_split : splitB (joinB [[97], []]) = some [[97], []] := by decide +kernel
theorem fx_none : splitB (List.replicate 9 0) = none := by decide +kernel
theorem fx_str : ((strOfNums ((Option.getD (some [[97], []]) []).getD 0 [])).toList == (ByteArray.mk #[97]).toList) = true := by decide +kernel


set_option maxRecDepth 100000 in
set_option maxHeartbeats 16000000 in
theorem fixed_any (w : World) (ρ : Nat → Nat) (hK : KAt w) :
    Calls Tryd.prog 13 ([].map (SV.conc ρ)).toArray w fun r' w' => r' = .returned (EV.conc ρ (eB true)) ∧ Below w.heap.size w w' := by
  have hKX : gK < w.heap.size ∧ ¬ ∃ k b, getH ([] : Heap) k = some b ∧ ρ k = gK := xI0 _ hK.lt
  refine calls_enter (vs := []) (N := 85) [] ρ Tryd.func13 rfl rfl (Nat.le_of_ble_eq_true rfl) (okv_nil) noH noH2 ?_ _ rfl
  refine wc_seq ?_
  refine wc_reg [0] (by kernel_rfl) ?_
  refine wo_run [0] [] [] (l' := []) (H' := []) (by kernel_rfl) ?_
  refine wo_nil ?_
  refine we_then ?_
  refine wc_seq ?_
  refine wc_reg [0, 1] (by kernel_rfl) ?_
  refine wo_ox rfl rfl (ox_callm (τ := Unit) (φ := fun _ => True) [] [] [] [(3, 8)] [] (fun _ => eL 3 0) (fun _ => [(3, ⟨[.ints .u32 8 hs0.h, .ints .u8 64 hs0.rest, cI .u64 hs0.n], 88⟩)]) rfl (by kernel_rfl) rfl Tryd.func23 (by kernel_rfl) (by kernel_rfl) (by kernel_rfl) (by kernel_rfl) (by kernel_rfl) (by kernel_rfl) (trivial) (fun _ => by kernel_rfl) (fun _ => by kernel_rfl) (fun _ _ => trivial) (fun ρ w h hh => new_any w _ hh)) (fun _ _ _ => ?_)
  refine wo_run [] [8] [8] (l' := [(8, eL 8 0)]) (H' := [(8, ⟨[.ints .u32 8 hs0.h, .ints .u8 64 hs0.rest, cI .u64 hs0.n], 88⟩)]) (by kernel_rfl) ?_
  refine wo_run [1] [1] [8] (l' := [(1, eL 8 0)]) (H' := [(8, ⟨[.ints .u32 8 hs0.h, .ints .u8 64 hs0.rest, cI .u64 hs0.n], 88⟩)]) (by kernel_rfl) ?_
  refine wo_nil ?_
  refine we_then ?_
  refine wc_seq ?_
  refine wc_seq ?_
  refine wc_reg [0, 1] (by kernel_rfl) ?_
  refine wo_run [0] [1, 9] [8] (l' := [(1, eL 8 0), (9, eL 8 0)]) (H' := [(8, ⟨[.ints .u32 8 hs0.h, .ints .u8 64 hs0.rest, cI .u64 hs0.n], 88⟩)]) (by kernel_rfl) ?_
  refine wo_op rfl rfl (ot_rd rfl (rd_nil (e := 88) rfl (by kernel_rfl) rfl rfl false (.inl ⟨rfl, rfl⟩))) ?_
  refine wo_nil ?_
  refine we_then ?_
  refine wc_false rfl ?_
  refine wc_skip ?_
  refine we_then ?_
  refine wc_seq ?_
  refine wc_reg [0, 1, 2, 3] (by kernel_rfl) ?_
  refine wo_run [0] [1, 11] [8] (l' := [(1, eL 8 0), (11, eL 8 0)]) (H' := [(8, ⟨[.ints .u32 8 hs0.h, .ints .u8 64 hs0.rest, cI .u64 hs0.n], 88⟩)]) (by kernel_rfl) ?_
  refine wo_op rfl rfl (ot_bslice (e := 5) (d := 12) (n := 2) (size := 1) [.ints .u8 2 (List.replicate 2 0)] [.ints .u8 2 ([97, 98])] rfl rfl rfl (by kernel_rfl) rfl (by kernel_rfl) (okc_ints (List.length_replicate) (okc_nil)) (fun _ => rfl) (by kernel_rfl) (by kernel_rfl)) ?_
  refine wo_flat 12 [.vals (bV ([97, 98]) ++ [])] rfl (fun ρ => by simp [flat, iV, bV, AV.conc]) (okCs_vals _) ?_
  refine wo_ox rfl rfl (ox_bytesC (e := 5) (b := ⟨[.vals (bV ([97, 98]) ++ [])], 5⟩) (L := ([97, 98])) [8] rfl (by kernel_rfl) (by kernel_rfl) (by kernel_rfl) rfl rfl (rfl) (Nat.le_refl _) (show 2 ≤ maxLen by decide) (fun ρ => fun i x hi => by rw [flat_vals]; exact bV_get hi) rfl) (fun ⟨E1, X1, g1⟩ hx1 hc1 => ?_)
  replace hK := KAt.ext hc1 hKX hK
  replace hKX := (hc1.X _ hKX).1
  refine wo_run [] [1, 11, 13] [8] (l' := [(1, eL 8 0), (11, eL 8 0), (13, eV (.slice (some ⟨g1, 0, none⟩) 2 2))]) (H' := [(8, ⟨[.ints .u32 8 hs0.h, .ints .u8 64 hs0.rest, cI .u64 hs0.n], 88⟩)]) (by kernel_rfl) ?_
  refine wo_ox rfl rfl (ox_callm (τ := Unit) (φ := fun _ => True) [sL 100000 0, sV (.slice (some ⟨g1, 0, none⟩) 2 2)] [(100000, ⟨[.ints .u32 8 hs0.h, .ints .u8 64 hs0.rest, cI .u64 hs0.n], 88⟩)] [(100000, 8)] [] [] (fun _ => .t []) (fun _ => [(100000, ⟨[.ints .u32 8 ((wr shaK hs0 ([97, 98])).h), .ints .u8 64 ((wr shaK hs0 ([97, 98])).rest), cI .u64 (wr shaK hs0 ([97, 98])).n], 88⟩)]) rfl (by kernel_rfl) rfl Tryd.func24 (by kernel_rfl) (by kernel_rfl) (by kernel_rfl) (by kernel_rfl) (by kernel_rfl) (by kernel_rfl) (⟨⟨by kernel_rfl, by kernel_rfl, by kernel_rfl⟩, trivial⟩) (fun _ => by kernel_rfl) (fun _ => by kernel_rfl) (fun _ _ => okv_nil) (fun ρ w h hh => write_any hs0 (hs0_ok) (some ⟨g1, 0, none⟩) 2 2 g1 0 ([97, 98]) (okB_dec (by decide +kernel)) w _ (h.bats hx1 (fun i hi e => h.own 8 _ rfl (by rw [← show i = ρ 8 from e]; exact hi))) hh (hK.at h (hKX) rfl) (fun e => h.own 8 _ rfl (by rw [show ρ 8 = gK from e]; exact hKX)))) (fun _ _ _ => ?_)
  refine wo_run [] [1] [8] (l' := [(1, eL 8 0)]) (H' := [(8, ⟨[.ints .u32 8 ((wr shaK hs0 ([97, 98])).h), .ints .u8 64 ((wr shaK hs0 ([97, 98])).rest), cI .u64 (wr shaK hs0 ([97, 98])).n], 88⟩)]) (by kernel_rfl) ?_
  refine wo_nil ?_
  refine we_then ?_
  refine wc_seq ?_
  refine wc_reg [0, 1, 2, 3] (by kernel_rfl) ?_
  refine wo_run [0] [1, 15] [8] (l' := [(1, eL 8 0), (15, eL 8 0)]) (H' := [(8, ⟨[.ints .u32 8 ((wr shaK hs0 ([97, 98])).h), .ints .u8 64 ((wr shaK hs0 ([97, 98])).rest), cI .u64 (wr shaK hs0 ([97, 98])).n], 88⟩)]) (by kernel_rfl) ?_
  refine wo_op rfl rfl (ot_bslice (e := 5) (d := 16) (n := 1) (size := 1) [.ints .u8 1 (List.replicate 1 0)] [cI .u8 99] rfl rfl rfl (by kernel_rfl) rfl (by kernel_rfl) (okc_ints (List.length_replicate) (okc_nil)) (fun _ => rfl) (by kernel_rfl) (by kernel_rfl)) ?_
  refine wo_flat 16 [.vals (bV ([99]) ++ [])] rfl (fun ρ => by simp [flat, iV, bV, AV.conc]) (okCs_vals _) ?_
  refine wo_ox rfl rfl (ox_bytesC (e := 5) (b := ⟨[.vals (bV ([99]) ++ [])], 5⟩) (L := ([99])) [8] rfl (by kernel_rfl) (by kernel_rfl) (by kernel_rfl) rfl rfl (rfl) (Nat.le_refl _) (show 1 ≤ maxLen by decide) (fun ρ => fun i x hi => by rw [flat_vals]; exact bV_get hi) rfl) (fun ⟨E2, X2, g2⟩ hx2 hc2 => ?_)
  replace hK := KAt.ext hc2 hKX hK
  replace hKX := (hc2.X _ hKX).1
  replace hx1 := BAt.ext hc2 (fun _ h => h) (fun _ _ h => h) hx1
  refine wo_run [] [1, 15, 17] [8] (l' := [(1, eL 8 0), (15, eL 8 0), (17, eV (.slice (some ⟨g2, 0, none⟩) 1 1))]) (H' := [(8, ⟨[.ints .u32 8 ((wr shaK hs0 ([97, 98])).h), .ints .u8 64 ((wr shaK hs0 ([97, 98])).rest), cI .u64 (wr shaK hs0 ([97, 98])).n], 88⟩)]) (by kernel_rfl) ?_
  refine wo_ox rfl rfl (ox_callm (τ := Unit) (φ := fun _ => True) [sL 100000 0, sV (.slice (some ⟨g2, 0, none⟩) 1 1)] [(100000, ⟨[.ints .u32 8 ((wr shaK hs0 ([97, 98])).h), .ints .u8 64 ((wr shaK hs0 ([97, 98])).rest), cI .u64 (wr shaK hs0 ([97, 98])).n], 88⟩)] [(100000, 8)] [] [] (fun _ => .t []) (fun _ => [(100000, ⟨[.ints .u32 8 ((wr shaK (wr shaK hs0 ([97, 98])) ([99])).h), .ints .u8 64 ((wr shaK (wr shaK hs0 ([97, 98])) ([99])).rest), cI .u64 (wr shaK (wr shaK hs0 ([97, 98])) ([99])).n], 88⟩)]) rfl (by kernel_rfl) rfl Tryd.func24 (by kernel_rfl) (by kernel_rfl) (by kernel_rfl) (by kernel_rfl) (by kernel_rfl) (by kernel_rfl) (⟨⟨by kernel_rfl, by kernel_rfl, by kernel_rfl⟩, trivial⟩) (fun _ => by kernel_rfl) (fun _ => by kernel_rfl) (fun _ _ => okv_nil) (fun ρ w h hh => write_any (wr shaK hs0 ([97, 98])) (wr_ok (hs0_ok) (okB_dec (by decide +kernel))) (some ⟨g2, 0, none⟩) 1 1 g2 0 ([99]) (okB_dec (by decide +kernel)) w _ (h.bats hx2 (fun i hi e => h.own 8 _ rfl (by rw [← show i = ρ 8 from e]; exact hi))) hh (hK.at h (hKX) rfl) (fun e => h.own 8 _ rfl (by rw [show ρ 8 = gK from e]; exact hKX)))) (fun _ _ _ => ?_)
  refine wo_run [] [1] [8] (l' := [(1, eL 8 0)]) (H' := [(8, ⟨[.ints .u32 8 ((wr shaK (wr shaK hs0 ([97, 98])) ([99])).h), .ints .u8 64 ((wr shaK (wr shaK hs0 ([97, 98])) ([99])).rest), cI .u64 (wr shaK (wr shaK hs0 ([97, 98])) ([99])).n], 88⟩)]) (by kernel_rfl) ?_
  refine wo_nil ?_
  refine we_then ?_
  refine wc_seq ?_
  refine wc_reg [0, 1, 2, 3, 4] (by kernel_rfl) ?_
  refine wo_op rfl rfl (ot_bslice (e := 5) (d := 19) (n := 3) (size := 1) [.ints .u8 3 (List.replicate 3 0)] [.ints .u8 3 ([97, 98, 99])] rfl rfl rfl (by kernel_rfl) rfl (by kernel_rfl) (okc_ints (List.length_replicate) (okc_nil)) (fun _ => rfl) (by kernel_rfl) (by kernel_rfl)) ?_
  refine wo_flat 19 [.vals (bV ([97, 98, 99]) ++ [])] rfl (fun ρ => by simp [flat, iV, bV, AV.conc]) (okCs_vals _) ?_
  refine wo_ox rfl rfl (ox_bytesC (e := 5) (b := ⟨[.vals (bV ([97, 98, 99]) ++ [])], 5⟩) (L := ([97, 98, 99])) [8] rfl (by kernel_rfl) (by kernel_rfl) (by kernel_rfl) rfl rfl (rfl) (Nat.le_refl _) (show 3 ≤ maxLen by decide) (fun ρ => fun i x hi => by rw [flat_vals]; exact bV_get hi) rfl) (fun ⟨E3, X3, g3⟩ hx3 hc3 => ?_)
  replace hK := KAt.ext hc3 hKX hK
  replace hKX := (hc3.X _ hKX).1
  replace hx1 := BAt.ext hc3 (fun _ h => h) (fun _ _ h => h) hx1
  replace hx2 := BAt.ext hc3 (fun _ h => h) (fun _ _ h => h) hx2
  refine wo_run [] [1, 20] [8] (l' := [(1, eL 8 0), (20, eV (.slice (some ⟨g3, 0, none⟩) 3 3))]) (H' := [(8, ⟨[.ints .u32 8 ((wr shaK (wr shaK hs0 ([97, 98])) ([99])).h), .ints .u8 64 ((wr shaK (wr shaK hs0 ([97, 98])) ([99])).rest), cI .u64 (wr shaK (wr shaK hs0 ([97, 98])) ([99])).n], 88⟩)]) (by kernel_rfl) ?_
  refine wo_op rfl rfl (ot_call (vs := [sV (.slice (some ⟨g3, 0, none⟩) 3 3)]) rfl rfl rfl Tryd.func14 (by kernel_rfl) (by kernel_rfl) (by kernel_rfl) (eA [.ints .u8 32 (sumB shaK ([97, 98, 99]))]) (okc_ints (sumB_len _ _) (okc_nil)) (fun ρ w h => sum_any (some ⟨g3, 0, none⟩) 3 3 g3 0 ([97, 98, 99]) w ρ (h.bats hx3 (fun _ _ => trivial)) (okB_dec (by decide +kernel)) (hK.at h (hKX) rfl))) ?_
  refine wo_op rfl rfl (ot_alloc (d := 2) (cs := z25) rfl rfl z25_zero rfl z25_ok (fun _ => rfl)) ?_
  refine wo_run [4] [1, 2] [2, 8] (l' := [(1, eL 8 0), (2, eL 2 0)]) (H' := [(2, ⟨[.ints .u8 32 (sumB shaK ([97, 98, 99]))], 25⟩), (8, ⟨[.ints .u32 8 ((wr shaK (wr shaK hs0 ([97, 98])) ([99])).h), .ints .u8 64 ((wr shaK (wr shaK hs0 ([97, 98])) ([99])).rest), cI .u64 (wr shaK (wr shaK hs0 ([97, 98])) ([99])).n], 88⟩)]) (by kernel_rfl) ?_
  refine wo_nil ?_
  refine we_then ?_
  refine wc_seq ?_
  refine wc_reg [0, 1, 2] (by kernel_rfl) ?_
  refine wo_op rfl rfl (ot_call (vs := [sV (.slice none 0 0)]) rfl rfl rfl Tryd.func14 (by kernel_rfl) (by kernel_rfl) (by kernel_rfl) (eA [.ints .u8 32 (sumB shaK ([]))]) (okc_ints (sumB_len _ _) (okc_nil)) (fun ρ w h => sum_any none 0 0 0 0 ([]) w ρ (BAt.nil _ _) (fun x hx => by cases hx) (hK.at h (hKX) rfl))) ?_
  refine wo_op rfl rfl (ot_alloc (d := 3) (cs := z25) rfl rfl z25_zero rfl z25_ok (fun _ => rfl)) ?_
  refine wo_run [2] [1, 2, 3] [2, 3, 8] (l' := [(1, eL 8 0), (2, eL 2 0), (3, eL 3 0)]) (H' := [(2, ⟨[.ints .u8 32 (sumB shaK ([97, 98, 99]))], 25⟩), (3, ⟨[.ints .u8 32 (sumB shaK ([]))], 25⟩), (8, ⟨[.ints .u32 8 ((wr shaK (wr shaK hs0 ([97, 98])) ([99])).h), .ints .u8 64 ((wr shaK (wr shaK hs0 ([97, 98])) ([99])).rest), cI .u64 (wr shaK (wr shaK hs0 ([97, 98])) ([99])).n], 88⟩)]) (by kernel_rfl) ?_
  refine wo_nil ?_
  refine we_then ?_
  refine wc_seq ?_
  refine wc_reg [0, 1, 2, 3, 4, 5, 6, 7, 8, 9] (by kernel_rfl) ?_
  refine wo_op rfl rfl (ot_bslice (e := 5) (d := 24) (n := 1) (size := 1) [.ints .u8 1 (List.replicate 1 0)] [cI .u8 97] rfl rfl rfl (by kernel_rfl) rfl (by kernel_rfl) (okc_ints (List.length_replicate) (okc_nil)) (fun _ => rfl) (by kernel_rfl) (by kernel_rfl)) ?_
  refine wo_flat 24 [.vals (bV ([97]) ++ [])] rfl (fun ρ => by simp [flat, iV, bV, AV.conc]) (okCs_vals _) ?_
  refine wo_ox rfl rfl (ox_bytesC (e := 5) (b := ⟨[.vals (bV ([97]) ++ [])], 5⟩) (L := ([97])) [2, 3, 8] rfl (by kernel_rfl) (by kernel_rfl) (by kernel_rfl) rfl rfl (rfl) (Nat.le_refl _) (show 1 ≤ maxLen by decide) (fun ρ => fun i x hi => by rw [flat_vals]; exact bV_get hi) rfl) (fun ⟨E4, X4, g4⟩ hx4 hc4 => ?_)
  replace hK := KAt.ext hc4 hKX hK
  replace hKX := (hc4.X _ hKX).1
  replace hx1 := BAt.ext hc4 (fun _ h => h) (fun _ _ h => h) hx1
  replace hx2 := BAt.ext hc4 (fun _ h => h) (fun _ _ h => h) hx2
  replace hx3 := BAt.ext hc4 (fun _ h => h) (fun _ _ h => h) hx3
  refine wo_run [] [1, 2, 3, 25] [2, 3, 8] (l' := [(1, eL 8 0), (2, eL 2 0), (3, eL 3 0), (25, eV (.slice (some ⟨g4, 0, none⟩) 1 1))]) (H' := [(2, ⟨[.ints .u8 32 (sumB shaK ([97, 98, 99]))], 25⟩), (3, ⟨[.ints .u8 32 (sumB shaK ([]))], 25⟩), (8, ⟨[.ints .u32 8 ((wr shaK (wr shaK hs0 ([97, 98])) ([99])).h), .ints .u8 64 ((wr shaK (wr shaK hs0 ([97, 98])) ([99])).rest), cI .u64 (wr shaK (wr shaK hs0 ([97, 98])) ([99])).n], 88⟩)]) (by kernel_rfl) ?_
  refine wo_op rfl rfl (ot_bslice (e := 22) (d := 26) (n := 2) (size := 1) [cV (.slice none 0 0), cV (.slice none 0 0)] [cV (.slice (some ⟨g4, 0, none⟩) 1 1), cV (.slice none 0 0)] rfl rfl rfl (by kernel_rfl) rfl (by kernel_rfl) (okc_one (okc_one (okc_nil))) (fun _ => rfl) (by kernel_rfl) (by kernel_rfl)) ?_
  refine wo_ox rfl rfl (ox_callm (τ := Nat × List Value) (φ := fun y => ((joinB ([([97]), []])).length ≤ y.1 ∧ y.1 ≤ maxLen ∧ y.2.length = (y.1 - ((joinB ([([97]), []])).length)) * 1)) [.a (.ls 100000 0 2 2)] [] [(100000, 26)] [(9, 27)] [2, 3, 8] (fun ⟨c1, r1⟩ => .s (.a (.ls 9 0 ((joinB ([([97]), []])).length) c1))) (fun ⟨c1, r1⟩ => [(9, ⟨[.vals (bV (joinB ([([97]), []])) ++ r1)], 5⟩)]) rfl (by kernel_rfl) rfl Tryd.func16 (by kernel_rfl) (by kernel_rfl) (by kernel_rfl) (by kernel_rfl) (by kernel_rfl) (by kernel_rfl) (trivial) (fun _ => by kernel_rfl) (fun _ => by kernel_rfl) (fun ⟨c1, r1⟩ _ => trivial) (fun ρ w h hh => join_any (some ⟨ρ 26, 0, none⟩) 2 2 (ρ 26) 0 (fun i => List.getD [⟨(some ⟨g4, 0, none⟩), 1, 1, g4, 0⟩, ⟨none, 0, 0, 0, 0⟩] i sd0) [([97]), []] w _ (h.bball (k := 26) (b := ⟨[cV (.slice (some ⟨g4, 0, none⟩) 1 1), cV (.slice none 0 0)], 22⟩) (ds := [⟨(some ⟨g4, 0, none⟩), 1, 1, g4, 0⟩, ⟨none, 0, 0, 0, 0⟩]) rfl trivial rfl rfl (by decide) ⟨h.bats hx4 (fun _ _ => trivial), ⟨BAt.nil _ _, trivial⟩⟩) (by decide +kernel) hh)) (fun ⟨c1, r1⟩ hc1 _ => ?_)
  refine wo_run [] [1, 2, 3, 27] [2, 3, 8, 27] (l' := [(1, eL 8 0), (2, eL 2 0), (3, eL 3 0), (27, .s (.a (.ls 27 0 ((joinB ([([97]), []])).length) c1)))]) (H' := [(2, ⟨[.ints .u8 32 (sumB shaK ([97, 98, 99]))], 25⟩), (3, ⟨[.ints .u8 32 (sumB shaK ([]))], 25⟩), (8, ⟨[.ints .u32 8 ((wr shaK (wr shaK hs0 ([97, 98])) ([99])).h), .ints .u8 64 ((wr shaK (wr shaK hs0 ([97, 98])) ([99])).rest), cI .u64 (wr shaK (wr shaK hs0 ([97, 98])) ([99])).n], 88⟩), (27, ⟨[.vals (bV (joinB ([([97]), []])) ++ r1)], 5⟩)]) (by kernel_rfl) ?_
  refine wo_ox rfl rfl (ox_callF (vs := [.a (.ls 27 0 ((joinB ([([97]), []])).length) c1)]) (fun (x : LD) w' X => BBAt w' X x.a x.len x.cap x.b x.off x.V ((splitB (joinB ([([97]), []]))).getD [])) (fun x => .t [.a (.v (.slice x.a x.len x.cap)), sB (splitB (joinB ([([97]), []]))).isSome]) rfl rfl rfl Tryd.func17 (by kernel_rfl) (by kernel_rfl) (by kernel_rfl) (fun _ => okv_a (okv_a okv_nil)) (fun x w X Y hXY hb => hb.enter hXY) (fun ρ w h => split_any (some ⟨ρ 27, 0, none⟩) ((joinB ([([97]), []])).length) c1 (ρ 27) 0 (joinB ([([97]), []])) w ρ (h.bat (k := 27) (b := ⟨[.vals (bV (joinB ([([97]), []])) ++ r1)], 5⟩) rfl trivial (rfl) (hc1.1) (hc1.2.1) (fun i x hi => by rw [flat_vals]; exact bV_get hi)) (okB_dec (by decide +kernel)) (by decide +kernel))) (fun ⟨E5, X5, x5⟩ hx5 hc5 => ?_)
  replace hK := KAt.ext hc5 hKX hK
  replace hKX := (hc5.X _ hKX).1
  replace hx1 := BAt.ext hc5 (fun _ h => h) (fun _ _ h => h) hx1
  replace hx2 := BAt.ext hc5 (fun _ h => h) (fun _ _ h => h) hx2
  replace hx3 := BAt.ext hc5 (fun _ h => h) (fun _ _ h => h) hx3
  replace hx4 := BAt.ext hc5 (fun _ h => h) (fun _ _ h => h) hx4
  have hln : x5.len = 2 := by have := hx5.ln; rw [fx_split] at this; exact this.symm
  refine wo_run [] [1, 2, 3, 28] [2, 3, 8] (l' := [(1, eL 8 0), (2, eL 2 0), (3, eL 3 0), (28, .t [sV (.slice x5.a x5.len x5.cap), sB (splitB (joinB ([([97]), []]))).isSome])]) (H' := [(2, ⟨[.ints .u8 32 (sumB shaK ([97, 98, 99]))], 25⟩), (3, ⟨[.ints .u8 32 (sumB shaK ([]))], 25⟩), (8, ⟨[.ints .u32 8 ((wr shaK (wr shaK hs0 ([97, 98])) ([99])).h), .ints .u8 64 ((wr shaK (wr shaK hs0 ([97, 98])) ([99])).rest), cI .u64 (wr shaK (wr shaK hs0 ([97, 98])) ([99])).n], 88⟩)]) (by kernel_rfl) ?_
  refine wo_run [5, 6, 7, 8, 9] [1, 2, 3, 4, 5] [2, 3, 8] (l' := [(1, eL 8 0), (2, eL 2 0), (3, eL 3 0), (4, eV (.slice x5.a x5.len x5.cap)), (5, eB (splitB (joinB ([([97]), []]))).isSome)]) (H' := [(2, ⟨[.ints .u8 32 (sumB shaK ([97, 98, 99]))], 25⟩), (3, ⟨[.ints .u8 32 (sumB shaK ([]))], 25⟩), (8, ⟨[.ints .u32 8 ((wr shaK (wr shaK hs0 ([97, 98])) ([99])).h), .ints .u8 64 ((wr shaK (wr shaK hs0 ([97, 98])) ([99])).rest), cI .u64 (wr shaK (wr shaK hs0 ([97, 98])) ([99])).n], 88⟩)]) (by kernel_rfl) ?_
  refine wo_nil ?_
  refine we_then ?_
  refine wc_seq ?_
  refine wc_reg [0, 1, 2, 3, 4, 5, 6] (by kernel_rfl) ?_
  refine wo_op rfl rfl (ot_make (e := 5) (L := 9) (c := 9) (bytes := 1) (v := .int .u8 0) rfl rfl (by kernel_rfl) (by kernel_rfl) (by kernel_rfl) rfl rfl (rfl) (rfl) (by decide) (by decide) (by decide) (by kernel_rfl)) ?_
  refine wo_flat 32 [.vals (bV (List.replicate 9 0) ++ [])] rfl (fun ρ => by simp [flat, iV, bV, AV.conc]) (okCs_vals _) ?_
  refine wo_ox rfl rfl (ox_callF (vs := [.a (.ls 32 0 9 9)]) (fun (x : LD) w' X => BBAt w' X x.a x.len x.cap x.b x.off x.V ((splitB (List.replicate 9 0)).getD [])) (fun x => .t [.a (.v (.slice x.a x.len x.cap)), sB (splitB (List.replicate 9 0)).isSome]) rfl rfl rfl Tryd.func17 (by kernel_rfl) (by kernel_rfl) (by kernel_rfl) (fun _ => okv_a (okv_a okv_nil)) (fun x w X Y hXY hb => hb.enter hXY) (fun ρ w h => split_any (some ⟨ρ 32, 0, none⟩) 9 9 (ρ 32) 0 (List.replicate 9 0) w ρ (h.bat (k := 32) (b := ⟨[.vals (bV (List.replicate 9 0) ++ [])], 5⟩) rfl trivial (rfl) (Nat.le_refl _) (show 9 ≤ maxLen by decide) (fun i x hi => by rw [flat_vals]; exact bV_get hi)) (rep_ok _) (by decide +kernel))) (fun ⟨E6, X6, x6⟩ hx6 hc6 => ?_)
  replace hK := KAt.ext hc6 hKX hK
  replace hKX := (hc6.X _ hKX).1
  replace hx1 := BAt.ext hc6 (fun _ h => h) (fun _ _ h => h) hx1
  replace hx2 := BAt.ext hc6 (fun _ h => h) (fun _ _ h => h) hx2
  replace hx3 := BAt.ext hc6 (fun _ h => h) (fun _ _ h => h) hx3
  replace hx4 := BAt.ext hc6 (fun _ h => h) (fun _ _ h => h) hx4
  replace hx5 := BBAt.ext hc6 hx5
  refine wo_run [] [1, 2, 3, 4, 5, 33] [2, 3, 8] (l' := [(1, eL 8 0), (2, eL 2 0), (3, eL 3 0), (4, eV (.slice x5.a x5.len x5.cap)), (5, eB (splitB (joinB ([([97]), []]))).isSome), (33, .t [sV (.slice x6.a x6.len x6.cap), sB (splitB (List.replicate 9 0)).isSome])]) (H' := [(2, ⟨[.ints .u8 32 (sumB shaK ([97, 98, 99]))], 25⟩), (3, ⟨[.ints .u8 32 (sumB shaK ([]))], 25⟩), (8, ⟨[.ints .u32 8 ((wr shaK (wr shaK hs0 ([97, 98])) ([99])).h), .ints .u8 64 ((wr shaK (wr shaK hs0 ([97, 98])) ([99])).rest), cI .u64 (wr shaK (wr shaK hs0 ([97, 98])) ([99])).n], 88⟩)]) (by kernel_rfl) ?_
  refine wo_run [2, 3, 4, 5, 6] [1, 2, 3, 4, 5, 7] [2, 3, 8] (l' := [(1, eL 8 0), (2, eL 2 0), (3, eL 3 0), (4, eV (.slice x5.a x5.len x5.cap)), (5, eB (splitB (joinB ([([97]), []]))).isSome), (7, eB (splitB (List.replicate 9 0)).isSome)]) (H' := [(2, ⟨[.ints .u8 32 (sumB shaK ([97, 98, 99]))], 25⟩), (3, ⟨[.ints .u8 32 (sumB shaK ([]))], 25⟩), (8, ⟨[.ints .u32 8 ((wr shaK (wr shaK hs0 ([97, 98])) ([99])).h), .ints .u8 64 ((wr shaK (wr shaK hs0 ([97, 98])) ([99])).rest), cI .u64 (wr shaK (wr shaK hs0 ([97, 98])) ([99])).n], 88⟩)]) (by kernel_rfl) ?_
  refine wo_nil ?_
  refine we_then ?_
  refine wc_seq ?_
  refine cut [(0, eB ((sumB shaK (joinB ([]))) == (sumB shaK (List.replicate 8 0))))] [] (fun K => ?_) ?_
  · refine wc_draw (n := 50) [(2, ⟨[.ints .u8 32 (sumB shaK ([97, 98, 99]))], 25⟩), (3, ⟨[.ints .u8 32 (sumB shaK ([]))], 25⟩)] (by kernel_rfl) rfl (sub_of [2, 3] (by kernel_rfl)) (fun ρ0 => ?_)
    refine wa_takes (fuel := 46) [0, 1, 2, 3] [1, 2, 3, 4, 5, 7, 39] (listed' := (bs [4, 46])) (l' := [(1, eL 8 0), (2, eL 2 0), (3, eL 3 0), (4, eV (.slice x5.a x5.len x5.cap)), (5, eB (splitB (joinB ([([97]), []]))).isSome), (7, eB (splitB (List.replicate 9 0)).isSome), (39, eB (((sumB shaK ([97, 98, 99])).getD 0 0) == 186))]) (pk_then pk_body) rfl (by kernel_rfl) ?_
    refine wa_is 39 true rfl (beq_iff_eq.2 rfl) ?_
    refine wa_takes (fuel := 41) [4, 5, 6, 7, 8] [1, 2, 3, 4, 5, 7, 44] (listed' := (bs [9, 41])) (l' := [(1, eL 8 0), (2, eL 2 0), (3, eL 3 0), (4, eV (.slice x5.a x5.len x5.cap)), (5, eB (splitB (joinB ([([97]), []]))).isSome), (7, eB (splitB (List.replicate 9 0)).isSome), (44, eB (((sumB shaK ([97, 98, 99])).getD 31 0) == 173))]) (pk_then pk_body) rfl (by kernel_rfl) ?_
    refine wa_is 44 true rfl (beq_iff_eq.2 rfl) ?_
    refine wa_takes (fuel := 36) [9, 10, 11, 12, 13] [1, 2, 3, 4, 5, 7, 49] (listed' := (bs [14, 36])) (l' := [(1, eL 8 0), (2, eL 2 0), (3, eL 3 0), (4, eV (.slice x5.a x5.len x5.cap)), (5, eB (splitB (joinB ([([97]), []]))).isSome), (7, eB (splitB (List.replicate 9 0)).isSome), (49, eB (((sumB shaK ([])).getD 0 0) == 227))]) (pk_then pk_body) rfl (by kernel_rfl) ?_
    refine wa_is 49 true rfl (beq_iff_eq.2 rfl) ?_
    refine wa_takes (fuel := 31) [14, 15, 16, 17, 18] [1, 2, 4, 5, 7, 54] (listed' := (bs [19, 31])) (l' := [(1, eL 8 0), (2, eL 2 0), (4, eV (.slice x5.a x5.len x5.cap)), (5, eB (splitB (joinB ([([97]), []]))).isSome), (7, eB (splitB (List.replicate 9 0)).isSome), (54, eB (((sumB shaK ([])).getD 31 0) == 85))]) (pk_then pk_body) rfl (by kernel_rfl) ?_
    refine wa_is 54 true rfl (beq_iff_eq.2 rfl) ?_
    refine wa_takes (fuel := 29) [19, 21] [4, 5, 7, 54, 55, 57] (listed' := (bs [20, 1, 1, 28])) (l' := [(4, eV (.slice x5.a x5.len x5.cap)), (5, eB (splitB (joinB ([([97]), []]))).isSome), (7, eB (splitB (List.replicate 9 0)).isSome), (54, eB true), (55, eL 8 0), (57, eA [.ints .u8 32 (sumB shaK ([97, 98, 99]))])]) (pk_then pk_body) rfl (by kernel_rfl) ?_
    refine wa_all [20] (by kernel_rfl) rfl (all1 ?_)
    refine wi_ox rfl rfl (ox_callm (τ := Unit) (φ := fun _ => True) [sL 100000 0] [(100000, ⟨[.ints .u32 8 ((wr shaK (wr shaK hs0 ([97, 98])) ([99])).h), .ints .u8 64 ((wr shaK (wr shaK hs0 ([97, 98])) ([99])).rest), cI .u64 (wr shaK (wr shaK hs0 ([97, 98])) ([99])).n], 88⟩)] [(100000, 8)] [] [2, 3] (fun _ => eA [.ints .u8 32 (sumH shaK (wr shaK (wr shaK hs0 ([97, 98])) ([99])))]) (fun _ => [(100000, ⟨[.ints .u32 8 ((wr shaK (wr shaK hs0 ([97, 98])) ([99])).h), .ints .u8 64 ((wr shaK (wr shaK hs0 ([97, 98])) ([99])).rest), cI .u64 (wr shaK (wr shaK hs0 ([97, 98])) ([99])).n], 88⟩)]) rfl (by kernel_rfl) rfl Tryd.func25 (by kernel_rfl) (by kernel_rfl) (by kernel_rfl) (by kernel_rfl) (by kernel_rfl) (by kernel_rfl) (⟨⟨by kernel_rfl, by kernel_rfl, by kernel_rfl⟩, trivial⟩) (fun _ => by kernel_rfl) (fun _ => by kernel_rfl) (fun _ _ => okc_ints (sumH_len _ _) (okc_nil)) (fun ρ w h hh => hsum_any (wr shaK (wr shaK hs0 ([97, 98])) ([99])) (wr_ok (wr_ok (hs0_ok) (okB_dec (by decide +kernel))) (okB_dec (by decide +kernel))) w _ hh (hK.at h (hKX) rfl) (fun e => h.own 8 _ rfl (by rw [show ρ 8 = gK from e]; exact hKX)))) (fun _ => (sub_of [2, 3] (by kernel_rfl))) (fun _ _ _ => ?_)
    refine wa_take 22 (pk_then pk_body) rfl (by kernel_rfl) rfl rfl (rd_eq (b := ((sumH shaK (wr shaK (wr shaK hs0 ([97, 98])) ([99]))) == (sumB shaK ([97, 98, 99])))) 9 ((sumH shaK (wr shaK (wr shaK hs0 ([97, 98])) ([99]))) == (sumB shaK ([97, 98, 99]))) rfl rfl rfl (by kernel_rfl) rfl (by kernel_rfl) (.inl ⟨rfl, rfl⟩)) ?_
    refine wa_takes (fuel := 25) [23, 24] [4, 5, 7, 60] (listed' := (bs [25, 25])) (l' := [(4, eV (.slice x5.a x5.len x5.cap)), (5, eB (splitB (joinB ([([97]), []]))).isSome), (7, eB (splitB (List.replicate 9 0)).isSome), (60, eB ((sumH shaK (wr shaK (wr shaK hs0 ([97, 98])) ([99]))) == (sumB shaK ([97, 98, 99]))))]) (pk_then pk_body) rfl (by kernel_rfl) ?_
    refine wa_is 60 true rfl (beq_iff_eq.2 rfl) ?_
    refine wa_takes (fuel := 22) [25, 26, 27] [4, 7, 63] (listed' := (bs [28, 22])) (l' := [(4, eV (.slice x5.a x5.len x5.cap)), (7, eB (splitB (List.replicate 9 0)).isSome), (63, eB (splitB (joinB ([([97]), []]))).isSome)]) (pk_then pk_body) rfl (by kernel_rfl) ?_
    refine wa_is 63 true rfl (by rw [fx_split]; rfl) ?_
    refine wa_takes (fuel := 17) [28, 29, 30, 31, 32] [4, 7, 68] (listed' := (bs [33, 17])) (l' := [(4, eV (.slice x5.a x5.len x5.cap)), (7, eB (splitB (List.replicate 9 0)).isSome), (68, eB (((x5.len : Nat) : Int) == 2))]) (pk_then pk_body) rfl (by kernel_rfl) ?_
    refine wa_is 68 true rfl (by rw [hln]; rfl) ?_
    refine wa_takes (fuel := 16) [33] [7, 68, 69] (listed' := (bs [34, 16])) (l' := [(7, eB (splitB (List.replicate 9 0)).isSome), (68, eB true), (69, eV (.slice x5.a x5.len x5.cap))]) (pk_then pk_body) rfl (by kernel_rfl) ?_
    refine wa_take 34 (pk_then pk_body) rfl (by kernel_rfl) rfl rfl (rd_indexI (e := 22) x5.b x5.off 1 0 0 rfl (by kernel_rfl) (by kernel_rfl) rfl rfl (rfl) (by rw [hln]; decide) (hx5.ptr (Nat.zero_lt_of_lt (show 0 < x5.len from by rw [hln]; decide))).1) ?_
    refine wa_take 35 (pk_then pk_body) rfl (by kernel_rfl) rfl rfl (rd_load (v := (sV (.slice ((x5.V 0).a) ((x5.V 0).len) ((x5.V 0).cap)))) x5.b (x5.off + 0 * 1) 0 [cV (.slice ((x5.V 0).a) ((x5.V 0).len) ((x5.V 0).cap))] rfl (x5.off + 0 * 1) rfl rfl ((hx5.ptr (Nat.zero_lt_of_lt (show 0 < x5.len from by rw [hln]; decide))).2.1) (hx5.cellsAt (show 0 < x5.len from by rw [hln]; decide)) (okc_one okc_nil) (fun _ => rfl) (by kernel_rfl)) ?_
    refine wa_take 36 (pk_then pk_body) rfl (by kernel_rfl) rfl rfl (rd_str (e := 5) rfl (by kernel_rfl) (by kernel_rfl) (by kernel_rfl) rfl (hx5.el 0 (show 0 < x5.len from by rw [hln]; decide))) ?_
    refine wa_take 37 (pk_then pk_body) rfl (by kernel_rfl) rfl rfl (rd_eqS (ByteArray.toList (strOfNums (((splitB (joinB ([([97]), []]))).getD []).getD 0 [])) == ByteArray.toList ⟨#[97]⟩) rfl rfl rfl (.inl ⟨rfl, rfl⟩)) ?_
    refine wa_takes (fuel := 10) [38, 39] [7, 75] (listed' := (bs [40, 10])) (l' := [(7, eB (splitB (List.replicate 9 0)).isSome), (75, eB (ByteArray.toList (strOfNums (((splitB (joinB ([([97]), []]))).getD []).getD 0 [])) == ByteArray.toList ⟨#[97]⟩))]) (pk_then pk_body) rfl (by kernel_rfl) ?_
    refine wa_is 75 true rfl (by rw [fx_split]; exact fx_str) ?_
    refine wa_takes (fuel := 6) [40, 41, 42, 43] [79] (listed' := (bs [44, 6])) (l' := [(79, eB (!(splitB (List.replicate 9 0)).isSome))]) (pk_then pk_body) rfl (by kernel_rfl) ?_
    refine wa_is 79 true rfl (congrArg (!·) (show (splitB (List.replicate 9 0)).isSome = false from by rw [fx_none]; rfl)) ?_
    refine wa_all [44, 45] (by kernel_rfl) rfl (allc ?_ (all1 ?_))
    · refine wi_op rfl rfl (ot_call (vs := [sV (.slice none 0 0)]) rfl rfl rfl Tryd.func21 (by kernel_rfl) (by kernel_rfl) (by kernel_rfl) (eA [.ints .u8 32 (sumB shaK (joinB ([])))]) (okc_ints (sumB_len _ _) (okc_nil)) (fun ρ w h => of_any none 0 0 0 0 (fun _ => sd0) [] w ρ (⟨rfl, Nat.le_refl _, Nat.zero_le _, fun h => absurd h (Nat.lt_irrefl _), fun i h => absurd h (Nat.not_lt_zero _), fun i h => absurd h (Nat.not_lt_zero _)⟩) (fun L hL => by cases hL) (by decide +kernel) (hK.at h (hKX) rfl))) (sub_of [2, 3] (by kernel_rfl)) ?_
      refine wa_all [45] (by kernel_rfl) rfl (all1 ?_)
      refine wi_op rfl rfl (ot_make (e := 5) (L := 8) (c := 8) (bytes := 1) (v := .int .u8 0) rfl rfl (by kernel_rfl) (by kernel_rfl) (by kernel_rfl) rfl rfl (rfl) (rfl) (by decide) (by decide) (by decide) (by kernel_rfl)) (sub_of [2, 3] (by kernel_rfl)) ?_
      refine wa_all [46] (by kernel_rfl) rfl (all1 ?_)
      refine wi_op rfl rfl (ot_call (vs := [.a (.ls 81 0 8 8)]) rfl rfl rfl Tryd.func14 (by kernel_rfl) (by kernel_rfl) (by kernel_rfl) (eA [.ints .u8 32 (sumB shaK (List.replicate 8 0))]) (okc_ints (sumB_len _ _) (okc_nil)) (fun ρ w h => sum_any (some ⟨ρ 81, 0, none⟩) 8 8 (ρ 81) 0 (List.replicate 8 0) w ρ (h.bat (k := 81) (b := ⟨[.vals (List.replicate 8 (Value.int .u8 0))], 5⟩) rfl trivial (rfl) (Nat.le_refl _) (show 8 ≤ maxLen by decide) (fun i x hi => by rw [flat_vals, show List.replicate 8 (Value.int .u8 0) = bV (List.replicate 8 0) ++ [] from rfl]; exact bV_get hi)) (rep_ok _) (hK.at h (hKX) rfl))) (sub_of [2, 3] (by kernel_rfl)) ?_
      refine wa_take 47 (pk_then pk_body) rfl (by kernel_rfl) rfl rfl (rd_eq (b := ((sumB shaK (joinB ([]))) == (sumB shaK (List.replicate 8 0)))) 9 ((sumB shaK (joinB ([]))) == (sumB shaK (List.replicate 8 0))) rfl rfl rfl (by kernel_rfl) rfl (by kernel_rfl) (.inl ⟨rfl, rfl⟩)) ?_
      refine wa_takes (fuel := 0) [48, 49] [0] (listed' := (bs [50])) (l' := [(0, eB ((sumB shaK (joinB ([]))) == (sumB shaK (List.replicate 8 0))))]) (pk_then pk_body) rfl (by kernel_rfl) ?_
      exact wa_done (by kernel_rfl) (we_rest [0] [] (by kernel_rfl) (by kernel_rfl) K)
    · refine wi_op rfl rfl (ot_make (e := 5) (L := 8) (c := 8) (bytes := 1) (v := .int .u8 0) rfl rfl (by kernel_rfl) (by kernel_rfl) (by kernel_rfl) rfl rfl (rfl) (rfl) (by decide) (by decide) (by decide) (by kernel_rfl)) (sub_of [2, 3] (by kernel_rfl)) ?_
      refine wa_all [44] (by kernel_rfl) rfl (all1 ?_)
      refine wi_op rfl rfl (ot_call (vs := [sV (.slice none 0 0)]) rfl rfl rfl Tryd.func21 (by kernel_rfl) (by kernel_rfl) (by kernel_rfl) (eA [.ints .u8 32 (sumB shaK (joinB ([])))]) (okc_ints (sumB_len _ _) (okc_nil)) (fun ρ w h => of_any none 0 0 0 0 (fun _ => sd0) [] w ρ (⟨rfl, Nat.le_refl _, Nat.zero_le _, fun h => absurd h (Nat.lt_irrefl _), fun i h => absurd h (Nat.not_lt_zero _), fun i h => absurd h (Nat.not_lt_zero _)⟩) (fun L hL => by cases hL) (by decide +kernel) (hK.at h (hKX) rfl))) (sub_of [2, 3] (by kernel_rfl)) ?_
      refine wa_all [46] (by kernel_rfl) rfl (all1 ?_)
      refine wi_op rfl rfl (ot_call (vs := [.a (.ls 81 0 8 8)]) rfl rfl rfl Tryd.func14 (by kernel_rfl) (by kernel_rfl) (by kernel_rfl) (eA [.ints .u8 32 (sumB shaK (List.replicate 8 0))]) (okc_ints (sumB_len _ _) (okc_nil)) (fun ρ w h => sum_any (some ⟨ρ 81, 0, none⟩) 8 8 (ρ 81) 0 (List.replicate 8 0) w ρ (h.bat (k := 81) (b := ⟨[.vals (bV (List.replicate 8 0) ++ [])], 5⟩) rfl trivial (rfl) (Nat.le_refl _) (show 8 ≤ maxLen by decide) (fun i x hi => by rw [flat_vals]; exact bV_get hi)) (rep_ok _) (hK.at h (hKX) rfl))) (sub_of [2, 3] (by kernel_rfl)) ?_
      refine wa_take 47 (pk_then pk_body) rfl (by kernel_rfl) rfl rfl (rd_eq (b := ((sumB shaK (joinB ([]))) == (sumB shaK (List.replicate 8 0)))) 9 ((sumB shaK (joinB ([]))) == (sumB shaK (List.replicate 8 0))) rfl rfl rfl (by kernel_rfl) rfl (by kernel_rfl) (.inl ⟨rfl, rfl⟩)) ?_
      refine wa_takes (fuel := 0) [48, 49] [0] (listed' := (bs [50])) (l' := [(0, eB ((sumB shaK (joinB ([]))) == (sumB shaK (List.replicate 8 0))))]) (pk_then pk_body) rfl (by kernel_rfl) ?_
      exact wa_done (by kernel_rfl) (we_rest [0] [] (by kernel_rfl) (by kernel_rfl) K)
  · refine we_then ?_
    refine wc_ret ?_
    refine we_ret (.inl rfl) (v := eB ((sumB shaK (joinB ([]))) == (sumB shaK (List.replicate 8 0)))) (by kernel_rfl) ?_
    intro σ w' hf
    exact ⟨rfl, hf.below noS⟩

set_option maxRecDepth 100000 in
set_option maxHeartbeats 16000000 in
theorem shaSums_any (a : Option Addr) (len cap b off : Nat) (L : List Int) (w : World) (ρ : Nat → Nat) (hb : BAt w (fun _ => True) a len cap b off L) (hL : OkB L) (hlen : len ≤ 140737488351232) (hK : KAt w) :
    Calls Tryd.prog 3 ([sV (.slice a len cap)].map (SV.conc ρ)).toArray w fun r' w' => r' = .returned (EV.conc ρ (eB true)) ∧ Below w.heap.size w w' := by
  have hbX : BAt w (fun i => i < w.heap.size ∧ ¬ ∃ k b, getH ([] : Heap) k = some b ∧ ρ k = i) a len cap b off L := hb.enter (fun i _ h => xI0 i h)
  have hKX : gK < w.heap.size ∧ ¬ ∃ k b, getH ([] : Heap) k = some b ∧ ρ k = gK := xI0 _ hK.lt
  have hLn : L.length = len := hb.ln
  refine calls_enter (vs := [sV (.slice a len cap)]) (N := 22) [] ρ Tryd.func3 rfl rfl (Nat.le_of_ble_eq_true rfl) (okv_a (okv_nil)) noH noH2 ?_ _ rfl
  refine wc_seq ?_
  refine wc_reg [0] (by kernel_rfl) ?_
  refine wo_run [0] [0] [] (l' := [(0, eV (.slice a len cap))]) (H' := []) (by kernel_rfl) ?_
  refine wo_nil ?_
  refine we_then ?_
  refine wc_seq ?_
  refine wc_reg [0, 1, 2, 3] (by kernel_rfl) ?_
  refine wo_op rfl rfl (ot_bslice (e := 5) (d := 4) (n := 0) (size := 1) [] [] rfl rfl rfl (by kernel_rfl) rfl (by kernel_rfl) okc_nil (fun _ => rfl) (by kernel_rfl) (by kernel_rfl)) ?_
  refine wo_flat 4 [.vals (bV [] ++ [])] rfl (fun ρ => rfl) (okCs_vals _) ?_
  refine wo_run [1] [0, 4, 5] [4] (l' := [(0, eV (.slice a len cap)), (4, .s (.a (.ls 4 0 0 0))), (5, eV (.slice a len cap))]) (H' := [(4, ⟨[.vals (bV [] ++ [])], 5⟩)]) (by kernel_rfl) ?_
  refine wo_ox rfl rfl (ox_appendS (e := 5) (m := len) (size := 1) (bytes := 1) 6 4 0 0 (bV ([])) (L.map (Value.int .u8)) [] [] rfl rfl (by kernel_rfl) (by kernel_rfl) (by kernel_rfl) rfl rfl (by simp [bV]) (rfl) (Nat.le_refl _) (Nat.zero_le _) (srcof_bat (e' := 5) (by kernel_rfl) rfl hbX (hbX.nz)) (by simp only [maxLen]; omega) (by omega) (by kernel_rfl)) (fun ⟨c1, r1⟩ hc1 _ => ?_)
  refine wo_flat 6 [.vals (bV ([] ++ L) ++ r1)] rfl (fun ρ => by simp only [bV, iV, List.map_append]) (okCs_vals _) ?_
  rw [show (0 + len : Nat) = len from Nat.zero_add _]
  refine wo_run [] [0, 6] [6] (l' := [(0, eV (.slice a len cap)), (6, .s (.a (.ls 6 0 len c1)))]) (H' := [(6, ⟨[.vals (bV ([] ++ L) ++ r1)], 5⟩)]) (by kernel_rfl) ?_
  refine wo_run [3] [0, 3] [6] (l' := [(0, eV (.slice a len cap)), (3, .s (.a (.ls 6 0 len c1)))]) (H' := [(6, ⟨[.vals (bV ([] ++ L) ++ r1)], 5⟩)]) (by kernel_rfl) ?_
  refine wo_nil ?_
  refine we_then ?_
  refine wc_seq ?_
  refine wc_reg [0, 1, 2, 3, 4, 5, 6, 7, 8, 9, 10, 11, 12, 13, 14, 15] (by kernel_rfl) ?_
  refine wo_op rfl rfl (ot_call (vs := []) rfl rfl rfl Tryd.func13 (by kernel_rfl) (by kernel_rfl) (by kernel_rfl) (eB true) (trivial) (fun ρ w h => fixed_any w ρ (hK.at h (hKX) rfl))) ?_
  refine wo_run [1, 2] [0, 3, 8, 9] [6] (l' := [(0, eV (.slice a len cap)), (3, .s (.a (.ls 6 0 len c1))), (8, eB true), (9, .s (.a (.ls 6 0 len c1)))]) (H' := [(6, ⟨[.vals (bV ([] ++ L) ++ r1)], 5⟩)]) (by kernel_rfl) ?_
  refine wo_op rfl rfl (ot_call (vs := [.a (.ls 6 0 len c1)]) rfl rfl rfl Tryd.func14 (by kernel_rfl) (by kernel_rfl) (by kernel_rfl) (eA [.ints .u8 32 (sumB shaK ([] ++ L))]) (okc_ints (sumB_len _ _) (okc_nil)) (fun ρ w h => sum_any (some ⟨ρ 6, 0, none⟩) len c1 (ρ 6) 0 ([] ++ L) w ρ (h.bat (k := 6) (b := ⟨[.vals (bV ([] ++ L) ++ r1)], 5⟩) rfl trivial (by simpa using hLn) (by simpa using hc1.1) (hc1.2.1) (fun i x hi => by rw [flat_vals]; exact bV_get hi)) ((by simpa using hL)) (hK.at h (hKX) rfl))) ?_
  refine wo_run [4] [0, 3, 8, 10, 11] [6] (l' := [(0, eV (.slice a len cap)), (3, .s (.a (.ls 6 0 len c1))), (8, eB true), (10, eA [.ints .u8 32 (sumB shaK ([] ++ L))]), (11, eV (.slice a len cap))]) (H' := [(6, ⟨[.vals (bV ([] ++ L) ++ r1)], 5⟩)]) (by kernel_rfl) ?_
  refine wo_op rfl rfl (ot_call (vs := [sV (.slice a len cap)]) rfl rfl rfl Tryd.func15 (by kernel_rfl) (by kernel_rfl) (by kernel_rfl) (eA [.ints .u8 32 (sumB shaK L)]) (okc_ints (sumB_len _ _) (okc_nil)) (fun ρ w h => rsum_any a len cap b off L w ρ (h.bats hbX (fun _ _ => trivial)) (hL) (hlen))) ?_
  refine wo_op rfl rfl (ot_rd rfl (rd_eq (b := ((sumB shaK ([] ++ L)) == (sumB shaK L))) 9 ((sumB shaK ([] ++ L)) == (sumB shaK L)) rfl rfl rfl (by kernel_rfl) rfl (by kernel_rfl) (.inl ⟨rfl, rfl⟩))) ?_
  refine wo_run [7, 8] [0, 3, 15] [6] (l' := [(0, eV (.slice a len cap)), (3, .s (.a (.ls 6 0 len c1))), (15, eB ((sumB shaK ([] ++ L)) == (sumB shaK L)))]) (H' := [(6, ⟨[.vals (bV ([] ++ L) ++ r1)], 5⟩)]) (by kernel_rfl) ?_
  refine wo_is 15 true rfl (beq_iff_eq.2 (by rfl)) ?_
  refine wo_run [9] [0, 15, 16] [6] (l' := [(0, eV (.slice a len cap)), (15, eB true), (16, .s (.a (.ls 6 0 len c1)))]) (H' := [(6, ⟨[.vals (bV ([] ++ L) ++ r1)], 5⟩)]) (by kernel_rfl) ?_
  refine wo_op rfl rfl (ot_rd rfl (rd_strL (e := 5) (b := ⟨[.vals (bV ([] ++ L) ++ r1)], 5⟩) (L := ([] ++ L)) rfl (by kernel_rfl) (by kernel_rfl) (by kernel_rfl) rfl rfl (by simpa using hLn) (fun ρ => fun i x hi => by rw [flat_vals]; exact bV_get hi))) ?_
  refine wo_run [11] [15, 17, 18] [] (l' := [(15, eB true), (17, eV (.string (strOfNums ([] ++ L)))), (18, eV (.slice a len cap))]) (H' := []) (by kernel_rfl) ?_
  refine wo_op rfl rfl (ot_rd rfl (rd_str (e := 5) rfl (by kernel_rfl) (by kernel_rfl) (by kernel_rfl) rfl hbX)) ?_
  refine wo_op rfl rfl (ot_rd rfl (rd_eqS (ByteArray.toList (strOfNums ([] ++ L)) == ByteArray.toList (strOfNums L)) rfl rfl rfl (.inl ⟨rfl, rfl⟩))) ?_
  refine wo_run [14, 15] [2] [] (l' := [(2, eB (ByteArray.toList (strOfNums ([] ++ L)) == ByteArray.toList (strOfNums L)))]) (H' := []) (by kernel_rfl) ?_
  refine wo_nil ?_
  refine we_then ?_
  refine wc_ret ?_
  refine we_ret (.inl rfl) (v := eB (ByteArray.toList (strOfNums ([] ++ L)) == ByteArray.toList (strOfNums L))) (by kernel_rfl) ?_
  intro σ w' hf
  exact ⟨congrArg (fun b => Ending.returned (EV.conc σ (eB b))) (beq_iff_eq.2 (by rfl)), hf.below noS⟩

end Go.Proofs.YtjcghjgennddaaaDoor
