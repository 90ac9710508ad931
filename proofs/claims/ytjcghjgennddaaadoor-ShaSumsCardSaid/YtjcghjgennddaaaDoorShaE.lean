/- SHA-256: the walks. -/
import Derived.Test.YtjcghjgennddaaaDoorProg
import Derived.KernelRfl
import Derived.Test.YtjcghjgennddaaaDoorShaD
import Derived.Test.YtjcghjgennddaaaDoorSxDeep
namespace Go.Proofs.YtjcghjgennddaaaDoor
open Go.RowKit Go.Sx
set_option linter.unusedVariables false
set_option linter.unusedSimpArgs false

theorem jn_ok : ∀ {Ls : List (List Int)}, (∀ L ∈ Ls, OkB L) → OkB (jn Ls)
  | [], _ => fun x hx => by cases hx
  | L :: r, h => okB_app (okB_app (be8_ok _) (h L (by simp))) (jn_ok (fun M hM => h M (by simp [hM])))
theorem joinB_ok {Ls : List (List Int)} (h : ∀ L ∈ Ls, OkB L) : OkB (joinB Ls) := okB_app (be8_ok _) (jn_ok h)


set_option maxRecDepth 100000 in
set_option maxHeartbeats 4000000 in
theorem of_any (a : Option Addr) (len cap b off : Nat) (V : Nat → SD) (Ls : List (List Int)) (w : World) (ρ : Nat → Nat) (hb : BBAt w (fun _ => True) a len cap b off V Ls) (hL : ∀ L ∈ Ls, OkB L) (hbound : (joinB Ls).length ≤ 140737488355328) (hK : KAt w) :
    Calls Tryd.prog 21 ([sV (.slice a len cap)].map (SV.conc ρ)).toArray w fun r' w' => r' = .returned (EV.conc ρ (eA [.ints .u8 32 (sumB shaK (joinB Ls))])) ∧ Below w.heap.size w w' := by
  have hbX := hb.enter (Y := fun i => i < w.heap.size ∧ ¬ ∃ k b, getH ([] : Heap) k = some b ∧ ρ k = i) (fun i _ h => xI0 i h)
  refine calls_enter (vs := [sV (.slice a len cap)]) (N := 6) [] ρ Tryd.func21 rfl rfl (Nat.le_of_ble_eq_true rfl) (okv_a (okv_nil)) noH noH2 ?_ _ rfl
  refine wc_seq ?_
  refine wc_reg [0] (by kernel_rfl) ?_
  refine wo_op rfl rfl (ot_alloc (d := 2) (cs := z25) rfl rfl z25_zero rfl z25_ok (fun _ => rfl)) ?_
  refine wo_nil ?_
  refine we_then ?_
  refine wc_seq ?_
  refine wc_reg [0, 1, 2, 3] (by kernel_rfl) ?_
  refine wo_run [0] [2, 3] [2] (l' := [(2, eL 2 0), (3, eV (.slice a len cap))]) (H' := [(2, ⟨[.ints .u8 32 (List.replicate 32 0)], 25⟩)]) (by kernel_rfl) ?_
  refine wo_ox rfl rfl (ox_callm (τ := Nat × List Value) (φ := fun y => ((joinB Ls).length ≤ y.1 ∧ y.1 ≤ maxLen ∧ y.2.length = (y.1 - ((joinB Ls).length)) * 1)) [sV (.slice a len cap)] [] [] [(9, 4)] [2] (fun ⟨c1, r1⟩ => .s (.a (.ls 9 0 ((joinB Ls).length) c1))) (fun ⟨c1, r1⟩ => [(9, ⟨[.vals (bV (joinB Ls) ++ r1)], 5⟩)]) rfl (by kernel_rfl) rfl Tryd.func16 (by kernel_rfl) (by kernel_rfl) (by kernel_rfl) (by kernel_rfl) (by kernel_rfl) (by kernel_rfl) (trivial) (fun _ => by kernel_rfl) (fun _ => by kernel_rfl) (fun ⟨c1, r1⟩ _ => trivial) (fun ρ w h hh => join_any a len cap b off V Ls w _ (h.bbats hbX (fun _ _ => trivial)) (hbound) hh)) (fun ⟨c1, r1⟩ hc1 _ => ?_)
  refine wo_run [] [2, 4] [2, 4] (l' := [(2, eL 2 0), (4, .s (.a (.ls 4 0 ((joinB Ls).length) c1)))]) (H' := [(2, ⟨[.ints .u8 32 (List.replicate 32 0)], 25⟩), (4, ⟨[.vals (bV (joinB Ls) ++ r1)], 5⟩)]) (by kernel_rfl) ?_
  refine wo_op rfl rfl (ot_call (vs := [.a (.ls 4 0 ((joinB Ls).length) c1)]) rfl rfl rfl Tryd.func14 (by kernel_rfl) (by kernel_rfl) (by kernel_rfl) (eA [.ints .u8 32 (sumB shaK (joinB Ls))]) (okc_ints (sumB_len _ _) (okc_nil)) (fun ρ w h => sum_any (some ⟨ρ 4, 0, none⟩) ((joinB Ls).length) c1 (ρ 4) 0 (joinB Ls) w ρ (h.bat (k := 4) (b := ⟨[.vals (bV (joinB Ls) ++ r1)], 5⟩) rfl trivial (rfl) (hc1.1) (hc1.2.1) (fun i x hi => by rw [flat_vals]; exact bV_get hi)) (joinB_ok hL) (hK.at h (xI0 _ hK.lt) rfl))) ?_
  refine wo_run [3] [2] [2] (l' := [(2, eL 2 0)]) (H' := [(2, ⟨[.ints .u8 32 (sumB shaK (joinB Ls))], 25⟩)]) (by kernel_rfl) ?_
  refine wo_nil ?_
  refine we_then ?_
  refine wc_ret ?_
  refine we_ret (.inl rfl) (v := eA [.ints .u8 32 (sumB shaK (joinB Ls))]) (by kernel_rfl) ?_
  intro σ w' hf
  exact ⟨rfl, hf.below noS⟩

end Go.Proofs.YtjcghjgennddaaaDoor
