/- A law of the pacemaker: whatever came ahead, as many ticks as most tell true at least once. -/
import Derived.Test.YtckhcmdjgkoocaaPaceB
namespace Go.Proofs.Ytckhcmdjgkoocaa.Pc
open Go.RowKit Go.Sx
set_option linter.unusedVariables false
set_option linter.unusedSimpArgs false


set_option maxHeartbeats 4000000 in
theorem paceFires_any (f m : Int) (hf : f ≤ 9223372036854775807) (hm : m ≤ 9223372036854775807) (a : Option Addr) (len cap b off : Nat) (x : Nat → PStep) (hlc : len ≤ cap) (hcap : cap ≤ maxLen) (w : World) (hb : 0 < len → a = some ⟨b, off, none⟩ ∧ b < w.heap.size) (hc : ∀ i, i < len → CellsAt w b (off + i * 3) (cX (x i))) (ρ : Nat → Nat) :
    Calls Try.prog 11 ([sI .i64 f, sI .i64 m, sV (.slice a len cap)].map (SV.conc ρ)).toArray w fun r w' => r = .returned (EV.conc ρ (eB true)) ∧ Below w.heap.size w w' := by
  refine calls_enter (vs := [sI .i64 f, sI .i64 m, sV (.slice a len cap)]) (N := 55) [] ρ Try.func11 rfl rfl (Nat.le_of_ble_eq_true rfl) (okv_a (okv_a (okv_a (okv_nil)))) noH noH2 ?_ _ rfl
  refine wc_seq ?_
  refine wc_reg [0] (by kernel_rfl) ?_
  refine wo_run [0] [0, 1, 2] [] (l' := [(0, eI .i64 f), (1, eI .i64 m), (2, eV (.slice a len cap))]) (H' := []) (by kernel_rfl) ?_
  refine wo_nil ?_
  refine we_then ?_
  refine wc_seq ?_
  refine wc_seq ?_
  refine wc_reg [0, 1] (by kernel_rfl) ?_
  refine wo_op rfl rfl (ot_call (vs := []) rfl rfl rfl Try.func29 (by kernel_rfl) (by kernel_rfl) (by kernel_rfl) (eB true) (trivial) (fun ρ w _ => awake_any w ρ)) ?_
  refine wo_run [1] [0, 1, 2, 11] [] (l' := [(0, eI .i64 f), (1, eI .i64 m), (2, eV (.slice a len cap)), (11, eB false)]) (H' := []) (by kernel_rfl) ?_
  refine wo_nil ?_
  refine we_then ?_
  refine wc_false rfl ?_
  refine wc_skip ?_
  refine we_then ?_
  refine wc_seq ?_
  refine wc_reg [0, 1, 2] (by kernel_rfl) ?_
  refine wo_run [0, 1, 2] [0, 1, 2] [] (l' := [(0, eI .i64 (if 1 > f then 1 else f)), (1, eI .i64 m), (2, eV (.slice a len cap))]) (H' := []) (by kernel_rfl) ?_
  refine wo_nil ?_
  refine we_then ?_
  refine wc_seq ?_
  refine wc_reg [0, 1, 2, 3] (by kernel_rfl) ?_
  refine wo_run [0, 1, 2, 3] [0, 1, 2] [] (l' := [(0, eI .i64 (if 1 > f then 1 else f)), (1, eI .i64 (if (if 1 > f then 1 else f) > m then (if 1 > f then 1 else f) else m)), (2, eV (.slice a len cap))]) (H' := []) (by kernel_rfl) ?_
  refine wo_nil ?_
  refine we_then ?_
  refine wc_seq ?_
  refine wc_seq ?_
  refine wc_reg [0, 1] (by kernel_rfl) ?_
  refine wo_run [0, 1] [0, 1, 2, 18] [] (l' := [(0, eI .i64 (if 1 > f then 1 else f)), (1, eI .i64 (if (if 1 > f then 1 else f) > m then (if 1 > f then 1 else f) else m)), (2, eV (.slice a len cap)), (18, eB (decide ((if (if 1 > f then 1 else f) > m then (if 1 > f then 1 else f) else m) > 2000)))]) (H' := []) (by kernel_rfl) ?_
  refine wo_nil ?_
  refine we_then ?_
  refine wc_cond rfl (fun h1 => ?_) (fun h1 => ?_)
  · replace h1 := of_decide_eq_true h1
    refine wc_seq ?_
    refine wc_reg [0] (by kernel_rfl) ?_
    refine wo_run [0] [6] [] (l' := [(6, eB true)]) (H' := []) (by kernel_rfl) ?_
    refine wo_nil ?_
    refine we_then ?_
    refine wc_ret ?_
    refine we_then_ret ?_
    refine we_ret (.inl rfl) (v := eB true) (by kernel_rfl) ?_
    intro ρ' w' hf'
    refine ⟨?_, hf'.below noS⟩
    rfl
  · replace h1 := of_decide_eq_false h1
    refine wc_skip ?_
    refine we_then ?_
    refine wc_seq ?_
    refine wc_reg [0, 1, 2, 3] (by kernel_rfl) ?_
    refine wo_run [0, 1] [1, 2, 19, 20] [] (l' := [(1, eI .i64 (if (if 1 > f then 1 else f) > m then (if 1 > f then 1 else f) else m)), (2, eV (.slice a len cap)), (19, eI .i64 (if 1 > f then 1 else f)), (20, eI .i64 (if (if 1 > f then 1 else f) > m then (if 1 > f then 1 else f) else m))]) (H' := []) (by kernel_rfl) ?_
    refine wo_ox rfl rfl (ox_callm (τ := Unit) (φ := fun _ => True) [sI .i64 (if 1 > f then 1 else f), sI .i64 (if (if 1 > f then 1 else f) > m then (if 1 > f then 1 else f) else m)] [] [] [(13, 21)] [] (fun _ => eL 13 0) (fun _ => [(13, ⟨[cI .i64 (pnew (if 1 > f then 1 else f) (if (if 1 > f then 1 else f) > m then (if 1 > f then 1 else f) else m)).span, cI .i64 (pnew (if 1 > f then 1 else f) (if (if 1 > f then 1 else f) > m then (if 1 > f then 1 else f) else m)).left, cI .i64 (pnew (if 1 > f then 1 else f) (if (if 1 > f then 1 else f) > m then (if 1 > f then 1 else f) else m)).view, cI .i64 (pnew (if 1 > f then 1 else f) (if (if 1 > f then 1 else f) > m then (if 1 > f then 1 else f) else m)).first, cI .i64 (pnew (if 1 > f then 1 else f) (if (if 1 > f then 1 else f) > m then (if 1 > f then 1 else f) else m)).most], 77⟩)]) rfl (by kernel_rfl) rfl Try.func30 (by kernel_rfl) (by kernel_rfl) (by kernel_rfl) (by kernel_rfl) (by kernel_rfl) (by kernel_rfl) (trivial) (fun _ => by kernel_rfl) (fun _ => by kernel_rfl) (fun _ _ => trivial) (fun ρ w _ hh => new_any (if 1 > f then 1 else f) (if (if 1 > f then 1 else f) > m then (if 1 > f then 1 else f) else m) w _)) (fun _ _ _ => ?_)
    refine wo_run [] [1, 2, 21] [21] (l' := [(1, eI .i64 (if (if 1 > f then 1 else f) > m then (if 1 > f then 1 else f) else m)), (2, eV (.slice a len cap)), (21, eL 21 0)]) (H' := [(21, ⟨[cI .i64 (pnew (if 1 > f then 1 else f) (if (if 1 > f then 1 else f) > m then (if 1 > f then 1 else f) else m)).span, cI .i64 (pnew (if 1 > f then 1 else f) (if (if 1 > f then 1 else f) > m then (if 1 > f then 1 else f) else m)).left, cI .i64 (pnew (if 1 > f then 1 else f) (if (if 1 > f then 1 else f) > m then (if 1 > f then 1 else f) else m)).view, cI .i64 (pnew (if 1 > f then 1 else f) (if (if 1 > f then 1 else f) > m then (if 1 > f then 1 else f) else m)).first, cI .i64 (pnew (if 1 > f then 1 else f) (if (if 1 > f then 1 else f) > m then (if 1 > f then 1 else f) else m)).most], 77⟩)]) (by kernel_rfl) ?_
    refine wo_run [3] [1, 2, 7] [21] (l' := [(1, eI .i64 (if (if 1 > f then 1 else f) > m then (if 1 > f then 1 else f) else m)), (2, eV (.slice a len cap)), (7, eL 21 0)]) (H' := [(21, ⟨[cI .i64 (pnew (if 1 > f then 1 else f) (if (if 1 > f then 1 else f) > m then (if 1 > f then 1 else f) else m)).span, cI .i64 (pnew (if 1 > f then 1 else f) (if (if 1 > f then 1 else f) > m then (if 1 > f then 1 else f) else m)).left, cI .i64 (pnew (if 1 > f then 1 else f) (if (if 1 > f then 1 else f) > m then (if 1 > f then 1 else f) else m)).view, cI .i64 (pnew (if 1 > f then 1 else f) (if (if 1 > f then 1 else f) > m then (if 1 > f then 1 else f) else m)).first, cI .i64 (pnew (if 1 > f then 1 else f) (if (if 1 > f then 1 else f) > m then (if 1 > f then 1 else f) else m)).most], 77⟩)]) (by kernel_rfl) ?_
    refine wo_nil ?_
    refine we_then ?_
    refine wc_seq ?_
    refine wc_seq ?_
    refine wc_reg [0] (by kernel_rfl) ?_
    refine wo_run [0] [1, 2, 7, 8] [21] (l' := [(1, eI .i64 (if (if 1 > f then 1 else f) > m then (if 1 > f then 1 else f) else m)), (2, eV (.slice a len cap)), (7, eL 21 0), (8, eI .i64 0)]) (H' := [(21, ⟨[cI .i64 (pnew (if 1 > f then 1 else f) (if (if 1 > f then 1 else f) > m then (if 1 > f then 1 else f) else m)).span, cI .i64 (pnew (if 1 > f then 1 else f) (if (if 1 > f then 1 else f) > m then (if 1 > f then 1 else f) else m)).left, cI .i64 (pnew (if 1 > f then 1 else f) (if (if 1 > f then 1 else f) > m then (if 1 > f then 1 else f) else m)).view, cI .i64 (pnew (if 1 > f then 1 else f) (if (if 1 > f then 1 else f) > m then (if 1 > f then 1 else f) else m)).first, cI .i64 (pnew (if 1 > f then 1 else f) (if (if 1 > f then 1 else f) > m then (if 1 > f then 1 else f) else m)).most], 77⟩)]) (by kernel_rfl) ?_
    refine wo_nil ?_
    refine we_then ?_
    refine wc_block ?_
    refine wc_rest [1, 2, 7, 8] [21] (l' := [(1, eI .i64 (if (if 1 > f then 1 else f) > m then (if 1 > f then 1 else f) else m)), (2, eV (.slice a len cap)), (7, eL 21 0), (8, eI .i64 0)]) (H' := [(21, ⟨[cI .i64 (pnew (if 1 > f then 1 else f) (if (if 1 > f then 1 else f) > m then (if 1 > f then 1 else f) else m)).span, cI .i64 (pnew (if 1 > f then 1 else f) (if (if 1 > f then 1 else f) > m then (if 1 > f then 1 else f) else m)).left, cI .i64 (pnew (if 1 > f then 1 else f) (if (if 1 > f then 1 else f) > m then (if 1 > f then 1 else f) else m)).view, cI .i64 (pnew (if 1 > f then 1 else f) (if (if 1 > f then 1 else f) > m then (if 1 > f then 1 else f) else m)).first, cI .i64 (pnew (if 1 > f then 1 else f) (if (if 1 > f then 1 else f) > m then (if 1 > f then 1 else f) else m)).most], 77⟩)]) (by kernel_rfl) ?_
    refine wc_loop (τ := Pace × Nat) (fun ⟨p, k⟩ => Inv (lo f) (hi f m) p ∧ k ≤ len) (fun ⟨p, k⟩ => len - k) (fun _ => _) (fun ⟨p, k⟩ => [(1, eI .i64 (if (if 1 > f then 1 else f) > m then (if 1 > f then 1 else f) else m)), (2, eV (.slice a len cap)), (7, eL 21 0), (8, eI .i64 ((k : Nat) : Int))]) (fun ⟨p, k⟩ => [(21, ⟨[cI .i64 p.span, cI .i64 p.left, cI .i64 p.view, cI .i64 p.first, cI .i64 p.most], 77⟩)]) (pnew (if 1 > f then 1 else f) (if (if 1 > f then 1 else f) > m then (if 1 > f then 1 else f) else m), 0) (⟨by have := new_inv hf hm; rw [← pnew_lo] at this; exact this, Nat.zero_le _⟩) rfl rfl rfl ?_
    rintro ⟨p, k⟩ hj
    obtain ⟨hI, hk⟩ := hj
    refine wc_seq ?_
    refine wc_seq ?_
    refine wc_reg [0, 1, 2, 3] (by kernel_rfl) ?_
    refine wo_run [0, 1, 2, 3] [1, 2, 7, 8, 25] [21] (l' := [(1, eI .i64 (if (if 1 > f then 1 else f) > m then (if 1 > f then 1 else f) else m)), (2, eV (.slice a len cap)), (7, eL 21 0), (8, eI .i64 ((k : Nat) : Int)), (25, eB (decide (((k : Nat) : Int) < ((len : Nat) : Int))))]) (H' := [(21, ⟨[cI .i64 p.span, cI .i64 p.left, cI .i64 p.view, cI .i64 p.first, cI .i64 p.most], 77⟩)]) (by kernel_rfl) ?_
    refine wo_nil ?_
    refine we_then ?_
    refine wc_cond rfl (fun h2 => ?_) (fun h2 => ?_)
    · replace h2 := of_decide_eq_true h2
      refine wc_skip ?_
      refine we_then ?_
      refine wc_seq ?_
      refine wc_block ?_
      refine wc_seq ?_
      refine wc_reg [0, 1, 2, 3, 4, 5] (by kernel_rfl) ?_
      refine wo_run [0, 1] [1, 2, 7, 8, 28, 29] [21] (l' := [(1, eI .i64 (if (if 1 > f then 1 else f) > m then (if 1 > f then 1 else f) else m)), (2, eV (.slice a len cap)), (7, eL 21 0), (8, eI .i64 ((k : Nat) : Int)), (28, eV (.slice a len cap)), (29, eI .i64 ((k : Nat) : Int))]) (H' := [(21, ⟨[cI .i64 p.span, cI .i64 p.left, cI .i64 p.view, cI .i64 p.first, cI .i64 p.most], 77⟩)]) (by kernel_rfl) ?_
      refine wo_op rfl rfl (ot_rd rfl (rd_index (e := 70) b off 3 k rfl (by kernel_rfl) (by kernel_rfl) rfl rfl ((Int.ofNat_lt.1 h2)) ((hb (Nat.zero_lt_of_lt (Int.ofNat_lt.1 h2))).1))) ?_
      refine wo_run [3] [1, 2, 7, 8, 31] [21] (l' := [(1, eI .i64 (if (if 1 > f then 1 else f) > m then (if 1 > f then 1 else f) else m)), (2, eV (.slice a len cap)), (7, eL 21 0), (8, eI .i64 ((k : Nat) : Int)), (31, eV (.pointer (some ⟨b, (off + k * 3), none⟩)))]) (H' := [(21, ⟨[cI .i64 p.span, cI .i64 p.left, cI .i64 p.view, cI .i64 p.first, cI .i64 p.most], 77⟩)]) (by kernel_rfl) ?_
      refine wo_op rfl rfl (ot_rd rfl (rd_load (v := (sI .i64 (x k).kind)) b (off + k * 3) 0 [cI .i64 (x k).kind, cI .i64 (x k).view, cB (x k).gain] rfl (off + k * 3) rfl rfl ((xI (hb (Nat.zero_lt_of_lt (Int.ofNat_lt.1 h2))).2)) (hc k (Int.ofNat_lt.1 h2)) (okc_one (okc_one (okc_one okc_nil))) (fun _ => rfl) (by kernel_rfl))) ?_
      refine wo_run [5] [1, 2, 7, 8, 33] [21] (l' := [(1, eI .i64 (if (if 1 > f then 1 else f) > m then (if 1 > f then 1 else f) else m)), (2, eV (.slice a len cap)), (7, eL 21 0), (8, eI .i64 ((k : Nat) : Int)), (33, eB ((x k).kind == 0))]) (H' := [(21, ⟨[cI .i64 p.span, cI .i64 p.left, cI .i64 p.view, cI .i64 p.first, cI .i64 p.most], 77⟩)]) (by kernel_rfl) ?_
      refine wo_nil ?_
      refine we_then ?_
      refine wc_cond rfl (fun h3 => ?_) (fun h3 => ?_)
      · replace h3 := eq_of_beq h3
        refine wc_reg [0, 1] (by kernel_rfl) ?_
        refine wo_run [0] [1, 2, 7, 8, 34] [21] (l' := [(1, eI .i64 (if (if 1 > f then 1 else f) > m then (if 1 > f then 1 else f) else m)), (2, eV (.slice a len cap)), (7, eL 21 0), (8, eI .i64 ((k : Nat) : Int)), (34, eL 21 0)]) (H' := [(21, ⟨[cI .i64 p.span, cI .i64 p.left, cI .i64 p.view, cI .i64 p.first, cI .i64 p.most], 77⟩)]) (by kernel_rfl) ?_
        refine wo_ox rfl rfl (ox_callm (τ := Unit) (φ := fun _ => True) [sL 100000 0] [(100000, ⟨[cI .i64 p.span, cI .i64 p.left, cI .i64 p.view, cI .i64 p.first, cI .i64 p.most], 77⟩)] [(100000, 21)] [] [] (fun _ => eB (tick p).2) (fun _ => [(100000, ⟨[cI .i64 (tick p).1.span, cI .i64 (tick p).1.left, cI .i64 (tick p).1.view, cI .i64 (tick p).1.first, cI .i64 (tick p).1.most], 77⟩)]) rfl (by kernel_rfl) rfl Try.func35 (by kernel_rfl) (by kernel_rfl) (by kernel_rfl) (by kernel_rfl) (by kernel_rfl) (by kernel_rfl) (⟨⟨by kernel_rfl, by kernel_rfl, by kernel_rfl⟩, trivial⟩) (fun _ => by kernel_rfl) (fun _ => by kernel_rfl) (fun _ _ => trivial) (fun ρ w _ hh => tick_any p w _ hh)) (fun _ _ _ => ?_)
        refine wo_run [] [1, 2, 7, 8] [21] (l' := [(1, eI .i64 (if (if 1 > f then 1 else f) > m then (if 1 > f then 1 else f) else m)), (2, eV (.slice a len cap)), (7, eL 21 0), (8, eI .i64 ((k : Nat) : Int))]) (H' := [(21, ⟨[cI .i64 (tick p).1.span, cI .i64 (tick p).1.left, cI .i64 (tick p).1.view, cI .i64 (tick p).1.first, cI .i64 (tick p).1.most], 77⟩)]) (by kernel_rfl) ?_
        refine wo_nil ?_
        refine we_block ?_
        refine we_then ?_
        refine wc_reg [0, 1, 2] (by kernel_rfl) ?_
        refine wo_run [0, 1, 2] [1, 2, 7, 8] [21] (l' := [(1, eI .i64 (if (if 1 > f then 1 else f) > m then (if 1 > f then 1 else f) else m)), (2, eV (.slice a len cap)), (7, eL 21 0), (8, eI .i64 (IntKind.wrap .i64 (((k : Nat) : Int) + 1)))]) (H' := [(21, ⟨[cI .i64 (tick p).1.span, cI .i64 (tick p).1.left, cI .i64 (tick p).1.view, cI .i64 (tick p).1.first, cI .i64 (tick p).1.most], 77⟩)]) (by kernel_rfl) ?_
        refine wo_nil ?_
        refine we_rest [1, 2, 7, 8] [21] (l' := [(1, eI .i64 (if (if 1 > f then 1 else f) > m then (if 1 > f then 1 else f) else m)), (2, eV (.slice a len cap)), (7, eL 21 0), (8, eI .i64 (IntKind.wrap .i64 (((k : Nat) : Int) + 1)))]) (H' := [(21, ⟨[cI .i64 (tick p).1.span, cI .i64 (tick p).1.left, cI .i64 (tick p).1.view, cI .i64 (tick p).1.first, cI .i64 (tick p).1.most], 77⟩)]) (by kernel_rfl) (by kernel_rfl) ?_
        rw [show (IntKind.wrap .i64 (((k : Nat) : Int) + 1)) = ((k + 1 : Nat) : Int) from wrap_succ (by simp only [maxLen] at hcap; omega)]
        exact we_round ((tick p).1, k + 1) (⟨tick_inv hI, by omega⟩) (by show len - (k + 1) < len - k; omega) rfl (sub_ofE [1, 2, 7, 8] rfl) (sub_of [21] rfl)
      · replace h3 := ne_of_beq_false h3
        refine wc_rest [1, 2, 7, 8] [21] (l' := [(1, eI .i64 (if (if 1 > f then 1 else f) > m then (if 1 > f then 1 else f) else m)), (2, eV (.slice a len cap)), (7, eL 21 0), (8, eI .i64 ((k : Nat) : Int))]) (H' := [(21, ⟨[cI .i64 p.span, cI .i64 p.left, cI .i64 p.view, cI .i64 p.first, cI .i64 p.most], 77⟩)]) (by kernel_rfl) ?_
        refine wc_draw (n := 12) [] (by kernel_rfl) rfl (sub_of [] (by kernel_rfl)) (fun ρ0 => ?_)
        refine wa_takes (fuel := 7) [0, 1, 2, 6, 7] [1, 2, 7, 8, 36, 37, 38, 42, 43] (listed' := #[true, true, true, false, false, false, true, true, false, false, false, false]) (l' := [(1, eI .i64 (if (if 1 > f then 1 else f) > m then (if 1 > f then 1 else f) else m)), (2, eV (.slice a len cap)), (7, eL 21 0), (8, eI .i64 ((k : Nat) : Int)), (36, eL 21 0), (37, eV (.slice a len cap)), (38, eI .i64 ((k : Nat) : Int)), (42, eV (.slice a len cap)), (43, eI .i64 ((k : Nat) : Int))]) (pk_block (pk_then (pk_then (pk_block (pk_then pk_body))))) rfl (by kernel_rfl) ?_
        refine wa_take 3 (pk_block (pk_then (pk_then (pk_block (pk_then pk_body))))) rfl (by kernel_rfl) rfl rfl (rd_index (e := 70) b off 3 k rfl (by kernel_rfl) (by kernel_rfl) rfl rfl ((Int.ofNat_lt.1 h2)) ((hb (Nat.zero_lt_of_lt (Int.ofNat_lt.1 h2))).1)) ?_
        refine wa_takes (fuel := 5) [4] [1, 2, 7, 8, 36, 40, 42, 43] (listed' := #[true, true, true, true, true, false, true, true, false, false, false, false]) (l' := [(1, eI .i64 (if (if 1 > f then 1 else f) > m then (if 1 > f then 1 else f) else m)), (2, eV (.slice a len cap)), (7, eL 21 0), (8, eI .i64 ((k : Nat) : Int)), (36, eL 21 0), (40, eV (.pointer (some ⟨b, ((off + k * 3) + 1), none⟩))), (42, eV (.slice a len cap)), (43, eI .i64 ((k : Nat) : Int))]) (pk_block (pk_then (pk_then (pk_block (pk_then pk_body))))) rfl (by kernel_rfl) ?_
        refine wa_take 5 (pk_block (pk_then (pk_then (pk_block (pk_then pk_body))))) rfl (by kernel_rfl) rfl rfl (rd_load (v := (sI .i64 (x k).view)) b (off + k * 3) 1 [cI .i64 (x k).kind, cI .i64 (x k).view, cB (x k).gain] rfl ((off + k * 3) + 1) rfl rfl ((xI (hb (Nat.zero_lt_of_lt (Int.ofNat_lt.1 h2))).2)) (hc k (Int.ofNat_lt.1 h2)) (okc_one (okc_one (okc_one okc_nil))) (fun _ => rfl) (by kernel_rfl)) ?_
        refine wa_take 8 (pk_block (pk_then (pk_then (pk_block (pk_then pk_body))))) rfl (by kernel_rfl) rfl rfl (rd_index (e := 70) b off 3 k rfl (by kernel_rfl) (by kernel_rfl) rfl rfl ((Int.ofNat_lt.1 h2)) ((hb (Nat.zero_lt_of_lt (Int.ofNat_lt.1 h2))).1)) ?_
        refine wa_takes (fuel := 2) [9] [1, 2, 7, 8, 36, 41, 45] (listed' := #[true, true, true, true, true, true, true, true, true, true, false, false]) (l' := [(1, eI .i64 (if (if 1 > f then 1 else f) > m then (if 1 > f then 1 else f) else m)), (2, eV (.slice a len cap)), (7, eL 21 0), (8, eI .i64 ((k : Nat) : Int)), (36, eL 21 0), (41, eI .i64 (x k).view), (45, eV (.pointer (some ⟨b, ((off + k * 3) + 2), none⟩)))]) (pk_block (pk_then (pk_then (pk_block (pk_then pk_body))))) rfl (by kernel_rfl) ?_
        refine wa_take 10 (pk_block (pk_then (pk_then (pk_block (pk_then pk_body))))) rfl (by kernel_rfl) rfl rfl (rd_load (v := (sB (x k).gain)) b (off + k * 3) 2 [cI .i64 (x k).kind, cI .i64 (x k).view, cB (x k).gain] rfl ((off + k * 3) + 2) rfl rfl ((xI (hb (Nat.zero_lt_of_lt (Int.ofNat_lt.1 h2))).2)) (hc k (Int.ofNat_lt.1 h2)) (okc_one (okc_one (okc_one okc_nil))) (fun _ => rfl) (by kernel_rfl)) ?_
        refine wa_all [11] (by kernel_rfl) rfl (all1 ?_)
        refine wi_ox rfl rfl (ox_callm (τ := Unit) (φ := fun _ => True) [sL 100000 0, sI .i64 (x k).view, sB (x k).gain] [(100000, ⟨[cI .i64 p.span, cI .i64 p.left, cI .i64 p.view, cI .i64 p.first, cI .i64 p.most], 77⟩)] [(100000, 21)] [] [] (fun _ => eB (enter p ((x k).view) ((x k).gain)).2) (fun _ => [(100000, ⟨[cI .i64 (enter p ((x k).view) ((x k).gain)).1.span, cI .i64 (enter p ((x k).view) ((x k).gain)).1.left, cI .i64 (enter p ((x k).view) ((x k).gain)).1.view, cI .i64 (enter p ((x k).view) ((x k).gain)).1.first, cI .i64 (enter p ((x k).view) ((x k).gain)).1.most], 77⟩)]) rfl (by kernel_rfl) rfl Try.func37 (by kernel_rfl) (by kernel_rfl) (by kernel_rfl) (by kernel_rfl) (by kernel_rfl) (by kernel_rfl) (⟨⟨by kernel_rfl, by kernel_rfl, by kernel_rfl⟩, trivial⟩) (fun _ => by kernel_rfl) (fun _ => by kernel_rfl) (fun _ _ => trivial) (fun ρ w _ hh => enter_any p ((x k).view) ((x k).gain) w _ hh)) (fun _ => (sub_of [] (by kernel_rfl))) (fun _ _ _ => ?_)
        refine wa_done (by kernel_rfl) ?_
        refine we_rest [1, 2, 7, 8] [21] (l' := [(1, eI .i64 (if (if 1 > f then 1 else f) > m then (if 1 > f then 1 else f) else m)), (2, eV (.slice a len cap)), (7, eL 21 0), (8, eI .i64 ((k : Nat) : Int))]) (H' := [(21, ⟨[cI .i64 (enter p ((x k).view) ((x k).gain)).1.span, cI .i64 (enter p ((x k).view) ((x k).gain)).1.left, cI .i64 (enter p ((x k).view) ((x k).gain)).1.view, cI .i64 (enter p ((x k).view) ((x k).gain)).1.first, cI .i64 (enter p ((x k).view) ((x k).gain)).1.most], 77⟩)]) (by kernel_rfl) (by kernel_rfl) ?_
        refine we_block ?_
        refine we_then ?_
        refine wc_reg [0, 1, 2] (by kernel_rfl) ?_
        refine wo_run [0, 1, 2] [1, 2, 7, 8] [21] (l' := [(1, eI .i64 (if (if 1 > f then 1 else f) > m then (if 1 > f then 1 else f) else m)), (2, eV (.slice a len cap)), (7, eL 21 0), (8, eI .i64 (IntKind.wrap .i64 (((k : Nat) : Int) + 1)))]) (H' := [(21, ⟨[cI .i64 (enter p ((x k).view) ((x k).gain)).1.span, cI .i64 (enter p ((x k).view) ((x k).gain)).1.left, cI .i64 (enter p ((x k).view) ((x k).gain)).1.view, cI .i64 (enter p ((x k).view) ((x k).gain)).1.first, cI .i64 (enter p ((x k).view) ((x k).gain)).1.most], 77⟩)]) (by kernel_rfl) ?_
        refine wo_nil ?_
        refine we_rest [1, 2, 7, 8] [21] (l' := [(1, eI .i64 (if (if 1 > f then 1 else f) > m then (if 1 > f then 1 else f) else m)), (2, eV (.slice a len cap)), (7, eL 21 0), (8, eI .i64 (IntKind.wrap .i64 (((k : Nat) : Int) + 1)))]) (H' := [(21, ⟨[cI .i64 (enter p ((x k).view) ((x k).gain)).1.span, cI .i64 (enter p ((x k).view) ((x k).gain)).1.left, cI .i64 (enter p ((x k).view) ((x k).gain)).1.view, cI .i64 (enter p ((x k).view) ((x k).gain)).1.first, cI .i64 (enter p ((x k).view) ((x k).gain)).1.most], 77⟩)]) (by kernel_rfl) (by kernel_rfl) ?_
        rw [show (IntKind.wrap .i64 (((k : Nat) : Int) + 1)) = ((k + 1 : Nat) : Int) from wrap_succ (by simp only [maxLen] at hcap; omega)]
        exact we_round ((enter p ((x k).view) ((x k).gain)).1, k + 1) (⟨enter_inv hI, by omega⟩) (by show len - (k + 1) < len - k; omega) rfl (sub_ofE [1, 2, 7, 8] rfl) (sub_of [21] rfl)
    · replace h2 := of_decide_eq_false h2
      refine wc_exit ?_
      refine we_then_exit ?_
      refine we_then_exit ?_
      refine we_block_exit ?_
      refine we_then ?_
      refine wc_seq ?_
      refine wc_seq ?_
      refine wc_reg [0] (by kernel_rfl) ?_
      refine wo_run [0] [1, 7, 9] [21] (l' := [(1, eI .i64 (if (if 1 > f then 1 else f) > m then (if 1 > f then 1 else f) else m)), (7, eL 21 0), (9, eI .i64 0)]) (H' := [(21, ⟨[cI .i64 p.span, cI .i64 p.left, cI .i64 p.view, cI .i64 p.first, cI .i64 p.most], 77⟩)]) (by kernel_rfl) ?_
      refine wo_nil ?_
      refine we_then ?_
      refine wc_block ?_
      refine wc_rest [1, 7, 9] [21] (l' := [(1, eI .i64 (if (if 1 > f then 1 else f) > m then (if 1 > f then 1 else f) else m)), (7, eL 21 0), (9, eI .i64 0)]) (H' := [(21, ⟨[cI .i64 p.span, cI .i64 p.left, cI .i64 p.view, cI .i64 p.first, cI .i64 p.most], 77⟩)]) (by kernel_rfl) ?_
      refine wc_loop (τ := Pace × Nat) (fun ⟨q, j⟩ => Inv (lo f) (hi f m) q ∧ ((j : Nat) : Int) + q.left ≤ hi f m) (fun ⟨q, j⟩ => ((if (if 1 > f then 1 else f) > m then (if 1 > f then 1 else f) else m)).toNat - j) (fun _ => _) (fun ⟨q, j⟩ => [(1, eI .i64 (if (if 1 > f then 1 else f) > m then (if 1 > f then 1 else f) else m)), (7, eL 21 0), (9, eI .i64 ((j : Nat) : Int))]) (fun ⟨q, j⟩ => [(21, ⟨[cI .i64 q.span, cI .i64 q.left, cI .i64 q.view, cI .i64 q.first, cI .i64 q.most], 77⟩)]) (p, 0) (⟨hI, by have := hI.left2; have := hI.span2; omega⟩) rfl rfl rfl ?_
      rintro ⟨q, j⟩ hj
      obtain ⟨hJ, hl⟩ := hj
      refine wc_seq ?_
      refine wc_seq ?_
      refine wc_reg [0, 1, 2] (by kernel_rfl) ?_
      refine wo_run [0, 1, 2] [1, 7, 9, 50] [21] (l' := [(1, eI .i64 (if (if 1 > f then 1 else f) > m then (if 1 > f then 1 else f) else m)), (7, eL 21 0), (9, eI .i64 ((j : Nat) : Int)), (50, eB (decide (((j : Nat) : Int) < (if (if 1 > f then 1 else f) > m then (if 1 > f then 1 else f) else m))))]) (H' := [(21, ⟨[cI .i64 q.span, cI .i64 q.left, cI .i64 q.view, cI .i64 q.first, cI .i64 q.most], 77⟩)]) (by kernel_rfl) ?_
      refine wo_nil ?_
      refine we_then ?_
      refine wc_cond rfl (fun h4 => ?_) (fun h4 => ?_)
      · replace h4 := of_decide_eq_true h4
        refine wc_skip ?_
        refine we_then ?_
        refine wc_seq ?_
        refine wc_block ?_
        refine wc_seq ?_
        refine wc_reg [0, 1] (by kernel_rfl) ?_
        refine wo_run [0] [1, 7, 9, 53] [21] (l' := [(1, eI .i64 (if (if 1 > f then 1 else f) > m then (if 1 > f then 1 else f) else m)), (7, eL 21 0), (9, eI .i64 ((j : Nat) : Int)), (53, eL 21 0)]) (H' := [(21, ⟨[cI .i64 q.span, cI .i64 q.left, cI .i64 q.view, cI .i64 q.first, cI .i64 q.most], 77⟩)]) (by kernel_rfl) ?_
        refine wo_ox rfl rfl (ox_callm (τ := Unit) (φ := fun _ => True) [sL 100000 0] [(100000, ⟨[cI .i64 q.span, cI .i64 q.left, cI .i64 q.view, cI .i64 q.first, cI .i64 q.most], 77⟩)] [(100000, 21)] [] [] (fun _ => eB (tick q).2) (fun _ => [(100000, ⟨[cI .i64 (tick q).1.span, cI .i64 (tick q).1.left, cI .i64 (tick q).1.view, cI .i64 (tick q).1.first, cI .i64 (tick q).1.most], 77⟩)]) rfl (by kernel_rfl) rfl Try.func35 (by kernel_rfl) (by kernel_rfl) (by kernel_rfl) (by kernel_rfl) (by kernel_rfl) (by kernel_rfl) (⟨⟨by kernel_rfl, by kernel_rfl, by kernel_rfl⟩, trivial⟩) (fun _ => by kernel_rfl) (fun _ => by kernel_rfl) (fun _ _ => trivial) (fun ρ w _ hh => tick_any q w _ hh)) (fun _ _ _ => ?_)
        refine wo_run [] [1, 7, 9, 54] [21] (l' := [(1, eI .i64 (if (if 1 > f then 1 else f) > m then (if 1 > f then 1 else f) else m)), (7, eL 21 0), (9, eI .i64 ((j : Nat) : Int)), (54, eB (tick q).2)]) (H' := [(21, ⟨[cI .i64 (tick q).1.span, cI .i64 (tick q).1.left, cI .i64 (tick q).1.view, cI .i64 (tick q).1.first, cI .i64 (tick q).1.most], 77⟩)]) (by kernel_rfl) ?_
        refine wo_nil ?_
        refine we_then ?_
        refine wc_cond rfl (fun h5 => ?_) (fun h5 => ?_)
        · refine wc_seq ?_
          refine wc_reg [0] (by kernel_rfl) ?_
          refine wo_run [0] [6] [] (l' := [(6, eB true)]) (H' := []) (by kernel_rfl) ?_
          refine wo_nil ?_
          refine we_then ?_
          refine wc_ret ?_
          refine we_block_ret ?_
          refine we_then_ret ?_
          refine we_then_ret ?_
          refine we_block_ret ?_
          refine we_then_ret ?_
          refine we_ret (.inl rfl) (v := eB true) (by kernel_rfl) ?_
          intro ρ' w' hf'
          refine ⟨?_, hf'.below noS⟩
          rfl
        · refine wc_skip ?_
          refine we_block ?_
          refine we_then ?_
          refine wc_reg [0, 1, 2] (by kernel_rfl) ?_
          refine wo_run [0, 1, 2] [1, 7, 9] [21] (l' := [(1, eI .i64 (if (if 1 > f then 1 else f) > m then (if 1 > f then 1 else f) else m)), (7, eL 21 0), (9, eI .i64 (IntKind.wrap .i64 (((j : Nat) : Int) + 1)))]) (H' := [(21, ⟨[cI .i64 (tick q).1.span, cI .i64 (tick q).1.left, cI .i64 (tick q).1.view, cI .i64 (tick q).1.first, cI .i64 (tick q).1.most], 77⟩)]) (by kernel_rfl) ?_
          refine wo_nil ?_
          refine we_rest [1, 7, 9] [21] (l' := [(1, eI .i64 (if (if 1 > f then 1 else f) > m then (if 1 > f then 1 else f) else m)), (7, eL 21 0), (9, eI .i64 (IntKind.wrap .i64 (((j : Nat) : Int) + 1)))]) (H' := [(21, ⟨[cI .i64 (tick q).1.span, cI .i64 (tick q).1.left, cI .i64 (tick q).1.view, cI .i64 (tick q).1.first, cI .i64 (tick q).1.most], 77⟩)]) (by kernel_rfl) (by kernel_rfl) ?_
          rw [show (IntKind.wrap .i64 (((j : Nat) : Int) + 1)) = ((j + 1 : Nat) : Int) from wrap_succ (by omega)]
          exact we_round ((tick q).1, j + 1) (⟨tick_inv hJ, by have := tick_no hJ h5; omega⟩) (by show ((if (if 1 > f then 1 else f) > m then (if 1 > f then 1 else f) else m)).toNat - (j + 1) < ((if (if 1 > f then 1 else f) > m then (if 1 > f then 1 else f) else m)).toNat - j; omega) rfl (sub_ofE [1, 7, 9] rfl) (sub_of [21] rfl)
      · replace h4 := of_decide_eq_false h4
        refine wc_exit ?_
        refine we_then_exit ?_
        refine we_then_exit ?_
        refine we_block_exit ?_
        refine we_then ?_
        refine wc_seq ?_
        refine wc_reg [0] (by kernel_rfl) ?_
        refine wo_run [0] [6] [] (l' := [(6, eB false)]) (H' := []) (by kernel_rfl) ?_
        refine wo_nil ?_
        refine we_then ?_
        refine wc_ret ?_
        refine we_ret (.inl rfl) (v := eB false) (by kernel_rfl) ?_
        exfalso
        have e : hi f m = (if (if 1 > f then 1 else f) > m then (if 1 > f then 1 else f) else m) := rfl
        have := hJ.left1
        rw [← e] at h4
        omega

end Go.Proofs.Ytckhcmdjgkoocaa.Pc
