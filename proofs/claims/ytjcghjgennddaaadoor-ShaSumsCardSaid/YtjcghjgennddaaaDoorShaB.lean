/- SHA-256: the walks. -/
import Derived.Test.YtjcghjgennddaaaDoorProg
import Derived.KernelRfl
import Derived.Test.YtjcghjgennddaaaDoorShaA2
import Derived.Test.YtjcghjgennddaaaDoorSxNat
namespace Go.Proofs.YtjcghjgennddaaaDoor
open Go.RowKit Go.Sx
set_option linter.unusedVariables false
set_option linter.unusedSimpArgs false

theorem KAt.at {C : Ctx} {ρ : Nat → Nat} {H : Heap} {w0 w : World} (hK : KAt w0) (h : At C ρ H w) (hX : C.X gK) (hE : C.E = w0) : KAt w := by
  subst hE
  exact ⟨h.cells hX hK.cells, (h.ag _ hX).1⟩
theorem seg_len2 {xs ys : List Int} {i : Nat} (h : i + ys.length ≤ xs.length) : (xs.take i ++ ys ++ xs.drop (i + ys.length)).length = xs.length := by simp; omega
theorem okB_seg {xs ys : List Int} (hx : OkB xs) (hy : OkB ys) {i j : Nat} : OkB (xs.take i ++ ys ++ xs.drop j) := okB_app (okB_app (okB_take hx _) hy) (okB_drop hx _)
theorem tmod0 {x : Int} : Int.tmod (IntKind.wrap .u64 x) 64 = IntKind.wrap .u64 x % 64 := Int.tmod_eq_emod_of_nonneg (u64_lt x).1
theorem chunk_yes {s : HS} {L : List Int} {m : Nat} (hch : wr shaK s L = chunk shaK s L) (hml : L.length = m) (h : Int.tmod (IntKind.wrap .u64 (s.n + ((m : Nat) : Int))) 64 = 0) :
    ([.ints .u32 8 (comp shaK s.h (s.rest.take (s.n % 64).toNat ++ L ++ s.rest.drop ((s.n % 64).toNat + L.length))), .ints .u8 64 (s.rest.take (s.n % 64).toNat ++ L ++ s.rest.drop ((s.n % 64).toNat + L.length)), cI .u64 (IntKind.wrap .u64 (s.n + ((m : Nat) : Int)))] : List Chunk) =
      [.ints .u32 8 (wr shaK s L).h, .ints .u8 64 (wr shaK s L).rest, cI .u64 (wr shaK s L).n] := by
  subst hml
  rw [tmod0] at h
  rw [hch]; unfold chunk; rw [if_pos h]
theorem chunk_no {s : HS} {L : List Int} {m : Nat} (hch : wr shaK s L = chunk shaK s L) (hml : L.length = m) (h : ¬ Int.tmod (IntKind.wrap .u64 (s.n + ((m : Nat) : Int))) 64 = 0) :
    ([.ints .u32 8 s.h, .ints .u8 64 (s.rest.take (s.n % 64).toNat ++ L ++ s.rest.drop ((s.n % 64).toNat + L.length)), cI .u64 (IntKind.wrap .u64 (s.n + ((m : Nat) : Int)))] : List Chunk) =
      [.ints .u32 8 (wr shaK s L).h, .ints .u8 64 (wr shaK s L).rest, cI .u64 (wr shaK s L).n] := by
  subst hml
  rw [tmod0] at h
  rw [hch]; unfold chunk; rw [if_neg h]
theorem at_nat {s : HS} (hs : s.ok) : IntKind.wrap .i64 (Int.tmod s.n 64) = (((s.n % 64).toNat : Nat) : Int) := by
  have h0 := hs.n0
  rw [Int.tmod_eq_emod_of_nonneg h0, IntKind.wrap_i64]
  omega


set_option maxRecDepth 100000 in
set_option maxHeartbeats 4000000 in
theorem write_any (s0 : HS) (hs0 : s0.ok) (a0 : Option Addr) (len0 cap0 b off0 : Nat) (L0 : List Int) (hL0 : OkB L0) (w : World) (ρ : Nat → Nat) (hb : BAt w (fun i => i ≠ ρ 100000) a0 len0 cap0 b off0 L0) (hH : HeapAt ρ [(100000, ⟨[.ints .u32 8 s0.h, .ints .u8 64 s0.rest, cI .u64 s0.n], 88⟩)] w) (hK : KAt w) (hK2 : ρ 100000 ≠ gK) :
    Calls Tryd.prog 24 ([sL 100000 0, sV (.slice a0 len0 cap0)].map (SV.conc ρ)).toArray w fun r' w' => ∃ (x0 : Unit) (σ : Nat → Nat), True ∧ r' = .returned (EV.conc σ (.t [])) ∧ Ran ρ [(100000, ⟨[.ints .u32 8 s0.h, .ints .u8 64 s0.rest, cI .u64 s0.n], 88⟩)] [(100000, ⟨[.ints .u32 8 ((wr shaK s0 L0).h), .ints .u8 64 ((wr shaK s0 L0).rest), cI .u64 (wr shaK s0 L0).n], 88⟩)] w w' σ := by
  have hbX0 := hb.enter (Y := fun i => i < w.heap.size ∧ ¬ ∃ k b, getH ([(100000, ⟨[.ints .u32 8 s0.h, .ints .u8 64 s0.rest, cI .u64 s0.n], 88⟩)]) k = some b ∧ ρ k = i) (fun i hi h => xI1 i hi h)
  refine calls_enter (vs := [sL 100000 0, sV (.slice a0 len0 cap0)]) (N := 42) [(100000, ⟨[.ints .u32 8 s0.h, .ints .u8 64 s0.rest, cI .u64 s0.n], 88⟩)] ρ Tryd.func24 rfl rfl (Nat.le_of_ble_eq_true rfl) (okv_a (okv_a (okv_nil))) hH.hp hH.inj ?_ _ rfl
  refine wc_block ?_
  refine wc_rest [0, 1] [100000] (l' := [(0, eL 100000 0), (1, eV (.slice a0 len0 cap0))]) (H' := [(100000, ⟨[.ints .u32 8 s0.h, .ints .u8 64 s0.rest, cI .u64 s0.n], 88⟩)]) (by kernel_rfl) ?_
  refine wc_loop (τ := HS × Option Addr × Nat × Nat × Nat × List Int) (fun ⟨s, a, len, cap, off, L⟩ => s.ok ∧ OkB L ∧ BAt w (fun i => i < w.heap.size ∧ ¬ ∃ k b, getH ([(100000, ⟨[.ints .u32 8 s0.h, .ints .u8 64 s0.rest, cI .u64 s0.n], 88⟩)]) k = some b ∧ ρ k = i) a len cap b off L ∧ wr shaK s L = wr shaK s0 L0) (fun ⟨s, a, len, cap, off, L⟩ => len) (fun _ => _) (fun ⟨s, a, len, cap, off, L⟩ => [(0, eL 100000 0), (1, eV (.slice a len cap))]) (fun ⟨s, a, len, cap, off, L⟩ => [(100000, ⟨[.ints .u32 8 s.h, .ints .u8 64 s.rest, cI .u64 s.n], 88⟩)]) (s0, a0, len0, cap0, off0, L0) (⟨hs0, hL0, hbX0, rfl⟩) rfl rfl rfl ?_
  rintro ⟨s, a, len, cap, off, L⟩ hj
  obtain ⟨hs, hL, hbX, hw⟩ := hj
  refine wc_seq ?_
  refine wc_seq ?_
  refine wc_reg [0, 1, 2] (by kernel_rfl) ?_
  refine wo_run [0, 1, 2] [0, 1, 8] [100000] (l' := [(0, eL 100000 0), (1, eV (.slice a len cap)), (8, eB (decide (((len : Nat) : Int) > 0)))]) (H' := [(100000, ⟨[.ints .u32 8 s.h, .ints .u8 64 s.rest, cI .u64 s.n], 88⟩)]) (by kernel_rfl) ?_
  refine wo_nil ?_
  refine we_then ?_
  refine wc_cond rfl (fun h1 => ?_) (fun h1 => ?_)
  · replace h1 := of_decide_eq_true h1
    refine wc_skip ?_
    refine we_then ?_
    refine wc_block ?_
    refine wc_seq ?_
    refine wc_reg [0, 1, 2, 3, 4, 5, 6] (by kernel_rfl) ?_
    refine wo_run [0, 1, 2, 3, 4] [0, 1, 13] [100000] (l' := [(0, eL 100000 0), (1, eV (.slice a len cap)), (13, eI .u64 (Int.tmod s.n 64))]) (H' := [(100000, ⟨[.ints .u32 8 s.h, .ints .u8 64 s.rest, cI .u64 s.n], 88⟩)]) (by kernel_rfl) ?_
    refine wo_op rfl rfl (ot_rd rfl (rd_recast (e := eI .i64 (IntKind.wrap .i64 (Int.tmod s.n 64))) (eI .i64 (((s.n % 64).toNat : Nat) : Int)) (by kernel_rfl) (congrArg (fun z => eI .i64 z) (at_nat hs)))) ?_
    refine wo_run [6] [0, 1, 4] [100000] (l' := [(0, eL 100000 0), (1, eV (.slice a len cap)), (4, eI .i64 (((s.n % 64).toNat : Nat) : Int))]) (H' := [(100000, ⟨[.ints .u32 8 s.h, .ints .u8 64 s.rest, cI .u64 s.n], 88⟩)]) (by kernel_rfl) ?_
    refine wo_nil ?_
    refine we_then ?_
    refine wc_seq ?_
    refine wc_reg [0, 1, 2, 3, 4, 5, 6, 7] (by kernel_rfl) ?_
    refine wo_run [0, 1, 2, 3] [0, 1, 17, 18] [100000] (l' := [(0, eL 100000 0), (1, eV (.slice a len cap)), (17, eL 100000 8), (18, eI .i64 (((s.n % 64).toNat : Nat) : Int))]) (H' := [(100000, ⟨[.ints .u32 8 s.h, .ints .u8 64 s.rest, cI .u64 s.n], 88⟩)]) (by kernel_rfl) ?_
    refine wo_op rfl rfl (ot_rd rfl (rd_sliceA (n := 64) (e := 5) (i := ((s.n % 64).toNat)) (j := 64) (size := 1) (vl := (some (.int .i64 (((s.n % 64).toNat : Nat) : Int)))) (vh := none) rfl (by kernel_rfl) (by kernel_rfl) rfl rfl rfl (fun w => sb_l w false 64 64 .i64 (rfl) (by first | assumption | omega)) (.inr (by omega)))) ?_
    refine wo_run [5] [0, 1, 19, 20] [100000] (l' := [(0, eL 100000 0), (1, eV (.slice a len cap)), (19, .s (.a (.ls 100000 (8 + ((s.n % 64).toNat) * 1) (64 - ((s.n % 64).toNat)) (64 - ((s.n % 64).toNat))))), (20, eV (.slice a len cap))]) (H' := [(100000, ⟨[.ints .u32 8 s.h, .ints .u8 64 s.rest, cI .u64 s.n], 88⟩)]) (by kernel_rfl) ?_
    refine wo_op rfl rfl (ot_copy (e := 5) (b := ⟨[.ints .u32 8 s.h, .ints .u8 64 s.rest, cI .u64 s.n], 88⟩) ((L.take (min len (64 - ((s.n % 64).toNat)))).map (Value.int .u8)) [.ints .u32 8 s.h, .ints .u8 64 (s.rest.take ((s.n % 64).toNat) ++ (L.take (min len (64 - ((s.n % 64).toNat)))) ++ s.rest.drop (((s.n % 64).toNat) + (L.take (min len (64 - ((s.n % 64).toNat)))).length)), cI .u64 s.n] rfl rfl (by kernel_rfl) (by kernel_rfl) rfl rfl (min len (64 - ((s.n % 64).toNat))) (by rw [List.length_map, List.length_take, hbX.ln]; exact Nat.min_eq_left (Nat.min_le_left _ _)) rfl (src_bat (P := Tryd.prog) rfl hbX (by omega) (Nat.min_le_left _ _)) (fun ρ => seg_len (off := _) [.ints .u32 8 s.h] rfl (okc_ints (hs.hl) (okc_nil)) (hs.rl) (by rw [List.length_map]; simp only [sz]; have := (show ((s.n % 64).toNat) + (L.take (min len (64 - ((s.n % 64).toNat)))).length ≤ 64 from by rw [List.length_take, hbX.ln]; omega); omega) ρ) (bytes_one _) (okc_ints (hs.hl) (okc_ints (by rw [seg_len2 (by rw [List.length_take, hbX.ln, hs.rl]; omega)]; exact hs.rl) (okc_one (okc_nil)))) (fun ρ => by rw [List.length_map]; exact seg_put (ys := (L.take (min len (64 - ((s.n % 64).toNat))))) (i := ((s.n % 64).toNat)) [.ints .u32 8 s.h] rfl (okc_ints (hs.hl) (okc_nil)) (hs.rl) (show ((s.n % 64).toNat) + (L.take (min len (64 - ((s.n % 64).toNat)))).length ≤ 64 from by rw [List.length_take, hbX.ln]; omega) (by simp only [sz]; omega) ρ rfl)) ?_
    refine wo_run [7] [0, 1, 5] [100000] (l' := [(0, eL 100000 0), (1, eV (.slice a len cap)), (5, eI .i64 ((min len (64 - ((s.n % 64).toNat)) : Nat) : Int))]) (H' := [(100000, ⟨[.ints .u32 8 s.h, .ints .u8 64 (s.rest.take ((s.n % 64).toNat) ++ (L.take (min len (64 - ((s.n % 64).toNat)))) ++ s.rest.drop (((s.n % 64).toNat) + (L.take (min len (64 - ((s.n % 64).toNat)))).length)), cI .u64 s.n], 88⟩)]) (by kernel_rfl) ?_
    refine wo_nil ?_
    refine we_then ?_
    refine wc_seq ?_
    have hm : (min len (64 - (s.n % 64).toNat)) ≤ len := Nat.min_le_left _ _
    refine wc_reg [0, 1, 2, 3] (by kernel_rfl) ?_
    refine wo_run [0, 1] [0, 5, 22, 23] [100000] (l' := [(0, eL 100000 0), (5, eI .i64 ((min len (64 - ((s.n % 64).toNat)) : Nat) : Int)), (22, eV (.slice a len cap)), (23, eI .i64 ((min len (64 - ((s.n % 64).toNat)) : Nat) : Int))]) (H' := [(100000, ⟨[.ints .u32 8 s.h, .ints .u8 64 (s.rest.take ((s.n % 64).toNat) ++ (L.take (min len (64 - ((s.n % 64).toNat)))) ++ s.rest.drop (((s.n % 64).toNat) + (L.take (min len (64 - ((s.n % 64).toNat)))).length)), cI .u64 s.n], 88⟩)]) (by kernel_rfl) ?_
    refine wo_op rfl rfl (ot_rd rfl (rd_sliceV (e := 5) (i := (min len (64 - ((s.n % 64).toNat)))) (j := len) (size := 1) (vl := (some (.int .i64 ((min len (64 - ((s.n % 64).toNat)) : Nat) : Int)))) (vh := none) (ad' := (if cap = (min len (64 - ((s.n % 64).toNat))) then a else a.map (·.add ((min len (64 - ((s.n % 64).toNat))) * 1)))) rfl (by kernel_rfl) (by kernel_rfl) rfl rfl rfl (fun w => sb_l w true len cap .i64 (rfl) (by first | assumption | omega)) (rfl))) ?_
    refine wo_run [3] [0, 1, 5] [100000] (l' := [(0, eL 100000 0), (1, eV (.slice (if cap = (min len (64 - ((s.n % 64).toNat))) then a else a.map (·.add ((min len (64 - ((s.n % 64).toNat))) * 1))) (len - (min len (64 - ((s.n % 64).toNat)))) (cap - (min len (64 - ((s.n % 64).toNat)))))), (5, eI .i64 ((min len (64 - ((s.n % 64).toNat)) : Nat) : Int))]) (H' := [(100000, ⟨[.ints .u32 8 s.h, .ints .u8 64 (s.rest.take ((s.n % 64).toNat) ++ (L.take (min len (64 - ((s.n % 64).toNat)))) ++ s.rest.drop (((s.n % 64).toNat) + (L.take (min len (64 - ((s.n % 64).toNat)))).length)), cI .u64 s.n], 88⟩)]) (by kernel_rfl) ?_
    refine wo_nil ?_
    refine we_then ?_
    refine wc_seq ?_
    refine wc_reg [0, 1, 2, 3, 4, 5, 6, 7, 8, 9] (by kernel_rfl) ?_
    refine wo_run [0, 1, 2, 3, 4] [0, 1, 25, 28, 29] [100000] (l' := [(0, eL 100000 0), (1, eV (.slice (if cap = (min len (64 - ((s.n % 64).toNat))) then a else a.map (·.add ((min len (64 - ((s.n % 64).toNat))) * 1))) (len - (min len (64 - ((s.n % 64).toNat)))) (cap - (min len (64 - ((s.n % 64).toNat)))))), (25, eL 100000 0), (28, eI .u64 s.n), (29, eI .i64 ((min len (64 - ((s.n % 64).toNat)) : Nat) : Int))]) (H' := [(100000, ⟨[.ints .u32 8 s.h, .ints .u8 64 (s.rest.take ((s.n % 64).toNat) ++ (L.take (min len (64 - ((s.n % 64).toNat)))) ++ s.rest.drop (((s.n % 64).toNat) + (L.take (min len (64 - ((s.n % 64).toNat)))).length)), cI .u64 s.n], 88⟩)]) (by kernel_rfl) ?_
    refine wo_op rfl rfl (ot_rd rfl (rd_recast (e := eI .u64 (IntKind.wrap .u64 ((min len (64 - ((s.n % 64).toNat)) : Nat) : Int))) (eI .u64 ((min len (64 - ((s.n % 64).toNat)) : Nat) : Int)) (by kernel_rfl) (congrArg (fun z => eI .u64 z) (w_nat_u64 (by omega))))) ?_
    refine wo_run [6, 7, 8, 9] [0, 1] [100000] (l' := [(0, eL 100000 0), (1, eV (.slice (if cap = (min len (64 - ((s.n % 64).toNat))) then a else a.map (·.add ((min len (64 - ((s.n % 64).toNat))) * 1))) (len - (min len (64 - ((s.n % 64).toNat)))) (cap - (min len (64 - ((s.n % 64).toNat))))))]) (H' := [(100000, ⟨[.ints .u32 8 s.h, .ints .u8 64 (s.rest.take ((s.n % 64).toNat) ++ (L.take (min len (64 - ((s.n % 64).toNat)))) ++ s.rest.drop (((s.n % 64).toNat) + (L.take (min len (64 - ((s.n % 64).toNat)))).length)), cI .u64 (IntKind.wrap .u64 (s.n + ((min len (64 - ((s.n % 64).toNat)) : Nat) : Int)))], 88⟩)]) (by kernel_rfl) ?_
    refine wo_nil ?_
    refine we_then ?_
    refine wc_seq ?_
    refine wc_reg [0, 1, 2, 3, 4, 5] (by kernel_rfl) ?_
    refine wo_run [0, 1, 2, 3, 4, 5] [0, 1, 39] [100000] (l' := [(0, eL 100000 0), (1, eV (.slice (if cap = (min len (64 - ((s.n % 64).toNat))) then a else a.map (·.add ((min len (64 - ((s.n % 64).toNat))) * 1))) (len - (min len (64 - ((s.n % 64).toNat)))) (cap - (min len (64 - ((s.n % 64).toNat)))))), (39, eB ((Int.tmod (IntKind.wrap .u64 (s.n + ((min len (64 - ((s.n % 64).toNat)) : Nat) : Int))) 64) == 0))]) (H' := [(100000, ⟨[.ints .u32 8 s.h, .ints .u8 64 (s.rest.take ((s.n % 64).toNat) ++ (L.take (min len (64 - ((s.n % 64).toNat)))) ++ s.rest.drop (((s.n % 64).toNat) + (L.take (min len (64 - ((s.n % 64).toNat)))).length)), cI .u64 (IntKind.wrap .u64 (s.n + ((min len (64 - ((s.n % 64).toNat)) : Nat) : Int)))], 88⟩)]) (by kernel_rfl) ?_
    refine wo_nil ?_
    refine we_then ?_
    refine wc_cond rfl (fun h2 => ?_) (fun h2 => ?_)
    · replace h2 := eq_of_beq h2
      refine wc_reg [0, 1] (by kernel_rfl) ?_
      refine wo_run [0] [0, 1, 40] [100000] (l' := [(0, eL 100000 0), (1, eV (.slice (if cap = (min len (64 - ((s.n % 64).toNat))) then a else a.map (·.add ((min len (64 - ((s.n % 64).toNat))) * 1))) (len - (min len (64 - ((s.n % 64).toNat)))) (cap - (min len (64 - ((s.n % 64).toNat)))))), (40, eL 100000 0)]) (H' := [(100000, ⟨[.ints .u32 8 s.h, .ints .u8 64 (s.rest.take ((s.n % 64).toNat) ++ (L.take (min len (64 - ((s.n % 64).toNat)))) ++ s.rest.drop (((s.n % 64).toNat) + (L.take (min len (64 - ((s.n % 64).toNat)))).length)), cI .u64 (IntKind.wrap .u64 (s.n + ((min len (64 - ((s.n % 64).toNat)) : Nat) : Int)))], 88⟩)]) (by kernel_rfl) ?_
      refine wo_ox rfl rfl (ox_callm (τ := Unit) (φ := fun _ => True) [sL 100000 0] [(100000, ⟨[.ints .u32 8 s.h, .ints .u8 64 (s.rest.take ((s.n % 64).toNat) ++ (L.take (min len (64 - ((s.n % 64).toNat)))) ++ s.rest.drop (((s.n % 64).toNat) + (L.take (min len (64 - ((s.n % 64).toNat)))).length)), cI .u64 (IntKind.wrap .u64 (s.n + ((min len (64 - ((s.n % 64).toNat)) : Nat) : Int)))], 88⟩)] [(100000, 100000)] [] [] (fun _ => .t []) (fun _ => [(100000, ⟨[.ints .u32 8 (comp shaK s.h (s.rest.take ((s.n % 64).toNat) ++ (L.take (min len (64 - ((s.n % 64).toNat)))) ++ s.rest.drop (((s.n % 64).toNat) + (L.take (min len (64 - ((s.n % 64).toNat)))).length))), .ints .u8 64 (s.rest.take ((s.n % 64).toNat) ++ (L.take (min len (64 - ((s.n % 64).toNat)))) ++ s.rest.drop (((s.n % 64).toNat) + (L.take (min len (64 - ((s.n % 64).toNat)))).length)), cI .u64 (IntKind.wrap .u64 (s.n + ((min len (64 - ((s.n % 64).toNat)) : Nat) : Int)))], 88⟩)]) rfl (by kernel_rfl) rfl Tryd.func46 (by kernel_rfl) (by kernel_rfl) (by kernel_rfl) (by kernel_rfl) (by kernel_rfl) (by kernel_rfl) (⟨⟨by kernel_rfl, by kernel_rfl, by kernel_rfl⟩, trivial⟩) (fun _ => by kernel_rfl) (fun _ => by kernel_rfl) (fun _ _ => okv_nil) (fun ρ w h hh => block_any s.h (s.rest.take ((s.n % 64).toNat) ++ (L.take (min len (64 - ((s.n % 64).toNat)))) ++ s.rest.drop (((s.n % 64).toNat) + (L.take (min len (64 - ((s.n % 64).toNat)))).length)) (IntKind.wrap .u64 (s.n + ((min len (64 - ((s.n % 64).toNat)) : Nat) : Int))) (hs.hl) (by rw [seg_len2 (by rw [List.length_take, hbX.ln, hs.rl]; omega)]; exact hs.rl) (okB_seg hs.rb (okB_take hL _)) w _ hh (hK.at h (xI1 _ (fun e => hK2 e.symm) hK.lt) rfl) (fun e => h.own 100000 _ rfl (by rw [show ρ 100000 = gK from e]; exact xI1 _ (fun e => hK2 e.symm) hK.lt)))) (fun _ _ _ => ?_)
      refine wo_run [] [0, 1] [100000] (l' := [(0, eL 100000 0), (1, eV (.slice (if cap = (min len (64 - ((s.n % 64).toNat))) then a else a.map (·.add ((min len (64 - ((s.n % 64).toNat))) * 1))) (len - (min len (64 - ((s.n % 64).toNat)))) (cap - (min len (64 - ((s.n % 64).toNat))))))]) (H' := [(100000, ⟨[.ints .u32 8 (comp shaK s.h (s.rest.take ((s.n % 64).toNat) ++ (L.take (min len (64 - ((s.n % 64).toNat)))) ++ s.rest.drop (((s.n % 64).toNat) + (L.take (min len (64 - ((s.n % 64).toNat)))).length))), .ints .u8 64 (s.rest.take ((s.n % 64).toNat) ++ (L.take (min len (64 - ((s.n % 64).toNat)))) ++ s.rest.drop (((s.n % 64).toNat) + (L.take (min len (64 - ((s.n % 64).toNat)))).length)), cI .u64 (IntKind.wrap .u64 (s.n + ((min len (64 - ((s.n % 64).toNat)) : Nat) : Int)))], 88⟩)]) (by kernel_rfl) ?_
      refine wo_nil ?_
      refine we_block ?_
      have hch := wr_chunk shaK (L.take (min len (64 - (s.n % 64).toNat))) hs (okB_take hL _) (by rw [List.length_take, hbX.ln]; omega) (by rw [List.length_take, hbX.ln]; omega)
      have hml : (L.take (min len (64 - (s.n % 64).toNat))).length = (min len (64 - (s.n % 64).toNat)) := by rw [List.length_take, hbX.ln]; omega
      have hq := chunk_yes hch hml h2
      refine we_rest [0, 1] [100000] (l' := [(0, eL 100000 0), (1, eV (.slice (if cap = (min len (64 - ((s.n % 64).toNat))) then a else a.map (·.add ((min len (64 - ((s.n % 64).toNat))) * 1))) (len - (min len (64 - ((s.n % 64).toNat)))) (cap - (min len (64 - ((s.n % 64).toNat))))))]) (H' := [(100000, ⟨[.ints .u32 8 (comp shaK s.h (s.rest.take ((s.n % 64).toNat) ++ (L.take (min len (64 - ((s.n % 64).toNat)))) ++ s.rest.drop (((s.n % 64).toNat) + (L.take (min len (64 - ((s.n % 64).toNat)))).length))), .ints .u8 64 (s.rest.take ((s.n % 64).toNat) ++ (L.take (min len (64 - ((s.n % 64).toNat)))) ++ s.rest.drop (((s.n % 64).toNat) + (L.take (min len (64 - ((s.n % 64).toNat)))).length)), cI .u64 (IntKind.wrap .u64 (s.n + ((min len (64 - ((s.n % 64).toNat)) : Nat) : Int)))], 88⟩)]) (by kernel_rfl) (by kernel_rfl) ?_
      rw [show ([.ints .u32 8 (comp shaK s.h (s.rest.take ((s.n % 64).toNat) ++ (L.take (min len (64 - ((s.n % 64).toNat)))) ++ s.rest.drop (((s.n % 64).toNat) + (L.take (min len (64 - ((s.n % 64).toNat)))).length))), .ints .u8 64 (s.rest.take ((s.n % 64).toNat) ++ (L.take (min len (64 - ((s.n % 64).toNat)))) ++ s.rest.drop (((s.n % 64).toNat) + (L.take (min len (64 - ((s.n % 64).toNat)))).length)), cI .u64 (IntKind.wrap .u64 (s.n + ((min len (64 - ((s.n % 64).toNat)) : Nat) : Int)))] : List Chunk) = [.ints .u32 8 ((wr shaK s (L.take (min len (64 - (s.n % 64).toNat)))).h), .ints .u8 64 ((wr shaK s (L.take (min len (64 - (s.n % 64).toNat)))).rest), cI .u64 (wr shaK s (L.take (min len (64 - (s.n % 64).toNat)))).n] from hq]
      refine we_rest [0, 1] [100000] (l' := [(0, eL 100000 0), (1, eV (.slice (if cap = (min len (64 - ((s.n % 64).toNat))) then a else a.map (·.add ((min len (64 - ((s.n % 64).toNat))) * 1))) (len - (min len (64 - ((s.n % 64).toNat)))) (cap - (min len (64 - ((s.n % 64).toNat))))))]) (H' := [(100000, ⟨[.ints .u32 8 ((wr shaK s (L.take (min len (64 - (s.n % 64).toNat)))).h), .ints .u8 64 ((wr shaK s (L.take (min len (64 - (s.n % 64).toNat)))).rest), cI .u64 (wr shaK s (L.take (min len (64 - (s.n % 64).toNat)))).n], 88⟩)]) (by kernel_rfl) (by kernel_rfl) ?_
      exact we_round ((wr shaK s (L.take (min len (64 - (s.n % 64).toNat)))), (if cap = (min len (64 - ((s.n % 64).toNat))) then a else a.map (·.add ((min len (64 - ((s.n % 64).toNat))) * 1))), len - (min len (64 - (s.n % 64).toNat)), cap - (min len (64 - (s.n % 64).toNat)), off + (min len (64 - (s.n % 64).toNat)), L.drop (min len (64 - (s.n % 64).toNat))) (⟨wr_ok hs (okB_take hL _), okB_drop hL _, hbX.drop hm, by rw [← wr_app, List.take_append_drop]; exact hw⟩) (by show (len - (min len (64 - (s.n % 64).toNat))) < len; omega) rfl (sub_ofE [0, 1] rfl) (sub_of [100000] rfl)
    · replace h2 := ne_of_beq_false h2
      refine wc_skip ?_
      refine we_block ?_
      have hch := wr_chunk shaK (L.take (min len (64 - (s.n % 64).toNat))) hs (okB_take hL _) (by rw [List.length_take, hbX.ln]; omega) (by rw [List.length_take, hbX.ln]; omega)
      have hml : (L.take (min len (64 - (s.n % 64).toNat))).length = (min len (64 - (s.n % 64).toNat)) := by rw [List.length_take, hbX.ln]; omega
      have hq := chunk_no hch hml h2
      refine we_rest [0, 1] [100000] (l' := [(0, eL 100000 0), (1, eV (.slice (if cap = (min len (64 - ((s.n % 64).toNat))) then a else a.map (·.add ((min len (64 - ((s.n % 64).toNat))) * 1))) (len - (min len (64 - ((s.n % 64).toNat)))) (cap - (min len (64 - ((s.n % 64).toNat))))))]) (H' := [(100000, ⟨[.ints .u32 8 s.h, .ints .u8 64 (s.rest.take ((s.n % 64).toNat) ++ (L.take (min len (64 - ((s.n % 64).toNat)))) ++ s.rest.drop (((s.n % 64).toNat) + (L.take (min len (64 - ((s.n % 64).toNat)))).length)), cI .u64 (IntKind.wrap .u64 (s.n + ((min len (64 - ((s.n % 64).toNat)) : Nat) : Int)))], 88⟩)]) (by kernel_rfl) (by kernel_rfl) ?_
      rw [show ([.ints .u32 8 s.h, .ints .u8 64 (s.rest.take ((s.n % 64).toNat) ++ (L.take (min len (64 - ((s.n % 64).toNat)))) ++ s.rest.drop (((s.n % 64).toNat) + (L.take (min len (64 - ((s.n % 64).toNat)))).length)), cI .u64 (IntKind.wrap .u64 (s.n + ((min len (64 - ((s.n % 64).toNat)) : Nat) : Int)))] : List Chunk) = [.ints .u32 8 ((wr shaK s (L.take (min len (64 - (s.n % 64).toNat)))).h), .ints .u8 64 ((wr shaK s (L.take (min len (64 - (s.n % 64).toNat)))).rest), cI .u64 (wr shaK s (L.take (min len (64 - (s.n % 64).toNat)))).n] from hq]
      refine we_rest [0, 1] [100000] (l' := [(0, eL 100000 0), (1, eV (.slice (if cap = (min len (64 - ((s.n % 64).toNat))) then a else a.map (·.add ((min len (64 - ((s.n % 64).toNat))) * 1))) (len - (min len (64 - ((s.n % 64).toNat)))) (cap - (min len (64 - ((s.n % 64).toNat))))))]) (H' := [(100000, ⟨[.ints .u32 8 ((wr shaK s (L.take (min len (64 - (s.n % 64).toNat)))).h), .ints .u8 64 ((wr shaK s (L.take (min len (64 - (s.n % 64).toNat)))).rest), cI .u64 (wr shaK s (L.take (min len (64 - (s.n % 64).toNat)))).n], 88⟩)]) (by kernel_rfl) (by kernel_rfl) ?_
      exact we_round ((wr shaK s (L.take (min len (64 - (s.n % 64).toNat)))), (if cap = (min len (64 - ((s.n % 64).toNat))) then a else a.map (·.add ((min len (64 - ((s.n % 64).toNat))) * 1))), len - (min len (64 - (s.n % 64).toNat)), cap - (min len (64 - (s.n % 64).toNat)), off + (min len (64 - (s.n % 64).toNat)), L.drop (min len (64 - (s.n % 64).toNat))) (⟨wr_ok hs (okB_take hL _), okB_drop hL _, hbX.drop hm, by rw [← wr_app, List.take_append_drop]; exact hw⟩) (by show (len - (min len (64 - (s.n % 64).toNat))) < len; omega) rfl (sub_ofE [0, 1] rfl) (sub_of [100000] rfl)
  · replace h1 := of_decide_eq_false h1
    refine wc_exit ?_
    refine we_then_exit ?_
    refine we_then_exit ?_
    refine we_block_exit ?_
    refine we_rest [] [100000] (l' := []) (H' := [(100000, ⟨[.ints .u32 8 s.h, .ints .u8 64 s.rest, cI .u64 s.n], 88⟩)]) (by kernel_rfl) (by kernel_rfl) ?_
    refine we_ret (.inr rfl) (v := .t []) (by kernel_rfl) ?_
    obtain rfl : L = [] := List.eq_nil_of_length_eq_zero (by rw [hbX.ln]; omega)
    have hq : s = wr shaK s0 L0 := hw
    rw [← hq]
    intro σ w' hf
    exact ⟨(), σ, trivial, rfl, hf.ran rfl rfl⟩

end Go.Proofs.YtjcghjgennddaaaDoor
