/- SHA-256: the walks. -/
import Derived.Test.YtjcghjgennddaaaDoorProg
import Derived.KernelRfl
import Derived.Test.YtjcghjgennddaaaDoorShaB
import Derived.Test.YtjcghjgennddaaaDoorSxDeep
namespace Go.Proofs.YtjcghjgennddaaaDoor
open Go.RowKit Go.Sx
set_option linter.unusedVariables false
set_option linter.unusedSimpArgs false

theorem bV_get {L : List Int} {rest : List Value} {i : Nat} {x : Int} (hi : L[i]? = some x) : (bV L ++ rest)[0 + i]? = some (.int .u8 x) := by
  have hl : i < L.length := by
    rcases Nat.lt_or_ge i L.length with h | h
    · exact h
    · rw [List.getElem?_eq_none h] at hi; cases hi
  rw [Nat.zero_add, List.getElem?_append_left (by rw [bV_len]; exact hl)]
  simp [bV, hi]
theorem write_own (s0 : HS) (hs0 : s0.ok) (cs : List Chunk) (ty len cap : Nat) (L : List Int) (hL : OkB L) (hln : L.length = len) (hlc : len ≤ cap) (hcm : cap ≤ maxLen) (hc : ∀ (ρ : Nat → Nat) i x, L[i]? = some x → (flat ρ cs)[0 + i]? = some (.int .u8 x)) (hf : ∀ ρ σ : Nat → Nat, flat σ cs = flat ρ cs)
    (w : World) (ρ : Nat → Nat) (hH : HeapAt ρ [(100001, ⟨cs, ty⟩), (100000, ⟨[.ints .u32 8 s0.h, .ints .u8 64 s0.rest, cI .u64 s0.n], 88⟩)] w) (hK : KAt w) (hK2 : ρ 100000 ≠ gK) :
    Calls Tryd.prog 24 ([sL 100000 0, .a (.ls 100001 0 len cap)].map (SV.conc ρ)).toArray w fun r' w' => ∃ (x0 : Unit) (σ : Nat → Nat), True ∧ r' = .returned (EV.conc σ (.t [])) ∧ Ran ρ [(100001, ⟨cs, ty⟩), (100000, ⟨[.ints .u32 8 s0.h, .ints .u8 64 s0.rest, cI .u64 s0.n], 88⟩)] [(100001, ⟨cs, ty⟩), (100000, ⟨[.ints .u32 8 ((wr shaK s0 L).h), .ints .u8 64 ((wr shaK s0 L).rest), cI .u64 (wr shaK s0 L).n], 88⟩)] w w' σ := by
  have hb : BAt w (fun i => i ≠ ρ 100000) (some ⟨ρ 100001, 0, none⟩) len cap (ρ 100001) 0 L := hH.bat (k := 100001) rfl (fun e => by
    have := hH.inj 100001 100000 _ _ rfl rfl e
    omega) hln hlc hcm (fun i x hi => hc ρ i x hi)
  refine (write_any s0 hs0 _ len cap _ 0 L hL w ρ hb (hH.tail rfl) hK hK2).mono ?_
  rintro r' w' ⟨x0, σ, _, e, hr⟩
  exact ⟨x0, σ, trivial, e, hr.frame (by decide) hH rfl rfl hf⟩
theorem ran_sub {ρ σ : Nat → Nat} {Hc Hx Hy : Heap} {w w' : World} (h : Ran ρ Hc Hx w w' σ) (hs : ∀ k b, getH Hy k = some b → getH Hx k = some b) : Ran ρ Hc Hy w w' σ :=
  ⟨h.keep, fun k b hb => h.hp k b (hs k b hb), fun k k' b b' hb hb' e => h.inj k k' b b' (hs k b hb) (hs k' b' hb') e, h.pin⟩
theorem padz_lt (n : Int) : padz n < 64 := by unfold padz; omega
theorem u64_len {x : Int} {k : Nat} : IntKind.wrap .u64 (x + (k : Int)) = (x + (k : Int)) % 18446744073709551616 := IntKind.wrap_u64 _
theorem pad_go {s : HS} (hs : s.ok) {j : Nat} (hj : j ≤ padz s.n) (h : Int.tmod (IntKind.wrap .u64 (s.n + (((j + 1) : Nat) : Int))) 64 ≠ 56) : j + 1 ≤ padz s.n := by
  rw [tmod0, u64_len] at h
  have h0 := hs.n0
  have h1 := hs.n1
  rcases Nat.lt_or_ge j (padz s.n) with hl | hl
  · omega
  · exfalso
    apply h
    unfold padz at hj hl
    omega
theorem pad_end {s : HS} (hs : s.ok) {j : Nat} (hj : j ≤ padz s.n) (h : Int.tmod (IntKind.wrap .u64 (s.n + (((j + 1) : Nat) : Int))) 64 = 56) : 128 :: List.replicate j 0 ++ be8 (IntKind.wrap .u64 (8 * s.n)) = pad s.n := by
  rw [tmod0, u64_len] at h
  have h0 := hs.n0
  have h1 := hs.n1
  have : j = padz s.n := by unfold padz at hj ⊢; omega
  subst this
  rfl
theorem pad_more (j : Nat) : (128 :: List.replicate j 0 ++ [0] : List Int) = 128 :: List.replicate (j + 1) 0 := by
  rw [List.replicate_succ']; rfl
abbrev z25 : List Chunk := [.ints .u8 32 (List.replicate 32 0)]
theorem z25_zero' : (Tryd.prog.info? 25).bind (·.zero) = some (SV.conc (fun _ => 0) (.agg z25)) := by kernel_rfl
theorem z25_zero : (Tryd.prog.info? 25).bind (·.zero) = some (SV.conc (fun _ => 0) (.agg z25)) ∨ ∃ v, (Tryd.prog.info? 25).bind (·.zero) = some v ∧ z25 = [.one (.v v)] ∧ v.oneCell' = true := .inl z25_zero'
theorem z25_ok : okCs z25 := okc_ints (List.length_replicate) (okc_nil)
abbrev z88 : List Chunk := [.ints .u32 8 (List.replicate 8 0), .ints .u8 64 (List.replicate 64 0), cI .u64 0]
theorem z88_zero' : (Tryd.prog.info? 88).bind (·.zero) = some (SV.conc (fun _ => 0) (.agg z88)) := by kernel_rfl
theorem z88_zero : (Tryd.prog.info? 88).bind (·.zero) = some (SV.conc (fun _ => 0) (.agg z88)) ∨ ∃ v, (Tryd.prog.info? 88).bind (·.zero) = some v ∧ z88 = [.one (.v v)] ∧ v.oneCell' = true := .inl z88_zero'
theorem z88_ok : okCs z88 := okc_ints (List.length_replicate) (okc_ints (List.length_replicate) (okc_one (okc_nil)))

set_option maxRecDepth 100000 in
set_option maxHeartbeats 4000000 in
theorem putU32_any (d : List Int) (o len cap : Nat) (x : Int) (hd : d.length = 32) (ho : o + 4 ≤ 32) (h4 : 4 ≤ len) (w : World) (ρ : Nat → Nat) (hH : HeapAt ρ [(100000, ⟨[.ints .u8 32 d], 25⟩)] w) :
    Calls Tryd.prog 47 ([.a (.ls 100000 o len cap), sI .u32 x].map (SV.conc ρ)).toArray w fun r' w' => ∃ (x0 : Unit) (σ : Nat → Nat), True ∧ r' = .returned (EV.conc σ (.t [])) ∧ Ran ρ [(100000, ⟨[.ints .u8 32 d], 25⟩)] [(100000, ⟨[.ints .u8 32 (put4 d o x)], 25⟩)] w w' σ := by
  refine calls_enter (vs := [.a (.ls 100000 o len cap), sI .u32 x]) (N := 18) [(100000, ⟨[.ints .u8 32 d], 25⟩)] ρ Tryd.func47 rfl rfl (Nat.le_of_ble_eq_true rfl) (okv_a (okv_a (okv_nil))) hH.hp hH.inj ?_ _ rfl
  refine wc_seq ?_
  refine wc_reg [0] (by kernel_rfl) ?_
  refine wo_run [0] [0, 1, 5] [100000] (l' := [(0, .s (.a (.ls 100000 o len cap))), (1, eI .u32 x), (5, eI .i64 0)]) (H' := [(100000, ⟨[.ints .u8 32 d], 25⟩)]) (by kernel_rfl) ?_
  refine wo_nil ?_
  refine we_then ?_
  refine wc_block ?_
  refine wc_loopn 5 ?_
  refine wr_go ?_
  refine wc_seq ?_
  refine wc_reg [0] (by kernel_rfl) ?_
  refine wo_run [0] [0, 1, 5, 6] [100000] (l' := [(0, .s (.a (.ls 100000 o len cap))), (1, eI .u32 x), (5, eI .i64 0), (6, eB true)]) (H' := [(100000, ⟨[.ints .u8 32 d], 25⟩)]) (by kernel_rfl) ?_
  refine wo_nil ?_
  refine we_then ?_
  refine wc_seq ?_
  refine wc_true rfl ?_
  refine wc_skip ?_
  refine we_then ?_
  refine wc_seq ?_
  refine wc_block ?_
  refine wc_seq ?_
  refine wc_reg [0, 1] (by kernel_rfl) ?_
  refine wo_run [0, 1] [0, 1, 4, 5] [100000] (l' := [(0, .s (.a (.ls 100000 o len cap))), (1, eI .u32 x), (4, eI .i64 0), (5, eI .i64 0)]) (H' := [(100000, ⟨[.ints .u8 32 d], 25⟩)]) (by kernel_rfl) ?_
  refine wo_nil ?_
  refine we_then ?_
  refine wc_reg [0, 1, 2, 3, 4, 5, 6, 7, 8, 9] (by kernel_rfl) ?_
  refine wo_run [0, 1, 2, 3, 4, 5, 6, 7] [0, 1, 5, 8, 9, 15] [100000] (l' := [(0, .s (.a (.ls 100000 o len cap))), (1, eI .u32 x), (5, eI .i64 0), (8, .s (.a (.ls 100000 o len cap))), (9, eI .i64 0), (15, eI .u8 (IntKind.wrap .u8 (Int.fdiv x (2 ^ (24 : Nat)))))]) (H' := [(100000, ⟨[.ints .u8 32 d], 25⟩)]) (by kernel_rfl) ?_
  refine wo_op rfl rfl (ot_rd rfl (rd_indexL (e := 5) 1 0 0 rfl (by kernel_rfl) (by kernel_rfl) rfl rfl (rfl) (by omega))) ?_
  refine wo_op rfl rfl (ot_storeS (b := ⟨[.ints .u8 32 d], 25⟩) (v := (sI .u8 (IntKind.wrap .u8 (Int.fdiv x (2 ^ (24 : Nat)))))) [.ints .u8 32 (d.set (o + 0 * 1) (IntKind.wrap .u8 (Int.fdiv x (2 ^ (24 : Nat)))))] rfl rfl rfl rfl rfl rfl (by kernel_rfl) (okc_ints (by simp [hd]) (okc_nil)) (fun ρ => seg_len (off := (o + 0 * 1) + 1) [] rfl (okc_nil) (hd) (by have : (o + 0 * 1) < 32 := (by omega); simp only [sz]; omega) ρ) (fun ρ => seg_put1 (i := (o + 0 * 1)) [] rfl (okc_nil) (hd) (by omega) (by simp only [sz]; omega) ρ rfl)) ?_
  refine wo_nil ?_
  refine we_block ?_
  refine we_then ?_
  refine wc_reg [0, 1] (by kernel_rfl) ?_
  refine wo_run [0, 1] [0, 1, 5] [100000] (l' := [(0, .s (.a (.ls 100000 o len cap))), (1, eI .u32 x), (5, eI .i64 1)]) (H' := [(100000, ⟨[.ints .u8 32 (d.set (o + 0 * 1) (IntKind.wrap .u8 (Int.fdiv x (2 ^ (24 : Nat)))))], 25⟩)]) (by kernel_rfl) ?_
  refine wo_nil ?_
  refine we_unr ?_
  refine wr_go ?_
  refine wc_seq ?_
  refine wc_reg [0] (by kernel_rfl) ?_
  refine wo_run [0] [0, 1, 5, 6] [100000] (l' := [(0, .s (.a (.ls 100000 o len cap))), (1, eI .u32 x), (5, eI .i64 1), (6, eB true)]) (H' := [(100000, ⟨[.ints .u8 32 (d.set (o + 0 * 1) (IntKind.wrap .u8 (Int.fdiv x (2 ^ (24 : Nat)))))], 25⟩)]) (by kernel_rfl) ?_
  refine wo_nil ?_
  refine we_then ?_
  refine wc_seq ?_
  refine wc_true rfl ?_
  refine wc_skip ?_
  refine we_then ?_
  refine wc_seq ?_
  refine wc_block ?_
  refine wc_seq ?_
  refine wc_reg [0, 1] (by kernel_rfl) ?_
  refine wo_run [0, 1] [0, 1, 4, 5] [100000] (l' := [(0, .s (.a (.ls 100000 o len cap))), (1, eI .u32 x), (4, eI .i64 1), (5, eI .i64 1)]) (H' := [(100000, ⟨[.ints .u8 32 (d.set (o + 0 * 1) (IntKind.wrap .u8 (Int.fdiv x (2 ^ (24 : Nat)))))], 25⟩)]) (by kernel_rfl) ?_
  refine wo_nil ?_
  refine we_then ?_
  refine wc_reg [0, 1, 2, 3, 4, 5, 6, 7, 8, 9] (by kernel_rfl) ?_
  refine wo_run [0, 1, 2, 3, 4, 5, 6, 7] [0, 1, 5, 8, 9, 15] [100000] (l' := [(0, .s (.a (.ls 100000 o len cap))), (1, eI .u32 x), (5, eI .i64 1), (8, .s (.a (.ls 100000 o len cap))), (9, eI .i64 1), (15, eI .u8 (IntKind.wrap .u8 (Int.fdiv x (2 ^ (16 : Nat)))))]) (H' := [(100000, ⟨[.ints .u8 32 (d.set (o + 0 * 1) (IntKind.wrap .u8 (Int.fdiv x (2 ^ (24 : Nat)))))], 25⟩)]) (by kernel_rfl) ?_
  refine wo_op rfl rfl (ot_rd rfl (rd_indexL (e := 5) 1 1 1 rfl (by kernel_rfl) (by kernel_rfl) rfl rfl (rfl) (by omega))) ?_
  refine wo_op rfl rfl (ot_storeS (b := ⟨[.ints .u8 32 (d.set (o + 0 * 1) (IntKind.wrap .u8 (Int.fdiv x (2 ^ (24 : Nat)))))], 25⟩) (v := (sI .u8 (IntKind.wrap .u8 (Int.fdiv x (2 ^ (16 : Nat)))))) [.ints .u8 32 ((d.set (o + 0 * 1) (IntKind.wrap .u8 (Int.fdiv x (2 ^ (24 : Nat))))).set (o + 1 * 1) (IntKind.wrap .u8 (Int.fdiv x (2 ^ (16 : Nat)))))] rfl rfl rfl rfl rfl rfl (by kernel_rfl) (okc_ints (by simp [hd]) (okc_nil)) (fun ρ => seg_len (off := (o + 1 * 1) + 1) [] rfl (okc_nil) (by simp [hd]) (by have : (o + 1 * 1) < 32 := (by omega); simp only [sz]; omega) ρ) (fun ρ => seg_put1 (i := (o + 1 * 1)) [] rfl (okc_nil) (by simp [hd]) (by omega) (by simp only [sz]; omega) ρ rfl)) ?_
  refine wo_nil ?_
  refine we_block ?_
  refine we_then ?_
  refine wc_reg [0, 1] (by kernel_rfl) ?_
  refine wo_run [0, 1] [0, 1, 5] [100000] (l' := [(0, .s (.a (.ls 100000 o len cap))), (1, eI .u32 x), (5, eI .i64 2)]) (H' := [(100000, ⟨[.ints .u8 32 ((d.set (o + 0 * 1) (IntKind.wrap .u8 (Int.fdiv x (2 ^ (24 : Nat))))).set (o + 1 * 1) (IntKind.wrap .u8 (Int.fdiv x (2 ^ (16 : Nat)))))], 25⟩)]) (by kernel_rfl) ?_
  refine wo_nil ?_
  refine we_unr ?_
  refine wr_go ?_
  refine wc_seq ?_
  refine wc_reg [0] (by kernel_rfl) ?_
  refine wo_run [0] [0, 1, 5, 6] [100000] (l' := [(0, .s (.a (.ls 100000 o len cap))), (1, eI .u32 x), (5, eI .i64 2), (6, eB true)]) (H' := [(100000, ⟨[.ints .u8 32 ((d.set (o + 0 * 1) (IntKind.wrap .u8 (Int.fdiv x (2 ^ (24 : Nat))))).set (o + 1 * 1) (IntKind.wrap .u8 (Int.fdiv x (2 ^ (16 : Nat)))))], 25⟩)]) (by kernel_rfl) ?_
  refine wo_nil ?_
  refine we_then ?_
  refine wc_seq ?_
  refine wc_true rfl ?_
  refine wc_skip ?_
  refine we_then ?_
  refine wc_seq ?_
  refine wc_block ?_
  refine wc_seq ?_
  refine wc_reg [0, 1] (by kernel_rfl) ?_
  refine wo_run [0, 1] [0, 1, 4, 5] [100000] (l' := [(0, .s (.a (.ls 100000 o len cap))), (1, eI .u32 x), (4, eI .i64 2), (5, eI .i64 2)]) (H' := [(100000, ⟨[.ints .u8 32 ((d.set (o + 0 * 1) (IntKind.wrap .u8 (Int.fdiv x (2 ^ (24 : Nat))))).set (o + 1 * 1) (IntKind.wrap .u8 (Int.fdiv x (2 ^ (16 : Nat)))))], 25⟩)]) (by kernel_rfl) ?_
  refine wo_nil ?_
  refine we_then ?_
  refine wc_reg [0, 1, 2, 3, 4, 5, 6, 7, 8, 9] (by kernel_rfl) ?_
  refine wo_run [0, 1, 2, 3, 4, 5, 6, 7] [0, 1, 5, 8, 9, 15] [100000] (l' := [(0, .s (.a (.ls 100000 o len cap))), (1, eI .u32 x), (5, eI .i64 2), (8, .s (.a (.ls 100000 o len cap))), (9, eI .i64 2), (15, eI .u8 (IntKind.wrap .u8 (Int.fdiv x (2 ^ (8 : Nat)))))]) (H' := [(100000, ⟨[.ints .u8 32 ((d.set (o + 0 * 1) (IntKind.wrap .u8 (Int.fdiv x (2 ^ (24 : Nat))))).set (o + 1 * 1) (IntKind.wrap .u8 (Int.fdiv x (2 ^ (16 : Nat)))))], 25⟩)]) (by kernel_rfl) ?_
  refine wo_op rfl rfl (ot_rd rfl (rd_indexL (e := 5) 1 2 2 rfl (by kernel_rfl) (by kernel_rfl) rfl rfl (rfl) (by omega))) ?_
  refine wo_op rfl rfl (ot_storeS (b := ⟨[.ints .u8 32 ((d.set (o + 0 * 1) (IntKind.wrap .u8 (Int.fdiv x (2 ^ (24 : Nat))))).set (o + 1 * 1) (IntKind.wrap .u8 (Int.fdiv x (2 ^ (16 : Nat)))))], 25⟩) (v := (sI .u8 (IntKind.wrap .u8 (Int.fdiv x (2 ^ (8 : Nat)))))) [.ints .u8 32 (((d.set (o + 0 * 1) (IntKind.wrap .u8 (Int.fdiv x (2 ^ (24 : Nat))))).set (o + 1 * 1) (IntKind.wrap .u8 (Int.fdiv x (2 ^ (16 : Nat))))).set (o + 2 * 1) (IntKind.wrap .u8 (Int.fdiv x (2 ^ (8 : Nat)))))] rfl rfl rfl rfl rfl rfl (by kernel_rfl) (okc_ints (by simp [hd]) (okc_nil)) (fun ρ => seg_len (off := (o + 2 * 1) + 1) [] rfl (okc_nil) (by simp [hd]) (by have : (o + 2 * 1) < 32 := (by omega); simp only [sz]; omega) ρ) (fun ρ => seg_put1 (i := (o + 2 * 1)) [] rfl (okc_nil) (by simp [hd]) (by omega) (by simp only [sz]; omega) ρ rfl)) ?_
  refine wo_nil ?_
  refine we_block ?_
  refine we_then ?_
  refine wc_reg [0, 1] (by kernel_rfl) ?_
  refine wo_run [0, 1] [0, 1, 5] [100000] (l' := [(0, .s (.a (.ls 100000 o len cap))), (1, eI .u32 x), (5, eI .i64 3)]) (H' := [(100000, ⟨[.ints .u8 32 (((d.set (o + 0 * 1) (IntKind.wrap .u8 (Int.fdiv x (2 ^ (24 : Nat))))).set (o + 1 * 1) (IntKind.wrap .u8 (Int.fdiv x (2 ^ (16 : Nat))))).set (o + 2 * 1) (IntKind.wrap .u8 (Int.fdiv x (2 ^ (8 : Nat)))))], 25⟩)]) (by kernel_rfl) ?_
  refine wo_nil ?_
  refine we_unr ?_
  refine wr_go ?_
  refine wc_seq ?_
  refine wc_reg [0] (by kernel_rfl) ?_
  refine wo_run [0] [0, 1, 5, 6] [100000] (l' := [(0, .s (.a (.ls 100000 o len cap))), (1, eI .u32 x), (5, eI .i64 3), (6, eB true)]) (H' := [(100000, ⟨[.ints .u8 32 (((d.set (o + 0 * 1) (IntKind.wrap .u8 (Int.fdiv x (2 ^ (24 : Nat))))).set (o + 1 * 1) (IntKind.wrap .u8 (Int.fdiv x (2 ^ (16 : Nat))))).set (o + 2 * 1) (IntKind.wrap .u8 (Int.fdiv x (2 ^ (8 : Nat)))))], 25⟩)]) (by kernel_rfl) ?_
  refine wo_nil ?_
  refine we_then ?_
  refine wc_seq ?_
  refine wc_true rfl ?_
  refine wc_skip ?_
  refine we_then ?_
  refine wc_seq ?_
  refine wc_block ?_
  refine wc_seq ?_
  refine wc_reg [0, 1] (by kernel_rfl) ?_
  refine wo_run [0, 1] [0, 1, 4, 5] [100000] (l' := [(0, .s (.a (.ls 100000 o len cap))), (1, eI .u32 x), (4, eI .i64 3), (5, eI .i64 3)]) (H' := [(100000, ⟨[.ints .u8 32 (((d.set (o + 0 * 1) (IntKind.wrap .u8 (Int.fdiv x (2 ^ (24 : Nat))))).set (o + 1 * 1) (IntKind.wrap .u8 (Int.fdiv x (2 ^ (16 : Nat))))).set (o + 2 * 1) (IntKind.wrap .u8 (Int.fdiv x (2 ^ (8 : Nat)))))], 25⟩)]) (by kernel_rfl) ?_
  refine wo_nil ?_
  refine we_then ?_
  refine wc_reg [0, 1, 2, 3, 4, 5, 6, 7, 8, 9] (by kernel_rfl) ?_
  refine wo_run [0, 1, 2, 3, 4, 5, 6, 7] [0, 1, 5, 8, 9, 15] [100000] (l' := [(0, .s (.a (.ls 100000 o len cap))), (1, eI .u32 x), (5, eI .i64 3), (8, .s (.a (.ls 100000 o len cap))), (9, eI .i64 3), (15, eI .u8 (IntKind.wrap .u8 (Int.fdiv x (2 ^ (0 : Nat)))))]) (H' := [(100000, ⟨[.ints .u8 32 (((d.set (o + 0 * 1) (IntKind.wrap .u8 (Int.fdiv x (2 ^ (24 : Nat))))).set (o + 1 * 1) (IntKind.wrap .u8 (Int.fdiv x (2 ^ (16 : Nat))))).set (o + 2 * 1) (IntKind.wrap .u8 (Int.fdiv x (2 ^ (8 : Nat)))))], 25⟩)]) (by kernel_rfl) ?_
  refine wo_op rfl rfl (ot_rd rfl (rd_indexL (e := 5) 1 3 3 rfl (by kernel_rfl) (by kernel_rfl) rfl rfl (rfl) (by omega))) ?_
  refine wo_op rfl rfl (ot_storeS (b := ⟨[.ints .u8 32 (((d.set (o + 0 * 1) (IntKind.wrap .u8 (Int.fdiv x (2 ^ (24 : Nat))))).set (o + 1 * 1) (IntKind.wrap .u8 (Int.fdiv x (2 ^ (16 : Nat))))).set (o + 2 * 1) (IntKind.wrap .u8 (Int.fdiv x (2 ^ (8 : Nat)))))], 25⟩) (v := (sI .u8 (IntKind.wrap .u8 (Int.fdiv x (2 ^ (0 : Nat)))))) [.ints .u8 32 ((((d.set (o + 0 * 1) (IntKind.wrap .u8 (Int.fdiv x (2 ^ (24 : Nat))))).set (o + 1 * 1) (IntKind.wrap .u8 (Int.fdiv x (2 ^ (16 : Nat))))).set (o + 2 * 1) (IntKind.wrap .u8 (Int.fdiv x (2 ^ (8 : Nat))))).set (o + 3 * 1) (IntKind.wrap .u8 (Int.fdiv x (2 ^ (0 : Nat)))))] rfl rfl rfl rfl rfl rfl (by kernel_rfl) (okc_ints (by simp [hd]) (okc_nil)) (fun ρ => seg_len (off := (o + 3 * 1) + 1) [] rfl (okc_nil) (by simp [hd]) (by have : (o + 3 * 1) < 32 := (by omega); simp only [sz]; omega) ρ) (fun ρ => seg_put1 (i := (o + 3 * 1)) [] rfl (okc_nil) (by simp [hd]) (by omega) (by simp only [sz]; omega) ρ rfl)) ?_
  refine wo_nil ?_
  refine we_block ?_
  refine we_then ?_
  refine wc_reg [0, 1] (by kernel_rfl) ?_
  refine wo_run [0, 1] [0, 1, 5] [100000] (l' := [(0, .s (.a (.ls 100000 o len cap))), (1, eI .u32 x), (5, eI .i64 4)]) (H' := [(100000, ⟨[.ints .u8 32 ((((d.set (o + 0 * 1) (IntKind.wrap .u8 (Int.fdiv x (2 ^ (24 : Nat))))).set (o + 1 * 1) (IntKind.wrap .u8 (Int.fdiv x (2 ^ (16 : Nat))))).set (o + 2 * 1) (IntKind.wrap .u8 (Int.fdiv x (2 ^ (8 : Nat))))).set (o + 3 * 1) (IntKind.wrap .u8 (Int.fdiv x (2 ^ (0 : Nat)))))], 25⟩)]) (by kernel_rfl) ?_
  refine wo_nil ?_
  refine we_unr ?_
  refine wr_go ?_
  refine wc_seq ?_
  refine wc_reg [0] (by kernel_rfl) ?_
  refine wo_run [0] [0, 1, 5, 6] [100000] (l' := [(0, .s (.a (.ls 100000 o len cap))), (1, eI .u32 x), (5, eI .i64 4), (6, eB false)]) (H' := [(100000, ⟨[.ints .u8 32 ((((d.set (o + 0 * 1) (IntKind.wrap .u8 (Int.fdiv x (2 ^ (24 : Nat))))).set (o + 1 * 1) (IntKind.wrap .u8 (Int.fdiv x (2 ^ (16 : Nat))))).set (o + 2 * 1) (IntKind.wrap .u8 (Int.fdiv x (2 ^ (8 : Nat))))).set (o + 3 * 1) (IntKind.wrap .u8 (Int.fdiv x (2 ^ (0 : Nat)))))], 25⟩)]) (by kernel_rfl) ?_
  refine wo_nil ?_
  refine we_then ?_
  refine wc_seq ?_
  refine wc_false rfl ?_
  refine wc_exit ?_
  refine we_then_exit ?_
  refine we_then_exit ?_
  refine we_block_exit ?_
  refine we_rest [] [100000] (l' := []) (H' := [(100000, ⟨[.ints .u8 32 ((((d.set (o + 0 * 1) (IntKind.wrap .u8 (Int.fdiv x (2 ^ (24 : Nat))))).set (o + 1 * 1) (IntKind.wrap .u8 (Int.fdiv x (2 ^ (16 : Nat))))).set (o + 2 * 1) (IntKind.wrap .u8 (Int.fdiv x (2 ^ (8 : Nat))))).set (o + 3 * 1) (IntKind.wrap .u8 (Int.fdiv x (2 ^ (0 : Nat)))))], 25⟩)]) (by kernel_rfl) (by kernel_rfl) ?_
  refine we_ret (.inr rfl) (v := .t []) (by kernel_rfl) ?_
  intro σ w' hf
  exact ⟨(), σ, trivial, rfl, hf.ran rfl rfl⟩

set_option maxRecDepth 100000 in
set_option maxHeartbeats 4000000 in
theorem appU64_nil (n : Int) (w : World) (ρ : Nat → Nat) (hH : HeapAt ρ [] w) :
    Calls Tryd.prog 43 ([sV (.slice none 0 0), sI .u64 n].map (SV.conc ρ)).toArray w fun r' w' => ∃ (y : Nat × List Value) (σ : Nat → Nat), (8 ≤ y.1 ∧ y.1 ≤ maxLen ∧ y.2.length = (y.1 - 8) * 1) ∧ r' = .returned (EV.conc σ (.s (.a (.ls 30 0 8 y.1)))) ∧ Ran ρ [] [(30, ⟨[.vals (bV (be8 n) ++ y.2)], 5⟩)] w w' σ := by
  refine calls_enter (vs := [sV (.slice none 0 0), sI .u64 n]) (N := 31) [] ρ Tryd.func43 rfl rfl (Nat.le_of_ble_eq_true rfl) (okv_a (okv_a (okv_nil))) hH.hp hH.inj ?_ _ rfl
  refine wc_seq ?_
  refine wc_reg [0] (by kernel_rfl) ?_
  refine wo_run [0] [0, 1] [] (l' := [(0, eV (.slice none 0 0)), (1, eI .u64 n)]) (H' := []) (by kernel_rfl) ?_
  refine wo_nil ?_
  refine we_then ?_
  refine wc_seq ?_
  refine wc_reg [0, 1, 2, 3, 4, 5, 6, 7, 8, 9, 10, 11, 12, 13, 14, 15, 16, 17, 18, 19, 20, 21, 22, 23, 24, 25, 26] (by kernel_rfl) ?_
  refine wo_run [0, 1, 2, 3, 4, 5, 6, 7, 8, 9, 10, 11, 12, 13, 14, 15, 16, 17, 18, 19, 20, 21, 22, 23] [5, 8, 11, 14, 17, 20, 23, 26, 28] [] (l' := [(5, eV (.slice none 0 0)), (8, eI .u8 (IntKind.wrap .u8 (Int.fdiv n (2 ^ (56 : Nat))))), (11, eI .u8 (IntKind.wrap .u8 (Int.fdiv n (2 ^ (48 : Nat))))), (14, eI .u8 (IntKind.wrap .u8 (Int.fdiv n (2 ^ (40 : Nat))))), (17, eI .u8 (IntKind.wrap .u8 (Int.fdiv n (2 ^ (32 : Nat))))), (20, eI .u8 (IntKind.wrap .u8 (Int.fdiv n (2 ^ (24 : Nat))))), (23, eI .u8 (IntKind.wrap .u8 (Int.fdiv n (2 ^ (16 : Nat))))), (26, eI .u8 (IntKind.wrap .u8 (Int.fdiv n (2 ^ (8 : Nat))))), (28, eI .u8 (IntKind.wrap .u8 n))]) (H' := []) (by kernel_rfl) ?_
  refine wo_op rfl rfl (ot_bslice (e := 5) (d := 29) (n := 8) (size := 1) [.ints .u8 8 (List.replicate 8 0)] [.ints .u8 8 ([(IntKind.wrap .u8 (Int.fdiv n (2 ^ (56 : Nat)))), (IntKind.wrap .u8 (Int.fdiv n (2 ^ (48 : Nat)))), (IntKind.wrap .u8 (Int.fdiv n (2 ^ (40 : Nat)))), (IntKind.wrap .u8 (Int.fdiv n (2 ^ (32 : Nat)))), (IntKind.wrap .u8 (Int.fdiv n (2 ^ (24 : Nat)))), (IntKind.wrap .u8 (Int.fdiv n (2 ^ (16 : Nat)))), (IntKind.wrap .u8 (Int.fdiv n (2 ^ (8 : Nat)))), (IntKind.wrap .u8 n)])] rfl rfl rfl (by kernel_rfl) rfl (by kernel_rfl) (okc_ints (List.length_replicate) (okc_nil)) (fun _ => rfl) (by kernel_rfl) (by kernel_rfl)) ?_
  refine wo_ox rfl rfl (ox_append0 (e := 5) (m := 8) (size := 1) (bytes := 1) 30 (([(IntKind.wrap .u8 (Int.fdiv n (2 ^ (56 : Nat)))), (IntKind.wrap .u8 (Int.fdiv n (2 ^ (48 : Nat)))), (IntKind.wrap .u8 (Int.fdiv n (2 ^ (40 : Nat)))), (IntKind.wrap .u8 (Int.fdiv n (2 ^ (32 : Nat)))), (IntKind.wrap .u8 (Int.fdiv n (2 ^ (24 : Nat)))), (IntKind.wrap .u8 (Int.fdiv n (2 ^ (16 : Nat)))), (IntKind.wrap .u8 (Int.fdiv n (2 ^ (8 : Nat)))), (IntKind.wrap .u8 n)]).map (Value.int .u8)) rfl rfl (by kernel_rfl) (by kernel_rfl) (by kernel_rfl) rfl (srcof_ints (e' := 5) rfl (by kernel_rfl) rfl (by simp)) (by decide) (by decide) (by decide) (by kernel_rfl)) (fun ⟨c1, r1⟩ hc1 _ => ?_)
  refine wo_run [] [30] [30] (l' := [(30, .s (.a (.ls 30 0 8 c1)))]) (H' := [(30, ⟨[.vals (bV ([(IntKind.wrap .u8 (Int.fdiv n (2 ^ (56 : Nat)))), (IntKind.wrap .u8 (Int.fdiv n (2 ^ (48 : Nat)))), (IntKind.wrap .u8 (Int.fdiv n (2 ^ (40 : Nat)))), (IntKind.wrap .u8 (Int.fdiv n (2 ^ (32 : Nat)))), (IntKind.wrap .u8 (Int.fdiv n (2 ^ (24 : Nat)))), (IntKind.wrap .u8 (Int.fdiv n (2 ^ (16 : Nat)))), (IntKind.wrap .u8 (Int.fdiv n (2 ^ (8 : Nat)))), (IntKind.wrap .u8 n)]) ++ r1)], 5⟩)]) (by kernel_rfl) ?_
  refine wo_run [26] [4] [30] (l' := [(4, .s (.a (.ls 30 0 8 c1)))]) (H' := [(30, ⟨[.vals (bV ([(IntKind.wrap .u8 (Int.fdiv n (2 ^ (56 : Nat)))), (IntKind.wrap .u8 (Int.fdiv n (2 ^ (48 : Nat)))), (IntKind.wrap .u8 (Int.fdiv n (2 ^ (40 : Nat)))), (IntKind.wrap .u8 (Int.fdiv n (2 ^ (32 : Nat)))), (IntKind.wrap .u8 (Int.fdiv n (2 ^ (24 : Nat)))), (IntKind.wrap .u8 (Int.fdiv n (2 ^ (16 : Nat)))), (IntKind.wrap .u8 (Int.fdiv n (2 ^ (8 : Nat)))), (IntKind.wrap .u8 n)]) ++ r1)], 5⟩)]) (by kernel_rfl) ?_
  refine wo_nil ?_
  refine we_then ?_
  refine wc_ret ?_
  refine we_rest [4] [30] (l' := [(4, .s (.a (.ls 30 0 8 c1)))]) (H' := [(30, ⟨[.vals (bV ([(IntKind.wrap .u8 (Int.fdiv n (2 ^ (56 : Nat)))), (IntKind.wrap .u8 (Int.fdiv n (2 ^ (48 : Nat)))), (IntKind.wrap .u8 (Int.fdiv n (2 ^ (40 : Nat)))), (IntKind.wrap .u8 (Int.fdiv n (2 ^ (32 : Nat)))), (IntKind.wrap .u8 (Int.fdiv n (2 ^ (24 : Nat)))), (IntKind.wrap .u8 (Int.fdiv n (2 ^ (16 : Nat)))), (IntKind.wrap .u8 (Int.fdiv n (2 ^ (8 : Nat)))), (IntKind.wrap .u8 n)]) ++ r1)], 5⟩)]) (by kernel_rfl) (by kernel_rfl) ?_
  refine we_ret (.inl rfl) (v := .s (.a (.ls 30 0 8 c1))) (by kernel_rfl) ?_
  intro σ w' hf
  exact ⟨(c1, r1), σ, hc1, rfl, hf.ran rfl rfl⟩

set_option maxRecDepth 100000 in
set_option maxHeartbeats 4000000 in
theorem appU64_row (L : List Int) (n0 cap : Nat) (rest : List Value) (n : Int) (hl : L.length = n0) (hnc : n0 ≤ cap) (hcm : cap ≤ maxLen) (hr : rest.length = (cap - n0) * 1) (hb : n0 + 8 ≤ 140737488355328) (w : World) (ρ : Nat → Nat) (hH : HeapAt ρ [(100000, ⟨[.vals (bV L ++ rest)], 5⟩)] w) :
    Calls Tryd.prog 43 ([.a (.ls 100000 0 n0 cap), sI .u64 n].map (SV.conc ρ)).toArray w fun r' w' => ∃ (y : Nat × List Value) (σ : Nat → Nat), ((n0 + 8) ≤ y.1 ∧ y.1 ≤ maxLen ∧ y.2.length = (y.1 - (n0 + 8)) * 1) ∧ r' = .returned (EV.conc σ (.s (.a (.ls 30 0 (n0 + 8) y.1)))) ∧ Ran ρ [(100000, ⟨[.vals (bV L ++ rest)], 5⟩)] [(30, ⟨[.vals (bV (L ++ be8 n) ++ y.2)], 5⟩)] w w' σ := by
  refine calls_enter (vs := [.a (.ls 100000 0 n0 cap), sI .u64 n]) (N := 31) [(100000, ⟨[.vals (bV L ++ rest)], 5⟩)] ρ Tryd.func43 rfl rfl (Nat.le_of_ble_eq_true rfl) (okv_a (okv_a (okv_nil))) hH.hp hH.inj ?_ _ rfl
  refine wc_seq ?_
  refine wc_reg [0] (by kernel_rfl) ?_
  refine wo_run [0] [0, 1] [100000] (l' := [(0, .s (.a (.ls 100000 0 n0 cap))), (1, eI .u64 n)]) (H' := [(100000, ⟨[.vals (bV L ++ rest)], 5⟩)]) (by kernel_rfl) ?_
  refine wo_nil ?_
  refine we_then ?_
  refine wc_seq ?_
  refine wc_reg [0, 1, 2, 3, 4, 5, 6, 7, 8, 9, 10, 11, 12, 13, 14, 15, 16, 17, 18, 19, 20, 21, 22, 23, 24, 25, 26] (by kernel_rfl) ?_
  refine wo_run [0, 1, 2, 3, 4, 5, 6, 7, 8, 9, 10, 11, 12, 13, 14, 15, 16, 17, 18, 19, 20, 21, 22, 23] [5, 8, 11, 14, 17, 20, 23, 26, 28] [100000] (l' := [(5, .s (.a (.ls 100000 0 n0 cap))), (8, eI .u8 (IntKind.wrap .u8 (Int.fdiv n (2 ^ (56 : Nat))))), (11, eI .u8 (IntKind.wrap .u8 (Int.fdiv n (2 ^ (48 : Nat))))), (14, eI .u8 (IntKind.wrap .u8 (Int.fdiv n (2 ^ (40 : Nat))))), (17, eI .u8 (IntKind.wrap .u8 (Int.fdiv n (2 ^ (32 : Nat))))), (20, eI .u8 (IntKind.wrap .u8 (Int.fdiv n (2 ^ (24 : Nat))))), (23, eI .u8 (IntKind.wrap .u8 (Int.fdiv n (2 ^ (16 : Nat))))), (26, eI .u8 (IntKind.wrap .u8 (Int.fdiv n (2 ^ (8 : Nat))))), (28, eI .u8 (IntKind.wrap .u8 n))]) (H' := [(100000, ⟨[.vals (bV L ++ rest)], 5⟩)]) (by kernel_rfl) ?_
  refine wo_op rfl rfl (ot_bslice (e := 5) (d := 29) (n := 8) (size := 1) [.ints .u8 8 (List.replicate 8 0)] [.ints .u8 8 ([(IntKind.wrap .u8 (Int.fdiv n (2 ^ (56 : Nat)))), (IntKind.wrap .u8 (Int.fdiv n (2 ^ (48 : Nat)))), (IntKind.wrap .u8 (Int.fdiv n (2 ^ (40 : Nat)))), (IntKind.wrap .u8 (Int.fdiv n (2 ^ (32 : Nat)))), (IntKind.wrap .u8 (Int.fdiv n (2 ^ (24 : Nat)))), (IntKind.wrap .u8 (Int.fdiv n (2 ^ (16 : Nat)))), (IntKind.wrap .u8 (Int.fdiv n (2 ^ (8 : Nat)))), (IntKind.wrap .u8 n)])] rfl rfl rfl (by kernel_rfl) rfl (by kernel_rfl) (okc_ints (List.length_replicate) (okc_nil)) (fun _ => rfl) (by kernel_rfl) (by kernel_rfl)) ?_
  refine wo_ox rfl rfl (ox_appendS (e := 5) (m := 8) (size := 1) (bytes := 1) 30 100000 n0 cap (bV L) (([(IntKind.wrap .u8 (Int.fdiv n (2 ^ (56 : Nat)))), (IntKind.wrap .u8 (Int.fdiv n (2 ^ (48 : Nat)))), (IntKind.wrap .u8 (Int.fdiv n (2 ^ (40 : Nat)))), (IntKind.wrap .u8 (Int.fdiv n (2 ^ (32 : Nat)))), (IntKind.wrap .u8 (Int.fdiv n (2 ^ (24 : Nat)))), (IntKind.wrap .u8 (Int.fdiv n (2 ^ (16 : Nat)))), (IntKind.wrap .u8 (Int.fdiv n (2 ^ (8 : Nat)))), (IntKind.wrap .u8 n)]).map (Value.int .u8)) rest [29] rfl rfl (by kernel_rfl) (by kernel_rfl) (by kernel_rfl) rfl rfl (by rw [bV_len, hl, Nat.mul_one]) (hr) (hnc) (hcm) (srcof_ints (e' := 5) rfl (by kernel_rfl) rfl (by simp)) (by simp only [maxLen]; omega) (by omega) (by kernel_rfl)) (fun ⟨c1, r1⟩ hc1 _ => ?_)
  refine wo_flat 30 [.vals (bV (L ++ [(IntKind.wrap .u8 (Int.fdiv n (2 ^ (56 : Nat)))), (IntKind.wrap .u8 (Int.fdiv n (2 ^ (48 : Nat)))), (IntKind.wrap .u8 (Int.fdiv n (2 ^ (40 : Nat)))), (IntKind.wrap .u8 (Int.fdiv n (2 ^ (32 : Nat)))), (IntKind.wrap .u8 (Int.fdiv n (2 ^ (24 : Nat)))), (IntKind.wrap .u8 (Int.fdiv n (2 ^ (16 : Nat)))), (IntKind.wrap .u8 (Int.fdiv n (2 ^ (8 : Nat)))), (IntKind.wrap .u8 n)]) ++ r1)] rfl (fun ρ => by simp only [bV, iV, List.map_append]) (okCs_vals _) ?_
  refine wo_run [] [30] [30] (l' := [(30, .s (.a (.ls 30 0 (n0 + 8) c1)))]) (H' := [(30, ⟨[.vals (bV (L ++ [(IntKind.wrap .u8 (Int.fdiv n (2 ^ (56 : Nat)))), (IntKind.wrap .u8 (Int.fdiv n (2 ^ (48 : Nat)))), (IntKind.wrap .u8 (Int.fdiv n (2 ^ (40 : Nat)))), (IntKind.wrap .u8 (Int.fdiv n (2 ^ (32 : Nat)))), (IntKind.wrap .u8 (Int.fdiv n (2 ^ (24 : Nat)))), (IntKind.wrap .u8 (Int.fdiv n (2 ^ (16 : Nat)))), (IntKind.wrap .u8 (Int.fdiv n (2 ^ (8 : Nat)))), (IntKind.wrap .u8 n)]) ++ r1)], 5⟩)]) (by kernel_rfl) ?_
  refine wo_run [26] [4] [30] (l' := [(4, .s (.a (.ls 30 0 (n0 + 8) c1)))]) (H' := [(30, ⟨[.vals (bV (L ++ [(IntKind.wrap .u8 (Int.fdiv n (2 ^ (56 : Nat)))), (IntKind.wrap .u8 (Int.fdiv n (2 ^ (48 : Nat)))), (IntKind.wrap .u8 (Int.fdiv n (2 ^ (40 : Nat)))), (IntKind.wrap .u8 (Int.fdiv n (2 ^ (32 : Nat)))), (IntKind.wrap .u8 (Int.fdiv n (2 ^ (24 : Nat)))), (IntKind.wrap .u8 (Int.fdiv n (2 ^ (16 : Nat)))), (IntKind.wrap .u8 (Int.fdiv n (2 ^ (8 : Nat)))), (IntKind.wrap .u8 n)]) ++ r1)], 5⟩)]) (by kernel_rfl) ?_
  refine wo_nil ?_
  refine we_then ?_
  refine wc_ret ?_
  refine we_rest [4] [30] (l' := [(4, .s (.a (.ls 30 0 (n0 + 8) c1)))]) (H' := [(30, ⟨[.vals (bV (L ++ [(IntKind.wrap .u8 (Int.fdiv n (2 ^ (56 : Nat)))), (IntKind.wrap .u8 (Int.fdiv n (2 ^ (48 : Nat)))), (IntKind.wrap .u8 (Int.fdiv n (2 ^ (40 : Nat)))), (IntKind.wrap .u8 (Int.fdiv n (2 ^ (32 : Nat)))), (IntKind.wrap .u8 (Int.fdiv n (2 ^ (24 : Nat)))), (IntKind.wrap .u8 (Int.fdiv n (2 ^ (16 : Nat)))), (IntKind.wrap .u8 (Int.fdiv n (2 ^ (8 : Nat)))), (IntKind.wrap .u8 n)]) ++ r1)], 5⟩)]) (by kernel_rfl) (by kernel_rfl) ?_
  refine we_ret (.inl rfl) (v := .s (.a (.ls 30 0 (n0 + 8) c1))) (by kernel_rfl) ?_
  intro σ w' hf
  exact ⟨(c1, r1), σ, hc1, rfl, hf.ran rfl rfl⟩

set_option maxRecDepth 100000 in
set_option maxHeartbeats 4000000 in
theorem new_any (w : World) (ρ : Nat → Nat) (hH : HeapAt ρ [] w) :
    Calls Tryd.prog 23 ([].map (SV.conc ρ)).toArray w fun r' w' => ∃ (x0 : Unit) (σ : Nat → Nat), True ∧ r' = .returned (EV.conc σ (eL 3 0)) ∧ Ran ρ [] [(3, ⟨[.ints .u32 8 hs0.h, .ints .u8 64 hs0.rest, cI .u64 hs0.n], 88⟩)] w w' σ := by
  refine calls_enter (vs := []) (N := 4) [] ρ Tryd.func23 rfl rfl (Nat.le_of_ble_eq_true rfl) (okv_nil) hH.hp hH.inj ?_ _ rfl
  refine wc_seq ?_
  refine wc_reg [0] (by kernel_rfl) ?_
  refine wo_run [0] [] [] (l' := []) (H' := []) (by kernel_rfl) ?_
  refine wo_nil ?_
  refine we_then ?_
  refine wc_seq ?_
  refine wc_reg [0, 1, 2, 3] (by kernel_rfl) ?_
  refine wo_op rfl rfl (ot_rd rfl (rd_build (zc := z85) [.ints .u32 8 ([1779033703, 3144134277, 1013904242, 2773480762, 1359893119, 2600822924, 528734635, 1541459225])] rfl z85_zero' z85_ok (fun _ => rfl) (by kernel_rfl) (by kernel_rfl))) ?_
  refine wo_op rfl rfl (ot_rd rfl (rd_build (zc := z88) [.ints .u32 8 ([1779033703, 3144134277, 1013904242, 2773480762, 1359893119, 2600822924, 528734635, 1541459225]), .ints .u8 64 (List.replicate 64 0), cI .u64 0] rfl z88_zero' z88_ok (fun _ => rfl) (by kernel_rfl) (by kernel_rfl))) ?_
  refine wo_run [2, 3] [0] [3] (l' := [(0, eL 3 0)]) (H' := [(3, ⟨[.ints .u32 8 ([1779033703, 3144134277, 1013904242, 2773480762, 1359893119, 2600822924, 528734635, 1541459225]), .ints .u8 64 (List.replicate 64 0), cI .u64 0], 88⟩)]) (by kernel_rfl) ?_
  refine wo_nil ?_
  refine we_then ?_
  refine wc_ret ?_
  refine we_rest [0] [3] (l' := [(0, eL 3 0)]) (H' := [(3, ⟨[.ints .u32 8 ([1779033703, 3144134277, 1013904242, 2773480762, 1359893119, 2600822924, 528734635, 1541459225]), .ints .u8 64 (List.replicate 64 0), cI .u64 0], 88⟩)]) (by kernel_rfl) (by kernel_rfl) ?_
  refine we_ret (.inl rfl) (v := eL 3 0) (by kernel_rfl) ?_
  intro σ w' hf
  exact ⟨(), σ, trivial, rfl, hf.ran rfl rfl⟩

set_option maxRecDepth 100000 in
set_option maxHeartbeats 4000000 in
theorem hsum_any (s : HS) (hs : s.ok) (w : World) (ρ : Nat → Nat) (hH : HeapAt ρ [(100000, ⟨[.ints .u32 8 s.h, .ints .u8 64 s.rest, cI .u64 s.n], 88⟩)] w) (hK : KAt w) (hK2 : ρ 100000 ≠ gK) :
    Calls Tryd.prog 25 ([sL 100000 0].map (SV.conc ρ)).toArray w fun r' w' => ∃ (x0 : Unit) (σ : Nat → Nat), True ∧ r' = .returned (EV.conc σ (eA [.ints .u8 32 (sumH shaK s)])) ∧ Ran ρ [(100000, ⟨[.ints .u32 8 s.h, .ints .u8 64 s.rest, cI .u64 s.n], 88⟩)] [(100000, ⟨[.ints .u32 8 s.h, .ints .u8 64 s.rest, cI .u64 s.n], 88⟩)] w w' σ := by
  refine calls_enter (vs := [sL 100000 0]) (N := 47) [(100000, ⟨[.ints .u32 8 s.h, .ints .u8 64 s.rest, cI .u64 s.n], 88⟩)] ρ Tryd.func25 rfl rfl (Nat.le_of_ble_eq_true rfl) (okv_a (okv_nil)) hH.hp hH.inj ?_ _ rfl
  refine wc_seq ?_
  refine wc_reg [0] (by kernel_rfl) ?_
  refine wo_op rfl rfl (ot_alloc (d := 2) (cs := z25) rfl rfl z25_zero rfl z25_ok (fun _ => rfl)) ?_
  refine wo_nil ?_
  refine we_then ?_
  refine wc_seq ?_
  refine wc_reg [0, 1, 2, 3, 4] (by kernel_rfl) ?_
  refine wo_run [0, 1, 2] [0, 2, 10] [2, 100000] (l' := [(0, eL 100000 0), (2, eL 2 0), (10, eA [.ints .u32 8 s.h, .ints .u8 64 s.rest, cI .u64 s.n])]) (H' := [(2, ⟨[.ints .u8 32 (List.replicate 32 0)], 25⟩), (100000, ⟨[.ints .u32 8 s.h, .ints .u8 64 s.rest, cI .u64 s.n], 88⟩)]) (by kernel_rfl) ?_
  refine wo_op rfl rfl (ot_alloc (d := 3) (cs := z88) rfl rfl z88_zero rfl z88_ok (fun _ => rfl)) ?_
  refine wo_run [4] [0, 2, 3] [2, 3, 100000] (l' := [(0, eL 100000 0), (2, eL 2 0), (3, eL 3 0)]) (H' := [(2, ⟨[.ints .u8 32 (List.replicate 32 0)], 25⟩), (3, ⟨[.ints .u32 8 s.h, .ints .u8 64 s.rest, cI .u64 s.n], 88⟩), (100000, ⟨[.ints .u32 8 s.h, .ints .u8 64 s.rest, cI .u64 s.n], 88⟩)]) (by kernel_rfl) ?_
  refine wo_nil ?_
  refine we_then ?_
  refine wc_seq ?_
  refine wc_reg [0, 1] (by kernel_rfl) ?_
  refine wo_op rfl rfl (ot_make (e := 5) (L := 1) (c := 72) (bytes := 1) (v := .int .u8 0) rfl rfl (by kernel_rfl) (by kernel_rfl) (by kernel_rfl) rfl rfl (rfl) (rfl) (by decide) (by decide) (by decide) (by kernel_rfl)) ?_
  refine wo_run [1] [0, 2, 3, 4] [2, 3, 11, 100000] (l' := [(0, eL 100000 0), (2, eL 2 0), (3, eL 3 0), (4, .s (.a (.ls 11 0 1 72)))]) (H' := [(2, ⟨[.ints .u8 32 (List.replicate 32 0)], 25⟩), (3, ⟨[.ints .u32 8 s.h, .ints .u8 64 s.rest, cI .u64 s.n], 88⟩), (11, ⟨[.vals (List.replicate 72 (Value.int .u8 0))], 5⟩), (100000, ⟨[.ints .u32 8 s.h, .ints .u8 64 s.rest, cI .u64 s.n], 88⟩)]) (by kernel_rfl) ?_
  refine wo_nil ?_
  refine we_then ?_
  refine wc_seq ?_
  refine wc_flat 11 [.vals (bV (List.replicate 1 0) ++ bV (List.replicate 71 0))] rfl (fun ρ => rfl) (okCs_vals _) ?_
  refine wc_rest [0, 2, 3, 4] [2, 3, 11, 100000] (l' := [(0, eL 100000 0), (2, eL 2 0), (3, eL 3 0), (4, .s (.a (.ls 11 0 1 72)))]) (H' := [(2, ⟨[.ints .u8 32 (List.replicate 32 0)], 25⟩), (3, ⟨[.ints .u32 8 s.h, .ints .u8 64 s.rest, cI .u64 s.n], 88⟩), (11, ⟨[.vals (bV (List.replicate 1 0) ++ bV (List.replicate 71 0))], 5⟩), (100000, ⟨[.ints .u32 8 s.h, .ints .u8 64 s.rest, cI .u64 s.n], 88⟩)]) (by kernel_rfl) ?_
  refine wc_reg [0, 1, 2] (by kernel_rfl) ?_
  refine wo_run [0] [0, 2, 3, 4, 12] [2, 3, 11, 100000] (l' := [(0, eL 100000 0), (2, eL 2 0), (3, eL 3 0), (4, .s (.a (.ls 11 0 1 72))), (12, .s (.a (.ls 11 0 1 72)))]) (H' := [(2, ⟨[.ints .u8 32 (List.replicate 32 0)], 25⟩), (3, ⟨[.ints .u32 8 s.h, .ints .u8 64 s.rest, cI .u64 s.n], 88⟩), (11, ⟨[.vals (bV (List.replicate 1 0) ++ bV (List.replicate 71 0))], 5⟩), (100000, ⟨[.ints .u32 8 s.h, .ints .u8 64 s.rest, cI .u64 s.n], 88⟩)]) (by kernel_rfl) ?_
  refine wo_op rfl rfl (ot_rd rfl (rd_indexL (e := 5) 1 0 0 rfl (by kernel_rfl) (by kernel_rfl) rfl rfl (rfl) (by decide))) ?_
  refine wo_op rfl rfl (ot_storeS (b := ⟨[.vals (bV (List.replicate 1 0) ++ bV (List.replicate 71 0))], 5⟩) (v := (sI .u8 128)) [.vals (bV ((List.replicate 1 0).set 0 128) ++ bV (List.replicate 71 0))] rfl rfl rfl rfl rfl rfl (by kernel_rfl) (okCs_vals _) (fun ρ => by rw [flat_vals, List.length_append, bV_len]; have : 0 < ((List.replicate 1 0) : List Int).length := (by decide); simp only [SV.chunks, sz]; omega) (fun ρ => row_set (i := 0) (by decide) (by omega) ρ)) ?_
  refine wo_nil ?_
  refine we_then ?_
  refine wc_seq ?_
  refine wc_block ?_
  refine wc_rest [0, 2, 3, 4] [2, 3, 11, 100000] (l' := [(0, eL 100000 0), (2, eL 2 0), (3, eL 3 0), (4, .s (.a (.ls 11 0 1 72)))]) (H' := [(2, ⟨[.ints .u8 32 (List.replicate 32 0)], 25⟩), (3, ⟨[.ints .u32 8 s.h, .ints .u8 64 s.rest, cI .u64 s.n], 88⟩), (11, ⟨[.vals (bV ((List.replicate 1 0).set 0 128) ++ bV (List.replicate 71 0))], 5⟩), (100000, ⟨[.ints .u32 8 s.h, .ints .u8 64 s.rest, cI .u64 s.n], 88⟩)]) (by kernel_rfl) ?_
  refine wc_loop (τ := Nat × Nat × List Value) (fun ⟨j, cp, rs⟩ => j ≤ padz s.n ∧ j + 1 ≤ cp ∧ cp ≤ maxLen ∧ rs.length = (cp - (j + 1)) * 1) (fun ⟨j, cp, rs⟩ => padz s.n - j) (fun _ => _) (fun ⟨j, cp, rs⟩ => [(0, eL 100000 0), (2, eL 2 0), (3, eL 3 0), (4, .s (.a (.ls 11 0 (j + 1) cp)))]) (fun ⟨j, cp, rs⟩ => [(2, ⟨[.ints .u8 32 (List.replicate 32 0)], 25⟩), (3, ⟨[.ints .u32 8 s.h, .ints .u8 64 s.rest, cI .u64 s.n], 88⟩), (11, ⟨[.vals (bV (128 :: List.replicate j 0) ++ rs)], 5⟩), (100000, ⟨[.ints .u32 8 s.h, .ints .u8 64 s.rest, cI .u64 s.n], 88⟩)]) (0, 72, bV (List.replicate 71 0)) (⟨Nat.zero_le _, by decide, by decide, by simp [bV]⟩) rfl rfl rfl ?_
  rintro ⟨j, cp, rs⟩ hj
  obtain ⟨hj0, hjc, hcm, hrs⟩ := hj
  have hpz := padz_lt s.n
  refine wc_seq ?_
  refine wc_seq ?_
  refine wc_reg [0, 1, 2, 3, 4, 5, 6, 7] (by kernel_rfl) ?_
  refine wo_run [0, 1, 2] [0, 2, 3, 4, 15, 16] [2, 3, 11, 100000] (l' := [(0, eL 100000 0), (2, eL 2 0), (3, eL 3 0), (4, .s (.a (.ls 11 0 (j + 1) cp))), (15, eI .u64 s.n), (16, .s (.a (.ls 11 0 (j + 1) cp)))]) (H' := [(2, ⟨[.ints .u8 32 (List.replicate 32 0)], 25⟩), (3, ⟨[.ints .u32 8 s.h, .ints .u8 64 s.rest, cI .u64 s.n], 88⟩), (11, ⟨[.vals (bV (128 :: List.replicate j 0) ++ rs)], 5⟩), (100000, ⟨[.ints .u32 8 s.h, .ints .u8 64 s.rest, cI .u64 s.n], 88⟩)]) (by kernel_rfl) ?_
  refine wo_op rfl rfl (ot_rd rfl (rd_len rfl rfl rfl rfl (fun _ => by kernel_rfl))) ?_
  refine wo_op rfl rfl (ot_rd rfl (rd_recast (e := eI .u64 (IntKind.wrap .u64 (((j + 1) : Nat) : Int))) (eI .u64 ((j + 1 : Nat) : Int)) (by kernel_rfl) (congrArg (fun z => eI .u64 z) (w_nat_u64 (by omega))))) ?_
  refine wo_run [5, 6, 7] [0, 2, 3, 4, 21] [2, 3, 11, 100000] (l' := [(0, eL 100000 0), (2, eL 2 0), (3, eL 3 0), (4, .s (.a (.ls 11 0 (j + 1) cp))), (21, eB ((Int.tmod (IntKind.wrap .u64 (s.n + ((j + 1 : Nat) : Int))) 64) != 56))]) (H' := [(2, ⟨[.ints .u8 32 (List.replicate 32 0)], 25⟩), (3, ⟨[.ints .u32 8 s.h, .ints .u8 64 s.rest, cI .u64 s.n], 88⟩), (11, ⟨[.vals (bV (128 :: List.replicate j 0) ++ rs)], 5⟩), (100000, ⟨[.ints .u32 8 s.h, .ints .u8 64 s.rest, cI .u64 s.n], 88⟩)]) (by kernel_rfl) ?_
  refine wo_nil ?_
  refine we_then ?_
  refine wc_cond rfl (fun h1 => ?_) (fun h1 => ?_)
  · replace h1 := bne_iff_ne.1 h1
    refine wc_skip ?_
    refine we_then ?_
    refine wc_block ?_
    refine wc_reg [0, 1, 2, 3] (by kernel_rfl) ?_
    refine wo_run [0] [0, 2, 3, 22] [2, 3, 11, 100000] (l' := [(0, eL 100000 0), (2, eL 2 0), (3, eL 3 0), (22, .s (.a (.ls 11 0 (j + 1) cp)))]) (H' := [(2, ⟨[.ints .u8 32 (List.replicate 32 0)], 25⟩), (3, ⟨[.ints .u32 8 s.h, .ints .u8 64 s.rest, cI .u64 s.n], 88⟩), (11, ⟨[.vals (bV (128 :: List.replicate j 0) ++ rs)], 5⟩), (100000, ⟨[.ints .u32 8 s.h, .ints .u8 64 s.rest, cI .u64 s.n], 88⟩)]) (by kernel_rfl) ?_
    refine wo_op rfl rfl (ot_bslice (e := 5) (d := 23) (n := 1) (size := 1) [.ints .u8 1 (List.replicate 1 0)] [cI .u8 0] rfl rfl rfl (by kernel_rfl) rfl (by kernel_rfl) (okc_ints (List.length_replicate) (okc_nil)) (fun _ => rfl) (by kernel_rfl) (by kernel_rfl)) ?_
    refine wo_ox rfl rfl (ox_appendS (e := 5) (m := 1) (size := 1) (bytes := 1) 24 11 (j + 1) cp (bV (128 :: List.replicate j 0)) ([0].map (Value.int .u8)) rs [23, 2, 3, 100000] rfl rfl (by kernel_rfl) (by kernel_rfl) (by kernel_rfl) rfl rfl (by rw [bV_len]; simp) (hrs) (hjc) (hcm) (srcof_one (e' := 5) rfl (by kernel_rfl) rfl) (by simp only [maxLen]; omega) (by omega) (by kernel_rfl)) (fun ⟨c1, r1⟩ hc1 _ => ?_)
    refine wo_flat 24 [.vals (bV ((128 :: List.replicate j 0) ++ [0]) ++ r1)] rfl (fun ρ => by simp only [bV, iV, List.map_append]) (okCs_vals _) ?_
    refine wo_run [] [0, 2, 3, 24] [2, 3, 24, 100000] (l' := [(0, eL 100000 0), (2, eL 2 0), (3, eL 3 0), (24, .s (.a (.ls 24 0 ((j + 1) + 1) c1)))]) (H' := [(2, ⟨[.ints .u8 32 (List.replicate 32 0)], 25⟩), (3, ⟨[.ints .u32 8 s.h, .ints .u8 64 s.rest, cI .u64 s.n], 88⟩), (24, ⟨[.vals (bV ((128 :: List.replicate j 0) ++ [0]) ++ r1)], 5⟩), (100000, ⟨[.ints .u32 8 s.h, .ints .u8 64 s.rest, cI .u64 s.n], 88⟩)]) (by kernel_rfl) ?_
    refine wo_run [3] [0, 2, 3, 4] [2, 3, 24, 100000] (l' := [(0, eL 100000 0), (2, eL 2 0), (3, eL 3 0), (4, .s (.a (.ls 24 0 ((j + 1) + 1) c1)))]) (H' := [(2, ⟨[.ints .u8 32 (List.replicate 32 0)], 25⟩), (3, ⟨[.ints .u32 8 s.h, .ints .u8 64 s.rest, cI .u64 s.n], 88⟩), (24, ⟨[.vals (bV ((128 :: List.replicate j 0) ++ [0]) ++ r1)], 5⟩), (100000, ⟨[.ints .u32 8 s.h, .ints .u8 64 s.rest, cI .u64 s.n], 88⟩)]) (by kernel_rfl) ?_
    refine wo_nil ?_
    refine we_block ?_
    have hj1 := pad_go hs hj0 h1
    refine we_rest [0, 2, 3, 4] [2, 3, 24, 100000] (l' := [(0, eL 100000 0), (2, eL 2 0), (3, eL 3 0), (4, .s (.a (.ls 24 0 ((j + 1) + 1) c1)))]) (H' := [(2, ⟨[.ints .u8 32 (List.replicate 32 0)], 25⟩), (3, ⟨[.ints .u32 8 s.h, .ints .u8 64 s.rest, cI .u64 s.n], 88⟩), (24, ⟨[.vals (bV ((128 :: List.replicate j 0) ++ [0]) ++ r1)], 5⟩), (100000, ⟨[.ints .u32 8 s.h, .ints .u8 64 s.rest, cI .u64 s.n], 88⟩)]) (by kernel_rfl) (by kernel_rfl) ?_
    refine we_ren [(2, 2), (3, 3), (24, 11), (100000, 100000)] (l' := [(0, eL 100000 0), (2, eL 2 0), (3, eL 3 0), (4, .s (.a (.ls 11 0 ((j + 1) + 1) c1)))]) (H' := [(2, ⟨[.ints .u8 32 (List.replicate 32 0)], 25⟩), (3, ⟨[.ints .u32 8 s.h, .ints .u8 64 s.rest, cI .u64 s.n], 88⟩), (11, ⟨[.vals (bV ((128 :: List.replicate j 0) ++ [0]) ++ r1)], 5⟩), (100000, ⟨[.ints .u32 8 s.h, .ints .u8 64 s.rest, cI .u64 s.n], 88⟩)]) (by kernel_rfl) (by kernel_rfl) (by kernel_rfl) ?_
    refine we_rest [0, 2, 3, 4] [2, 3, 11, 100000] (l' := [(0, eL 100000 0), (2, eL 2 0), (3, eL 3 0), (4, .s (.a (.ls 11 0 ((j + 1) + 1) c1)))]) (H' := [(2, ⟨[.ints .u8 32 (List.replicate 32 0)], 25⟩), (3, ⟨[.ints .u32 8 s.h, .ints .u8 64 s.rest, cI .u64 s.n], 88⟩), (11, ⟨[.vals (bV ((128 :: List.replicate j 0) ++ [0]) ++ r1)], 5⟩), (100000, ⟨[.ints .u32 8 s.h, .ints .u8 64 s.rest, cI .u64 s.n], 88⟩)]) (by kernel_rfl) (by kernel_rfl) ?_
    rw [show (bV ((128 :: List.replicate j 0) ++ [0]) ++ r1) = (bV (128 :: List.replicate (j + 1) 0) ++ r1) from by rw [pad_more]]
    rw [show ((j + 1) + 1) = (j + 1 + 1) from rfl]
    exact we_round (j + 1, c1, r1) (⟨hj1, by omega, hc1.2.1, by have := hc1.2.2; omega⟩) (by show padz s.n - (j + 1) < padz s.n - j; omega) rfl (sub_ofE [0, 2, 3, 4] rfl) (sub_of [2, 3, 11, 100000] rfl)
  · replace h1 := bne_eq_false_iff_eq.1 h1
    refine wc_exit ?_
    refine we_then_exit ?_
    refine we_then_exit ?_
    refine we_block_exit ?_
    refine we_then ?_
    refine wc_seq ?_
    refine wc_reg [0, 1, 2, 3, 4, 5, 6, 7] (by kernel_rfl) ?_
    refine wo_run [0, 1, 2, 3, 4, 5] [2, 3, 25, 30] [2, 3, 11, 100000] (l' := [(2, eL 2 0), (3, eL 3 0), (25, .s (.a (.ls 11 0 (j + 1) cp))), (30, eI .u64 (IntKind.wrap .u64 (8 * s.n)))]) (H' := [(2, ⟨[.ints .u8 32 (List.replicate 32 0)], 25⟩), (3, ⟨[.ints .u32 8 s.h, .ints .u8 64 s.rest, cI .u64 s.n], 88⟩), (11, ⟨[.vals (bV (128 :: List.replicate j 0) ++ rs)], 5⟩), (100000, ⟨[.ints .u32 8 s.h, .ints .u8 64 s.rest, cI .u64 s.n], 88⟩)]) (by kernel_rfl) ?_
    refine wo_ox rfl rfl (ox_callm (τ := Nat × List Value) (φ := fun y => (((j + 1) + 8) ≤ y.1 ∧ y.1 ≤ maxLen ∧ y.2.length = (y.1 - ((j + 1) + 8)) * 1)) [.a (.ls 100000 0 (j + 1) cp), sI .u64 (IntKind.wrap .u64 (8 * s.n))] [(100000, ⟨[.vals (bV (128 :: List.replicate j 0) ++ rs)], 5⟩)] [(100000, 11)] [(30, 31)] [2, 3, 100000] (fun ⟨c2, r2⟩ => .s (.a (.ls 30 0 ((j + 1) + 8) c2))) (fun ⟨c2, r2⟩ => [(30, ⟨[.vals (bV ((128 :: List.replicate j 0) ++ be8 (IntKind.wrap .u64 (8 * s.n))) ++ r2)], 5⟩)]) rfl (by kernel_rfl) rfl Tryd.func43 (by kernel_rfl) (by kernel_rfl) (by kernel_rfl) (by kernel_rfl) (by kernel_rfl) (by kernel_rfl) (⟨⟨by kernel_rfl, by kernel_rfl, by kernel_rfl⟩, trivial⟩) (fun _ => by kernel_rfl) (fun _ => by kernel_rfl) (fun ⟨c2, r2⟩ _ => trivial) (fun ρ w h hh => appU64_row (128 :: List.replicate j 0) (j + 1) cp rs (IntKind.wrap .u64 (8 * s.n)) (by simp) (hjc) (hcm) (hrs) (by omega) w _ hh)) (fun ⟨c2, r2⟩ hc2 _ => ?_)
    refine wo_run [] [2, 3, 31] [2, 3, 31, 100000] (l' := [(2, eL 2 0), (3, eL 3 0), (31, .s (.a (.ls 31 0 ((j + 1) + 8) c2)))]) (H' := [(2, ⟨[.ints .u8 32 (List.replicate 32 0)], 25⟩), (3, ⟨[.ints .u32 8 s.h, .ints .u8 64 s.rest, cI .u64 s.n], 88⟩), (31, ⟨[.vals (bV ((128 :: List.replicate j 0) ++ be8 (IntKind.wrap .u64 (8 * s.n))) ++ r2)], 5⟩), (100000, ⟨[.ints .u32 8 s.h, .ints .u8 64 s.rest, cI .u64 s.n], 88⟩)]) (by kernel_rfl) ?_
    refine wo_run [7] [2, 3, 4] [2, 3, 31, 100000] (l' := [(2, eL 2 0), (3, eL 3 0), (4, .s (.a (.ls 31 0 ((j + 1) + 8) c2)))]) (H' := [(2, ⟨[.ints .u8 32 (List.replicate 32 0)], 25⟩), (3, ⟨[.ints .u32 8 s.h, .ints .u8 64 s.rest, cI .u64 s.n], 88⟩), (31, ⟨[.vals (bV ((128 :: List.replicate j 0) ++ be8 (IntKind.wrap .u64 (8 * s.n))) ++ r2)], 5⟩), (100000, ⟨[.ints .u32 8 s.h, .ints .u8 64 s.rest, cI .u64 s.n], 88⟩)]) (by kernel_rfl) ?_
    refine wo_nil ?_
    refine we_then ?_
    refine wc_seq ?_
    have hpd : 128 :: List.replicate j 0 ++ be8 (IntKind.wrap .u64 (8 * s.n)) = pad s.n := pad_end hs hj0 h1
    refine wc_flat 31 [.vals (bV (pad s.n) ++ r2)] rfl (fun ρ => by rw [← hpd]) (okCs_vals _) ?_
    refine wc_rest [2, 3, 4] [2, 3, 31, 100000] (l' := [(2, eL 2 0), (3, eL 3 0), (4, .s (.a (.ls 31 0 ((j + 1) + 8) c2)))]) (H' := [(2, ⟨[.ints .u8 32 (List.replicate 32 0)], 25⟩), (3, ⟨[.ints .u32 8 s.h, .ints .u8 64 s.rest, cI .u64 s.n], 88⟩), (31, ⟨[.vals (bV (pad s.n) ++ r2)], 5⟩), (100000, ⟨[.ints .u32 8 s.h, .ints .u8 64 s.rest, cI .u64 s.n], 88⟩)]) (by kernel_rfl) ?_
    refine wc_reg [0, 1] (by kernel_rfl) ?_
    refine wo_run [0] [2, 3, 32] [2, 3, 31, 100000] (l' := [(2, eL 2 0), (3, eL 3 0), (32, .s (.a (.ls 31 0 ((j + 1) + 8) c2)))]) (H' := [(2, ⟨[.ints .u8 32 (List.replicate 32 0)], 25⟩), (3, ⟨[.ints .u32 8 s.h, .ints .u8 64 s.rest, cI .u64 s.n], 88⟩), (31, ⟨[.vals (bV (pad s.n) ++ r2)], 5⟩), (100000, ⟨[.ints .u32 8 s.h, .ints .u8 64 s.rest, cI .u64 s.n], 88⟩)]) (by kernel_rfl) ?_
    refine wo_ox rfl rfl (ox_callm (τ := Unit) (φ := fun _ => True) [sL 100000 0, .a (.ls 100001 0 ((j + 1) + 8) c2)] [(100001, ⟨[.vals (bV (pad s.n) ++ r2)], 5⟩), (100000, ⟨[.ints .u32 8 s.h, .ints .u8 64 s.rest, cI .u64 s.n], 88⟩)] [(100001, 31), (100000, 3)] [] [2, 100000] (fun _ => .t []) (fun _ => [(100001, ⟨[.vals (bV (pad s.n) ++ r2)], 5⟩), (100000, ⟨[.ints .u32 8 ((wr shaK s (pad s.n)).h), .ints .u8 64 ((wr shaK s (pad s.n)).rest), cI .u64 (wr shaK s (pad s.n)).n], 88⟩)]) rfl (by kernel_rfl) rfl Tryd.func24 (by kernel_rfl) (by kernel_rfl) (by kernel_rfl) (by kernel_rfl) (by kernel_rfl) (by kernel_rfl) (⟨⟨by kernel_rfl, by kernel_rfl, by kernel_rfl⟩, ⟨⟨by kernel_rfl, by kernel_rfl, by kernel_rfl⟩, trivial⟩⟩) (fun _ => by kernel_rfl) (fun _ => by kernel_rfl) (fun _ _ => okv_nil) (fun ρ w h hh => write_own s (hs) [.vals (bV (pad s.n) ++ r2)] 5 ((j + 1) + 8) c2 (pad s.n) (pad_ok _) (by rw [← hpd]; simp [be8]) (hc2.1) (hc2.2.1) (fun ρ i x hi => by rw [flat_vals]; exact bV_get hi) (fun _ _ => rfl) w _ hh (hK.at h (xI1 _ (fun e => hK2 e.symm) hK.lt) rfl) (fun e => h.own 3 _ rfl (by rw [show ρ 3 = gK from e]; exact xI1 _ (fun e => hK2 e.symm) hK.lt)))) (fun _ _ _ => ?_)
    refine wo_run [] [2, 3] [2, 3, 100000] (l' := [(2, eL 2 0), (3, eL 3 0)]) (H' := [(2, ⟨[.ints .u8 32 (List.replicate 32 0)], 25⟩), (3, ⟨[.ints .u32 8 ((wr shaK s (pad s.n)).h), .ints .u8 64 ((wr shaK s (pad s.n)).rest), cI .u64 (wr shaK s (pad s.n)).n], 88⟩), (100000, ⟨[.ints .u32 8 s.h, .ints .u8 64 s.rest, cI .u64 s.n], 88⟩)]) (by kernel_rfl) ?_
    refine wo_nil ?_
    refine we_then ?_
    refine wc_seq ?_
    refine wc_reg [0] (by kernel_rfl) ?_
    refine wo_op rfl rfl (ot_alloc (d := 5) (cs := z25) rfl rfl z25_zero rfl z25_ok (fun _ => rfl)) ?_
    refine wo_nil ?_
    refine we_then ?_
    refine wc_seq ?_
    refine wc_seq ?_
    refine wc_reg [0, 1, 2] (by kernel_rfl) ?_
    refine wo_run [0, 1, 2] [2, 5, 35, 36] [2, 5, 100000] (l' := [(2, eL 2 0), (5, eL 5 0), (35, eA [.ints .u32 8 ((wr shaK s (pad s.n)).h)]), (36, eI .i64 0)]) (H' := [(2, ⟨[.ints .u8 32 (List.replicate 32 0)], 25⟩), (5, ⟨[.ints .u8 32 (List.replicate 32 0)], 25⟩), (100000, ⟨[.ints .u32 8 s.h, .ints .u8 64 s.rest, cI .u64 s.n], 88⟩)]) (by kernel_rfl) ?_
    refine wo_nil ?_
    refine we_then ?_
    refine wc_block ?_
    refine wc_rest [2, 5, 35, 36] [2, 5, 100000] (l' := [(2, eL 2 0), (5, eL 5 0), (35, eA [.ints .u32 8 ((wr shaK s (pad s.n)).h)]), (36, eI .i64 0)]) (H' := [(2, ⟨[.ints .u8 32 (List.replicate 32 0)], 25⟩), (5, ⟨[.ints .u8 32 (List.replicate 32 0)], 25⟩), (100000, ⟨[.ints .u32 8 s.h, .ints .u8 64 s.rest, cI .u64 s.n], 88⟩)]) (by kernel_rfl) ?_
    refine wc_loop (τ := Nat) (fun i => i ≤ 8) (fun i => 8 - i) (fun _ => _) (fun i => [(2, eL 2 0), (5, eL 5 0), (35, eA [.ints .u32 8 ((wr shaK s (pad s.n)).h)]), (36, eI .i64 ((i : Nat) : Int))]) (fun i => [(2, ⟨[.ints .u8 32 (List.replicate 32 0)], 25⟩), (5, ⟨[.ints .u8 32 (digF (wr shaK s (pad s.n)).h i)], 25⟩), (100000, ⟨[.ints .u32 8 s.h, .ints .u8 64 s.rest, cI .u64 s.n], 88⟩)]) 0 (Nat.zero_le _) rfl rfl rfl ?_
    rintro i hj
    have hi := hj
    refine wc_seq ?_
    refine wc_reg [0] (by kernel_rfl) ?_
    refine wo_run [0] [2, 5, 35, 36, 37] [2, 5, 100000] (l' := [(2, eL 2 0), (5, eL 5 0), (35, eA [.ints .u32 8 ((wr shaK s (pad s.n)).h)]), (36, eI .i64 ((i : Nat) : Int)), (37, eB (decide (((i : Nat) : Int) < 8)))]) (H' := [(2, ⟨[.ints .u8 32 (List.replicate 32 0)], 25⟩), (5, ⟨[.ints .u8 32 (digF (wr shaK s (pad s.n)).h i)], 25⟩), (100000, ⟨[.ints .u32 8 s.h, .ints .u8 64 s.rest, cI .u64 s.n], 88⟩)]) (by kernel_rfl) ?_
    refine wo_nil ?_
    refine we_then ?_
    refine wc_seq ?_
    refine wc_cond rfl (fun h2 => ?_) (fun h2 => ?_)
    · replace h2 := of_decide_eq_true h2
      refine wc_skip ?_
      refine we_then ?_
      refine wc_seq ?_
      refine wc_block ?_
      refine wc_seq ?_
      refine wc_reg [0, 1, 2, 3] (by kernel_rfl) ?_
      refine wo_run [0] [2, 5, 35, 36, 38] [2, 5, 100000] (l' := [(2, eL 2 0), (5, eL 5 0), (35, eA [.ints .u32 8 ((wr shaK s (pad s.n)).h)]), (36, eI .i64 ((i : Nat) : Int)), (38, eI .i64 ((i : Nat) : Int))]) (H' := [(2, ⟨[.ints .u8 32 (List.replicate 32 0)], 25⟩), (5, ⟨[.ints .u8 32 (digF (wr shaK s (pad s.n)).h i)], 25⟩), (100000, ⟨[.ints .u32 8 s.h, .ints .u8 64 s.rest, cI .u64 s.n], 88⟩)]) (by kernel_rfl) ?_
      refine wo_op rfl rfl (ot_rd rfl (rd_indexN (e := 79) (n := 8) (xs := (wr shaK s (pad s.n)).h) i ((i : Nat) : Int) rfl (by kernel_rfl) (by kernel_rfl) (by kernel_rfl) (by kernel_rfl) rfl rfl (rfl) (by omega))) ?_
      refine wo_run [2, 3] [2, 5, 6, 7, 35, 36] [2, 5, 100000] (l' := [(2, eL 2 0), (5, eL 5 0), (6, eI .i64 ((i : Nat) : Int)), (7, eI .u32 (((wr shaK s (pad s.n)).h).getD i 0)), (35, eA [.ints .u32 8 ((wr shaK s (pad s.n)).h)]), (36, eI .i64 ((i : Nat) : Int))]) (H' := [(2, ⟨[.ints .u8 32 (List.replicate 32 0)], 25⟩), (5, ⟨[.ints .u8 32 (digF (wr shaK s (pad s.n)).h i)], 25⟩), (100000, ⟨[.ints .u32 8 s.h, .ints .u8 64 s.rest, cI .u64 s.n], 88⟩)]) (by kernel_rfl) ?_
      refine wo_nil ?_
      refine we_then ?_
      refine wc_reg [0, 1, 2, 3, 4] (by kernel_rfl) ?_
      refine wo_run [0] [2, 5, 7, 35, 36, 40] [2, 5, 100000] (l' := [(2, eL 2 0), (5, eL 5 0), (7, eI .u32 (((wr shaK s (pad s.n)).h).getD i 0)), (35, eA [.ints .u32 8 ((wr shaK s (pad s.n)).h)]), (36, eI .i64 ((i : Nat) : Int)), (40, eI .i64 ((i : Nat) : Int))]) (H' := [(2, ⟨[.ints .u8 32 (List.replicate 32 0)], 25⟩), (5, ⟨[.ints .u8 32 (digF (wr shaK s (pad s.n)).h i)], 25⟩), (100000, ⟨[.ints .u32 8 s.h, .ints .u8 64 s.rest, cI .u64 s.n], 88⟩)]) (by kernel_rfl) ?_
      refine wo_op rfl rfl (ot_rd rfl (rd_recast (e := eI .i64 (IntKind.wrap .i64 (4 * ((i : Nat) : Int)))) (eI .i64 ((4 * i : Nat) : Int)) (by kernel_rfl) (congrArg (fun z => eI .i64 z) (w_mul_i64 (a := 4) (b := i) (by omega))))) ?_
      refine wo_op rfl rfl (ot_rd rfl (rd_sliceA (n := 32) (e := 5) (i := (4 * i)) (j := 32) (size := 1) (vl := (some (.int .i64 ((4 * i : Nat) : Int)))) (vh := none) rfl (by kernel_rfl) (by kernel_rfl) rfl rfl rfl (fun w => sb_l w false 32 32 .i64 (rfl) (by first | assumption | omega)) (.inr (by omega)))) ?_
      refine wo_run [3] [2, 5, 35, 36, 42, 43] [2, 5, 100000] (l' := [(2, eL 2 0), (5, eL 5 0), (35, eA [.ints .u32 8 ((wr shaK s (pad s.n)).h)]), (36, eI .i64 ((i : Nat) : Int)), (42, .s (.a (.ls 5 (0 + (4 * i) * 1) (32 - (4 * i)) (32 - (4 * i))))), (43, eI .u32 (((wr shaK s (pad s.n)).h).getD i 0))]) (H' := [(2, ⟨[.ints .u8 32 (List.replicate 32 0)], 25⟩), (5, ⟨[.ints .u8 32 (digF (wr shaK s (pad s.n)).h i)], 25⟩), (100000, ⟨[.ints .u32 8 s.h, .ints .u8 64 s.rest, cI .u64 s.n], 88⟩)]) (by kernel_rfl) ?_
      refine wo_ox rfl rfl (ox_callm (τ := Unit) (φ := fun _ => True) [.a (.ls 100000 (0 + (4 * i) * 1) (32 - (4 * i)) (32 - (4 * i))), sI .u32 (((wr shaK s (pad s.n)).h).getD i 0)] [(100000, ⟨[.ints .u8 32 (digF (wr shaK s (pad s.n)).h i)], 25⟩)] [(100000, 5)] [] [2, 100000] (fun _ => .t []) (fun _ => [(100000, ⟨[.ints .u8 32 (put4 (digF (wr shaK s (pad s.n)).h i) (0 + (4 * i) * 1) (((wr shaK s (pad s.n)).h).getD i 0))], 25⟩)]) rfl (by kernel_rfl) rfl Tryd.func47 (by kernel_rfl) (by kernel_rfl) (by kernel_rfl) (by kernel_rfl) (by kernel_rfl) (by kernel_rfl) (⟨⟨by kernel_rfl, by kernel_rfl, by kernel_rfl⟩, trivial⟩) (fun _ => by kernel_rfl) (fun _ => by kernel_rfl) (fun _ _ => okv_nil) (fun ρ w h hh => putU32_any (digF (wr shaK s (pad s.n)).h i) (0 + (4 * i) * 1) (32 - (4 * i)) (32 - (4 * i)) (((wr shaK s (pad s.n)).h).getD i 0) (digF_len _ _) (by omega) (by omega) w _ hh)) (fun _ _ _ => ?_)
      refine wo_run [] [2, 5, 35, 36] [2, 5, 100000] (l' := [(2, eL 2 0), (5, eL 5 0), (35, eA [.ints .u32 8 ((wr shaK s (pad s.n)).h)]), (36, eI .i64 ((i : Nat) : Int))]) (H' := [(2, ⟨[.ints .u8 32 (List.replicate 32 0)], 25⟩), (5, ⟨[.ints .u8 32 (put4 (digF (wr shaK s (pad s.n)).h i) (0 + (4 * i) * 1) (((wr shaK s (pad s.n)).h).getD i 0))], 25⟩), (100000, ⟨[.ints .u32 8 s.h, .ints .u8 64 s.rest, cI .u64 s.n], 88⟩)]) (by kernel_rfl) ?_
      refine wo_nil ?_
      refine we_block ?_
      refine we_then ?_
      refine wc_reg [0, 1] (by kernel_rfl) ?_
      refine wo_op rfl rfl (ot_rd rfl (rd_recast (e := eI .i64 (IntKind.wrap .i64 (((i : Nat) : Int) + 1))) (eI .i64 ((i + 1 : Nat) : Int)) (by kernel_rfl) (congrArg (fun z => eI .i64 z) (w_add_i64 (a := i) (b := 1) (by omega))))) ?_
      refine wo_run [1] [2, 5, 35, 36] [2, 5, 100000] (l' := [(2, eL 2 0), (5, eL 5 0), (35, eA [.ints .u32 8 ((wr shaK s (pad s.n)).h)]), (36, eI .i64 ((i + 1 : Nat) : Int))]) (H' := [(2, ⟨[.ints .u8 32 (List.replicate 32 0)], 25⟩), (5, ⟨[.ints .u8 32 (put4 (digF (wr shaK s (pad s.n)).h i) (0 + (4 * i) * 1) (((wr shaK s (pad s.n)).h).getD i 0))], 25⟩), (100000, ⟨[.ints .u32 8 s.h, .ints .u8 64 s.rest, cI .u64 s.n], 88⟩)]) (by kernel_rfl) ?_
      refine wo_nil ?_
      refine we_rest [2, 5, 35, 36] [2, 5, 100000] (l' := [(2, eL 2 0), (5, eL 5 0), (35, eA [.ints .u32 8 ((wr shaK s (pad s.n)).h)]), (36, eI .i64 ((i + 1 : Nat) : Int))]) (H' := [(2, ⟨[.ints .u8 32 (List.replicate 32 0)], 25⟩), (5, ⟨[.ints .u8 32 (put4 (digF (wr shaK s (pad s.n)).h i) (0 + (4 * i) * 1) (((wr shaK s (pad s.n)).h).getD i 0))], 25⟩), (100000, ⟨[.ints .u32 8 s.h, .ints .u8 64 s.rest, cI .u64 s.n], 88⟩)]) (by kernel_rfl) (by kernel_rfl) ?_
      rw [show (put4 (digF (wr shaK s (pad s.n)).h i) (0 + (4 * i) * 1) (((wr shaK s (pad s.n)).h).getD i 0)) = (digF (wr shaK s (pad s.n)).h (i + 1)) from by simp only [digF, Nat.zero_add, Nat.mul_one]]
      exact we_round (i + 1) (by show i + 1 ≤ 8; omega) (by show 8 - (i + 1) < 8 - i; omega) rfl (sub_ofE [2, 5, 35, 36] rfl) (sub_of [2, 5, 100000] rfl)
    · replace h2 := of_decide_eq_false h2
      refine wc_exit ?_
      refine we_then_exit ?_
      refine we_then_exit ?_
      refine we_block_exit ?_
      refine we_then ?_
      refine wc_seq ?_
      obtain rfl : i = 8 := by omega
      refine wc_reg [0, 1] (by kernel_rfl) ?_
      refine wo_run [0, 1] [2] [2, 100000] (l' := [(2, eL 2 0)]) (H' := [(2, ⟨[.ints .u8 32 (digF (wr shaK s (pad s.n)).h 8)], 25⟩), (100000, ⟨[.ints .u32 8 s.h, .ints .u8 64 s.rest, cI .u64 s.n], 88⟩)]) (by kernel_rfl) ?_
      refine wo_nil ?_
      refine we_then ?_
      refine wc_ret ?_
      refine we_rest [2] [100000, 2] (l' := [(2, eL 2 0)]) (H' := [(100000, ⟨[.ints .u32 8 s.h, .ints .u8 64 s.rest, cI .u64 s.n], 88⟩), (2, ⟨[.ints .u8 32 (digF (wr shaK s (pad s.n)).h 8)], 25⟩)]) (by kernel_rfl) (by kernel_rfl) ?_
      refine we_ret (.inl rfl) (v := eA [.ints .u8 32 (digF (wr shaK s (pad s.n)).h 8)]) (by kernel_rfl) ?_
      intro σ w' hf
      exact ⟨(), σ, trivial, rfl, ran_sub (hf.ran rfl rfl) (sub_of [100000] rfl)⟩

set_option maxRecDepth 100000 in
set_option maxHeartbeats 4000000 in
theorem sum_any (a : Option Addr) (len cap b off : Nat) (L : List Int) (w : World) (ρ : Nat → Nat) (hb : BAt w (fun _ => True) a len cap b off L) (hL : OkB L) (hK : KAt w) :
    Calls Tryd.prog 14 ([sV (.slice a len cap)].map (SV.conc ρ)).toArray w fun r' w' => r' = .returned (EV.conc ρ (eA [.ints .u8 32 (sumB shaK L)])) ∧ Below w.heap.size w w' := by
  have hbX : BAt w (fun i => i < w.heap.size ∧ ¬ ∃ k b, getH ([] : Heap) k = some b ∧ ρ k = i) a len cap b off L := hb.enter (fun i _ h => xI0 i h)
  refine calls_enter (vs := [sV (.slice a len cap)]) (N := 10) [] ρ Tryd.func14 rfl rfl (Nat.le_of_ble_eq_true rfl) (okv_a (okv_nil)) noH noH2 ?_ _ rfl
  refine wc_seq ?_
  refine wc_reg [0] (by kernel_rfl) ?_
  refine wo_op rfl rfl (ot_alloc (d := 2) (cs := z25) rfl rfl z25_zero rfl z25_ok (fun _ => rfl)) ?_
  refine wo_nil ?_
  refine we_then ?_
  refine wc_seq ?_
  refine wc_reg [0, 1] (by kernel_rfl) ?_
  refine wo_ox rfl rfl (ox_callm (τ := Unit) (φ := fun _ => True) [] [] [] [(3, 4)] [2] (fun _ => eL 3 0) (fun _ => [(3, ⟨[.ints .u32 8 hs0.h, .ints .u8 64 hs0.rest, cI .u64 hs0.n], 88⟩)]) rfl (by kernel_rfl) rfl Tryd.func23 (by kernel_rfl) (by kernel_rfl) (by kernel_rfl) (by kernel_rfl) (by kernel_rfl) (by kernel_rfl) (trivial) (fun _ => by kernel_rfl) (fun _ => by kernel_rfl) (fun _ _ => trivial) (fun ρ w h hh => new_any w _ hh)) (fun _ _ _ => ?_)
  refine wo_run [] [0, 2, 4] [2, 4] (l' := [(0, eV (.slice a len cap)), (2, eL 2 0), (4, eL 4 0)]) (H' := [(2, ⟨[.ints .u8 32 (List.replicate 32 0)], 25⟩), (4, ⟨[.ints .u32 8 hs0.h, .ints .u8 64 hs0.rest, cI .u64 hs0.n], 88⟩)]) (by kernel_rfl) ?_
  refine wo_run [1] [0, 2, 3] [2, 4] (l' := [(0, eV (.slice a len cap)), (2, eL 2 0), (3, eL 4 0)]) (H' := [(2, ⟨[.ints .u8 32 (List.replicate 32 0)], 25⟩), (4, ⟨[.ints .u32 8 hs0.h, .ints .u8 64 hs0.rest, cI .u64 hs0.n], 88⟩)]) (by kernel_rfl) ?_
  refine wo_nil ?_
  refine we_then ?_
  refine wc_seq ?_
  refine wc_reg [0, 1, 2] (by kernel_rfl) ?_
  refine wo_run [0, 1] [2, 3, 5, 6] [2, 4] (l' := [(2, eL 2 0), (3, eL 4 0), (5, eL 4 0), (6, eV (.slice a len cap))]) (H' := [(2, ⟨[.ints .u8 32 (List.replicate 32 0)], 25⟩), (4, ⟨[.ints .u32 8 hs0.h, .ints .u8 64 hs0.rest, cI .u64 hs0.n], 88⟩)]) (by kernel_rfl) ?_
  refine wo_ox rfl rfl (ox_callm (τ := Unit) (φ := fun _ => True) [sL 100000 0, sV (.slice a len cap)] [(100000, ⟨[.ints .u32 8 hs0.h, .ints .u8 64 hs0.rest, cI .u64 hs0.n], 88⟩)] [(100000, 4)] [] [2] (fun _ => .t []) (fun _ => [(100000, ⟨[.ints .u32 8 ((wr shaK hs0 L).h), .ints .u8 64 ((wr shaK hs0 L).rest), cI .u64 (wr shaK hs0 L).n], 88⟩)]) rfl (by kernel_rfl) rfl Tryd.func24 (by kernel_rfl) (by kernel_rfl) (by kernel_rfl) (by kernel_rfl) (by kernel_rfl) (by kernel_rfl) (⟨⟨by kernel_rfl, by kernel_rfl, by kernel_rfl⟩, trivial⟩) (fun _ => by kernel_rfl) (fun _ => by kernel_rfl) (fun _ _ => okv_nil) (fun ρ w h hh => write_any hs0 (hs0_ok) a len cap b off L (hL) w _ (h.bats hbX (fun i hi e => h.own 4 _ rfl (by rw [← show i = ρ 4 from e]; exact hi))) hh (hK.at h (xI0 _ hK.lt) rfl) (fun e => h.own 4 _ rfl (by rw [show ρ 4 = gK from e]; exact xI0 _ hK.lt)))) (fun _ _ _ => ?_)
  refine wo_run [] [2, 3] [2, 4] (l' := [(2, eL 2 0), (3, eL 4 0)]) (H' := [(2, ⟨[.ints .u8 32 (List.replicate 32 0)], 25⟩), (4, ⟨[.ints .u32 8 ((wr shaK hs0 L).h), .ints .u8 64 ((wr shaK hs0 L).rest), cI .u64 (wr shaK hs0 L).n], 88⟩)]) (by kernel_rfl) ?_
  refine wo_nil ?_
  refine we_then ?_
  refine wc_seq ?_
  refine wc_reg [0, 1, 2] (by kernel_rfl) ?_
  refine wo_run [0] [2, 8] [2, 4] (l' := [(2, eL 2 0), (8, eL 4 0)]) (H' := [(2, ⟨[.ints .u8 32 (List.replicate 32 0)], 25⟩), (4, ⟨[.ints .u32 8 ((wr shaK hs0 L).h), .ints .u8 64 ((wr shaK hs0 L).rest), cI .u64 (wr shaK hs0 L).n], 88⟩)]) (by kernel_rfl) ?_
  refine wo_ox rfl rfl (ox_callm (τ := Unit) (φ := fun _ => True) [sL 100000 0] [(100000, ⟨[.ints .u32 8 ((wr shaK hs0 L).h), .ints .u8 64 ((wr shaK hs0 L).rest), cI .u64 (wr shaK hs0 L).n], 88⟩)] [(100000, 4)] [] [2] (fun _ => eA [.ints .u8 32 (sumH shaK (wr shaK hs0 L))]) (fun _ => [(100000, ⟨[.ints .u32 8 ((wr shaK hs0 L).h), .ints .u8 64 ((wr shaK hs0 L).rest), cI .u64 (wr shaK hs0 L).n], 88⟩)]) rfl (by kernel_rfl) rfl Tryd.func25 (by kernel_rfl) (by kernel_rfl) (by kernel_rfl) (by kernel_rfl) (by kernel_rfl) (by kernel_rfl) (⟨⟨by kernel_rfl, by kernel_rfl, by kernel_rfl⟩, trivial⟩) (fun _ => by kernel_rfl) (fun _ => by kernel_rfl) (fun _ _ => okc_ints (sumH_len _ _) (okc_nil)) (fun ρ w h hh => hsum_any (wr shaK hs0 L) (wr_ok (hs0_ok) (hL)) w _ hh (hK.at h (xI0 _ hK.lt) rfl) (fun e => h.own 4 _ rfl (by rw [show ρ 4 = gK from e]; exact xI0 _ hK.lt)))) (fun _ _ _ => ?_)
  refine wo_run [] [2, 9] [2] (l' := [(2, eL 2 0), (9, eA [.ints .u8 32 (sumH shaK (wr shaK hs0 L))])]) (H' := [(2, ⟨[.ints .u8 32 (List.replicate 32 0)], 25⟩)]) (by kernel_rfl) ?_
  refine wo_run [2] [2] [2] (l' := [(2, eL 2 0)]) (H' := [(2, ⟨[.ints .u8 32 (sumH shaK (wr shaK hs0 L))], 25⟩)]) (by kernel_rfl) ?_
  refine wo_nil ?_
  refine we_then ?_
  refine wc_ret ?_
  refine we_ret (.inl rfl) (v := eA [.ints .u8 32 (sumH shaK (wr shaK hs0 L))]) (by kernel_rfl) ?_
  intro σ w' hf
  exact ⟨rfl, hf.below noS⟩

end Go.Proofs.YtjcghjgennddaaaDoor
