/- SHA-256: the walks. -/
import Derived.Test.YtjcghjgennddaaaDoorProg
import Derived.KernelRfl
import Derived.Test.YtjcghjgennddaaaDoorShaS
import Derived.Test.YtjcghjgennddaaaDoorSxNat
namespace Go.Proofs.YtjcghjgennddaaaDoor
open Go.RowKit Go.Sx
set_option linter.unusedVariables false
set_option linter.unusedSimpArgs false
/-- The sixty-four numbers. -/
def shaK : List Int := [1116352408, 1899447441, 3049323471, 3921009573, 961987163, 1508970993, 2453635748, 2870763221, 3624381080, 310598401, 607225278, 1426881987, 1925078388, 2162078206, 2614888103, 3248222580, 3835390401, 4022224774, 264347078, 604807628, 770255983, 1249150122, 1555081692, 1996064986, 2554220882, 2821834349, 2952996808, 3210313671, 3336571891, 3584528711, 113926993, 338241895, 666307205, 773529912, 1294757372, 1396182291, 1695183700, 1986661051, 2177026350, 2456956037, 2730485921, 2820302411, 3259730800, 3345764771, 3516065817, 3600352804, 4094571909, 275423344, 430227734, 506948616, 659060556, 883997877, 958139571, 1322822218, 1537002063, 1747873779, 1955562222, 2024104815, 2227730452, 2361852424, 2428436474, 2756734187, 3204031479, 3329325298]
abbrev gK : Nat := 0
/-- The table lies there. -/
structure KAt (w : World) : Prop where
  cells : CellsAt w gK 0 [.ints .u32 64 shaK]
  lt : gK < w.heap.size
theorem okB_drop {L : List Int} (h : OkB L) (n : Nat) : OkB (L.drop n) := fun x hx => h x (List.mem_of_mem_drop hx)
theorem okB_take {L : List Int} (h : OkB L) (n : Nat) : OkB (L.take n) := fun x hx => h x (List.mem_of_mem_take hx)
theorem getD_drop (L : List Int) (n i : Nat) : (L.drop n).getD i 0 = L.getD (n + i) 0 := by simp [List.getD_eq_getElem?_getD, List.getElem?_drop]
theorem be4_drop (L : List Int) (n : Nat) : be4 (L.drop n) 0 = be4 L n := by
  unfold be4
  simp only [getD_drop, Nat.zero_add, Nat.add_zero]
theorem getD_take (L : List Int) {n i : Nat} (h : i < n) : (L.take n).getD i 0 = L.getD i 0 := by simp [List.getD_eq_getElem?_getD, List.getElem?_take, h]
theorem be4_tk {L : List Int} (h : OkB L) {len : Nat} (h4 : 4 ≤ len) (hl : L.length = len) :
    bOr .u32 (IntKind.wrap .u32 (bOr .u32 (IntKind.wrap .u32 (bOr .u32 (IntKind.wrap .u32 (bOr .u32 0 (IntKind.wrap .u32 ((L.take 4).getD 0 0)) * 2 ^ (8 : Nat))) (IntKind.wrap .u32 ((L.take 4).getD 1 0)) * 2 ^ (8 : Nat))) (IntKind.wrap .u32 ((L.take 4).getD 2 0)) * 2 ^ (8 : Nat))) (IntKind.wrap .u32 ((L.take 4).getD 3 0)) = be4 L 0 := by
  rw [getD_take L (by omega), getD_take L (by omega), getD_take L (by omega), getD_take L (by omega)]
  exact be4_or h
abbrev z85 : List Chunk := [.ints .u32 8 (List.replicate 8 0)]
theorem z85_zero' : (Tryd.prog.info? 85).bind (·.zero) = some (SV.conc (fun _ => 0) (.agg z85)) := by kernel_rfl
theorem z85_zero : (Tryd.prog.info? 85).bind (·.zero) = some (SV.conc (fun _ => 0) (.agg z85)) ∨ ∃ v, (Tryd.prog.info? 85).bind (·.zero) = some v ∧ z85 = [.one (.v v)] ∧ v.oneCell' = true := .inl z85_zero'
theorem z85_ok : okCs z85 := okc_ints (List.length_replicate) (okc_nil)
abbrev z114 : List Chunk := [.ints .u32 64 (List.replicate 64 0)]
theorem z114_zero' : (Tryd.prog.info? 114).bind (·.zero) = some (SV.conc (fun _ => 0) (.agg z114)) := by kernel_rfl
theorem z114_zero : (Tryd.prog.info? 114).bind (·.zero) = some (SV.conc (fun _ => 0) (.agg z114)) ∨ ∃ v, (Tryd.prog.info? 114).bind (·.zero) = some v ∧ z114 = [.one (.v v)] ∧ v.oneCell' = true := .inl z114_zero'
theorem z114_ok : okCs z114 := okc_ints (List.length_replicate) (okc_nil)

set_option maxRecDepth 100000 in
set_option maxHeartbeats 4000000 in
theorem rotl2_any (x : Int) (w : World) (ρ : Nat → Nat) :
    Calls Tryd.prog 57 ([sI .u32 x, sI .i64 (-2)].map (SV.conc ρ)).toArray w fun r' w' => r' = .returned (EV.conc ρ (eI .u32 (rotr 2 x))) ∧ Below w.heap.size w w' := by
  refine calls_enter (vs := [sI .u32 x, sI .i64 (-2)]) (N := 17) [] ρ Tryd.func57 rfl rfl (Nat.le_of_ble_eq_true rfl) (okv_a (okv_a (okv_nil))) noH noH2 ?_ _ rfl
  refine wc_seq ?_
  refine wc_reg [0] (by kernel_rfl) ?_
  refine wo_run [0] [0, 1] [] (l' := [(0, eI .u32 x), (1, eI .i64 (-2))]) (H' := []) (by kernel_rfl) ?_
  refine wo_nil ?_
  refine we_then ?_
  refine wc_seq ?_
  refine wc_reg [0, 1, 2, 3] (by kernel_rfl) ?_
  refine wo_run [0, 1, 2, 3] [0, 5] [] (l' := [(0, eI .u32 x), (5, eI .u64 30)]) (H' := []) (by kernel_rfl) ?_
  refine wo_nil ?_
  refine we_then ?_
  refine wc_seq ?_
  refine wc_reg [0, 1, 2, 3, 4, 5, 6, 7, 8] (by kernel_rfl) ?_
  refine wo_run [0, 1, 2, 3, 4, 5, 6, 7, 8] [4] [] (l' := [(4, eI .u32 (bOr .u32 (IntKind.wrap .u32 (x * 2 ^ (30 : Nat))) (Int.fdiv x (2 ^ (2 : Nat)))))]) (H' := []) (by kernel_rfl) ?_
  refine wo_nil ?_
  refine we_then ?_
  refine wc_ret ?_
  refine we_ret (.inl rfl) (v := eI .u32 (bOr .u32 (IntKind.wrap .u32 (x * 2 ^ (30 : Nat))) (Int.fdiv x (2 ^ (2 : Nat))))) (by kernel_rfl) ?_
  intro σ w' hf
  exact ⟨rfl, hf.below noS⟩

set_option maxRecDepth 100000 in
set_option maxHeartbeats 4000000 in
theorem rotl6_any (x : Int) (w : World) (ρ : Nat → Nat) :
    Calls Tryd.prog 57 ([sI .u32 x, sI .i64 (-6)].map (SV.conc ρ)).toArray w fun r' w' => r' = .returned (EV.conc ρ (eI .u32 (rotr 6 x))) ∧ Below w.heap.size w w' := by
  refine calls_enter (vs := [sI .u32 x, sI .i64 (-6)]) (N := 17) [] ρ Tryd.func57 rfl rfl (Nat.le_of_ble_eq_true rfl) (okv_a (okv_a (okv_nil))) noH noH2 ?_ _ rfl
  refine wc_seq ?_
  refine wc_reg [0] (by kernel_rfl) ?_
  refine wo_run [0] [0, 1] [] (l' := [(0, eI .u32 x), (1, eI .i64 (-6))]) (H' := []) (by kernel_rfl) ?_
  refine wo_nil ?_
  refine we_then ?_
  refine wc_seq ?_
  refine wc_reg [0, 1, 2, 3] (by kernel_rfl) ?_
  refine wo_run [0, 1, 2, 3] [0, 5] [] (l' := [(0, eI .u32 x), (5, eI .u64 26)]) (H' := []) (by kernel_rfl) ?_
  refine wo_nil ?_
  refine we_then ?_
  refine wc_seq ?_
  refine wc_reg [0, 1, 2, 3, 4, 5, 6, 7, 8] (by kernel_rfl) ?_
  refine wo_run [0, 1, 2, 3, 4, 5, 6, 7, 8] [4] [] (l' := [(4, eI .u32 (bOr .u32 (IntKind.wrap .u32 (x * 2 ^ (26 : Nat))) (Int.fdiv x (2 ^ (6 : Nat)))))]) (H' := []) (by kernel_rfl) ?_
  refine wo_nil ?_
  refine we_then ?_
  refine wc_ret ?_
  refine we_ret (.inl rfl) (v := eI .u32 (bOr .u32 (IntKind.wrap .u32 (x * 2 ^ (26 : Nat))) (Int.fdiv x (2 ^ (6 : Nat))))) (by kernel_rfl) ?_
  intro σ w' hf
  exact ⟨rfl, hf.below noS⟩

set_option maxRecDepth 100000 in
set_option maxHeartbeats 4000000 in
theorem rotl7_any (x : Int) (w : World) (ρ : Nat → Nat) :
    Calls Tryd.prog 57 ([sI .u32 x, sI .i64 (-7)].map (SV.conc ρ)).toArray w fun r' w' => r' = .returned (EV.conc ρ (eI .u32 (rotr 7 x))) ∧ Below w.heap.size w w' := by
  refine calls_enter (vs := [sI .u32 x, sI .i64 (-7)]) (N := 17) [] ρ Tryd.func57 rfl rfl (Nat.le_of_ble_eq_true rfl) (okv_a (okv_a (okv_nil))) noH noH2 ?_ _ rfl
  refine wc_seq ?_
  refine wc_reg [0] (by kernel_rfl) ?_
  refine wo_run [0] [0, 1] [] (l' := [(0, eI .u32 x), (1, eI .i64 (-7))]) (H' := []) (by kernel_rfl) ?_
  refine wo_nil ?_
  refine we_then ?_
  refine wc_seq ?_
  refine wc_reg [0, 1, 2, 3] (by kernel_rfl) ?_
  refine wo_run [0, 1, 2, 3] [0, 5] [] (l' := [(0, eI .u32 x), (5, eI .u64 25)]) (H' := []) (by kernel_rfl) ?_
  refine wo_nil ?_
  refine we_then ?_
  refine wc_seq ?_
  refine wc_reg [0, 1, 2, 3, 4, 5, 6, 7, 8] (by kernel_rfl) ?_
  refine wo_run [0, 1, 2, 3, 4, 5, 6, 7, 8] [4] [] (l' := [(4, eI .u32 (bOr .u32 (IntKind.wrap .u32 (x * 2 ^ (25 : Nat))) (Int.fdiv x (2 ^ (7 : Nat)))))]) (H' := []) (by kernel_rfl) ?_
  refine wo_nil ?_
  refine we_then ?_
  refine wc_ret ?_
  refine we_ret (.inl rfl) (v := eI .u32 (bOr .u32 (IntKind.wrap .u32 (x * 2 ^ (25 : Nat))) (Int.fdiv x (2 ^ (7 : Nat))))) (by kernel_rfl) ?_
  intro σ w' hf
  exact ⟨rfl, hf.below noS⟩

set_option maxRecDepth 100000 in
set_option maxHeartbeats 4000000 in
theorem rotl11_any (x : Int) (w : World) (ρ : Nat → Nat) :
    Calls Tryd.prog 57 ([sI .u32 x, sI .i64 (-11)].map (SV.conc ρ)).toArray w fun r' w' => r' = .returned (EV.conc ρ (eI .u32 (rotr 11 x))) ∧ Below w.heap.size w w' := by
  refine calls_enter (vs := [sI .u32 x, sI .i64 (-11)]) (N := 17) [] ρ Tryd.func57 rfl rfl (Nat.le_of_ble_eq_true rfl) (okv_a (okv_a (okv_nil))) noH noH2 ?_ _ rfl
  refine wc_seq ?_
  refine wc_reg [0] (by kernel_rfl) ?_
  refine wo_run [0] [0, 1] [] (l' := [(0, eI .u32 x), (1, eI .i64 (-11))]) (H' := []) (by kernel_rfl) ?_
  refine wo_nil ?_
  refine we_then ?_
  refine wc_seq ?_
  refine wc_reg [0, 1, 2, 3] (by kernel_rfl) ?_
  refine wo_run [0, 1, 2, 3] [0, 5] [] (l' := [(0, eI .u32 x), (5, eI .u64 21)]) (H' := []) (by kernel_rfl) ?_
  refine wo_nil ?_
  refine we_then ?_
  refine wc_seq ?_
  refine wc_reg [0, 1, 2, 3, 4, 5, 6, 7, 8] (by kernel_rfl) ?_
  refine wo_run [0, 1, 2, 3, 4, 5, 6, 7, 8] [4] [] (l' := [(4, eI .u32 (bOr .u32 (IntKind.wrap .u32 (x * 2 ^ (21 : Nat))) (Int.fdiv x (2 ^ (11 : Nat)))))]) (H' := []) (by kernel_rfl) ?_
  refine wo_nil ?_
  refine we_then ?_
  refine wc_ret ?_
  refine we_ret (.inl rfl) (v := eI .u32 (bOr .u32 (IntKind.wrap .u32 (x * 2 ^ (21 : Nat))) (Int.fdiv x (2 ^ (11 : Nat))))) (by kernel_rfl) ?_
  intro σ w' hf
  exact ⟨rfl, hf.below noS⟩

set_option maxRecDepth 100000 in
set_option maxHeartbeats 4000000 in
theorem rotl13_any (x : Int) (w : World) (ρ : Nat → Nat) :
    Calls Tryd.prog 57 ([sI .u32 x, sI .i64 (-13)].map (SV.conc ρ)).toArray w fun r' w' => r' = .returned (EV.conc ρ (eI .u32 (rotr 13 x))) ∧ Below w.heap.size w w' := by
  refine calls_enter (vs := [sI .u32 x, sI .i64 (-13)]) (N := 17) [] ρ Tryd.func57 rfl rfl (Nat.le_of_ble_eq_true rfl) (okv_a (okv_a (okv_nil))) noH noH2 ?_ _ rfl
  refine wc_seq ?_
  refine wc_reg [0] (by kernel_rfl) ?_
  refine wo_run [0] [0, 1] [] (l' := [(0, eI .u32 x), (1, eI .i64 (-13))]) (H' := []) (by kernel_rfl) ?_
  refine wo_nil ?_
  refine we_then ?_
  refine wc_seq ?_
  refine wc_reg [0, 1, 2, 3] (by kernel_rfl) ?_
  refine wo_run [0, 1, 2, 3] [0, 5] [] (l' := [(0, eI .u32 x), (5, eI .u64 19)]) (H' := []) (by kernel_rfl) ?_
  refine wo_nil ?_
  refine we_then ?_
  refine wc_seq ?_
  refine wc_reg [0, 1, 2, 3, 4, 5, 6, 7, 8] (by kernel_rfl) ?_
  refine wo_run [0, 1, 2, 3, 4, 5, 6, 7, 8] [4] [] (l' := [(4, eI .u32 (bOr .u32 (IntKind.wrap .u32 (x * 2 ^ (19 : Nat))) (Int.fdiv x (2 ^ (13 : Nat)))))]) (H' := []) (by kernel_rfl) ?_
  refine wo_nil ?_
  refine we_then ?_
  refine wc_ret ?_
  refine we_ret (.inl rfl) (v := eI .u32 (bOr .u32 (IntKind.wrap .u32 (x * 2 ^ (19 : Nat))) (Int.fdiv x (2 ^ (13 : Nat))))) (by kernel_rfl) ?_
  intro σ w' hf
  exact ⟨rfl, hf.below noS⟩

set_option maxRecDepth 100000 in
set_option maxHeartbeats 4000000 in
theorem rotl17_any (x : Int) (w : World) (ρ : Nat → Nat) :
    Calls Tryd.prog 57 ([sI .u32 x, sI .i64 (-17)].map (SV.conc ρ)).toArray w fun r' w' => r' = .returned (EV.conc ρ (eI .u32 (rotr 17 x))) ∧ Below w.heap.size w w' := by
  refine calls_enter (vs := [sI .u32 x, sI .i64 (-17)]) (N := 17) [] ρ Tryd.func57 rfl rfl (Nat.le_of_ble_eq_true rfl) (okv_a (okv_a (okv_nil))) noH noH2 ?_ _ rfl
  refine wc_seq ?_
  refine wc_reg [0] (by kernel_rfl) ?_
  refine wo_run [0] [0, 1] [] (l' := [(0, eI .u32 x), (1, eI .i64 (-17))]) (H' := []) (by kernel_rfl) ?_
  refine wo_nil ?_
  refine we_then ?_
  refine wc_seq ?_
  refine wc_reg [0, 1, 2, 3] (by kernel_rfl) ?_
  refine wo_run [0, 1, 2, 3] [0, 5] [] (l' := [(0, eI .u32 x), (5, eI .u64 15)]) (H' := []) (by kernel_rfl) ?_
  refine wo_nil ?_
  refine we_then ?_
  refine wc_seq ?_
  refine wc_reg [0, 1, 2, 3, 4, 5, 6, 7, 8] (by kernel_rfl) ?_
  refine wo_run [0, 1, 2, 3, 4, 5, 6, 7, 8] [4] [] (l' := [(4, eI .u32 (bOr .u32 (IntKind.wrap .u32 (x * 2 ^ (15 : Nat))) (Int.fdiv x (2 ^ (17 : Nat)))))]) (H' := []) (by kernel_rfl) ?_
  refine wo_nil ?_
  refine we_then ?_
  refine wc_ret ?_
  refine we_ret (.inl rfl) (v := eI .u32 (bOr .u32 (IntKind.wrap .u32 (x * 2 ^ (15 : Nat))) (Int.fdiv x (2 ^ (17 : Nat))))) (by kernel_rfl) ?_
  intro σ w' hf
  exact ⟨rfl, hf.below noS⟩

set_option maxRecDepth 100000 in
set_option maxHeartbeats 4000000 in
theorem rotl18_any (x : Int) (w : World) (ρ : Nat → Nat) :
    Calls Tryd.prog 57 ([sI .u32 x, sI .i64 (-18)].map (SV.conc ρ)).toArray w fun r' w' => r' = .returned (EV.conc ρ (eI .u32 (rotr 18 x))) ∧ Below w.heap.size w w' := by
  refine calls_enter (vs := [sI .u32 x, sI .i64 (-18)]) (N := 17) [] ρ Tryd.func57 rfl rfl (Nat.le_of_ble_eq_true rfl) (okv_a (okv_a (okv_nil))) noH noH2 ?_ _ rfl
  refine wc_seq ?_
  refine wc_reg [0] (by kernel_rfl) ?_
  refine wo_run [0] [0, 1] [] (l' := [(0, eI .u32 x), (1, eI .i64 (-18))]) (H' := []) (by kernel_rfl) ?_
  refine wo_nil ?_
  refine we_then ?_
  refine wc_seq ?_
  refine wc_reg [0, 1, 2, 3] (by kernel_rfl) ?_
  refine wo_run [0, 1, 2, 3] [0, 5] [] (l' := [(0, eI .u32 x), (5, eI .u64 14)]) (H' := []) (by kernel_rfl) ?_
  refine wo_nil ?_
  refine we_then ?_
  refine wc_seq ?_
  refine wc_reg [0, 1, 2, 3, 4, 5, 6, 7, 8] (by kernel_rfl) ?_
  refine wo_run [0, 1, 2, 3, 4, 5, 6, 7, 8] [4] [] (l' := [(4, eI .u32 (bOr .u32 (IntKind.wrap .u32 (x * 2 ^ (14 : Nat))) (Int.fdiv x (2 ^ (18 : Nat)))))]) (H' := []) (by kernel_rfl) ?_
  refine wo_nil ?_
  refine we_then ?_
  refine wc_ret ?_
  refine we_ret (.inl rfl) (v := eI .u32 (bOr .u32 (IntKind.wrap .u32 (x * 2 ^ (14 : Nat))) (Int.fdiv x (2 ^ (18 : Nat))))) (by kernel_rfl) ?_
  intro σ w' hf
  exact ⟨rfl, hf.below noS⟩

set_option maxRecDepth 100000 in
set_option maxHeartbeats 4000000 in
theorem rotl19_any (x : Int) (w : World) (ρ : Nat → Nat) :
    Calls Tryd.prog 57 ([sI .u32 x, sI .i64 (-19)].map (SV.conc ρ)).toArray w fun r' w' => r' = .returned (EV.conc ρ (eI .u32 (rotr 19 x))) ∧ Below w.heap.size w w' := by
  refine calls_enter (vs := [sI .u32 x, sI .i64 (-19)]) (N := 17) [] ρ Tryd.func57 rfl rfl (Nat.le_of_ble_eq_true rfl) (okv_a (okv_a (okv_nil))) noH noH2 ?_ _ rfl
  refine wc_seq ?_
  refine wc_reg [0] (by kernel_rfl) ?_
  refine wo_run [0] [0, 1] [] (l' := [(0, eI .u32 x), (1, eI .i64 (-19))]) (H' := []) (by kernel_rfl) ?_
  refine wo_nil ?_
  refine we_then ?_
  refine wc_seq ?_
  refine wc_reg [0, 1, 2, 3] (by kernel_rfl) ?_
  refine wo_run [0, 1, 2, 3] [0, 5] [] (l' := [(0, eI .u32 x), (5, eI .u64 13)]) (H' := []) (by kernel_rfl) ?_
  refine wo_nil ?_
  refine we_then ?_
  refine wc_seq ?_
  refine wc_reg [0, 1, 2, 3, 4, 5, 6, 7, 8] (by kernel_rfl) ?_
  refine wo_run [0, 1, 2, 3, 4, 5, 6, 7, 8] [4] [] (l' := [(4, eI .u32 (bOr .u32 (IntKind.wrap .u32 (x * 2 ^ (13 : Nat))) (Int.fdiv x (2 ^ (19 : Nat)))))]) (H' := []) (by kernel_rfl) ?_
  refine wo_nil ?_
  refine we_then ?_
  refine wc_ret ?_
  refine we_ret (.inl rfl) (v := eI .u32 (bOr .u32 (IntKind.wrap .u32 (x * 2 ^ (13 : Nat))) (Int.fdiv x (2 ^ (19 : Nat))))) (by kernel_rfl) ?_
  intro σ w' hf
  exact ⟨rfl, hf.below noS⟩

set_option maxRecDepth 100000 in
set_option maxHeartbeats 4000000 in
theorem rotl22_any (x : Int) (w : World) (ρ : Nat → Nat) :
    Calls Tryd.prog 57 ([sI .u32 x, sI .i64 (-22)].map (SV.conc ρ)).toArray w fun r' w' => r' = .returned (EV.conc ρ (eI .u32 (rotr 22 x))) ∧ Below w.heap.size w w' := by
  refine calls_enter (vs := [sI .u32 x, sI .i64 (-22)]) (N := 17) [] ρ Tryd.func57 rfl rfl (Nat.le_of_ble_eq_true rfl) (okv_a (okv_a (okv_nil))) noH noH2 ?_ _ rfl
  refine wc_seq ?_
  refine wc_reg [0] (by kernel_rfl) ?_
  refine wo_run [0] [0, 1] [] (l' := [(0, eI .u32 x), (1, eI .i64 (-22))]) (H' := []) (by kernel_rfl) ?_
  refine wo_nil ?_
  refine we_then ?_
  refine wc_seq ?_
  refine wc_reg [0, 1, 2, 3] (by kernel_rfl) ?_
  refine wo_run [0, 1, 2, 3] [0, 5] [] (l' := [(0, eI .u32 x), (5, eI .u64 10)]) (H' := []) (by kernel_rfl) ?_
  refine wo_nil ?_
  refine we_then ?_
  refine wc_seq ?_
  refine wc_reg [0, 1, 2, 3, 4, 5, 6, 7, 8] (by kernel_rfl) ?_
  refine wo_run [0, 1, 2, 3, 4, 5, 6, 7, 8] [4] [] (l' := [(4, eI .u32 (bOr .u32 (IntKind.wrap .u32 (x * 2 ^ (10 : Nat))) (Int.fdiv x (2 ^ (22 : Nat)))))]) (H' := []) (by kernel_rfl) ?_
  refine wo_nil ?_
  refine we_then ?_
  refine wc_ret ?_
  refine we_ret (.inl rfl) (v := eI .u32 (bOr .u32 (IntKind.wrap .u32 (x * 2 ^ (10 : Nat))) (Int.fdiv x (2 ^ (22 : Nat))))) (by kernel_rfl) ?_
  intro σ w' hf
  exact ⟨rfl, hf.below noS⟩

set_option maxRecDepth 100000 in
set_option maxHeartbeats 4000000 in
theorem rotl25_any (x : Int) (w : World) (ρ : Nat → Nat) :
    Calls Tryd.prog 57 ([sI .u32 x, sI .i64 (-25)].map (SV.conc ρ)).toArray w fun r' w' => r' = .returned (EV.conc ρ (eI .u32 (rotr 25 x))) ∧ Below w.heap.size w w' := by
  refine calls_enter (vs := [sI .u32 x, sI .i64 (-25)]) (N := 17) [] ρ Tryd.func57 rfl rfl (Nat.le_of_ble_eq_true rfl) (okv_a (okv_a (okv_nil))) noH noH2 ?_ _ rfl
  refine wc_seq ?_
  refine wc_reg [0] (by kernel_rfl) ?_
  refine wo_run [0] [0, 1] [] (l' := [(0, eI .u32 x), (1, eI .i64 (-25))]) (H' := []) (by kernel_rfl) ?_
  refine wo_nil ?_
  refine we_then ?_
  refine wc_seq ?_
  refine wc_reg [0, 1, 2, 3] (by kernel_rfl) ?_
  refine wo_run [0, 1, 2, 3] [0, 5] [] (l' := [(0, eI .u32 x), (5, eI .u64 7)]) (H' := []) (by kernel_rfl) ?_
  refine wo_nil ?_
  refine we_then ?_
  refine wc_seq ?_
  refine wc_reg [0, 1, 2, 3, 4, 5, 6, 7, 8] (by kernel_rfl) ?_
  refine wo_run [0, 1, 2, 3, 4, 5, 6, 7, 8] [4] [] (l' := [(4, eI .u32 (bOr .u32 (IntKind.wrap .u32 (x * 2 ^ (7 : Nat))) (Int.fdiv x (2 ^ (25 : Nat)))))]) (H' := []) (by kernel_rfl) ?_
  refine wo_nil ?_
  refine we_then ?_
  refine wc_ret ?_
  refine we_ret (.inl rfl) (v := eI .u32 (bOr .u32 (IntKind.wrap .u32 (x * 2 ^ (7 : Nat))) (Int.fdiv x (2 ^ (25 : Nat))))) (by kernel_rfl) ?_
  intro σ w' hf
  exact ⟨rfl, hf.below noS⟩

set_option maxRecDepth 100000 in
set_option maxHeartbeats 4000000 in
theorem rot2_any (x : Int) (w : World) (ρ : Nat → Nat) :
    Calls Tryd.prog 54 ([sI .u32 x, sI .i64 2].map (SV.conc ρ)).toArray w fun r' w' => r' = .returned (EV.conc ρ (eI .u32 (rotr 2 x))) ∧ Below w.heap.size w w' := by
  refine calls_enter (vs := [sI .u32 x, sI .i64 2]) (N := 9) [] ρ Tryd.func54 rfl rfl (Nat.le_of_ble_eq_true rfl) (okv_a (okv_a (okv_nil))) noH noH2 ?_ _ rfl
  refine wc_seq ?_
  refine wc_reg [0] (by kernel_rfl) ?_
  refine wo_run [0] [0, 1] [] (l' := [(0, eI .u32 x), (1, eI .i64 2)]) (H' := []) (by kernel_rfl) ?_
  refine wo_nil ?_
  refine we_then ?_
  refine wc_seq ?_
  refine wc_reg [0, 1, 2, 3, 4] (by kernel_rfl) ?_
  refine wo_run [0, 1, 2] [5, 7] [] (l' := [(5, eI .u32 x), (7, eI .i64 (-2))]) (H' := []) (by kernel_rfl) ?_
  refine wo_op rfl rfl (ot_call (vs := [sI .u32 x, sI .i64 (-2)]) rfl rfl rfl Tryd.func57 (by kernel_rfl) (by kernel_rfl) (by kernel_rfl) (eI .u32 (rotr 2 x)) (trivial) (fun ρ w _ => rotl2_any x w ρ)) ?_
  refine wo_run [4] [4] [] (l' := [(4, eI .u32 (rotr 2 x))]) (H' := []) (by kernel_rfl) ?_
  refine wo_nil ?_
  refine we_then ?_
  refine wc_ret ?_
  refine we_ret (.inl rfl) (v := eI .u32 (rotr 2 x)) (by kernel_rfl) ?_
  intro σ w' hf
  exact ⟨rfl, hf.below noS⟩

set_option maxRecDepth 100000 in
set_option maxHeartbeats 4000000 in
theorem rot6_any (x : Int) (w : World) (ρ : Nat → Nat) :
    Calls Tryd.prog 54 ([sI .u32 x, sI .i64 6].map (SV.conc ρ)).toArray w fun r' w' => r' = .returned (EV.conc ρ (eI .u32 (rotr 6 x))) ∧ Below w.heap.size w w' := by
  refine calls_enter (vs := [sI .u32 x, sI .i64 6]) (N := 9) [] ρ Tryd.func54 rfl rfl (Nat.le_of_ble_eq_true rfl) (okv_a (okv_a (okv_nil))) noH noH2 ?_ _ rfl
  refine wc_seq ?_
  refine wc_reg [0] (by kernel_rfl) ?_
  refine wo_run [0] [0, 1] [] (l' := [(0, eI .u32 x), (1, eI .i64 6)]) (H' := []) (by kernel_rfl) ?_
  refine wo_nil ?_
  refine we_then ?_
  refine wc_seq ?_
  refine wc_reg [0, 1, 2, 3, 4] (by kernel_rfl) ?_
  refine wo_run [0, 1, 2] [5, 7] [] (l' := [(5, eI .u32 x), (7, eI .i64 (-6))]) (H' := []) (by kernel_rfl) ?_
  refine wo_op rfl rfl (ot_call (vs := [sI .u32 x, sI .i64 (-6)]) rfl rfl rfl Tryd.func57 (by kernel_rfl) (by kernel_rfl) (by kernel_rfl) (eI .u32 (rotr 6 x)) (trivial) (fun ρ w _ => rotl6_any x w ρ)) ?_
  refine wo_run [4] [4] [] (l' := [(4, eI .u32 (rotr 6 x))]) (H' := []) (by kernel_rfl) ?_
  refine wo_nil ?_
  refine we_then ?_
  refine wc_ret ?_
  refine we_ret (.inl rfl) (v := eI .u32 (rotr 6 x)) (by kernel_rfl) ?_
  intro σ w' hf
  exact ⟨rfl, hf.below noS⟩

set_option maxRecDepth 100000 in
set_option maxHeartbeats 4000000 in
theorem rot7_any (x : Int) (w : World) (ρ : Nat → Nat) :
    Calls Tryd.prog 54 ([sI .u32 x, sI .i64 7].map (SV.conc ρ)).toArray w fun r' w' => r' = .returned (EV.conc ρ (eI .u32 (rotr 7 x))) ∧ Below w.heap.size w w' := by
  refine calls_enter (vs := [sI .u32 x, sI .i64 7]) (N := 9) [] ρ Tryd.func54 rfl rfl (Nat.le_of_ble_eq_true rfl) (okv_a (okv_a (okv_nil))) noH noH2 ?_ _ rfl
  refine wc_seq ?_
  refine wc_reg [0] (by kernel_rfl) ?_
  refine wo_run [0] [0, 1] [] (l' := [(0, eI .u32 x), (1, eI .i64 7)]) (H' := []) (by kernel_rfl) ?_
  refine wo_nil ?_
  refine we_then ?_
  refine wc_seq ?_
  refine wc_reg [0, 1, 2, 3, 4] (by kernel_rfl) ?_
  refine wo_run [0, 1, 2] [5, 7] [] (l' := [(5, eI .u32 x), (7, eI .i64 (-7))]) (H' := []) (by kernel_rfl) ?_
  refine wo_op rfl rfl (ot_call (vs := [sI .u32 x, sI .i64 (-7)]) rfl rfl rfl Tryd.func57 (by kernel_rfl) (by kernel_rfl) (by kernel_rfl) (eI .u32 (rotr 7 x)) (trivial) (fun ρ w _ => rotl7_any x w ρ)) ?_
  refine wo_run [4] [4] [] (l' := [(4, eI .u32 (rotr 7 x))]) (H' := []) (by kernel_rfl) ?_
  refine wo_nil ?_
  refine we_then ?_
  refine wc_ret ?_
  refine we_ret (.inl rfl) (v := eI .u32 (rotr 7 x)) (by kernel_rfl) ?_
  intro σ w' hf
  exact ⟨rfl, hf.below noS⟩

set_option maxRecDepth 100000 in
set_option maxHeartbeats 4000000 in
theorem rot11_any (x : Int) (w : World) (ρ : Nat → Nat) :
    Calls Tryd.prog 54 ([sI .u32 x, sI .i64 11].map (SV.conc ρ)).toArray w fun r' w' => r' = .returned (EV.conc ρ (eI .u32 (rotr 11 x))) ∧ Below w.heap.size w w' := by
  refine calls_enter (vs := [sI .u32 x, sI .i64 11]) (N := 9) [] ρ Tryd.func54 rfl rfl (Nat.le_of_ble_eq_true rfl) (okv_a (okv_a (okv_nil))) noH noH2 ?_ _ rfl
  refine wc_seq ?_
  refine wc_reg [0] (by kernel_rfl) ?_
  refine wo_run [0] [0, 1] [] (l' := [(0, eI .u32 x), (1, eI .i64 11)]) (H' := []) (by kernel_rfl) ?_
  refine wo_nil ?_
  refine we_then ?_
  refine wc_seq ?_
  refine wc_reg [0, 1, 2, 3, 4] (by kernel_rfl) ?_
  refine wo_run [0, 1, 2] [5, 7] [] (l' := [(5, eI .u32 x), (7, eI .i64 (-11))]) (H' := []) (by kernel_rfl) ?_
  refine wo_op rfl rfl (ot_call (vs := [sI .u32 x, sI .i64 (-11)]) rfl rfl rfl Tryd.func57 (by kernel_rfl) (by kernel_rfl) (by kernel_rfl) (eI .u32 (rotr 11 x)) (trivial) (fun ρ w _ => rotl11_any x w ρ)) ?_
  refine wo_run [4] [4] [] (l' := [(4, eI .u32 (rotr 11 x))]) (H' := []) (by kernel_rfl) ?_
  refine wo_nil ?_
  refine we_then ?_
  refine wc_ret ?_
  refine we_ret (.inl rfl) (v := eI .u32 (rotr 11 x)) (by kernel_rfl) ?_
  intro σ w' hf
  exact ⟨rfl, hf.below noS⟩

set_option maxRecDepth 100000 in
set_option maxHeartbeats 4000000 in
theorem rot13_any (x : Int) (w : World) (ρ : Nat → Nat) :
    Calls Tryd.prog 54 ([sI .u32 x, sI .i64 13].map (SV.conc ρ)).toArray w fun r' w' => r' = .returned (EV.conc ρ (eI .u32 (rotr 13 x))) ∧ Below w.heap.size w w' := by
  refine calls_enter (vs := [sI .u32 x, sI .i64 13]) (N := 9) [] ρ Tryd.func54 rfl rfl (Nat.le_of_ble_eq_true rfl) (okv_a (okv_a (okv_nil))) noH noH2 ?_ _ rfl
  refine wc_seq ?_
  refine wc_reg [0] (by kernel_rfl) ?_
  refine wo_run [0] [0, 1] [] (l' := [(0, eI .u32 x), (1, eI .i64 13)]) (H' := []) (by kernel_rfl) ?_
  refine wo_nil ?_
  refine we_then ?_
  refine wc_seq ?_
  refine wc_reg [0, 1, 2, 3, 4] (by kernel_rfl) ?_
  refine wo_run [0, 1, 2] [5, 7] [] (l' := [(5, eI .u32 x), (7, eI .i64 (-13))]) (H' := []) (by kernel_rfl) ?_
  refine wo_op rfl rfl (ot_call (vs := [sI .u32 x, sI .i64 (-13)]) rfl rfl rfl Tryd.func57 (by kernel_rfl) (by kernel_rfl) (by kernel_rfl) (eI .u32 (rotr 13 x)) (trivial) (fun ρ w _ => rotl13_any x w ρ)) ?_
  refine wo_run [4] [4] [] (l' := [(4, eI .u32 (rotr 13 x))]) (H' := []) (by kernel_rfl) ?_
  refine wo_nil ?_
  refine we_then ?_
  refine wc_ret ?_
  refine we_ret (.inl rfl) (v := eI .u32 (rotr 13 x)) (by kernel_rfl) ?_
  intro σ w' hf
  exact ⟨rfl, hf.below noS⟩

set_option maxRecDepth 100000 in
set_option maxHeartbeats 4000000 in
theorem rot17_any (x : Int) (w : World) (ρ : Nat → Nat) :
    Calls Tryd.prog 54 ([sI .u32 x, sI .i64 17].map (SV.conc ρ)).toArray w fun r' w' => r' = .returned (EV.conc ρ (eI .u32 (rotr 17 x))) ∧ Below w.heap.size w w' := by
  refine calls_enter (vs := [sI .u32 x, sI .i64 17]) (N := 9) [] ρ Tryd.func54 rfl rfl (Nat.le_of_ble_eq_true rfl) (okv_a (okv_a (okv_nil))) noH noH2 ?_ _ rfl
  refine wc_seq ?_
  refine wc_reg [0] (by kernel_rfl) ?_
  refine wo_run [0] [0, 1] [] (l' := [(0, eI .u32 x), (1, eI .i64 17)]) (H' := []) (by kernel_rfl) ?_
  refine wo_nil ?_
  refine we_then ?_
  refine wc_seq ?_
  refine wc_reg [0, 1, 2, 3, 4] (by kernel_rfl) ?_
  refine wo_run [0, 1, 2] [5, 7] [] (l' := [(5, eI .u32 x), (7, eI .i64 (-17))]) (H' := []) (by kernel_rfl) ?_
  refine wo_op rfl rfl (ot_call (vs := [sI .u32 x, sI .i64 (-17)]) rfl rfl rfl Tryd.func57 (by kernel_rfl) (by kernel_rfl) (by kernel_rfl) (eI .u32 (rotr 17 x)) (trivial) (fun ρ w _ => rotl17_any x w ρ)) ?_
  refine wo_run [4] [4] [] (l' := [(4, eI .u32 (rotr 17 x))]) (H' := []) (by kernel_rfl) ?_
  refine wo_nil ?_
  refine we_then ?_
  refine wc_ret ?_
  refine we_ret (.inl rfl) (v := eI .u32 (rotr 17 x)) (by kernel_rfl) ?_
  intro σ w' hf
  exact ⟨rfl, hf.below noS⟩

set_option maxRecDepth 100000 in
set_option maxHeartbeats 4000000 in
theorem rot18_any (x : Int) (w : World) (ρ : Nat → Nat) :
    Calls Tryd.prog 54 ([sI .u32 x, sI .i64 18].map (SV.conc ρ)).toArray w fun r' w' => r' = .returned (EV.conc ρ (eI .u32 (rotr 18 x))) ∧ Below w.heap.size w w' := by
  refine calls_enter (vs := [sI .u32 x, sI .i64 18]) (N := 9) [] ρ Tryd.func54 rfl rfl (Nat.le_of_ble_eq_true rfl) (okv_a (okv_a (okv_nil))) noH noH2 ?_ _ rfl
  refine wc_seq ?_
  refine wc_reg [0] (by kernel_rfl) ?_
  refine wo_run [0] [0, 1] [] (l' := [(0, eI .u32 x), (1, eI .i64 18)]) (H' := []) (by kernel_rfl) ?_
  refine wo_nil ?_
  refine we_then ?_
  refine wc_seq ?_
  refine wc_reg [0, 1, 2, 3, 4] (by kernel_rfl) ?_
  refine wo_run [0, 1, 2] [5, 7] [] (l' := [(5, eI .u32 x), (7, eI .i64 (-18))]) (H' := []) (by kernel_rfl) ?_
  refine wo_op rfl rfl (ot_call (vs := [sI .u32 x, sI .i64 (-18)]) rfl rfl rfl Tryd.func57 (by kernel_rfl) (by kernel_rfl) (by kernel_rfl) (eI .u32 (rotr 18 x)) (trivial) (fun ρ w _ => rotl18_any x w ρ)) ?_
  refine wo_run [4] [4] [] (l' := [(4, eI .u32 (rotr 18 x))]) (H' := []) (by kernel_rfl) ?_
  refine wo_nil ?_
  refine we_then ?_
  refine wc_ret ?_
  refine we_ret (.inl rfl) (v := eI .u32 (rotr 18 x)) (by kernel_rfl) ?_
  intro σ w' hf
  exact ⟨rfl, hf.below noS⟩

set_option maxRecDepth 100000 in
set_option maxHeartbeats 4000000 in
theorem rot19_any (x : Int) (w : World) (ρ : Nat → Nat) :
    Calls Tryd.prog 54 ([sI .u32 x, sI .i64 19].map (SV.conc ρ)).toArray w fun r' w' => r' = .returned (EV.conc ρ (eI .u32 (rotr 19 x))) ∧ Below w.heap.size w w' := by
  refine calls_enter (vs := [sI .u32 x, sI .i64 19]) (N := 9) [] ρ Tryd.func54 rfl rfl (Nat.le_of_ble_eq_true rfl) (okv_a (okv_a (okv_nil))) noH noH2 ?_ _ rfl
  refine wc_seq ?_
  refine wc_reg [0] (by kernel_rfl) ?_
  refine wo_run [0] [0, 1] [] (l' := [(0, eI .u32 x), (1, eI .i64 19)]) (H' := []) (by kernel_rfl) ?_
  refine wo_nil ?_
  refine we_then ?_
  refine wc_seq ?_
  refine wc_reg [0, 1, 2, 3, 4] (by kernel_rfl) ?_
  refine wo_run [0, 1, 2] [5, 7] [] (l' := [(5, eI .u32 x), (7, eI .i64 (-19))]) (H' := []) (by kernel_rfl) ?_
  refine wo_op rfl rfl (ot_call (vs := [sI .u32 x, sI .i64 (-19)]) rfl rfl rfl Tryd.func57 (by kernel_rfl) (by kernel_rfl) (by kernel_rfl) (eI .u32 (rotr 19 x)) (trivial) (fun ρ w _ => rotl19_any x w ρ)) ?_
  refine wo_run [4] [4] [] (l' := [(4, eI .u32 (rotr 19 x))]) (H' := []) (by kernel_rfl) ?_
  refine wo_nil ?_
  refine we_then ?_
  refine wc_ret ?_
  refine we_ret (.inl rfl) (v := eI .u32 (rotr 19 x)) (by kernel_rfl) ?_
  intro σ w' hf
  exact ⟨rfl, hf.below noS⟩

set_option maxRecDepth 100000 in
set_option maxHeartbeats 4000000 in
theorem rot22_any (x : Int) (w : World) (ρ : Nat → Nat) :
    Calls Tryd.prog 54 ([sI .u32 x, sI .i64 22].map (SV.conc ρ)).toArray w fun r' w' => r' = .returned (EV.conc ρ (eI .u32 (rotr 22 x))) ∧ Below w.heap.size w w' := by
  refine calls_enter (vs := [sI .u32 x, sI .i64 22]) (N := 9) [] ρ Tryd.func54 rfl rfl (Nat.le_of_ble_eq_true rfl) (okv_a (okv_a (okv_nil))) noH noH2 ?_ _ rfl
  refine wc_seq ?_
  refine wc_reg [0] (by kernel_rfl) ?_
  refine wo_run [0] [0, 1] [] (l' := [(0, eI .u32 x), (1, eI .i64 22)]) (H' := []) (by kernel_rfl) ?_
  refine wo_nil ?_
  refine we_then ?_
  refine wc_seq ?_
  refine wc_reg [0, 1, 2, 3, 4] (by kernel_rfl) ?_
  refine wo_run [0, 1, 2] [5, 7] [] (l' := [(5, eI .u32 x), (7, eI .i64 (-22))]) (H' := []) (by kernel_rfl) ?_
  refine wo_op rfl rfl (ot_call (vs := [sI .u32 x, sI .i64 (-22)]) rfl rfl rfl Tryd.func57 (by kernel_rfl) (by kernel_rfl) (by kernel_rfl) (eI .u32 (rotr 22 x)) (trivial) (fun ρ w _ => rotl22_any x w ρ)) ?_
  refine wo_run [4] [4] [] (l' := [(4, eI .u32 (rotr 22 x))]) (H' := []) (by kernel_rfl) ?_
  refine wo_nil ?_
  refine we_then ?_
  refine wc_ret ?_
  refine we_ret (.inl rfl) (v := eI .u32 (rotr 22 x)) (by kernel_rfl) ?_
  intro σ w' hf
  exact ⟨rfl, hf.below noS⟩

set_option maxRecDepth 100000 in
set_option maxHeartbeats 4000000 in
theorem rot25_any (x : Int) (w : World) (ρ : Nat → Nat) :
    Calls Tryd.prog 54 ([sI .u32 x, sI .i64 25].map (SV.conc ρ)).toArray w fun r' w' => r' = .returned (EV.conc ρ (eI .u32 (rotr 25 x))) ∧ Below w.heap.size w w' := by
  refine calls_enter (vs := [sI .u32 x, sI .i64 25]) (N := 9) [] ρ Tryd.func54 rfl rfl (Nat.le_of_ble_eq_true rfl) (okv_a (okv_a (okv_nil))) noH noH2 ?_ _ rfl
  refine wc_seq ?_
  refine wc_reg [0] (by kernel_rfl) ?_
  refine wo_run [0] [0, 1] [] (l' := [(0, eI .u32 x), (1, eI .i64 25)]) (H' := []) (by kernel_rfl) ?_
  refine wo_nil ?_
  refine we_then ?_
  refine wc_seq ?_
  refine wc_reg [0, 1, 2, 3, 4] (by kernel_rfl) ?_
  refine wo_run [0, 1, 2] [5, 7] [] (l' := [(5, eI .u32 x), (7, eI .i64 (-25))]) (H' := []) (by kernel_rfl) ?_
  refine wo_op rfl rfl (ot_call (vs := [sI .u32 x, sI .i64 (-25)]) rfl rfl rfl Tryd.func57 (by kernel_rfl) (by kernel_rfl) (by kernel_rfl) (eI .u32 (rotr 25 x)) (trivial) (fun ρ w _ => rotl25_any x w ρ)) ?_
  refine wo_run [4] [4] [] (l' := [(4, eI .u32 (rotr 25 x))]) (H' := []) (by kernel_rfl) ?_
  refine wo_nil ?_
  refine we_then ?_
  refine wc_ret ?_
  refine we_ret (.inl rfl) (v := eI .u32 (rotr 25 x)) (by kernel_rfl) ?_
  intro σ w' hf
  exact ⟨rfl, hf.below noS⟩

set_option maxRecDepth 100000 in
set_option maxHeartbeats 4000000 in
theorem uint32_any (a : Option Addr) (len cap b off : Nat) (L : List Int) (w : World) (hb : BAt w (fun _ => True) a len cap b off L) (h4 : 4 ≤ len) (hL : OkB L) (ρ : Nat → Nat) :
    Calls Tryd.prog 53 ([sV (.slice a len cap)].map (SV.conc ρ)).toArray w fun r' w' => r' = .returned (EV.conc ρ (eI .u32 (be4 L 0))) ∧ Below w.heap.size w w' := by
  have h4c := Nat.le_trans h4 hb.lc
  have hbX : BAt w (fun i => i < w.heap.size ∧ ¬ ∃ k b, getH ([] : Heap) k = some b ∧ ρ k = i) a len cap b off L := hb.enter (fun i _ h => xI0 i h)
  refine calls_enter (vs := [sV (.slice a len cap)]) (N := 20) [] ρ Tryd.func53 rfl rfl (Nat.le_of_ble_eq_true rfl) (okv_a (okv_nil)) noH noH2 ?_ _ rfl
  refine wc_seq ?_
  refine wc_reg [0] (by kernel_rfl) ?_
  refine wo_run [0] [0] [] (l' := [(0, eV (.slice a len cap))]) (H' := []) (by kernel_rfl) ?_
  refine wo_nil ?_
  refine we_then ?_
  refine wc_seq ?_
  refine wc_reg [0] (by kernel_rfl) ?_
  refine wo_run [0] [0, 3] [] (l' := [(0, eV (.slice a len cap)), (3, eI .u32 0)]) (H' := []) (by kernel_rfl) ?_
  refine wo_nil ?_
  refine we_then ?_
  refine wc_seq ?_
  refine wc_seq ?_
  refine wc_reg [0, 1, 2, 3] (by kernel_rfl) ?_
  refine wo_run [0] [3, 6] [] (l' := [(3, eI .u32 0), (6, eV (.slice a len cap))]) (H' := []) (by kernel_rfl) ?_
  refine wo_op rfl rfl (ot_rd rfl (rd_sliceV (e := 5) (i := 0) (j := 4) (size := 1) (vl := none) (vh := (some (.int .i64 4))) (ad' := a) rfl (by kernel_rfl) (by kernel_rfl) rfl rfl rfl (fun w => sb_h w true len cap .i64 (rfl) (by first | assumption | omega)) (adr0 _ _ _))) ?_
  refine wo_run [2, 3] [3, 7, 8, 9] [] (l' := [(3, eI .u32 0), (7, eV (.slice a 4 cap)), (8, eI .i64 4), (9, eI .i64 0)]) (H' := []) (by kernel_rfl) ?_
  refine wo_nil ?_
  refine we_then ?_
  refine wc_block ?_
  refine wc_loopn 5 ?_
  refine wr_go ?_
  refine wc_seq ?_
  refine wc_reg [0] (by kernel_rfl) ?_
  refine wo_run [0] [3, 7, 8, 9, 10] [] (l' := [(3, eI .u32 0), (7, eV (.slice a 4 cap)), (8, eI .i64 4), (9, eI .i64 0), (10, eB true)]) (H' := []) (by kernel_rfl) ?_
  refine wo_nil ?_
  refine we_then ?_
  refine wc_seq ?_
  refine wc_true rfl ?_
  refine wc_skip ?_
  refine we_then ?_
  refine wc_seq ?_
  refine wc_block ?_
  refine wc_seq ?_
  refine wc_reg [0, 1, 2] (by kernel_rfl) ?_
  refine wo_op rfl rfl (ot_rd rfl (rd_indexI (e := 5) b off 1 0 0 rfl (by kernel_rfl) (by kernel_rfl) rfl rfl (rfl) (by decide) ((hbX.take (m := 4) (by first | assumption | omega)).ptr (Nat.zero_lt_of_lt (show 0 < 4 from by decide))).1)) ?_
  refine wo_op rfl rfl (ot_rd rfl (rd_load (v := (sI .u8 ((L.take 4).getD 0 0))) b (off + 0 * 1) 0 [cI .u8 ((L.take 4).getD 0 0)] rfl (off + 0 * 1) rfl rfl (((hbX.take (m := 4) (by first | assumption | omega)).ptr (Nat.zero_lt_of_lt (show 0 < 4 from by decide))).2.1) ((hbX.take (m := 4) (by first | assumption | omega)).cellsAt (show 0 < 4 from by decide)) (okc_one okc_nil) (fun _ => rfl) (by kernel_rfl))) ?_
  refine wo_run [2] [3, 5, 7, 8, 9] [] (l' := [(3, eI .u32 0), (5, eI .u8 ((L.take 4).getD 0 0)), (7, eV (.slice a 4 cap)), (8, eI .i64 4), (9, eI .i64 0)]) (H' := []) (by kernel_rfl) ?_
  refine wo_nil ?_
  refine we_then ?_
  refine wc_reg [0, 1, 2, 3, 4, 5] (by kernel_rfl) ?_
  refine wo_run [0, 1, 2, 3, 4, 5] [3, 7, 8, 9] [] (l' := [(3, eI .u32 (bOr .u32 0 (IntKind.wrap .u32 ((L.take 4).getD 0 0)))), (7, eV (.slice a 4 cap)), (8, eI .i64 4), (9, eI .i64 0)]) (H' := []) (by kernel_rfl) ?_
  refine wo_nil ?_
  refine we_block ?_
  refine we_then ?_
  refine wc_reg [0, 1] (by kernel_rfl) ?_
  refine wo_run [0, 1] [3, 7, 8, 9] [] (l' := [(3, eI .u32 (bOr .u32 0 (IntKind.wrap .u32 ((L.take 4).getD 0 0)))), (7, eV (.slice a 4 cap)), (8, eI .i64 4), (9, eI .i64 1)]) (H' := []) (by kernel_rfl) ?_
  refine wo_nil ?_
  refine we_unr ?_
  refine wr_go ?_
  refine wc_seq ?_
  refine wc_reg [0] (by kernel_rfl) ?_
  refine wo_run [0] [3, 7, 8, 9, 10] [] (l' := [(3, eI .u32 (bOr .u32 0 (IntKind.wrap .u32 ((L.take 4).getD 0 0)))), (7, eV (.slice a 4 cap)), (8, eI .i64 4), (9, eI .i64 1), (10, eB true)]) (H' := []) (by kernel_rfl) ?_
  refine wo_nil ?_
  refine we_then ?_
  refine wc_seq ?_
  refine wc_true rfl ?_
  refine wc_skip ?_
  refine we_then ?_
  refine wc_seq ?_
  refine wc_block ?_
  refine wc_seq ?_
  refine wc_reg [0, 1, 2] (by kernel_rfl) ?_
  refine wo_op rfl rfl (ot_rd rfl (rd_indexI (e := 5) b off 1 1 1 rfl (by kernel_rfl) (by kernel_rfl) rfl rfl (rfl) (by decide) ((hbX.take (m := 4) (by first | assumption | omega)).ptr (Nat.zero_lt_of_lt (show 1 < 4 from by decide))).1)) ?_
  refine wo_op rfl rfl (ot_rd rfl (rd_load (v := (sI .u8 ((L.take 4).getD 1 0))) b (off + 1 * 1) 0 [cI .u8 ((L.take 4).getD 1 0)] rfl (off + 1 * 1) rfl rfl (((hbX.take (m := 4) (by first | assumption | omega)).ptr (Nat.zero_lt_of_lt (show 1 < 4 from by decide))).2.1) ((hbX.take (m := 4) (by first | assumption | omega)).cellsAt (show 1 < 4 from by decide)) (okc_one okc_nil) (fun _ => rfl) (by kernel_rfl))) ?_
  refine wo_run [2] [3, 5, 7, 8, 9] [] (l' := [(3, eI .u32 (bOr .u32 0 (IntKind.wrap .u32 ((L.take 4).getD 0 0)))), (5, eI .u8 ((L.take 4).getD 1 0)), (7, eV (.slice a 4 cap)), (8, eI .i64 4), (9, eI .i64 1)]) (H' := []) (by kernel_rfl) ?_
  refine wo_nil ?_
  refine we_then ?_
  refine wc_reg [0, 1, 2, 3, 4, 5] (by kernel_rfl) ?_
  refine wo_run [0, 1, 2, 3, 4, 5] [3, 7, 8, 9] [] (l' := [(3, eI .u32 (bOr .u32 (IntKind.wrap .u32 ((bOr .u32 0 (IntKind.wrap .u32 ((L.take 4).getD 0 0))) * 2 ^ (8 : Nat))) (IntKind.wrap .u32 ((L.take 4).getD 1 0)))), (7, eV (.slice a 4 cap)), (8, eI .i64 4), (9, eI .i64 1)]) (H' := []) (by kernel_rfl) ?_
  refine wo_nil ?_
  refine we_block ?_
  refine we_then ?_
  refine wc_reg [0, 1] (by kernel_rfl) ?_
  refine wo_run [0, 1] [3, 7, 8, 9] [] (l' := [(3, eI .u32 (bOr .u32 (IntKind.wrap .u32 ((bOr .u32 0 (IntKind.wrap .u32 ((L.take 4).getD 0 0))) * 2 ^ (8 : Nat))) (IntKind.wrap .u32 ((L.take 4).getD 1 0)))), (7, eV (.slice a 4 cap)), (8, eI .i64 4), (9, eI .i64 2)]) (H' := []) (by kernel_rfl) ?_
  refine wo_nil ?_
  refine we_unr ?_
  refine wr_go ?_
  refine wc_seq ?_
  refine wc_reg [0] (by kernel_rfl) ?_
  refine wo_run [0] [3, 7, 8, 9, 10] [] (l' := [(3, eI .u32 (bOr .u32 (IntKind.wrap .u32 ((bOr .u32 0 (IntKind.wrap .u32 ((L.take 4).getD 0 0))) * 2 ^ (8 : Nat))) (IntKind.wrap .u32 ((L.take 4).getD 1 0)))), (7, eV (.slice a 4 cap)), (8, eI .i64 4), (9, eI .i64 2), (10, eB true)]) (H' := []) (by kernel_rfl) ?_
  refine wo_nil ?_
  refine we_then ?_
  refine wc_seq ?_
  refine wc_true rfl ?_
  refine wc_skip ?_
  refine we_then ?_
  refine wc_seq ?_
  refine wc_block ?_
  refine wc_seq ?_
  refine wc_reg [0, 1, 2] (by kernel_rfl) ?_
  refine wo_op rfl rfl (ot_rd rfl (rd_indexI (e := 5) b off 1 2 2 rfl (by kernel_rfl) (by kernel_rfl) rfl rfl (rfl) (by decide) ((hbX.take (m := 4) (by first | assumption | omega)).ptr (Nat.zero_lt_of_lt (show 2 < 4 from by decide))).1)) ?_
  refine wo_op rfl rfl (ot_rd rfl (rd_load (v := (sI .u8 ((L.take 4).getD 2 0))) b (off + 2 * 1) 0 [cI .u8 ((L.take 4).getD 2 0)] rfl (off + 2 * 1) rfl rfl (((hbX.take (m := 4) (by first | assumption | omega)).ptr (Nat.zero_lt_of_lt (show 2 < 4 from by decide))).2.1) ((hbX.take (m := 4) (by first | assumption | omega)).cellsAt (show 2 < 4 from by decide)) (okc_one okc_nil) (fun _ => rfl) (by kernel_rfl))) ?_
  refine wo_run [2] [3, 5, 7, 8, 9] [] (l' := [(3, eI .u32 (bOr .u32 (IntKind.wrap .u32 ((bOr .u32 0 (IntKind.wrap .u32 ((L.take 4).getD 0 0))) * 2 ^ (8 : Nat))) (IntKind.wrap .u32 ((L.take 4).getD 1 0)))), (5, eI .u8 ((L.take 4).getD 2 0)), (7, eV (.slice a 4 cap)), (8, eI .i64 4), (9, eI .i64 2)]) (H' := []) (by kernel_rfl) ?_
  refine wo_nil ?_
  refine we_then ?_
  refine wc_reg [0, 1, 2, 3, 4, 5] (by kernel_rfl) ?_
  refine wo_run [0, 1, 2, 3, 4, 5] [3, 7, 8, 9] [] (l' := [(3, eI .u32 (bOr .u32 (IntKind.wrap .u32 ((bOr .u32 (IntKind.wrap .u32 ((bOr .u32 0 (IntKind.wrap .u32 ((L.take 4).getD 0 0))) * 2 ^ (8 : Nat))) (IntKind.wrap .u32 ((L.take 4).getD 1 0))) * 2 ^ (8 : Nat))) (IntKind.wrap .u32 ((L.take 4).getD 2 0)))), (7, eV (.slice a 4 cap)), (8, eI .i64 4), (9, eI .i64 2)]) (H' := []) (by kernel_rfl) ?_
  refine wo_nil ?_
  refine we_block ?_
  refine we_then ?_
  refine wc_reg [0, 1] (by kernel_rfl) ?_
  refine wo_run [0, 1] [3, 7, 8, 9] [] (l' := [(3, eI .u32 (bOr .u32 (IntKind.wrap .u32 ((bOr .u32 (IntKind.wrap .u32 ((bOr .u32 0 (IntKind.wrap .u32 ((L.take 4).getD 0 0))) * 2 ^ (8 : Nat))) (IntKind.wrap .u32 ((L.take 4).getD 1 0))) * 2 ^ (8 : Nat))) (IntKind.wrap .u32 ((L.take 4).getD 2 0)))), (7, eV (.slice a 4 cap)), (8, eI .i64 4), (9, eI .i64 3)]) (H' := []) (by kernel_rfl) ?_
  refine wo_nil ?_
  refine we_unr ?_
  refine wr_go ?_
  refine wc_seq ?_
  refine wc_reg [0] (by kernel_rfl) ?_
  refine wo_run [0] [3, 7, 8, 9, 10] [] (l' := [(3, eI .u32 (bOr .u32 (IntKind.wrap .u32 ((bOr .u32 (IntKind.wrap .u32 ((bOr .u32 0 (IntKind.wrap .u32 ((L.take 4).getD 0 0))) * 2 ^ (8 : Nat))) (IntKind.wrap .u32 ((L.take 4).getD 1 0))) * 2 ^ (8 : Nat))) (IntKind.wrap .u32 ((L.take 4).getD 2 0)))), (7, eV (.slice a 4 cap)), (8, eI .i64 4), (9, eI .i64 3), (10, eB true)]) (H' := []) (by kernel_rfl) ?_
  refine wo_nil ?_
  refine we_then ?_
  refine wc_seq ?_
  refine wc_true rfl ?_
  refine wc_skip ?_
  refine we_then ?_
  refine wc_seq ?_
  refine wc_block ?_
  refine wc_seq ?_
  refine wc_reg [0, 1, 2] (by kernel_rfl) ?_
  refine wo_op rfl rfl (ot_rd rfl (rd_indexI (e := 5) b off 1 3 3 rfl (by kernel_rfl) (by kernel_rfl) rfl rfl (rfl) (by decide) ((hbX.take (m := 4) (by first | assumption | omega)).ptr (Nat.zero_lt_of_lt (show 3 < 4 from by decide))).1)) ?_
  refine wo_op rfl rfl (ot_rd rfl (rd_load (v := (sI .u8 ((L.take 4).getD 3 0))) b (off + 3 * 1) 0 [cI .u8 ((L.take 4).getD 3 0)] rfl (off + 3 * 1) rfl rfl (((hbX.take (m := 4) (by first | assumption | omega)).ptr (Nat.zero_lt_of_lt (show 3 < 4 from by decide))).2.1) ((hbX.take (m := 4) (by first | assumption | omega)).cellsAt (show 3 < 4 from by decide)) (okc_one okc_nil) (fun _ => rfl) (by kernel_rfl))) ?_
  refine wo_run [2] [3, 5, 7, 8, 9] [] (l' := [(3, eI .u32 (bOr .u32 (IntKind.wrap .u32 ((bOr .u32 (IntKind.wrap .u32 ((bOr .u32 0 (IntKind.wrap .u32 ((L.take 4).getD 0 0))) * 2 ^ (8 : Nat))) (IntKind.wrap .u32 ((L.take 4).getD 1 0))) * 2 ^ (8 : Nat))) (IntKind.wrap .u32 ((L.take 4).getD 2 0)))), (5, eI .u8 ((L.take 4).getD 3 0)), (7, eV (.slice a 4 cap)), (8, eI .i64 4), (9, eI .i64 3)]) (H' := []) (by kernel_rfl) ?_
  refine wo_nil ?_
  refine we_then ?_
  refine wc_reg [0, 1, 2, 3, 4, 5] (by kernel_rfl) ?_
  refine wo_run [0, 1, 2, 3, 4, 5] [3, 7, 8, 9] [] (l' := [(3, eI .u32 (bOr .u32 (IntKind.wrap .u32 ((bOr .u32 (IntKind.wrap .u32 ((bOr .u32 (IntKind.wrap .u32 ((bOr .u32 0 (IntKind.wrap .u32 ((L.take 4).getD 0 0))) * 2 ^ (8 : Nat))) (IntKind.wrap .u32 ((L.take 4).getD 1 0))) * 2 ^ (8 : Nat))) (IntKind.wrap .u32 ((L.take 4).getD 2 0))) * 2 ^ (8 : Nat))) (IntKind.wrap .u32 ((L.take 4).getD 3 0)))), (7, eV (.slice a 4 cap)), (8, eI .i64 4), (9, eI .i64 3)]) (H' := []) (by kernel_rfl) ?_
  refine wo_nil ?_
  refine we_block ?_
  refine we_then ?_
  refine wc_reg [0, 1] (by kernel_rfl) ?_
  refine wo_run [0, 1] [3, 7, 8, 9] [] (l' := [(3, eI .u32 (bOr .u32 (IntKind.wrap .u32 ((bOr .u32 (IntKind.wrap .u32 ((bOr .u32 (IntKind.wrap .u32 ((bOr .u32 0 (IntKind.wrap .u32 ((L.take 4).getD 0 0))) * 2 ^ (8 : Nat))) (IntKind.wrap .u32 ((L.take 4).getD 1 0))) * 2 ^ (8 : Nat))) (IntKind.wrap .u32 ((L.take 4).getD 2 0))) * 2 ^ (8 : Nat))) (IntKind.wrap .u32 ((L.take 4).getD 3 0)))), (7, eV (.slice a 4 cap)), (8, eI .i64 4), (9, eI .i64 4)]) (H' := []) (by kernel_rfl) ?_
  refine wo_nil ?_
  refine we_unr ?_
  refine wr_go ?_
  refine wc_seq ?_
  refine wc_reg [0] (by kernel_rfl) ?_
  refine wo_run [0] [3, 7, 8, 9, 10] [] (l' := [(3, eI .u32 (bOr .u32 (IntKind.wrap .u32 ((bOr .u32 (IntKind.wrap .u32 ((bOr .u32 (IntKind.wrap .u32 ((bOr .u32 0 (IntKind.wrap .u32 ((L.take 4).getD 0 0))) * 2 ^ (8 : Nat))) (IntKind.wrap .u32 ((L.take 4).getD 1 0))) * 2 ^ (8 : Nat))) (IntKind.wrap .u32 ((L.take 4).getD 2 0))) * 2 ^ (8 : Nat))) (IntKind.wrap .u32 ((L.take 4).getD 3 0)))), (7, eV (.slice a 4 cap)), (8, eI .i64 4), (9, eI .i64 4), (10, eB false)]) (H' := []) (by kernel_rfl) ?_
  refine wo_nil ?_
  refine we_then ?_
  refine wc_seq ?_
  refine wc_false rfl ?_
  refine wc_exit ?_
  refine we_then_exit ?_
  refine we_then_exit ?_
  refine we_block_exit ?_
  refine we_then ?_
  refine wc_seq ?_
  refine wc_reg [0, 1] (by kernel_rfl) ?_
  refine wo_run [0, 1] [2] [] (l' := [(2, eI .u32 (bOr .u32 (IntKind.wrap .u32 ((bOr .u32 (IntKind.wrap .u32 ((bOr .u32 (IntKind.wrap .u32 ((bOr .u32 0 (IntKind.wrap .u32 ((L.take 4).getD 0 0))) * 2 ^ (8 : Nat))) (IntKind.wrap .u32 ((L.take 4).getD 1 0))) * 2 ^ (8 : Nat))) (IntKind.wrap .u32 ((L.take 4).getD 2 0))) * 2 ^ (8 : Nat))) (IntKind.wrap .u32 ((L.take 4).getD 3 0))))]) (H' := []) (by kernel_rfl) ?_
  refine wo_nil ?_
  refine we_then ?_
  refine wc_ret ?_
  refine we_ret (.inl rfl) (v := eI .u32 (bOr .u32 (IntKind.wrap .u32 ((bOr .u32 (IntKind.wrap .u32 ((bOr .u32 (IntKind.wrap .u32 ((bOr .u32 0 (IntKind.wrap .u32 ((L.take 4).getD 0 0))) * 2 ^ (8 : Nat))) (IntKind.wrap .u32 ((L.take 4).getD 1 0))) * 2 ^ (8 : Nat))) (IntKind.wrap .u32 ((L.take 4).getD 2 0))) * 2 ^ (8 : Nat))) (IntKind.wrap .u32 ((L.take 4).getD 3 0)))) (by kernel_rfl) ?_
  intro σ w' hf
  exact ⟨congrArg (fun z => Ending.returned (EV.conc ρ (eI .u32 z))) (be4_tk hL h4 hb.ln), hf.below noS⟩

end Go.Proofs.YtjcghjgennddaaaDoor
