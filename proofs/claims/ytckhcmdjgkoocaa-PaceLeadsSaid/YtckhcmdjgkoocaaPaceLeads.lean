/- A law of the pacemaker: in each row of four views for each seat each one leads four. -/
import Derived.Test.YtckhcmdjgkoocaaPaceB
namespace Go.Proofs.Ytckhcmdjgkoocaa.Pc
open Go.RowKit Go.Sx
set_option linter.unusedVariables false
set_option linter.unusedSimpArgs false
theorem wrap_le (a : Int) : IntKind.wrap .i64 a ≤ 9223372036854775807 := by rw [IntKind.wrap_i64]; omega
/-- How often a row of n has y. -/
def cntL (f : Nat → Int) (y : Int) : Nat → Nat
  | 0 => 0
  | n + 1 => cntL f y n + (if f n = y then 1 else 0)
theorem cntL_le (f : Nat → Int) (y : Int) : ∀ n, cntL f y n ≤ n
  | 0 => Nat.le_refl _
  | n + 1 => by have := cntL_le f y n; simp only [cntL]; split <;> omega
theorem cntL_congr {f g : Nat → Int} {y : Int} : ∀ {n : Nat}, (∀ i, i < n → f i = g i) → cntL f y n = cntL g y n
  | 0, _ => rfl
  | n + 1, h => by simp only [cntL]; rw [cntL_congr (fun i hi => h i (by omega)), h n (by omega)]
theorem cntL_four (g : Nat → Int) (y : Int) : ∀ m : Nat, cntL (fun t => g (t / 4)) y (4 * m) = 4 * cntL g y m
  | 0 => rfl
  | m + 1 => by
    have h := cntL_four g y m
    rw [show 4 * (m + 1) = 4 * m + 1 + 1 + 1 + 1 by omega]
    simp only [cntL, h, show (4 * m + 1 + 1 + 1) / 4 = m by omega, show (4 * m + 1 + 1) / 4 = m by omega, show (4 * m + 3) / 4 = m by omega, show (4 * m + 2) / 4 = m by omega, show (4 * m + 1) / 4 = m by omega, show 4 * m / 4 = m by omega]
    split <;> omega
theorem cntL_shift (g : Nat → Int) (y : Int) : ∀ m : Nat, cntL (fun s => g (s + 1)) y m + (if g 0 = y then 1 else 0) = cntL g y m + (if g m = y then 1 else 0)
  | 0 => by simp [cntL]
  | m + 1 => by
    have h := cntL_shift g y m
    simp only [cntL]
    omega
theorem cntL_rot (x : Nat → Int) (y : Int) {len : Nat} (hl : 0 < len) : ∀ n0 : Nat, cntL (fun s => x ((n0 + s) % len)) y len = cntL x y len
  | 0 => cntL_congr fun i hi => by simp [Nat.mod_eq_of_lt hi]
  | n0 + 1 => by
    have h := cntL_rot x y hl n0
    have h2 := cntL_shift (fun s => x ((n0 + s) % len)) y len
    have e : (fun s => x ((n0 + 1 + s) % len)) = (fun s => x ((n0 + (s + 1)) % len)) := by
      funext s; rw [show n0 + 1 + s = n0 + (s + 1) by omega]
    have e2 : (n0 + len) % len = (n0 + 0) % len := by simp
    simp only [e2] at h2
    rw [e]
    omega
theorem cntL_all (x : Nat → Int) (y : Int) {len : Nat} (hl : 0 < len) (n0 : Nat) : cntL (fun t => x ((n0 + t / 4) % len)) y (4 * len) = 4 * cntL x y len := by
  rw [cntL_four (fun s => x ((n0 + s) % len)) y len, cntL_rot x y hl n0]
theorem cnt_yes {f : Nat → Int} {y : Int} {n : Nat} (h : f n = y) (hn : n < 9223372036854775807) : IntKind.wrap .i64 (((cntL f y n : Nat) : Int) + 1) = ((cntL f y (n + 1) : Nat) : Int) := by
  have := cntL_le f y n
  rw [wrap_succ (by omega)]
  simp only [cntL, if_pos h]
theorem cnt_no {f : Nat → Int} {y : Int} {n : Nat} (h : ¬ f n = y) : ((cntL f y n : Nat) : Int) = ((cntL f y (n + 1) : Nat) : Int) := by
  simp only [cntL, if_neg h, Nat.add_zero]
def n0of (view : Int) : Nat := (view - 1).toNat / 4
theorem fr_eq {view : Int} (h1 : ¬ view < 1) (h2 : ¬ view > 1152921504606846976) : IntKind.wrap .i64 (IntKind.wrap .i64 (IntKind.wrap .i64 (Int.tdiv (IntKind.wrap .i64 (view - 1)) 4) * 4) + 1) = 4 * ((n0of view : Nat) : Int) + 1 := by
  obtain ⟨n, hn⟩ : ∃ n : Nat, view - 1 = (n : Int) := ⟨(view - 1).toNat, by omega⟩
  have e : n0of view = n / 4 := by unfold n0of; rw [hn]; rfl
  have d : Int.tdiv ((n : Nat) : Int) 4 = ((n / 4 : Nat) : Int) := rfl
  rw [wrap_id (a := view - 1) (by omega) (by omega), hn, d, wrap_id (a := ((n / 4 : Nat) : Int)) (by omega) (by omega), wrap_id (a := ((n / 4 : Nat) : Int) * 4) (by omega) (by omega), wrap_id (by omega) (by omega), e]
  omega
theorem n0_le {view : Int} (h2 : ¬ view > 1152921504606846976) : n0of view ≤ 288230376151711744 := by unfold n0of; omega
theorem end_eq {view : Int} {len : Nat} (h1 : ¬ view < 1) (h2 : ¬ view > 1152921504606846976) (h3 : ¬ ((len : Nat) : Int) > 12) : IntKind.wrap .i64 (IntKind.wrap .i64 (IntKind.wrap .i64 (IntKind.wrap .i64 (Int.tdiv (IntKind.wrap .i64 (view - 1)) 4) * 4) + 1) + IntKind.wrap .i64 (4 * ((len : Nat) : Int))) = 4 * ((n0of view : Nat) : Int) + 1 + 4 * ((len : Nat) : Int) := by
  have := n0_le h2
  rw [fr_eq h1 h2, wrap_id (a := 4 * ((len : Nat) : Int)) (by omega) (by omega), wrap_id (by omega) (by omega)]
theorem lead_at (x : Nat → Int) {len n0 t : Nat} {v : Int} (hl : 0 < len) (hv : v = 4 * ((n0 : Nat) : Int) + 1 + ((t : Nat) : Int)) : leader len x v = x ((n0 + t / 4) % len) := by
  unfold leader leadIx
  rw [if_neg (by omega), show (v - 1).toNat / 4 = n0 + t / 4 by omega]
theorem lead_first (x : Nat → Int) {len n0 t : Nat} {v : Int} (hl : 0 < len) (hv : v = 4 * ((n0 : Nat) : Int) + 1 + ((t : Nat) : Int)) (h9 : v ≤ 4611686018427387904) :
    leader len x (IntKind.wrap .i64 (IntKind.wrap .i64 (IntKind.wrap .i64 (Int.tdiv (IntKind.wrap .i64 (v - 1)) 4) * 4) + 1)) = leader len x v := by
  have d : Int.tdiv (v - 1) 4 = (v - 1) / 4 := Int.tdiv_eq_ediv_of_nonneg (by omega)
  rw [wrap_id (a := v - 1) (by omega) (by omega), d, wrap_id (a := (v - 1) / 4) (by omega) (by omega), wrap_id (a := (v - 1) / 4 * 4) (by omega) (by omega), wrap_id (by omega) (by omega)]
  rw [lead_at x hl hv, lead_at x (n0 := n0 + t / 4) (t := 0) hl (by omega)]
  simp
theorem many_ok (x : Nat → Int) (y : Int) {len n0 t k : Nat} (hl : 0 < len) (h12 : ¬ ((len : Nat) : Int) > 12) (ht : t = 4 * len) (hk : k = len) :
    ((cntL (fun t => x ((n0 + t / 4) % len)) y t : Nat) : Int) = IntKind.wrap .i64 (4 * ((cntL x y k : Nat) : Int)) := by
  subst ht; subst hk
  rw [cntL_all x y hl n0]
  have := cntL_le x y k
  rw [wrap_id (by omega) (by omega)]
  omega


set_option maxHeartbeats 4000000 in
theorem paceLeads_any (a : Option Addr) (len cap b off : Nat) (x : Nat → Int) (hlc : len ≤ cap) (hcap : cap ≤ maxLen) (view : Int) (w : World) (hb : 0 < len → a = some ⟨b, off, none⟩ ∧ b < w.heap.size) (hc : ∀ i, i < len → CellsAt w b (off + i * 1) ([cI .i64 (x i)])) (ρ : Nat → Nat) :
    Calls Try.prog 12 ([sV (.slice a len cap), sI .i64 view].map (SV.conc ρ)).toArray w fun r w' => r = .returned (EV.conc ρ (eB true)) ∧ Below w.heap.size w w' := by
  refine calls_enter (vs := [sV (.slice a len cap), sI .i64 view]) (N := 103) [] ρ Try.func12 rfl rfl (Nat.le_of_ble_eq_true rfl) (okv_a (okv_a (okv_nil))) noH noH2 ?_ _ rfl
  refine wc_seq ?_
  refine wc_reg [0] (by kernel_rfl) ?_
  refine wo_run [0] [0, 1] [] (l' := [(0, eV (.slice a len cap)), (1, eI .i64 view)]) (H' := []) (by kernel_rfl) ?_
  refine wo_nil ?_
  refine we_then ?_
  refine wc_seq ?_
  refine wc_seq ?_
  refine wc_reg [0, 1] (by kernel_rfl) ?_
  refine wo_op rfl rfl (ot_call (vs := []) rfl rfl rfl Try.func29 (by kernel_rfl) (by kernel_rfl) (by kernel_rfl) (eB true) (trivial) (fun ρ w _ => awake_any w ρ)) ?_
  refine wo_run [1] [0, 1, 14] [] (l' := [(0, eV (.slice a len cap)), (1, eI .i64 view), (14, eB false)]) (H' := []) (by kernel_rfl) ?_
  refine wo_nil ?_
  refine we_then ?_
  refine wc_false rfl ?_
  refine wc_skip ?_
  refine we_then ?_
  refine wc_seq ?_
  refine wc_seq ?_
  refine wc_reg [0, 1, 2, 3, 4, 5, 6, 7, 8, 9, 10, 11, 12, 13, 14, 15] (by kernel_rfl) ?_
  refine wo_run [0, 1, 2, 3] [0, 1, 18] [] (l' := [(0, eV (.slice a len cap)), (1, eI .i64 view), (18, eB (decide (((len : Nat) : Int) > 12)))]) (H' := []) (by kernel_rfl) ?_
  refine wo_bool 18 rfl (fun h1 => ?_) (fun h1 => ?_)
  · replace h1 := of_decide_eq_true h1
    refine wo_run [4, 5, 6, 7, 8, 9, 10, 11, 12, 13, 14, 15] [0, 1, 30] [] (l' := [(0, eV (.slice a len cap)), (1, eI .i64 view), (30, eB true)]) (H' := []) (by kernel_rfl) ?_
    refine wo_nil ?_
    refine we_then ?_
    refine wc_true rfl ?_
    refine wc_seq ?_
    refine wc_reg [0] (by kernel_rfl) ?_
    refine wo_run [0] [4] [] (l' := [(4, eB true)]) (H' := []) (by kernel_rfl) ?_
    refine wo_nil ?_
    refine we_then ?_
    refine wc_ret ?_
    refine we_then_ret ?_
    refine we_ret (.inl rfl) (v := eB true) (by kernel_rfl) ?_
    intro ρ' w' hf'
    refine ⟨?_, hf'.below noS⟩
    rfl
  · replace h1 := of_decide_eq_false h1
    refine wo_run [4, 5, 6, 7, 8] [0, 1, 23] [] (l' := [(0, eV (.slice a len cap)), (1, eI .i64 view), (23, eB (((len : Nat) : Int) == 0))]) (H' := []) (by kernel_rfl) ?_
    refine wo_bool 23 rfl (fun h2 => ?_) (fun h2 => ?_)
    · replace h2 := eq_of_beq h2
      refine wo_run [9, 10, 11, 12, 13, 14, 15] [0, 1, 30] [] (l' := [(0, eV (.slice a len cap)), (1, eI .i64 view), (30, eB true)]) (H' := []) (by kernel_rfl) ?_
      refine wo_nil ?_
      refine we_then ?_
      refine wc_true rfl ?_
      refine wc_seq ?_
      refine wc_reg [0] (by kernel_rfl) ?_
      refine wo_run [0] [4] [] (l' := [(4, eB true)]) (H' := []) (by kernel_rfl) ?_
      refine wo_nil ?_
      refine we_then ?_
      refine wc_ret ?_
      refine we_then_ret ?_
      refine we_ret (.inl rfl) (v := eB true) (by kernel_rfl) ?_
      intro ρ' w' hf'
      refine ⟨?_, hf'.below noS⟩
      rfl
    · replace h2 := ne_of_beq_false h2
      refine wo_run [9, 10, 11, 12] [0, 1, 27] [] (l' := [(0, eV (.slice a len cap)), (1, eI .i64 view), (27, eB (decide (view < 1)))]) (H' := []) (by kernel_rfl) ?_
      refine wo_bool 27 rfl (fun h3 => ?_) (fun h3 => ?_)
      · replace h3 := of_decide_eq_true h3
        refine wo_run [13, 14, 15] [0, 1, 30] [] (l' := [(0, eV (.slice a len cap)), (1, eI .i64 view), (30, eB true)]) (H' := []) (by kernel_rfl) ?_
        refine wo_nil ?_
        refine we_then ?_
        refine wc_true rfl ?_
        refine wc_seq ?_
        refine wc_reg [0] (by kernel_rfl) ?_
        refine wo_run [0] [4] [] (l' := [(4, eB true)]) (H' := []) (by kernel_rfl) ?_
        refine wo_nil ?_
        refine we_then ?_
        refine wc_ret ?_
        refine we_then_ret ?_
        refine we_ret (.inl rfl) (v := eB true) (by kernel_rfl) ?_
        intro ρ' w' hf'
        refine ⟨?_, hf'.below noS⟩
        rfl
      · replace h3 := of_decide_eq_false h3
        refine wo_run [13, 14, 15] [0, 1, 30] [] (l' := [(0, eV (.slice a len cap)), (1, eI .i64 view), (30, eB (decide (view > 1152921504606846976)))]) (H' := []) (by kernel_rfl) ?_
        refine wo_nil ?_
        refine we_then ?_
        refine wc_cond rfl (fun h4 => ?_) (fun h4 => ?_)
        · replace h4 := of_decide_eq_true h4
          refine wc_seq ?_
          refine wc_reg [0] (by kernel_rfl) ?_
          refine wo_run [0] [4] [] (l' := [(4, eB true)]) (H' := []) (by kernel_rfl) ?_
          refine wo_nil ?_
          refine we_then ?_
          refine wc_ret ?_
          refine we_then_ret ?_
          refine we_ret (.inl rfl) (v := eB true) (by kernel_rfl) ?_
          intro ρ' w' hf'
          refine ⟨?_, hf'.below noS⟩
          rfl
        · replace h4 := of_decide_eq_false h4
          refine wc_skip ?_
          refine we_then ?_
          refine wc_seq ?_
          refine wc_reg [0, 1, 2, 3] (by kernel_rfl) ?_
          refine wo_run [0, 1, 2, 3] [0, 1, 5] [] (l' := [(0, eV (.slice a len cap)), (1, eI .i64 view), (5, eI .i64 (IntKind.wrap .i64 (4 * ((len : Nat) : Int))))]) (H' := []) (by kernel_rfl) ?_
          refine wo_nil ?_
          refine we_then ?_
          refine wc_seq ?_
          refine wc_reg [0, 1, 2, 3, 4, 5] (by kernel_rfl) ?_
          refine wo_run [0, 1, 2, 3, 4, 5] [0, 5, 6] [] (l' := [(0, eV (.slice a len cap)), (5, eI .i64 (IntKind.wrap .i64 (4 * ((len : Nat) : Int)))), (6, eI .i64 (IntKind.wrap .i64 ((IntKind.wrap .i64 ((IntKind.wrap .i64 (Int.tdiv (IntKind.wrap .i64 (view - 1)) 4)) * 4)) + 1)))]) (H' := []) (by kernel_rfl) ?_
          refine wo_nil ?_
          refine we_then ?_
          refine wc_seq ?_
          refine wc_seq ?_
          refine wc_reg [0, 1, 2] (by kernel_rfl) ?_
          refine wo_run [0, 1, 2] [0, 5, 6, 40, 41] [] (l' := [(0, eV (.slice a len cap)), (5, eI .i64 (IntKind.wrap .i64 (4 * ((len : Nat) : Int)))), (6, eI .i64 (IntKind.wrap .i64 ((IntKind.wrap .i64 ((IntKind.wrap .i64 (Int.tdiv (IntKind.wrap .i64 (view - 1)) 4)) * 4)) + 1))), (40, eI .i64 ((len : Nat) : Int)), (41, eI .i64 0)]) (H' := []) (by kernel_rfl) ?_
          refine wo_nil ?_
          refine we_then ?_
          refine wc_block ?_
          refine wc_rest [0, 5, 6, 40, 41] [] (l' := [(0, eV (.slice a len cap)), (5, eI .i64 (IntKind.wrap .i64 (4 * ((len : Nat) : Int)))), (6, eI .i64 (IntKind.wrap .i64 ((IntKind.wrap .i64 ((IntKind.wrap .i64 (Int.tdiv (IntKind.wrap .i64 (view - 1)) 4)) * 4)) + 1))), (40, eI .i64 ((len : Nat) : Int)), (41, eI .i64 0)]) (H' := []) (by kernel_rfl) ?_
          refine wc_loop (τ := Nat) (fun i => i ≤ len) (fun i => len - i) (fun _ => _) (fun i => [(0, eV (.slice a len cap)), (5, eI .i64 (IntKind.wrap .i64 (4 * ((len : Nat) : Int)))), (6, eI .i64 (IntKind.wrap .i64 ((IntKind.wrap .i64 ((IntKind.wrap .i64 (Int.tdiv (IntKind.wrap .i64 (view - 1)) 4)) * 4)) + 1))), (40, eI .i64 ((len : Nat) : Int)), (41, eI .i64 ((i : Nat) : Int))]) (fun i => []) 0 (Nat.zero_le _) rfl rfl rfl ?_
          rintro i hj
          refine wc_seq ?_
          refine wc_reg [0] (by kernel_rfl) ?_
          refine wo_run [0] [0, 5, 6, 40, 41, 42] [] (l' := [(0, eV (.slice a len cap)), (5, eI .i64 (IntKind.wrap .i64 (4 * ((len : Nat) : Int)))), (6, eI .i64 (IntKind.wrap .i64 ((IntKind.wrap .i64 ((IntKind.wrap .i64 (Int.tdiv (IntKind.wrap .i64 (view - 1)) 4)) * 4)) + 1))), (40, eI .i64 ((len : Nat) : Int)), (41, eI .i64 ((i : Nat) : Int)), (42, eB (decide (((i : Nat) : Int) < ((len : Nat) : Int))))]) (H' := []) (by kernel_rfl) ?_
          refine wo_nil ?_
          refine we_then ?_
          refine wc_seq ?_
          refine wc_cond rfl (fun h5 => ?_) (fun h5 => ?_)
          · replace h5 := of_decide_eq_true h5
            refine wc_skip ?_
            refine we_then ?_
            refine wc_seq ?_
            refine wc_block ?_
            refine wc_seq ?_
            refine wc_reg [0, 1] (by kernel_rfl) ?_
            refine wo_run [0, 1] [0, 5, 6, 7, 40, 41] [] (l' := [(0, eV (.slice a len cap)), (5, eI .i64 (IntKind.wrap .i64 (4 * ((len : Nat) : Int)))), (6, eI .i64 (IntKind.wrap .i64 ((IntKind.wrap .i64 ((IntKind.wrap .i64 (Int.tdiv (IntKind.wrap .i64 (view - 1)) 4)) * 4)) + 1))), (7, eI .i64 ((i : Nat) : Int)), (40, eI .i64 ((len : Nat) : Int)), (41, eI .i64 ((i : Nat) : Int))]) (H' := []) (by kernel_rfl) ?_
            refine wo_nil ?_
            refine we_then ?_
            refine wc_seq ?_
            refine wc_reg [0] (by kernel_rfl) ?_
            refine wo_run [0] [0, 5, 6, 7, 8, 40, 41] [] (l' := [(0, eV (.slice a len cap)), (5, eI .i64 (IntKind.wrap .i64 (4 * ((len : Nat) : Int)))), (6, eI .i64 (IntKind.wrap .i64 ((IntKind.wrap .i64 ((IntKind.wrap .i64 (Int.tdiv (IntKind.wrap .i64 (view - 1)) 4)) * 4)) + 1))), (7, eI .i64 ((i : Nat) : Int)), (8, eI .i64 0), (40, eI .i64 ((len : Nat) : Int)), (41, eI .i64 ((i : Nat) : Int))]) (H' := []) (by kernel_rfl) ?_
            refine wo_nil ?_
            refine we_then ?_
            refine wc_seq ?_
            refine wc_reg [0] (by kernel_rfl) ?_
            refine wo_run [0] [0, 5, 6, 7, 8, 9, 40, 41] [] (l' := [(0, eV (.slice a len cap)), (5, eI .i64 (IntKind.wrap .i64 (4 * ((len : Nat) : Int)))), (6, eI .i64 (IntKind.wrap .i64 ((IntKind.wrap .i64 ((IntKind.wrap .i64 (Int.tdiv (IntKind.wrap .i64 (view - 1)) 4)) * 4)) + 1))), (7, eI .i64 ((i : Nat) : Int)), (8, eI .i64 0), (9, eI .i64 0), (40, eI .i64 ((len : Nat) : Int)), (41, eI .i64 ((i : Nat) : Int))]) (H' := []) (by kernel_rfl) ?_
            refine wo_nil ?_
            refine we_then ?_
            refine wc_seq ?_
            refine wc_seq ?_
            refine wc_reg [0, 1, 2] (by kernel_rfl) ?_
            refine wo_run [0, 1, 2] [0, 5, 6, 7, 8, 9, 40, 41, 45, 46] [] (l' := [(0, eV (.slice a len cap)), (5, eI .i64 (IntKind.wrap .i64 (4 * ((len : Nat) : Int)))), (6, eI .i64 (IntKind.wrap .i64 ((IntKind.wrap .i64 ((IntKind.wrap .i64 (Int.tdiv (IntKind.wrap .i64 (view - 1)) 4)) * 4)) + 1))), (7, eI .i64 ((i : Nat) : Int)), (8, eI .i64 0), (9, eI .i64 0), (40, eI .i64 ((len : Nat) : Int)), (41, eI .i64 ((i : Nat) : Int)), (45, eI .i64 ((len : Nat) : Int)), (46, eI .i64 0)]) (H' := []) (by kernel_rfl) ?_
            refine wo_nil ?_
            refine we_then ?_
            refine wc_block ?_
            refine wc_rest [0, 5, 6, 7, 8, 9, 40, 41, 45, 46] [] (l' := [(0, eV (.slice a len cap)), (5, eI .i64 (IntKind.wrap .i64 (4 * ((len : Nat) : Int)))), (6, eI .i64 (IntKind.wrap .i64 ((IntKind.wrap .i64 ((IntKind.wrap .i64 (Int.tdiv (IntKind.wrap .i64 (view - 1)) 4)) * 4)) + 1))), (7, eI .i64 ((i : Nat) : Int)), (8, eI .i64 0), (9, eI .i64 0), (40, eI .i64 ((len : Nat) : Int)), (41, eI .i64 ((i : Nat) : Int)), (45, eI .i64 ((len : Nat) : Int)), (46, eI .i64 0)]) (H' := []) (by kernel_rfl) ?_
            refine wc_loop (τ := Nat) (fun k => k ≤ len) (fun k => len - k) (fun _ => _) (fun k => [(0, eV (.slice a len cap)), (5, eI .i64 (IntKind.wrap .i64 (4 * ((len : Nat) : Int)))), (6, eI .i64 (IntKind.wrap .i64 ((IntKind.wrap .i64 ((IntKind.wrap .i64 (Int.tdiv (IntKind.wrap .i64 (view - 1)) 4)) * 4)) + 1))), (7, eI .i64 ((i : Nat) : Int)), (8, eI .i64 0), (9, eI .i64 ((cntL x (x i) k : Nat) : Int)), (40, eI .i64 ((len : Nat) : Int)), (41, eI .i64 ((i : Nat) : Int)), (45, eI .i64 ((len : Nat) : Int)), (46, eI .i64 ((k : Nat) : Int))]) (fun k => []) 0 (Nat.zero_le _) rfl rfl rfl ?_
            rintro k hj
            refine wc_seq ?_
            refine wc_reg [0] (by kernel_rfl) ?_
            refine wo_run [0] [0, 5, 6, 7, 8, 9, 40, 41, 45, 46, 47] [] (l' := [(0, eV (.slice a len cap)), (5, eI .i64 (IntKind.wrap .i64 (4 * ((len : Nat) : Int)))), (6, eI .i64 (IntKind.wrap .i64 ((IntKind.wrap .i64 ((IntKind.wrap .i64 (Int.tdiv (IntKind.wrap .i64 (view - 1)) 4)) * 4)) + 1))), (7, eI .i64 ((i : Nat) : Int)), (8, eI .i64 0), (9, eI .i64 ((cntL x (x i) k : Nat) : Int)), (40, eI .i64 ((len : Nat) : Int)), (41, eI .i64 ((i : Nat) : Int)), (45, eI .i64 ((len : Nat) : Int)), (46, eI .i64 ((k : Nat) : Int)), (47, eB (decide (((k : Nat) : Int) < ((len : Nat) : Int))))]) (H' := []) (by kernel_rfl) ?_
            refine wo_nil ?_
            refine we_then ?_
            refine wc_seq ?_
            refine wc_cond rfl (fun h6 => ?_) (fun h6 => ?_)
            · replace h6 := of_decide_eq_true h6
              refine wc_skip ?_
              refine we_then ?_
              refine wc_seq ?_
              refine wc_block ?_
              refine wc_seq ?_
              refine wc_reg [0, 1] (by kernel_rfl) ?_
              refine wo_run [0, 1] [0, 5, 6, 7, 8, 9, 10, 40, 41, 45, 46] [] (l' := [(0, eV (.slice a len cap)), (5, eI .i64 (IntKind.wrap .i64 (4 * ((len : Nat) : Int)))), (6, eI .i64 (IntKind.wrap .i64 ((IntKind.wrap .i64 ((IntKind.wrap .i64 (Int.tdiv (IntKind.wrap .i64 (view - 1)) 4)) * 4)) + 1))), (7, eI .i64 ((i : Nat) : Int)), (8, eI .i64 0), (9, eI .i64 ((cntL x (x i) k : Nat) : Int)), (10, eI .i64 ((k : Nat) : Int)), (40, eI .i64 ((len : Nat) : Int)), (41, eI .i64 ((i : Nat) : Int)), (45, eI .i64 ((len : Nat) : Int)), (46, eI .i64 ((k : Nat) : Int))]) (H' := []) (by kernel_rfl) ?_
              refine wo_nil ?_
              refine we_then ?_
              refine wc_seq ?_
              refine wc_draw (n := 9) [] (by kernel_rfl) rfl (sub_of [] (by kernel_rfl)) (fun ρ0 => ?_)
              refine wa_takes (fuel := 5) [0, 1, 4, 5] [0, 5, 6, 7, 8, 9, 40, 41, 45, 46, 49, 50, 53, 54] (listed' := #[true, true, false, false, true, true, false, false, false]) (l' := [(0, eV (.slice a len cap)), (5, eI .i64 (IntKind.wrap .i64 (4 * ((len : Nat) : Int)))), (6, eI .i64 (IntKind.wrap .i64 ((IntKind.wrap .i64 ((IntKind.wrap .i64 (Int.tdiv (IntKind.wrap .i64 (view - 1)) 4)) * 4)) + 1))), (7, eI .i64 ((i : Nat) : Int)), (8, eI .i64 0), (9, eI .i64 ((cntL x (x i) k : Nat) : Int)), (40, eI .i64 ((len : Nat) : Int)), (41, eI .i64 ((i : Nat) : Int)), (45, eI .i64 ((len : Nat) : Int)), (46, eI .i64 ((k : Nat) : Int)), (49, eV (.slice a len cap)), (50, eI .i64 ((k : Nat) : Int)), (53, eV (.slice a len cap)), (54, eI .i64 ((i : Nat) : Int))]) (pk_then (pk_block (pk_then (pk_then (pk_block (pk_then (pk_block (pk_then (pk_then (pk_block (pk_then pk_body))))))))))) rfl (by kernel_rfl) ?_
              refine wa_take 2 (pk_then (pk_block (pk_then (pk_then (pk_block (pk_then (pk_block (pk_then (pk_then (pk_block (pk_then pk_body))))))))))) rfl (by kernel_rfl) rfl rfl (rd_index (e := 3) b off 1 k rfl (by kernel_rfl) (by kernel_rfl) rfl rfl ((Int.ofNat_lt.1 h6)) ((hb (Nat.zero_lt_of_lt (Int.ofNat_lt.1 h6))).1)) ?_
              refine wa_take 3 (pk_then (pk_block (pk_then (pk_then (pk_block (pk_then (pk_block (pk_then (pk_then (pk_block (pk_then pk_body))))))))))) rfl (by kernel_rfl) rfl rfl (rd_load (v := (sI .i64 (x k))) b (off + k * 1) 0 [cI .i64 (x k)] rfl (off + k * 1) rfl rfl ((xI (hb (Nat.zero_lt_of_lt (Int.ofNat_lt.1 h6))).2)) (hc k (Int.ofNat_lt.1 h6)) (okc_one okc_nil) (fun _ => rfl) (by kernel_rfl)) ?_
              refine wa_take 6 (pk_then (pk_block (pk_then (pk_then (pk_block (pk_then (pk_block (pk_then (pk_then (pk_block (pk_then pk_body))))))))))) rfl (by kernel_rfl) rfl rfl (rd_index (e := 3) b off 1 i rfl (by kernel_rfl) (by kernel_rfl) rfl rfl ((Int.ofNat_lt.1 h5)) ((hb (Nat.zero_lt_of_lt (Int.ofNat_lt.1 h5))).1)) ?_
              refine wa_take 7 (pk_then (pk_block (pk_then (pk_then (pk_block (pk_then (pk_block (pk_then (pk_then (pk_block (pk_then pk_body))))))))))) rfl (by kernel_rfl) rfl rfl (rd_load (v := (sI .i64 (x i))) b (off + i * 1) 0 [cI .i64 (x i)] rfl (off + i * 1) rfl rfl ((xI (hb (Nat.zero_lt_of_lt (Int.ofNat_lt.1 h5))).2)) (hc i (Int.ofNat_lt.1 h5)) (okc_one okc_nil) (fun _ => rfl) (by kernel_rfl)) ?_
              refine wa_takes (fuel := 0) [8] [0, 5, 6, 7, 8, 9, 40, 41, 45, 46, 57] (listed' := #[true, true, true, true, true, true, true, true, true]) (l' := [(0, eV (.slice a len cap)), (5, eI .i64 (IntKind.wrap .i64 (4 * ((len : Nat) : Int)))), (6, eI .i64 (IntKind.wrap .i64 ((IntKind.wrap .i64 ((IntKind.wrap .i64 (Int.tdiv (IntKind.wrap .i64 (view - 1)) 4)) * 4)) + 1))), (7, eI .i64 ((i : Nat) : Int)), (8, eI .i64 0), (9, eI .i64 ((cntL x (x i) k : Nat) : Int)), (40, eI .i64 ((len : Nat) : Int)), (41, eI .i64 ((i : Nat) : Int)), (45, eI .i64 ((len : Nat) : Int)), (46, eI .i64 ((k : Nat) : Int)), (57, eB ((x k) == (x i)))]) (pk_then (pk_block (pk_then (pk_then (pk_block (pk_then (pk_block (pk_then (pk_then (pk_block (pk_then pk_body))))))))))) rfl (by kernel_rfl) ?_
              refine wa_done (by kernel_rfl) ?_
              refine we_rest [0, 5, 6, 7, 8, 9, 40, 41, 45, 46, 57] [] (l' := [(0, eV (.slice a len cap)), (5, eI .i64 (IntKind.wrap .i64 (4 * ((len : Nat) : Int)))), (6, eI .i64 (IntKind.wrap .i64 ((IntKind.wrap .i64 ((IntKind.wrap .i64 (Int.tdiv (IntKind.wrap .i64 (view - 1)) 4)) * 4)) + 1))), (7, eI .i64 ((i : Nat) : Int)), (8, eI .i64 0), (9, eI .i64 ((cntL x (x i) k : Nat) : Int)), (40, eI .i64 ((len : Nat) : Int)), (41, eI .i64 ((i : Nat) : Int)), (45, eI .i64 ((len : Nat) : Int)), (46, eI .i64 ((k : Nat) : Int)), (57, eB ((x k) == (x i)))]) (H' := []) (by kernel_rfl) (by kernel_rfl) ?_
              refine we_then ?_
              refine wc_cond rfl (fun h7 => ?_) (fun h7 => ?_)
              · replace h7 := eq_of_beq h7
                refine wc_reg [0, 1, 2] (by kernel_rfl) ?_
                refine wo_run [0, 1, 2] [0, 5, 6, 7, 8, 9, 40, 41, 45, 46] [] (l' := [(0, eV (.slice a len cap)), (5, eI .i64 (IntKind.wrap .i64 (4 * ((len : Nat) : Int)))), (6, eI .i64 (IntKind.wrap .i64 ((IntKind.wrap .i64 ((IntKind.wrap .i64 (Int.tdiv (IntKind.wrap .i64 (view - 1)) 4)) * 4)) + 1))), (7, eI .i64 ((i : Nat) : Int)), (8, eI .i64 0), (9, eI .i64 (IntKind.wrap .i64 (((cntL x (x i) k : Nat) : Int) + 1))), (40, eI .i64 ((len : Nat) : Int)), (41, eI .i64 ((i : Nat) : Int)), (45, eI .i64 ((len : Nat) : Int)), (46, eI .i64 ((k : Nat) : Int))]) (H' := []) (by kernel_rfl) ?_
                refine wo_nil ?_
                refine we_block ?_
                refine we_then ?_
                refine wc_reg [0, 1] (by kernel_rfl) ?_
                refine wo_run [0, 1] [0, 5, 6, 7, 8, 9, 40, 41, 45, 46] [] (l' := [(0, eV (.slice a len cap)), (5, eI .i64 (IntKind.wrap .i64 (4 * ((len : Nat) : Int)))), (6, eI .i64 (IntKind.wrap .i64 ((IntKind.wrap .i64 ((IntKind.wrap .i64 (Int.tdiv (IntKind.wrap .i64 (view - 1)) 4)) * 4)) + 1))), (7, eI .i64 ((i : Nat) : Int)), (8, eI .i64 0), (9, eI .i64 (IntKind.wrap .i64 (((cntL x (x i) k : Nat) : Int) + 1))), (40, eI .i64 ((len : Nat) : Int)), (41, eI .i64 ((i : Nat) : Int)), (45, eI .i64 ((len : Nat) : Int)), (46, eI .i64 (IntKind.wrap .i64 (((k : Nat) : Int) + 1)))]) (H' := []) (by kernel_rfl) ?_
                refine wo_nil ?_
                refine we_rest [0, 5, 6, 7, 8, 9, 40, 41, 45, 46] [] (l' := [(0, eV (.slice a len cap)), (5, eI .i64 (IntKind.wrap .i64 (4 * ((len : Nat) : Int)))), (6, eI .i64 (IntKind.wrap .i64 ((IntKind.wrap .i64 ((IntKind.wrap .i64 (Int.tdiv (IntKind.wrap .i64 (view - 1)) 4)) * 4)) + 1))), (7, eI .i64 ((i : Nat) : Int)), (8, eI .i64 0), (9, eI .i64 (IntKind.wrap .i64 (((cntL x (x i) k : Nat) : Int) + 1))), (40, eI .i64 ((len : Nat) : Int)), (41, eI .i64 ((i : Nat) : Int)), (45, eI .i64 ((len : Nat) : Int)), (46, eI .i64 (IntKind.wrap .i64 (((k : Nat) : Int) + 1)))]) (H' := []) (by kernel_rfl) (by kernel_rfl) ?_
                rw [show (IntKind.wrap .i64 (((cntL x (x i) k : Nat) : Int) + 1)) = ((cntL x (x i) (k + 1) : Nat) : Int) from cnt_yes h7 (by simp only [maxLen] at hcap; omega)]
                rw [show (IntKind.wrap .i64 (((k : Nat) : Int) + 1)) = ((k + 1 : Nat) : Int) from wrap_succ (by simp only [maxLen] at hcap; omega)]
                exact we_round (k + 1) (by show k + 1 ≤ len; omega) (by show len - (k + 1) < len - k; omega) rfl (sub_ofE [0, 5, 6, 7, 8, 9, 40, 41, 45, 46] rfl) (sub_of [] rfl)
              · replace h7 := ne_of_beq_false h7
                refine wc_skip ?_
                refine we_block ?_
                refine we_then ?_
                refine wc_reg [0, 1] (by kernel_rfl) ?_
                refine wo_run [0, 1] [0, 5, 6, 7, 8, 9, 40, 41, 45, 46] [] (l' := [(0, eV (.slice a len cap)), (5, eI .i64 (IntKind.wrap .i64 (4 * ((len : Nat) : Int)))), (6, eI .i64 (IntKind.wrap .i64 ((IntKind.wrap .i64 ((IntKind.wrap .i64 (Int.tdiv (IntKind.wrap .i64 (view - 1)) 4)) * 4)) + 1))), (7, eI .i64 ((i : Nat) : Int)), (8, eI .i64 0), (9, eI .i64 ((cntL x (x i) k : Nat) : Int)), (40, eI .i64 ((len : Nat) : Int)), (41, eI .i64 ((i : Nat) : Int)), (45, eI .i64 ((len : Nat) : Int)), (46, eI .i64 (IntKind.wrap .i64 (((k : Nat) : Int) + 1)))]) (H' := []) (by kernel_rfl) ?_
                refine wo_nil ?_
                refine we_rest [0, 5, 6, 7, 8, 9, 40, 41, 45, 46] [] (l' := [(0, eV (.slice a len cap)), (5, eI .i64 (IntKind.wrap .i64 (4 * ((len : Nat) : Int)))), (6, eI .i64 (IntKind.wrap .i64 ((IntKind.wrap .i64 ((IntKind.wrap .i64 (Int.tdiv (IntKind.wrap .i64 (view - 1)) 4)) * 4)) + 1))), (7, eI .i64 ((i : Nat) : Int)), (8, eI .i64 0), (9, eI .i64 ((cntL x (x i) k : Nat) : Int)), (40, eI .i64 ((len : Nat) : Int)), (41, eI .i64 ((i : Nat) : Int)), (45, eI .i64 ((len : Nat) : Int)), (46, eI .i64 (IntKind.wrap .i64 (((k : Nat) : Int) + 1)))]) (H' := []) (by kernel_rfl) (by kernel_rfl) ?_
                rw [show ((cntL x (x i) k : Nat) : Int) = ((cntL x (x i) (k + 1) : Nat) : Int) from cnt_no h7]
                rw [show (IntKind.wrap .i64 (((k : Nat) : Int) + 1)) = ((k + 1 : Nat) : Int) from wrap_succ (by simp only [maxLen] at hcap; omega)]
                exact we_round (k + 1) (by show k + 1 ≤ len; omega) (by show len - (k + 1) < len - k; omega) rfl (sub_ofE [0, 5, 6, 7, 8, 9, 40, 41, 45, 46] rfl) (sub_of [] rfl)
            · replace h6 := of_decide_eq_false h6
              refine wc_exit ?_
              refine we_then_exit ?_
              refine we_then_exit ?_
              refine we_block_exit ?_
              refine we_then ?_
              refine wc_seq ?_
              refine wc_seq ?_
              refine wc_reg [0, 1] (by kernel_rfl) ?_
              refine wo_run [0, 1] [0, 5, 6, 7, 8, 9, 11, 40, 41] [] (l' := [(0, eV (.slice a len cap)), (5, eI .i64 (IntKind.wrap .i64 (4 * ((len : Nat) : Int)))), (6, eI .i64 (IntKind.wrap .i64 ((IntKind.wrap .i64 ((IntKind.wrap .i64 (Int.tdiv (IntKind.wrap .i64 (view - 1)) 4)) * 4)) + 1))), (7, eI .i64 ((i : Nat) : Int)), (8, eI .i64 0), (9, eI .i64 ((cntL x (x i) k : Nat) : Int)), (11, eI .i64 (IntKind.wrap .i64 ((IntKind.wrap .i64 ((IntKind.wrap .i64 (Int.tdiv (IntKind.wrap .i64 (view - 1)) 4)) * 4)) + 1))), (40, eI .i64 ((len : Nat) : Int)), (41, eI .i64 ((i : Nat) : Int))]) (H' := []) (by kernel_rfl) ?_
              refine wo_nil ?_
              refine we_then ?_
              refine wc_block ?_
              refine wc_rest [0, 5, 6, 7, 8, 9, 11, 40, 41] [] (l' := [(0, eV (.slice a len cap)), (5, eI .i64 (IntKind.wrap .i64 (4 * ((len : Nat) : Int)))), (6, eI .i64 (IntKind.wrap .i64 ((IntKind.wrap .i64 ((IntKind.wrap .i64 (Int.tdiv (IntKind.wrap .i64 (view - 1)) 4)) * 4)) + 1))), (7, eI .i64 ((i : Nat) : Int)), (8, eI .i64 0), (9, eI .i64 ((cntL x (x i) k : Nat) : Int)), (11, eI .i64 (IntKind.wrap .i64 ((IntKind.wrap .i64 ((IntKind.wrap .i64 (Int.tdiv (IntKind.wrap .i64 (view - 1)) 4)) * 4)) + 1))), (40, eI .i64 ((len : Nat) : Int)), (41, eI .i64 ((i : Nat) : Int))]) (H' := []) (by kernel_rfl) ?_
              refine wc_loop (τ := Int × Nat) (fun ⟨v, t⟩ => t ≤ 4 * len ∧ v = 4 * ((n0of view : Nat) : Int) + 1 + ((t : Nat) : Int)) (fun ⟨v, t⟩ => 4 * len - t) (fun _ => _) (fun ⟨v, t⟩ => [(0, eV (.slice a len cap)), (5, eI .i64 (IntKind.wrap .i64 (4 * ((len : Nat) : Int)))), (6, eI .i64 (IntKind.wrap .i64 ((IntKind.wrap .i64 ((IntKind.wrap .i64 (Int.tdiv (IntKind.wrap .i64 (view - 1)) 4)) * 4)) + 1))), (7, eI .i64 ((i : Nat) : Int)), (8, eI .i64 ((cntL (fun t => x ((n0of view + t / 4) % len)) (x i) t : Nat) : Int)), (9, eI .i64 ((cntL x (x i) k : Nat) : Int)), (11, eI .i64 v), (40, eI .i64 ((len : Nat) : Int)), (41, eI .i64 ((i : Nat) : Int))]) (fun ⟨v, t⟩ => []) ((IntKind.wrap .i64 ((IntKind.wrap .i64 ((IntKind.wrap .i64 (Int.tdiv (IntKind.wrap .i64 (view - 1)) 4)) * 4)) + 1)), 0) (⟨Nat.zero_le _, by rw [fr_eq h3 h4]; omega⟩) rfl rfl rfl ?_
              rintro ⟨v, t⟩ hj
              obtain ⟨ht, hvt⟩ := hj
              have hn1 := n0_le h4
              refine wc_seq ?_
              refine wc_seq ?_
              refine wc_reg [0, 1, 2, 3, 4] (by kernel_rfl) ?_
              refine wo_run [0, 1, 2, 3, 4] [0, 5, 6, 7, 8, 9, 11, 40, 41, 66] [] (l' := [(0, eV (.slice a len cap)), (5, eI .i64 (IntKind.wrap .i64 (4 * ((len : Nat) : Int)))), (6, eI .i64 (IntKind.wrap .i64 ((IntKind.wrap .i64 ((IntKind.wrap .i64 (Int.tdiv (IntKind.wrap .i64 (view - 1)) 4)) * 4)) + 1))), (7, eI .i64 ((i : Nat) : Int)), (8, eI .i64 ((cntL (fun t => x ((n0of view + t / 4) % len)) (x i) t : Nat) : Int)), (9, eI .i64 ((cntL x (x i) k : Nat) : Int)), (11, eI .i64 v), (40, eI .i64 ((len : Nat) : Int)), (41, eI .i64 ((i : Nat) : Int)), (66, eB (decide (v < (IntKind.wrap .i64 ((IntKind.wrap .i64 ((IntKind.wrap .i64 ((IntKind.wrap .i64 (Int.tdiv (IntKind.wrap .i64 (view - 1)) 4)) * 4)) + 1)) + (IntKind.wrap .i64 (4 * ((len : Nat) : Int))))))))]) (H' := []) (by kernel_rfl) ?_
              refine wo_nil ?_
              refine we_then ?_
              refine wc_cond rfl (fun h8 => ?_) (fun h8 => ?_)
              · replace h8 := of_decide_eq_true h8
                refine wc_skip ?_
                refine we_then ?_
                refine wc_seq ?_
                refine wc_block ?_
                refine wc_seq ?_
                refine wc_rest [0, 5, 6, 7, 8, 9, 11, 40, 41] [] (l' := [(0, eV (.slice a len cap)), (5, eI .i64 (IntKind.wrap .i64 (4 * ((len : Nat) : Int)))), (6, eI .i64 (IntKind.wrap .i64 ((IntKind.wrap .i64 ((IntKind.wrap .i64 (Int.tdiv (IntKind.wrap .i64 (view - 1)) 4)) * 4)) + 1))), (7, eI .i64 ((i : Nat) : Int)), (8, eI .i64 ((cntL (fun t => x ((n0of view + t / 4) % len)) (x i) t : Nat) : Int)), (9, eI .i64 ((cntL x (x i) k : Nat) : Int)), (11, eI .i64 v), (40, eI .i64 ((len : Nat) : Int)), (41, eI .i64 ((i : Nat) : Int))]) (H' := []) (by kernel_rfl) ?_
                refine wc_draw (n := 8) [] (by kernel_rfl) rfl (sub_of [] (by kernel_rfl)) (fun ρ0 => ?_)
                refine wa_takes (fuel := 4) [0, 1, 3, 4] [0, 5, 6, 7, 8, 9, 11, 40, 41, 69, 70, 72, 73] (listed' := #[true, true, false, true, true, false, false, false]) (l' := [(0, eV (.slice a len cap)), (5, eI .i64 (IntKind.wrap .i64 (4 * ((len : Nat) : Int)))), (6, eI .i64 (IntKind.wrap .i64 ((IntKind.wrap .i64 ((IntKind.wrap .i64 (Int.tdiv (IntKind.wrap .i64 (view - 1)) 4)) * 4)) + 1))), (7, eI .i64 ((i : Nat) : Int)), (8, eI .i64 ((cntL (fun t => x ((n0of view + t / 4) % len)) (x i) t : Nat) : Int)), (9, eI .i64 ((cntL x (x i) k : Nat) : Int)), (11, eI .i64 v), (40, eI .i64 ((len : Nat) : Int)), (41, eI .i64 ((i : Nat) : Int)), (69, eV (.slice a len cap)), (70, eI .i64 v), (72, eV (.slice a len cap)), (73, eI .i64 ((i : Nat) : Int))]) (pk_then (pk_block (pk_then (pk_then (pk_block (pk_then (pk_block (pk_then (pk_then (pk_block (pk_then pk_body))))))))))) rfl (by kernel_rfl) ?_
                refine wa_take 5 (pk_then (pk_block (pk_then (pk_then (pk_block (pk_then (pk_block (pk_then (pk_then (pk_block (pk_then pk_body))))))))))) rfl (by kernel_rfl) rfl rfl (rd_index (e := 3) b off 1 i rfl (by kernel_rfl) (by kernel_rfl) rfl rfl ((Int.ofNat_lt.1 h5)) ((hb (Nat.zero_lt_of_lt (Int.ofNat_lt.1 h5))).1)) ?_
                refine wa_take 6 (pk_then (pk_block (pk_then (pk_then (pk_block (pk_then (pk_block (pk_then (pk_then (pk_block (pk_then pk_body))))))))))) rfl (by kernel_rfl) rfl rfl (rd_load (v := (sI .i64 (x i))) b (off + i * 1) 0 [cI .i64 (x i)] rfl (off + i * 1) rfl rfl ((xI (hb (Nat.zero_lt_of_lt (Int.ofNat_lt.1 h5))).2)) (hc i (Int.ofNat_lt.1 h5)) (okc_one okc_nil) (fun _ => rfl) (by kernel_rfl)) ?_
                refine wa_all [2] (by kernel_rfl) rfl (all1 ?_)
                refine wi_op rfl rfl (ot_call (vs := [sV (.slice a len cap), sI .i64 v]) rfl rfl rfl Try.func33 (by kernel_rfl) (by kernel_rfl) (by kernel_rfl) (eI .i64 (leader len x v)) (trivial) (fun ρ w h => leader_any a len cap b off x v (by omega) w (fun h0 => ⟨(hb h0).1, (h.ag _ (xI (hb h0).2)).1⟩) (fun i hi => h.cells (xI (hb (Nat.zero_lt_of_lt hi)).2) (hc i hi)) ρ)) (sub_of [] (by kernel_rfl)) ?_
                refine wa_takes (fuel := 0) [7] [0, 5, 6, 7, 8, 9, 11, 40, 41, 76] (listed' := #[true, true, true, true, true, true, true, true]) (l' := [(0, eV (.slice a len cap)), (5, eI .i64 (IntKind.wrap .i64 (4 * ((len : Nat) : Int)))), (6, eI .i64 (IntKind.wrap .i64 ((IntKind.wrap .i64 ((IntKind.wrap .i64 (Int.tdiv (IntKind.wrap .i64 (view - 1)) 4)) * 4)) + 1))), (7, eI .i64 ((i : Nat) : Int)), (8, eI .i64 ((cntL (fun t => x ((n0of view + t / 4) % len)) (x i) t : Nat) : Int)), (9, eI .i64 ((cntL x (x i) k : Nat) : Int)), (11, eI .i64 v), (40, eI .i64 ((len : Nat) : Int)), (41, eI .i64 ((i : Nat) : Int)), (76, eB ((leader len x v) == (x i)))]) (pk_then (pk_block (pk_then (pk_then (pk_block (pk_then (pk_block (pk_then (pk_then (pk_block (pk_then pk_body))))))))))) rfl (by kernel_rfl) ?_
                refine wa_done (by kernel_rfl) ?_
                refine we_rest [0, 5, 6, 7, 8, 9, 11, 40, 41, 76] [] (l' := [(0, eV (.slice a len cap)), (5, eI .i64 (IntKind.wrap .i64 (4 * ((len : Nat) : Int)))), (6, eI .i64 (IntKind.wrap .i64 ((IntKind.wrap .i64 ((IntKind.wrap .i64 (Int.tdiv (IntKind.wrap .i64 (view - 1)) 4)) * 4)) + 1))), (7, eI .i64 ((i : Nat) : Int)), (8, eI .i64 ((cntL (fun t => x ((n0of view + t / 4) % len)) (x i) t : Nat) : Int)), (9, eI .i64 ((cntL x (x i) k : Nat) : Int)), (11, eI .i64 v), (40, eI .i64 ((len : Nat) : Int)), (41, eI .i64 ((i : Nat) : Int)), (76, eB ((leader len x v) == (x i)))]) (H' := []) (by kernel_rfl) (by kernel_rfl) ?_
                refine we_then ?_
                refine wc_cond rfl (fun h9 => ?_) (fun h9 => ?_)
                · replace h9 := eq_of_beq h9
                  refine wc_reg [0, 1, 2] (by kernel_rfl) ?_
                  refine wo_run [0, 1, 2] [0, 5, 6, 7, 8, 9, 11, 40, 41] [] (l' := [(0, eV (.slice a len cap)), (5, eI .i64 (IntKind.wrap .i64 (4 * ((len : Nat) : Int)))), (6, eI .i64 (IntKind.wrap .i64 ((IntKind.wrap .i64 ((IntKind.wrap .i64 (Int.tdiv (IntKind.wrap .i64 (view - 1)) 4)) * 4)) + 1))), (7, eI .i64 ((i : Nat) : Int)), (8, eI .i64 (IntKind.wrap .i64 (((cntL (fun t => x ((n0of view + t / 4) % len)) (x i) t : Nat) : Int) + 1))), (9, eI .i64 ((cntL x (x i) k : Nat) : Int)), (11, eI .i64 v), (40, eI .i64 ((len : Nat) : Int)), (41, eI .i64 ((i : Nat) : Int))]) (H' := []) (by kernel_rfl) ?_
                  refine wo_nil ?_
                  refine we_block ?_
                  refine we_then ?_
                  refine wc_reg [0, 1, 2] (by kernel_rfl) ?_
                  refine wo_run [0, 1, 2] [0, 5, 6, 7, 8, 9, 11, 40, 41] [] (l' := [(0, eV (.slice a len cap)), (5, eI .i64 (IntKind.wrap .i64 (4 * ((len : Nat) : Int)))), (6, eI .i64 (IntKind.wrap .i64 ((IntKind.wrap .i64 ((IntKind.wrap .i64 (Int.tdiv (IntKind.wrap .i64 (view - 1)) 4)) * 4)) + 1))), (7, eI .i64 ((i : Nat) : Int)), (8, eI .i64 (IntKind.wrap .i64 (((cntL (fun t => x ((n0of view + t / 4) % len)) (x i) t : Nat) : Int) + 1))), (9, eI .i64 ((cntL x (x i) k : Nat) : Int)), (11, eI .i64 (IntKind.wrap .i64 (v + 1))), (40, eI .i64 ((len : Nat) : Int)), (41, eI .i64 ((i : Nat) : Int))]) (H' := []) (by kernel_rfl) ?_
                  refine wo_nil ?_
                  have hlt := h8
                  rw [end_eq h3 h4 h1] at hlt
                  have hn0 := n0_le h4
                  have hla := lead_at x (len := len) (by omega) hvt
                  rw [hla] at h9
                  refine we_rest [0, 5, 6, 7, 8, 9, 11, 40, 41] [] (l' := [(0, eV (.slice a len cap)), (5, eI .i64 (IntKind.wrap .i64 (4 * ((len : Nat) : Int)))), (6, eI .i64 (IntKind.wrap .i64 ((IntKind.wrap .i64 ((IntKind.wrap .i64 (Int.tdiv (IntKind.wrap .i64 (view - 1)) 4)) * 4)) + 1))), (7, eI .i64 ((i : Nat) : Int)), (8, eI .i64 (IntKind.wrap .i64 (((cntL (fun t => x ((n0of view + t / 4) % len)) (x i) t : Nat) : Int) + 1))), (9, eI .i64 ((cntL x (x i) k : Nat) : Int)), (11, eI .i64 (IntKind.wrap .i64 (v + 1))), (40, eI .i64 ((len : Nat) : Int)), (41, eI .i64 ((i : Nat) : Int))]) (H' := []) (by kernel_rfl) (by kernel_rfl) ?_
                  rw [show (IntKind.wrap .i64 (((cntL (fun t => x ((n0of view + t / 4) % len)) (x i) t : Nat) : Int) + 1)) = ((cntL (fun t => x ((n0of view + t / 4) % len)) (x i) (t + 1) : Nat) : Int) from cnt_yes (f := (fun t => x ((n0of view + t / 4) % len))) h9 (by omega)]
                  rw [show (IntKind.wrap .i64 (v + 1)) = (v + 1) from wrap_id (by omega) (by omega)]
                  exact we_round (v + 1, t + 1) (⟨by omega, by push_cast; omega⟩) (by show 4 * len - (t + 1) < 4 * len - t; omega) rfl (sub_ofE [0, 5, 6, 7, 8, 9, 11, 40, 41] rfl) (sub_of [] rfl)
                · replace h9 := ne_of_beq_false h9
                  refine wc_skip ?_
                  refine we_block ?_
                  refine we_then ?_
                  refine wc_reg [0, 1, 2] (by kernel_rfl) ?_
                  refine wo_run [0, 1, 2] [0, 5, 6, 7, 8, 9, 11, 40, 41] [] (l' := [(0, eV (.slice a len cap)), (5, eI .i64 (IntKind.wrap .i64 (4 * ((len : Nat) : Int)))), (6, eI .i64 (IntKind.wrap .i64 ((IntKind.wrap .i64 ((IntKind.wrap .i64 (Int.tdiv (IntKind.wrap .i64 (view - 1)) 4)) * 4)) + 1))), (7, eI .i64 ((i : Nat) : Int)), (8, eI .i64 ((cntL (fun t => x ((n0of view + t / 4) % len)) (x i) t : Nat) : Int)), (9, eI .i64 ((cntL x (x i) k : Nat) : Int)), (11, eI .i64 (IntKind.wrap .i64 (v + 1))), (40, eI .i64 ((len : Nat) : Int)), (41, eI .i64 ((i : Nat) : Int))]) (H' := []) (by kernel_rfl) ?_
                  refine wo_nil ?_
                  have hlt := h8
                  rw [end_eq h3 h4 h1] at hlt
                  have hn0 := n0_le h4
                  have hla := lead_at x (len := len) (by omega) hvt
                  rw [hla] at h9
                  refine we_rest [0, 5, 6, 7, 8, 9, 11, 40, 41] [] (l' := [(0, eV (.slice a len cap)), (5, eI .i64 (IntKind.wrap .i64 (4 * ((len : Nat) : Int)))), (6, eI .i64 (IntKind.wrap .i64 ((IntKind.wrap .i64 ((IntKind.wrap .i64 (Int.tdiv (IntKind.wrap .i64 (view - 1)) 4)) * 4)) + 1))), (7, eI .i64 ((i : Nat) : Int)), (8, eI .i64 ((cntL (fun t => x ((n0of view + t / 4) % len)) (x i) t : Nat) : Int)), (9, eI .i64 ((cntL x (x i) k : Nat) : Int)), (11, eI .i64 (IntKind.wrap .i64 (v + 1))), (40, eI .i64 ((len : Nat) : Int)), (41, eI .i64 ((i : Nat) : Int))]) (H' := []) (by kernel_rfl) (by kernel_rfl) ?_
                  rw [show ((cntL (fun t => x ((n0of view + t / 4) % len)) (x i) t : Nat) : Int) = ((cntL (fun t => x ((n0of view + t / 4) % len)) (x i) (t + 1) : Nat) : Int) from cnt_no (f := (fun t => x ((n0of view + t / 4) % len))) h9]
                  rw [show (IntKind.wrap .i64 (v + 1)) = (v + 1) from wrap_id (by omega) (by omega)]
                  exact we_round (v + 1, t + 1) (⟨by omega, by push_cast; omega⟩) (by show 4 * len - (t + 1) < 4 * len - t; omega) rfl (sub_ofE [0, 5, 6, 7, 8, 9, 11, 40, 41] rfl) (sub_of [] rfl)
              · replace h8 := of_decide_eq_false h8
                refine wc_exit ?_
                refine we_then_exit ?_
                refine we_then_exit ?_
                refine we_block_exit ?_
                refine we_then ?_
                refine wc_seq ?_
                refine wc_reg [0, 1, 2, 3] (by kernel_rfl) ?_
                refine wo_run [0, 1, 2, 3] [0, 5, 6, 40, 41, 82] [] (l' := [(0, eV (.slice a len cap)), (5, eI .i64 (IntKind.wrap .i64 (4 * ((len : Nat) : Int)))), (6, eI .i64 (IntKind.wrap .i64 ((IntKind.wrap .i64 ((IntKind.wrap .i64 (Int.tdiv (IntKind.wrap .i64 (view - 1)) 4)) * 4)) + 1))), (40, eI .i64 ((len : Nat) : Int)), (41, eI .i64 ((i : Nat) : Int)), (82, eB (((cntL (fun t => x ((n0of view + t / 4) % len)) (x i) t : Nat) : Int) != (IntKind.wrap .i64 (4 * ((cntL x (x i) k : Nat) : Int)))))]) (H' := []) (by kernel_rfl) ?_
                refine wo_nil ?_
                refine we_then ?_
                refine wc_is 82 false rfl (bne_eq_false_iff_eq.2 (many_ok x (x i) (by omega) h1 (by rw [end_eq h3 h4 h1] at h8; omega) (by omega))) ?_
                refine wc_false rfl ?_
                refine wc_skip ?_
                refine we_block ?_
                refine we_then ?_
                refine wc_reg [0, 1] (by kernel_rfl) ?_
                refine wo_run [0, 1] [0, 5, 6, 40, 41] [] (l' := [(0, eV (.slice a len cap)), (5, eI .i64 (IntKind.wrap .i64 (4 * ((len : Nat) : Int)))), (6, eI .i64 (IntKind.wrap .i64 ((IntKind.wrap .i64 ((IntKind.wrap .i64 (Int.tdiv (IntKind.wrap .i64 (view - 1)) 4)) * 4)) + 1))), (40, eI .i64 ((len : Nat) : Int)), (41, eI .i64 (IntKind.wrap .i64 (((i : Nat) : Int) + 1)))]) (H' := []) (by kernel_rfl) ?_
                refine wo_nil ?_
                refine we_rest [0, 5, 6, 40, 41] [] (l' := [(0, eV (.slice a len cap)), (5, eI .i64 (IntKind.wrap .i64 (4 * ((len : Nat) : Int)))), (6, eI .i64 (IntKind.wrap .i64 ((IntKind.wrap .i64 ((IntKind.wrap .i64 (Int.tdiv (IntKind.wrap .i64 (view - 1)) 4)) * 4)) + 1))), (40, eI .i64 ((len : Nat) : Int)), (41, eI .i64 (IntKind.wrap .i64 (((i : Nat) : Int) + 1)))]) (H' := []) (by kernel_rfl) (by kernel_rfl) ?_
                rw [show (IntKind.wrap .i64 (((i : Nat) : Int) + 1)) = ((i + 1 : Nat) : Int) from wrap_succ (by simp only [maxLen] at hcap; omega)]
                exact we_round (i + 1) (by show i + 1 ≤ len; omega) (by show len - (i + 1) < len - i; omega) rfl (sub_ofE [0, 5, 6, 40, 41] rfl) (sub_of [] rfl)
          · replace h5 := of_decide_eq_false h5
            refine wc_exit ?_
            refine we_then_exit ?_
            refine we_then_exit ?_
            refine we_block_exit ?_
            refine we_then ?_
            refine wc_seq ?_
            refine wc_seq ?_
            refine wc_reg [0, 1] (by kernel_rfl) ?_
            refine wo_run [0, 1] [0, 5, 6, 12] [] (l' := [(0, eV (.slice a len cap)), (5, eI .i64 (IntKind.wrap .i64 (4 * ((len : Nat) : Int)))), (6, eI .i64 (IntKind.wrap .i64 ((IntKind.wrap .i64 ((IntKind.wrap .i64 (Int.tdiv (IntKind.wrap .i64 (view - 1)) 4)) * 4)) + 1))), (12, eI .i64 (IntKind.wrap .i64 ((IntKind.wrap .i64 ((IntKind.wrap .i64 (Int.tdiv (IntKind.wrap .i64 (view - 1)) 4)) * 4)) + 1)))]) (H' := []) (by kernel_rfl) ?_
            refine wo_nil ?_
            refine we_then ?_
            refine wc_block ?_
            refine wc_rest [0, 5, 6, 12] [] (l' := [(0, eV (.slice a len cap)), (5, eI .i64 (IntKind.wrap .i64 (4 * ((len : Nat) : Int)))), (6, eI .i64 (IntKind.wrap .i64 ((IntKind.wrap .i64 ((IntKind.wrap .i64 (Int.tdiv (IntKind.wrap .i64 (view - 1)) 4)) * 4)) + 1))), (12, eI .i64 (IntKind.wrap .i64 ((IntKind.wrap .i64 ((IntKind.wrap .i64 (Int.tdiv (IntKind.wrap .i64 (view - 1)) 4)) * 4)) + 1)))]) (H' := []) (by kernel_rfl) ?_
            refine wc_loop (τ := Int × Nat) (fun ⟨v, t⟩ => t ≤ 4 * len ∧ v = 4 * ((n0of view : Nat) : Int) + 1 + ((t : Nat) : Int)) (fun ⟨v, t⟩ => 4 * len - t) (fun _ => _) (fun ⟨v, t⟩ => [(0, eV (.slice a len cap)), (5, eI .i64 (IntKind.wrap .i64 (4 * ((len : Nat) : Int)))), (6, eI .i64 (IntKind.wrap .i64 ((IntKind.wrap .i64 ((IntKind.wrap .i64 (Int.tdiv (IntKind.wrap .i64 (view - 1)) 4)) * 4)) + 1))), (12, eI .i64 v)]) (fun ⟨v, t⟩ => []) ((IntKind.wrap .i64 ((IntKind.wrap .i64 ((IntKind.wrap .i64 (Int.tdiv (IntKind.wrap .i64 (view - 1)) 4)) * 4)) + 1)), 0) (⟨Nat.zero_le _, by rw [fr_eq h3 h4]; omega⟩) rfl rfl rfl ?_
            rintro ⟨v, t⟩ hj
            obtain ⟨ht, hvt⟩ := hj
            have hn1 := n0_le h4
            refine wc_seq ?_
            refine wc_seq ?_
            refine wc_reg [0, 1, 2, 3, 4] (by kernel_rfl) ?_
            refine wo_run [0, 1, 2, 3, 4] [0, 5, 6, 12, 89] [] (l' := [(0, eV (.slice a len cap)), (5, eI .i64 (IntKind.wrap .i64 (4 * ((len : Nat) : Int)))), (6, eI .i64 (IntKind.wrap .i64 ((IntKind.wrap .i64 ((IntKind.wrap .i64 (Int.tdiv (IntKind.wrap .i64 (view - 1)) 4)) * 4)) + 1))), (12, eI .i64 v), (89, eB (decide (v < (IntKind.wrap .i64 ((IntKind.wrap .i64 ((IntKind.wrap .i64 ((IntKind.wrap .i64 (Int.tdiv (IntKind.wrap .i64 (view - 1)) 4)) * 4)) + 1)) + (IntKind.wrap .i64 (4 * ((len : Nat) : Int))))))))]) (H' := []) (by kernel_rfl) ?_
            refine wo_nil ?_
            refine we_then ?_
            refine wc_cond rfl (fun h10 => ?_) (fun h10 => ?_)
            · replace h10 := of_decide_eq_true h10
              refine wc_skip ?_
              refine we_then ?_
              refine wc_seq ?_
              refine wc_block ?_
              refine wc_seq ?_
              refine wc_reg [0, 1, 2, 3, 4, 5, 6, 7, 8, 9, 10] (by kernel_rfl) ?_
              refine wo_run [0, 1] [0, 5, 6, 12, 92, 93] [] (l' := [(0, eV (.slice a len cap)), (5, eI .i64 (IntKind.wrap .i64 (4 * ((len : Nat) : Int)))), (6, eI .i64 (IntKind.wrap .i64 ((IntKind.wrap .i64 ((IntKind.wrap .i64 (Int.tdiv (IntKind.wrap .i64 (view - 1)) 4)) * 4)) + 1))), (12, eI .i64 v), (92, eV (.slice a len cap)), (93, eI .i64 v)]) (H' := []) (by kernel_rfl) ?_
              refine wo_op rfl rfl (ot_call (vs := [sV (.slice a len cap), sI .i64 v]) rfl rfl rfl Try.func33 (by kernel_rfl) (by kernel_rfl) (by kernel_rfl) (eI .i64 (leader len x v)) (trivial) (fun ρ w h => leader_any a len cap b off x v (by omega) w (fun h0 => ⟨(hb h0).1, (h.ag _ (xI (hb h0).2)).1⟩) (fun i hi => h.cells (xI (hb (Nat.zero_lt_of_lt hi)).2) (hc i hi)) ρ)) ?_
              refine wo_run [3, 4, 5, 6, 7, 8] [0, 5, 6, 12, 94, 95, 100] [] (l' := [(0, eV (.slice a len cap)), (5, eI .i64 (IntKind.wrap .i64 (4 * ((len : Nat) : Int)))), (6, eI .i64 (IntKind.wrap .i64 ((IntKind.wrap .i64 ((IntKind.wrap .i64 (Int.tdiv (IntKind.wrap .i64 (view - 1)) 4)) * 4)) + 1))), (12, eI .i64 v), (94, eI .i64 (leader len x v)), (95, eV (.slice a len cap)), (100, eI .i64 (IntKind.wrap .i64 ((IntKind.wrap .i64 ((IntKind.wrap .i64 (Int.tdiv (IntKind.wrap .i64 (v - 1)) 4)) * 4)) + 1)))]) (H' := []) (by kernel_rfl) ?_
              refine wo_op rfl rfl (ot_call (vs := [sV (.slice a len cap), sI .i64 (IntKind.wrap .i64 ((IntKind.wrap .i64 ((IntKind.wrap .i64 (Int.tdiv (IntKind.wrap .i64 (v - 1)) 4)) * 4)) + 1))]) rfl rfl rfl Try.func33 (by kernel_rfl) (by kernel_rfl) (by kernel_rfl) (eI .i64 (leader len x (IntKind.wrap .i64 ((IntKind.wrap .i64 ((IntKind.wrap .i64 (Int.tdiv (IntKind.wrap .i64 (v - 1)) 4)) * 4)) + 1)))) (trivial) (fun ρ w h => leader_any a len cap b off x (IntKind.wrap .i64 ((IntKind.wrap .i64 ((IntKind.wrap .i64 (Int.tdiv (IntKind.wrap .i64 (v - 1)) 4)) * 4)) + 1)) (wrap_le _) w (fun h0 => ⟨(hb h0).1, (h.ag _ (xI (hb h0).2)).1⟩) (fun i hi => h.cells (xI (hb (Nat.zero_lt_of_lt hi)).2) (hc i hi)) ρ)) ?_
              refine wo_run [10] [0, 5, 6, 12, 102] [] (l' := [(0, eV (.slice a len cap)), (5, eI .i64 (IntKind.wrap .i64 (4 * ((len : Nat) : Int)))), (6, eI .i64 (IntKind.wrap .i64 ((IntKind.wrap .i64 ((IntKind.wrap .i64 (Int.tdiv (IntKind.wrap .i64 (view - 1)) 4)) * 4)) + 1))), (12, eI .i64 v), (102, eB ((leader len x v) != (leader len x (IntKind.wrap .i64 ((IntKind.wrap .i64 ((IntKind.wrap .i64 (Int.tdiv (IntKind.wrap .i64 (v - 1)) 4)) * 4)) + 1)))))]) (H' := []) (by kernel_rfl) ?_
              refine wo_nil ?_
              refine we_then ?_
              refine wc_is 102 false rfl (bne_eq_false_iff_eq.2 (lead_first x (by omega) hvt (by have := n0_le h4; omega)).symm) ?_
              refine wc_false rfl ?_
              refine wc_skip ?_
              refine we_block ?_
              refine we_then ?_
              refine wc_reg [0, 1, 2] (by kernel_rfl) ?_
              refine wo_run [0, 1, 2] [0, 5, 6, 12] [] (l' := [(0, eV (.slice a len cap)), (5, eI .i64 (IntKind.wrap .i64 (4 * ((len : Nat) : Int)))), (6, eI .i64 (IntKind.wrap .i64 ((IntKind.wrap .i64 ((IntKind.wrap .i64 (Int.tdiv (IntKind.wrap .i64 (view - 1)) 4)) * 4)) + 1))), (12, eI .i64 (IntKind.wrap .i64 (v + 1)))]) (H' := []) (by kernel_rfl) ?_
              refine wo_nil ?_
              have hlt := h10
              rw [end_eq h3 h4 h1] at hlt
              have hn0 := n0_le h4
              refine we_rest [0, 5, 6, 12] [] (l' := [(0, eV (.slice a len cap)), (5, eI .i64 (IntKind.wrap .i64 (4 * ((len : Nat) : Int)))), (6, eI .i64 (IntKind.wrap .i64 ((IntKind.wrap .i64 ((IntKind.wrap .i64 (Int.tdiv (IntKind.wrap .i64 (view - 1)) 4)) * 4)) + 1))), (12, eI .i64 (IntKind.wrap .i64 (v + 1)))]) (H' := []) (by kernel_rfl) (by kernel_rfl) ?_
              rw [show (IntKind.wrap .i64 (v + 1)) = (v + 1) from wrap_id (by omega) (by omega)]
              exact we_round (v + 1, t + 1) (⟨by omega, by push_cast; omega⟩) (by show 4 * len - (t + 1) < 4 * len - t; omega) rfl (sub_ofE [0, 5, 6, 12] rfl) (sub_of [] rfl)
            · replace h10 := of_decide_eq_false h10
              refine wc_exit ?_
              refine we_then_exit ?_
              refine we_then_exit ?_
              refine we_block_exit ?_
              refine we_then ?_
              refine wc_seq ?_
              refine wc_reg [0] (by kernel_rfl) ?_
              refine wo_run [0] [4] [] (l' := [(4, eB true)]) (H' := []) (by kernel_rfl) ?_
              refine wo_nil ?_
              refine we_then ?_
              refine wc_ret ?_
              refine we_ret (.inl rfl) (v := eB true) (by kernel_rfl) ?_
              intro ρ' w' hf'
              refine ⟨?_, hf'.below noS⟩
              rfl

end Go.Proofs.Ytckhcmdjgkoocaa.Pc
