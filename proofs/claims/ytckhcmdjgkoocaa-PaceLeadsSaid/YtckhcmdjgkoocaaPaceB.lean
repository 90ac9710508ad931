/- The pacemaker's laws: what stays true, and a call whose answers are fixed. -/
import Derived.Test.YtckhcmdjgkoocaaPaceA
namespace Go.Proofs.Ytckhcmdjgkoocaa.Pc
open Go.RowKit Go.Sx
set_option linter.unusedVariables false
set_option linter.unusedSimpArgs false

structure PStep where
  kind : Int
  view : Int
  gain : Bool
abbrev cX (x : PStep) : List Chunk := [cI .i64 x.kind, cI .i64 x.view, cB x.gain]
theorem pstep_of {R : TypeId → Value → Prop} : ∀ {cs : List Chunk}, MatchL R [.i .i64, .i .i64, .b] cs → ∃ x : PStep, cs = cX x
  | [.one (.v (.int _ e)), .one (.v (.int _ v)), .one (.v (.bool b))], ⟨rfl, _, rfl, _, _⟩ => ⟨⟨e, v, b⟩, rfl⟩
def pdo (p : Pace) (x : PStep) : Pace × Bool := if x.kind = 0 then tick p else enter p x.view x.gain
def rdo (p : Pace) (x : PStep) : Pace × Bool := if x.kind = 0 then rtick p else renter p x.view x.gain

/-- What stays true of a pacemaker. -/
structure Inv (F M : Int) (p : Pace) : Prop where
  f1 : 1 ≤ F
  fm : F ≤ M
  m1 : M ≤ 9223372036854775807
  first : p.first = F
  most : p.most = M
  span1 : F ≤ p.span
  span2 : p.span ≤ M
  left1 : 1 ≤ p.left
  left2 : p.left ≤ p.span
def lo (f : Int) : Int := if 1 > f then 1 else f
def hi (f m : Int) : Int := if lo f > m then lo f else m
theorem new_inv {f m : Int} (h1 : f ≤ 9223372036854775807) (h2 : m ≤ 9223372036854775807) : Inv (lo f) (hi f m) (pnew f m) := by
  unfold lo hi lo pnew
  constructor <;> (try simp only []) <;> (repeat' split) <;> omega
theorem rnew_eq (f m : Int) : rnew f m = pnew f m := by
  unfold rnew pnew
  simp only [Pace.mk.injEq]
theorem tick_inv {F M : Int} {p : Pace} (h : Inv F M p) : Inv F M (tick p).1 := by
  obtain ⟨a1, a2, a3, a4, a5, a6, a7, a8, a9⟩ := h
  have hm : Int.tdiv p.most 2 = p.most / 2 := Int.tdiv_eq_ediv_of_nonneg (by omega)
  unfold tick
  rw [hm, wrap_id (a := p.left - 1) (by omega) (by omega), wrap_id (a := p.most / 2) (by omega) (by omega)]
  split
  · constructor <;> (try simp only []) <;> omega
  · split
    · constructor <;> (try simp only []) <;> omega
    · rw [wrap_id (a := 2 * p.span) (by omega) (by omega)]
      constructor <;> (try simp only []) <;> omega
theorem enter_inv {F M : Int} {p : Pace} {v : Int} {g : Bool} (h : Inv F M p) : Inv F M (enter p v g).1 := by
  obtain ⟨a1, a2, a3, a4, a5, a6, a7, a8, a9⟩ := h
  unfold enter
  split
  · constructor <;> (try simp only []) <;> omega
  · split <;> constructor <;> (try simp only []) <;> omega
theorem pdo_inv {F M : Int} {p : Pace} {x : PStep} (h : Inv F M p) : Inv F M (pdo p x).1 := by
  unfold pdo; split
  · exact tick_inv h
  · exact enter_inv h
theorem rtick_eq {F M : Int} {p : Pace} (h : Inv F M p) : rtick p = tick p := by
  obtain ⟨a1, a2, a3, a4, a5, a6, a7, a8, a9⟩ := h
  have hm : Int.tdiv p.most 2 = p.most / 2 := Int.tdiv_eq_ediv_of_nonneg (by omega)
  unfold tick rtick
  rw [hm, wrap_id (a := p.left - 1) (by omega) (by omega), wrap_id (a := p.most / 2) (by omega) (by omega), wrap_id (a := p.most - p.span) (by omega) (by omega)]
  by_cases h1 : p.left - 1 > 0
  · rw [if_pos h1, if_pos h1]
  · rw [if_neg h1, if_neg h1]
    by_cases h2 : p.span > p.most / 2
    · rw [if_pos h2, if_pos (by omega)]
    · rw [if_neg h2]
      rw [show p.span + p.span = 2 * p.span by omega, wrap_id (a := 2 * p.span) (by omega) (by omega)]
      split
      · rw [show 2 * p.span = p.most by omega]
      · rfl
theorem renter_eq (p : Pace) (v : Int) (g : Bool) : renter p v g = enter p v g := rfl
theorem tick_view (p : Pace) : (tick p).1.view = p.view := by unfold tick; (repeat' split) <;> rfl
theorem enter_view (p : Pace) (v : Int) (g : Bool) : p.view ≤ (enter p v g).1.view := by unfold enter; (repeat' split) <;> (try simp only []) <;> omega
theorem bound_ok {F M : Int} {p : Pace} (h : Inv F M p) {v : Int} (hv : v ≤ p.view) : True ∧ decide (p.view < v) = false ∧ decide (p.span < F) = false ∧ decide (p.span > M) = false ∧ decide (p.left < 1) = false ∧ decide (p.left > p.span) = false := by
  obtain ⟨a1, a2, a3, a4, a5, a6, a7, a8, a9⟩ := h
  refine ⟨trivial, ?_, ?_, ?_, ?_, ?_⟩ <;> exact decide_eq_false (by omega)
theorem pnew_lo (f m : Int) : pnew (lo f) (hi f m) = pnew f m := by
  unfold pnew lo hi lo
  simp only [Pace.mk.injEq]
  refine ⟨?_, ?_, trivial, ?_, ?_⟩ <;> (repeat' split) <;> omega
theorem tick_no {F M : Int} {p : Pace} (h : Inv F M p) (ht : (tick p).2 = false) : (tick p).1.left = p.left - 1 := by
  obtain ⟨a1, a2, a3, a4, a5, a6, a7, a8, a9⟩ := h
  unfold tick at ht ⊢
  rw [wrap_id (a := p.left - 1) (by omega) (by omega)] at ht ⊢
  split
  · rfl
  · rename_i h1
    rw [if_neg h1] at ht
    split at ht <;> cases ht
theorem enter_2 (p : Pace) (v : Int) (g : Bool) : (enter p v g).2 = decide (v > p.view) := by
  unfold enter
  by_cases h : v ≤ p.view
  · rw [if_pos h]; exact (decide_eq_false (by omega)).symm
  · rw [if_neg h]; split <;> exact (decide_eq_true (by omega)).symm
theorem int_of {R : TypeId → Value → Prop} : ∀ {cs : List Chunk}, MatchL R [.i .i64] cs → ∃ x : Int, cs = [cI .i64 x]
  | [.one (.v (.int _ e))], ⟨rfl, _, _⟩ => ⟨e, rfl⟩
theorem le_of_wf {n : Int} (h : (Lit.int .i64 n).wf = true) : n ≤ 9223372036854775807 := by
  simp only [Lit.wf, Bool.and_eq_true, decide_eq_true_eq] at h
  have e : IntKind.max .i64 = 9223372036854775807 := by decide
  omega
theorem ge_of_wf {n : Int} (h : (Lit.int .i64 n).wf = true) : -9223372036854775808 ≤ n := by
  simp only [Lit.wf, Bool.and_eq_true, decide_eq_true_eq] at h
  have e : IntKind.min .i64 = -9223372036854775808 := by decide
  omega
theorem psame_self (p : Pace) : psame p p = true := by simp [psame]


set_option maxHeartbeats 4000000 in
theorem awake_any  (w : World) (ρ : Nat → Nat) :
    Calls Try.prog 29 ([].map (SV.conc ρ)).toArray w fun r w' => r = .returned (EV.conc ρ (eB true)) ∧ Below w.heap.size w w' := by
  refine calls_enter (vs := []) (N := 74) [] ρ Try.func29 rfl rfl (Nat.le_of_ble_eq_true rfl) (okv_nil) noH noH2 ?_ _ rfl
  refine wc_seq ?_
  refine wc_reg [0] (by kernel_rfl) ?_
  refine wo_run [0] [] [] (l' := []) (H' := []) (by kernel_rfl) ?_
  refine wo_nil ?_
  refine we_then ?_
  refine wc_seq ?_
  refine wc_reg [0, 1] (by kernel_rfl) ?_
  refine wo_ox rfl rfl (ox_callm (τ := Unit) (φ := fun _ => True) [sI .i64 2, sI .i64 5] [] [] [(13, 9)] [] (fun _ => eL 13 0) (fun _ => [(13, ⟨[cI .i64 (pnew 2 5).span, cI .i64 (pnew 2 5).left, cI .i64 (pnew 2 5).view, cI .i64 (pnew 2 5).first, cI .i64 (pnew 2 5).most], 77⟩)]) rfl (by kernel_rfl) rfl Try.func30 (by kernel_rfl) (by kernel_rfl) (by kernel_rfl) (by kernel_rfl) (by kernel_rfl) (by kernel_rfl) (trivial) (fun _ => by kernel_rfl) (fun _ => by kernel_rfl) (fun _ _ => trivial) (fun ρ w _ hh => new_any 2 5 w _)) (fun _ _ _ => ?_)
  refine wo_run [] [9] [9] (l' := [(9, eL 9 0)]) (H' := [(9, ⟨[cI .i64 (pnew 2 5).span, cI .i64 (pnew 2 5).left, cI .i64 (pnew 2 5).view, cI .i64 (pnew 2 5).first, cI .i64 (pnew 2 5).most], 77⟩)]) (by kernel_rfl) ?_
  refine wo_run [1] [1] [9] (l' := [(1, eL 9 0)]) (H' := [(9, ⟨[cI .i64 (pnew 2 5).span, cI .i64 (pnew 2 5).left, cI .i64 (pnew 2 5).view, cI .i64 (pnew 2 5).first, cI .i64 (pnew 2 5).most], 77⟩)]) (by kernel_rfl) ?_
  refine wo_nil ?_
  refine we_then ?_
  refine wc_seq ?_
  refine wc_seq ?_
  refine wc_reg [0, 1] (by kernel_rfl) ?_
  refine wo_run [0] [1, 10] [9] (l' := [(1, eL 9 0), (10, eL 9 0)]) (H' := [(9, ⟨[cI .i64 (pnew 2 5).span, cI .i64 (pnew 2 5).left, cI .i64 (pnew 2 5).view, cI .i64 (pnew 2 5).first, cI .i64 (pnew 2 5).most], 77⟩)]) (by kernel_rfl) ?_
  refine wo_op rfl rfl (ot_rd rfl (rd_nil (e := 77) rfl (by kernel_rfl) rfl rfl false (.inl ⟨rfl, rfl⟩))) ?_
  refine wo_nil ?_
  refine we_then ?_
  refine wc_false rfl ?_
  refine wc_skip ?_
  refine we_then ?_
  refine wc_seq ?_
  refine wc_reg [0, 1, 2] (by kernel_rfl) ?_
  refine wo_run [0] [1, 12] [9] (l' := [(1, eL 9 0), (12, eL 9 0)]) (H' := [(9, ⟨[cI .i64 (pnew 2 5).span, cI .i64 (pnew 2 5).left, cI .i64 (pnew 2 5).view, cI .i64 (pnew 2 5).first, cI .i64 (pnew 2 5).most], 77⟩)]) (by kernel_rfl) ?_
  refine wo_ox rfl rfl (ox_callm (τ := Unit) (φ := fun _ => True) [sL 100000 0] [(100000, ⟨[cI .i64 (pnew 2 5).span, cI .i64 (pnew 2 5).left, cI .i64 (pnew 2 5).view, cI .i64 (pnew 2 5).first, cI .i64 (pnew 2 5).most], 77⟩)] [(100000, 9)] [] [] (fun _ => eB (tick (pnew 2 5)).2) (fun _ => [(100000, ⟨[cI .i64 (tick (pnew 2 5)).1.span, cI .i64 (tick (pnew 2 5)).1.left, cI .i64 (tick (pnew 2 5)).1.view, cI .i64 (tick (pnew 2 5)).1.first, cI .i64 (tick (pnew 2 5)).1.most], 77⟩)]) rfl (by kernel_rfl) rfl Try.func35 (by kernel_rfl) (by kernel_rfl) (by kernel_rfl) (by kernel_rfl) (by kernel_rfl) (by kernel_rfl) (⟨⟨by kernel_rfl, by kernel_rfl, by kernel_rfl⟩, trivial⟩) (fun _ => by kernel_rfl) (fun _ => by kernel_rfl) (fun _ _ => trivial) (fun ρ w _ hh => tick_any (pnew 2 5) w _ hh)) (fun _ _ _ => ?_)
  refine wo_run [] [1, 13] [9] (l' := [(1, eL 9 0), (13, eB (tick (pnew 2 5)).2)]) (H' := [(9, ⟨[cI .i64 (tick (pnew 2 5)).1.span, cI .i64 (tick (pnew 2 5)).1.left, cI .i64 (tick (pnew 2 5)).1.view, cI .i64 (tick (pnew 2 5)).1.first, cI .i64 (tick (pnew 2 5)).1.most], 77⟩)]) (by kernel_rfl) ?_
  refine wo_run [2] [1, 2] [9] (l' := [(1, eL 9 0), (2, eB (tick (pnew 2 5)).2)]) (H' := [(9, ⟨[cI .i64 (tick (pnew 2 5)).1.span, cI .i64 (tick (pnew 2 5)).1.left, cI .i64 (tick (pnew 2 5)).1.view, cI .i64 (tick (pnew 2 5)).1.first, cI .i64 (tick (pnew 2 5)).1.most], 77⟩)]) (by kernel_rfl) ?_
  refine wo_nil ?_
  refine we_then ?_
  refine wc_seq ?_
  refine wc_reg [0, 1, 2] (by kernel_rfl) ?_
  refine wo_run [0] [1, 2, 14] [9] (l' := [(1, eL 9 0), (2, eB (tick (pnew 2 5)).2), (14, eL 9 0)]) (H' := [(9, ⟨[cI .i64 (tick (pnew 2 5)).1.span, cI .i64 (tick (pnew 2 5)).1.left, cI .i64 (tick (pnew 2 5)).1.view, cI .i64 (tick (pnew 2 5)).1.first, cI .i64 (tick (pnew 2 5)).1.most], 77⟩)]) (by kernel_rfl) ?_
  refine wo_ox rfl rfl (ox_callm (τ := Unit) (φ := fun _ => True) [sL 100000 0] [(100000, ⟨[cI .i64 (tick (pnew 2 5)).1.span, cI .i64 (tick (pnew 2 5)).1.left, cI .i64 (tick (pnew 2 5)).1.view, cI .i64 (tick (pnew 2 5)).1.first, cI .i64 (tick (pnew 2 5)).1.most], 77⟩)] [(100000, 9)] [] [] (fun _ => eB (tick (tick (pnew 2 5)).1).2) (fun _ => [(100000, ⟨[cI .i64 (tick (tick (pnew 2 5)).1).1.span, cI .i64 (tick (tick (pnew 2 5)).1).1.left, cI .i64 (tick (tick (pnew 2 5)).1).1.view, cI .i64 (tick (tick (pnew 2 5)).1).1.first, cI .i64 (tick (tick (pnew 2 5)).1).1.most], 77⟩)]) rfl (by kernel_rfl) rfl Try.func35 (by kernel_rfl) (by kernel_rfl) (by kernel_rfl) (by kernel_rfl) (by kernel_rfl) (by kernel_rfl) (⟨⟨by kernel_rfl, by kernel_rfl, by kernel_rfl⟩, trivial⟩) (fun _ => by kernel_rfl) (fun _ => by kernel_rfl) (fun _ _ => trivial) (fun ρ w _ hh => tick_any (tick (pnew 2 5)).1 w _ hh)) (fun _ _ _ => ?_)
  refine wo_run [] [1, 2, 15] [9] (l' := [(1, eL 9 0), (2, eB (tick (pnew 2 5)).2), (15, eB (tick (tick (pnew 2 5)).1).2)]) (H' := [(9, ⟨[cI .i64 (tick (tick (pnew 2 5)).1).1.span, cI .i64 (tick (tick (pnew 2 5)).1).1.left, cI .i64 (tick (tick (pnew 2 5)).1).1.view, cI .i64 (tick (tick (pnew 2 5)).1).1.first, cI .i64 (tick (tick (pnew 2 5)).1).1.most], 77⟩)]) (by kernel_rfl) ?_
  refine wo_run [2] [1, 2, 3] [9] (l' := [(1, eL 9 0), (2, eB (tick (pnew 2 5)).2), (3, eB (tick (tick (pnew 2 5)).1).2)]) (H' := [(9, ⟨[cI .i64 (tick (tick (pnew 2 5)).1).1.span, cI .i64 (tick (tick (pnew 2 5)).1).1.left, cI .i64 (tick (tick (pnew 2 5)).1).1.view, cI .i64 (tick (tick (pnew 2 5)).1).1.first, cI .i64 (tick (tick (pnew 2 5)).1).1.most], 77⟩)]) (by kernel_rfl) ?_
  refine wo_nil ?_
  refine we_then ?_
  refine wc_seq ?_
  refine wc_reg [0, 1, 2, 3, 4] (by kernel_rfl) ?_
  refine wo_run [0, 1, 2] [1, 2, 3, 18] [9] (l' := [(1, eL 9 0), (2, eB (tick (pnew 2 5)).2), (3, eB (tick (tick (pnew 2 5)).1).2), (18, eL 9 0)]) (H' := [(9, ⟨[cI .i64 (tick (tick (pnew 2 5)).1).1.span, cI .i64 (tick (tick (pnew 2 5)).1).1.left, cI .i64 (tick (tick (pnew 2 5)).1).1.view, cI .i64 (tick (tick (pnew 2 5)).1).1.first, cI .i64 (tick (tick (pnew 2 5)).1).1.most], 77⟩)]) (by kernel_rfl) ?_
  refine wo_op rfl rfl (ot_call (vs := [sL 9 0]) rfl rfl rfl Try.func40 (by kernel_rfl) (by kernel_rfl) (by kernel_rfl) (eI .i64 (tick (tick (pnew 2 5)).1).1.span) (trivial) (fun ρ w h => span_any (tick (tick (pnew 2 5)).1).1 w (fun k => ρ (Sx.look [(100000, 9)] k)) (h.heap (π := [(100000, 9)]) (Hc := [(100000, ⟨[cI .i64 (tick (tick (pnew 2 5)).1).1.span, cI .i64 (tick (tick (pnew 2 5)).1).1.left, cI .i64 (tick (tick (pnew 2 5)).1).1.view, cI .i64 (tick (tick (pnew 2 5)).1).1.first, cI .i64 (tick (tick (pnew 2 5)).1).1.most], 77⟩)]) rfl (⟨⟨by kernel_rfl, by kernel_rfl, by kernel_rfl⟩, trivial⟩)))) ?_
  refine wo_run [4] [1, 2, 3, 4] [9] (l' := [(1, eL 9 0), (2, eB (tick (pnew 2 5)).2), (3, eB (tick (tick (pnew 2 5)).1).2), (4, eI .i64 (tick (tick (pnew 2 5)).1).1.span)]) (H' := [(9, ⟨[cI .i64 (tick (tick (pnew 2 5)).1).1.span, cI .i64 (tick (tick (pnew 2 5)).1).1.left, cI .i64 (tick (tick (pnew 2 5)).1).1.view, cI .i64 (tick (tick (pnew 2 5)).1).1.first, cI .i64 (tick (tick (pnew 2 5)).1).1.most], 77⟩)]) (by kernel_rfl) ?_
  refine wo_nil ?_
  refine we_then ?_
  refine wc_seq ?_
  refine wc_reg [0, 1, 2] (by kernel_rfl) ?_
  refine wo_run [0] [1, 2, 3, 4, 20] [9] (l' := [(1, eL 9 0), (2, eB (tick (pnew 2 5)).2), (3, eB (tick (tick (pnew 2 5)).1).2), (4, eI .i64 (tick (tick (pnew 2 5)).1).1.span), (20, eL 9 0)]) (H' := [(9, ⟨[cI .i64 (tick (tick (pnew 2 5)).1).1.span, cI .i64 (tick (tick (pnew 2 5)).1).1.left, cI .i64 (tick (tick (pnew 2 5)).1).1.view, cI .i64 (tick (tick (pnew 2 5)).1).1.first, cI .i64 (tick (tick (pnew 2 5)).1).1.most], 77⟩)]) (by kernel_rfl) ?_
  refine wo_ox rfl rfl (ox_callm (τ := Unit) (φ := fun _ => True) [sL 100000 0, sI .i64 1, sB true] [(100000, ⟨[cI .i64 (tick (tick (pnew 2 5)).1).1.span, cI .i64 (tick (tick (pnew 2 5)).1).1.left, cI .i64 (tick (tick (pnew 2 5)).1).1.view, cI .i64 (tick (tick (pnew 2 5)).1).1.first, cI .i64 (tick (tick (pnew 2 5)).1).1.most], 77⟩)] [(100000, 9)] [] [] (fun _ => eB (enter (tick (tick (pnew 2 5)).1).1 1 true).2) (fun _ => [(100000, ⟨[cI .i64 (enter (tick (tick (pnew 2 5)).1).1 1 true).1.span, cI .i64 (enter (tick (tick (pnew 2 5)).1).1 1 true).1.left, cI .i64 (enter (tick (tick (pnew 2 5)).1).1 1 true).1.view, cI .i64 (enter (tick (tick (pnew 2 5)).1).1 1 true).1.first, cI .i64 (enter (tick (tick (pnew 2 5)).1).1 1 true).1.most], 77⟩)]) rfl (by kernel_rfl) rfl Try.func37 (by kernel_rfl) (by kernel_rfl) (by kernel_rfl) (by kernel_rfl) (by kernel_rfl) (by kernel_rfl) (⟨⟨by kernel_rfl, by kernel_rfl, by kernel_rfl⟩, trivial⟩) (fun _ => by kernel_rfl) (fun _ => by kernel_rfl) (fun _ _ => trivial) (fun ρ w _ hh => enter_any (tick (tick (pnew 2 5)).1).1 1 true w _ hh)) (fun _ _ _ => ?_)
  refine wo_run [] [1, 2, 3, 4, 21] [9] (l' := [(1, eL 9 0), (2, eB (tick (pnew 2 5)).2), (3, eB (tick (tick (pnew 2 5)).1).2), (4, eI .i64 (tick (tick (pnew 2 5)).1).1.span), (21, eB (enter (tick (tick (pnew 2 5)).1).1 1 true).2)]) (H' := [(9, ⟨[cI .i64 (enter (tick (tick (pnew 2 5)).1).1 1 true).1.span, cI .i64 (enter (tick (tick (pnew 2 5)).1).1 1 true).1.left, cI .i64 (enter (tick (tick (pnew 2 5)).1).1 1 true).1.view, cI .i64 (enter (tick (tick (pnew 2 5)).1).1 1 true).1.first, cI .i64 (enter (tick (tick (pnew 2 5)).1).1 1 true).1.most], 77⟩)]) (by kernel_rfl) ?_
  refine wo_run [2] [1, 2, 3, 4, 5] [9] (l' := [(1, eL 9 0), (2, eB (tick (pnew 2 5)).2), (3, eB (tick (tick (pnew 2 5)).1).2), (4, eI .i64 (tick (tick (pnew 2 5)).1).1.span), (5, eB (enter (tick (tick (pnew 2 5)).1).1 1 true).2)]) (H' := [(9, ⟨[cI .i64 (enter (tick (tick (pnew 2 5)).1).1 1 true).1.span, cI .i64 (enter (tick (tick (pnew 2 5)).1).1 1 true).1.left, cI .i64 (enter (tick (tick (pnew 2 5)).1).1 1 true).1.view, cI .i64 (enter (tick (tick (pnew 2 5)).1).1 1 true).1.first, cI .i64 (enter (tick (tick (pnew 2 5)).1).1 1 true).1.most], 77⟩)]) (by kernel_rfl) ?_
  refine wo_nil ?_
  refine we_then ?_
  refine wc_seq ?_
  refine wc_reg [0, 1, 2] (by kernel_rfl) ?_
  refine wo_run [0] [1, 2, 3, 4, 5, 22] [9] (l' := [(1, eL 9 0), (2, eB (tick (pnew 2 5)).2), (3, eB (tick (tick (pnew 2 5)).1).2), (4, eI .i64 (tick (tick (pnew 2 5)).1).1.span), (5, eB (enter (tick (tick (pnew 2 5)).1).1 1 true).2), (22, eL 9 0)]) (H' := [(9, ⟨[cI .i64 (enter (tick (tick (pnew 2 5)).1).1 1 true).1.span, cI .i64 (enter (tick (tick (pnew 2 5)).1).1 1 true).1.left, cI .i64 (enter (tick (tick (pnew 2 5)).1).1 1 true).1.view, cI .i64 (enter (tick (tick (pnew 2 5)).1).1 1 true).1.first, cI .i64 (enter (tick (tick (pnew 2 5)).1).1 1 true).1.most], 77⟩)]) (by kernel_rfl) ?_
  refine wo_ox rfl rfl (ox_callm (τ := Unit) (φ := fun _ => True) [sL 100000 0, sI .i64 3, sB false] [(100000, ⟨[cI .i64 (enter (tick (tick (pnew 2 5)).1).1 1 true).1.span, cI .i64 (enter (tick (tick (pnew 2 5)).1).1 1 true).1.left, cI .i64 (enter (tick (tick (pnew 2 5)).1).1 1 true).1.view, cI .i64 (enter (tick (tick (pnew 2 5)).1).1 1 true).1.first, cI .i64 (enter (tick (tick (pnew 2 5)).1).1 1 true).1.most], 77⟩)] [(100000, 9)] [] [] (fun _ => eB (enter (enter (tick (tick (pnew 2 5)).1).1 1 true).1 3 false).2) (fun _ => [(100000, ⟨[cI .i64 (enter (enter (tick (tick (pnew 2 5)).1).1 1 true).1 3 false).1.span, cI .i64 (enter (enter (tick (tick (pnew 2 5)).1).1 1 true).1 3 false).1.left, cI .i64 (enter (enter (tick (tick (pnew 2 5)).1).1 1 true).1 3 false).1.view, cI .i64 (enter (enter (tick (tick (pnew 2 5)).1).1 1 true).1 3 false).1.first, cI .i64 (enter (enter (tick (tick (pnew 2 5)).1).1 1 true).1 3 false).1.most], 77⟩)]) rfl (by kernel_rfl) rfl Try.func37 (by kernel_rfl) (by kernel_rfl) (by kernel_rfl) (by kernel_rfl) (by kernel_rfl) (by kernel_rfl) (⟨⟨by kernel_rfl, by kernel_rfl, by kernel_rfl⟩, trivial⟩) (fun _ => by kernel_rfl) (fun _ => by kernel_rfl) (fun _ _ => trivial) (fun ρ w _ hh => enter_any (enter (tick (tick (pnew 2 5)).1).1 1 true).1 3 false w _ hh)) (fun _ _ _ => ?_)
  refine wo_run [] [1, 2, 3, 4, 5, 23] [9] (l' := [(1, eL 9 0), (2, eB (tick (pnew 2 5)).2), (3, eB (tick (tick (pnew 2 5)).1).2), (4, eI .i64 (tick (tick (pnew 2 5)).1).1.span), (5, eB (enter (tick (tick (pnew 2 5)).1).1 1 true).2), (23, eB (enter (enter (tick (tick (pnew 2 5)).1).1 1 true).1 3 false).2)]) (H' := [(9, ⟨[cI .i64 (enter (enter (tick (tick (pnew 2 5)).1).1 1 true).1 3 false).1.span, cI .i64 (enter (enter (tick (tick (pnew 2 5)).1).1 1 true).1 3 false).1.left, cI .i64 (enter (enter (tick (tick (pnew 2 5)).1).1 1 true).1 3 false).1.view, cI .i64 (enter (enter (tick (tick (pnew 2 5)).1).1 1 true).1 3 false).1.first, cI .i64 (enter (enter (tick (tick (pnew 2 5)).1).1 1 true).1 3 false).1.most], 77⟩)]) (by kernel_rfl) ?_
  refine wo_run [2] [1, 2, 3, 4, 5, 6] [9] (l' := [(1, eL 9 0), (2, eB (tick (pnew 2 5)).2), (3, eB (tick (tick (pnew 2 5)).1).2), (4, eI .i64 (tick (tick (pnew 2 5)).1).1.span), (5, eB (enter (tick (tick (pnew 2 5)).1).1 1 true).2), (6, eB (enter (enter (tick (tick (pnew 2 5)).1).1 1 true).1 3 false).2)]) (H' := [(9, ⟨[cI .i64 (enter (enter (tick (tick (pnew 2 5)).1).1 1 true).1 3 false).1.span, cI .i64 (enter (enter (tick (tick (pnew 2 5)).1).1 1 true).1 3 false).1.left, cI .i64 (enter (enter (tick (tick (pnew 2 5)).1).1 1 true).1 3 false).1.view, cI .i64 (enter (enter (tick (tick (pnew 2 5)).1).1 1 true).1 3 false).1.first, cI .i64 (enter (enter (tick (tick (pnew 2 5)).1).1 1 true).1 3 false).1.most], 77⟩)]) (by kernel_rfl) ?_
  refine wo_nil ?_
  refine we_then ?_
  refine wc_seq ?_
  refine wc_reg [0, 1, 2, 3, 4] (by kernel_rfl) ?_
  refine wo_run [0, 1, 2] [1, 2, 3, 4, 5, 6, 26] [9] (l' := [(1, eL 9 0), (2, eB (tick (pnew 2 5)).2), (3, eB (tick (tick (pnew 2 5)).1).2), (4, eI .i64 (tick (tick (pnew 2 5)).1).1.span), (5, eB (enter (tick (tick (pnew 2 5)).1).1 1 true).2), (6, eB (enter (enter (tick (tick (pnew 2 5)).1).1 1 true).1 3 false).2), (26, eL 9 0)]) (H' := [(9, ⟨[cI .i64 (enter (enter (tick (tick (pnew 2 5)).1).1 1 true).1 3 false).1.span, cI .i64 (enter (enter (tick (tick (pnew 2 5)).1).1 1 true).1 3 false).1.left, cI .i64 (enter (enter (tick (tick (pnew 2 5)).1).1 1 true).1 3 false).1.view, cI .i64 (enter (enter (tick (tick (pnew 2 5)).1).1 1 true).1 3 false).1.first, cI .i64 (enter (enter (tick (tick (pnew 2 5)).1).1 1 true).1 3 false).1.most], 77⟩)]) (by kernel_rfl) ?_
  refine wo_op rfl rfl (ot_call (vs := [sL 9 0]) rfl rfl rfl Try.func41 (by kernel_rfl) (by kernel_rfl) (by kernel_rfl) (eI .i64 (enter (enter (tick (tick (pnew 2 5)).1).1 1 true).1 3 false).1.left) (trivial) (fun ρ w h => left_any (enter (enter (tick (tick (pnew 2 5)).1).1 1 true).1 3 false).1 w (fun k => ρ (Sx.look [(100000, 9)] k)) (h.heap (π := [(100000, 9)]) (Hc := [(100000, ⟨[cI .i64 (enter (enter (tick (tick (pnew 2 5)).1).1 1 true).1 3 false).1.span, cI .i64 (enter (enter (tick (tick (pnew 2 5)).1).1 1 true).1 3 false).1.left, cI .i64 (enter (enter (tick (tick (pnew 2 5)).1).1 1 true).1 3 false).1.view, cI .i64 (enter (enter (tick (tick (pnew 2 5)).1).1 1 true).1 3 false).1.first, cI .i64 (enter (enter (tick (tick (pnew 2 5)).1).1 1 true).1 3 false).1.most], 77⟩)]) rfl (⟨⟨by kernel_rfl, by kernel_rfl, by kernel_rfl⟩, trivial⟩)))) ?_
  refine wo_run [4] [1, 2, 3, 4, 5, 6, 7] [9] (l' := [(1, eL 9 0), (2, eB (tick (pnew 2 5)).2), (3, eB (tick (tick (pnew 2 5)).1).2), (4, eI .i64 (tick (tick (pnew 2 5)).1).1.span), (5, eB (enter (tick (tick (pnew 2 5)).1).1 1 true).2), (6, eB (enter (enter (tick (tick (pnew 2 5)).1).1 1 true).1 3 false).2), (7, eI .i64 (enter (enter (tick (tick (pnew 2 5)).1).1 1 true).1 3 false).1.left)]) (H' := [(9, ⟨[cI .i64 (enter (enter (tick (tick (pnew 2 5)).1).1 1 true).1 3 false).1.span, cI .i64 (enter (enter (tick (tick (pnew 2 5)).1).1 1 true).1 3 false).1.left, cI .i64 (enter (enter (tick (tick (pnew 2 5)).1).1 1 true).1 3 false).1.view, cI .i64 (enter (enter (tick (tick (pnew 2 5)).1).1 1 true).1 3 false).1.first, cI .i64 (enter (enter (tick (tick (pnew 2 5)).1).1 1 true).1 3 false).1.most], 77⟩)]) (by kernel_rfl) ?_
  refine wo_nil ?_
  refine we_then ?_
  refine wc_seq ?_
  refine wc_reg [0, 1, 2] (by kernel_rfl) ?_
  refine wo_run [0] [1, 2, 3, 4, 5, 6, 7, 28] [9] (l' := [(1, eL 9 0), (2, eB (tick (pnew 2 5)).2), (3, eB (tick (tick (pnew 2 5)).1).2), (4, eI .i64 (tick (tick (pnew 2 5)).1).1.span), (5, eB (enter (tick (tick (pnew 2 5)).1).1 1 true).2), (6, eB (enter (enter (tick (tick (pnew 2 5)).1).1 1 true).1 3 false).2), (7, eI .i64 (enter (enter (tick (tick (pnew 2 5)).1).1 1 true).1 3 false).1.left), (28, eL 9 0)]) (H' := [(9, ⟨[cI .i64 (enter (enter (tick (tick (pnew 2 5)).1).1 1 true).1 3 false).1.span, cI .i64 (enter (enter (tick (tick (pnew 2 5)).1).1 1 true).1 3 false).1.left, cI .i64 (enter (enter (tick (tick (pnew 2 5)).1).1 1 true).1 3 false).1.view, cI .i64 (enter (enter (tick (tick (pnew 2 5)).1).1 1 true).1 3 false).1.first, cI .i64 (enter (enter (tick (tick (pnew 2 5)).1).1 1 true).1 3 false).1.most], 77⟩)]) (by kernel_rfl) ?_
  refine wo_ox rfl rfl (ox_callm (τ := Unit) (φ := fun _ => True) [sL 100000 0, sI .i64 4, sB true] [(100000, ⟨[cI .i64 (enter (enter (tick (tick (pnew 2 5)).1).1 1 true).1 3 false).1.span, cI .i64 (enter (enter (tick (tick (pnew 2 5)).1).1 1 true).1 3 false).1.left, cI .i64 (enter (enter (tick (tick (pnew 2 5)).1).1 1 true).1 3 false).1.view, cI .i64 (enter (enter (tick (tick (pnew 2 5)).1).1 1 true).1 3 false).1.first, cI .i64 (enter (enter (tick (tick (pnew 2 5)).1).1 1 true).1 3 false).1.most], 77⟩)] [(100000, 9)] [] [] (fun _ => eB (enter (enter (enter (tick (tick (pnew 2 5)).1).1 1 true).1 3 false).1 4 true).2) (fun _ => [(100000, ⟨[cI .i64 (enter (enter (enter (tick (tick (pnew 2 5)).1).1 1 true).1 3 false).1 4 true).1.span, cI .i64 (enter (enter (enter (tick (tick (pnew 2 5)).1).1 1 true).1 3 false).1 4 true).1.left, cI .i64 (enter (enter (enter (tick (tick (pnew 2 5)).1).1 1 true).1 3 false).1 4 true).1.view, cI .i64 (enter (enter (enter (tick (tick (pnew 2 5)).1).1 1 true).1 3 false).1 4 true).1.first, cI .i64 (enter (enter (enter (tick (tick (pnew 2 5)).1).1 1 true).1 3 false).1 4 true).1.most], 77⟩)]) rfl (by kernel_rfl) rfl Try.func37 (by kernel_rfl) (by kernel_rfl) (by kernel_rfl) (by kernel_rfl) (by kernel_rfl) (by kernel_rfl) (⟨⟨by kernel_rfl, by kernel_rfl, by kernel_rfl⟩, trivial⟩) (fun _ => by kernel_rfl) (fun _ => by kernel_rfl) (fun _ _ => trivial) (fun ρ w _ hh => enter_any (enter (enter (tick (tick (pnew 2 5)).1).1 1 true).1 3 false).1 4 true w _ hh)) (fun _ _ _ => ?_)
  refine wo_run [] [1, 2, 3, 4, 5, 6, 7, 29] [9] (l' := [(1, eL 9 0), (2, eB (tick (pnew 2 5)).2), (3, eB (tick (tick (pnew 2 5)).1).2), (4, eI .i64 (tick (tick (pnew 2 5)).1).1.span), (5, eB (enter (tick (tick (pnew 2 5)).1).1 1 true).2), (6, eB (enter (enter (tick (tick (pnew 2 5)).1).1 1 true).1 3 false).2), (7, eI .i64 (enter (enter (tick (tick (pnew 2 5)).1).1 1 true).1 3 false).1.left), (29, eB (enter (enter (enter (tick (tick (pnew 2 5)).1).1 1 true).1 3 false).1 4 true).2)]) (H' := [(9, ⟨[cI .i64 (enter (enter (enter (tick (tick (pnew 2 5)).1).1 1 true).1 3 false).1 4 true).1.span, cI .i64 (enter (enter (enter (tick (tick (pnew 2 5)).1).1 1 true).1 3 false).1 4 true).1.left, cI .i64 (enter (enter (enter (tick (tick (pnew 2 5)).1).1 1 true).1 3 false).1 4 true).1.view, cI .i64 (enter (enter (enter (tick (tick (pnew 2 5)).1).1 1 true).1 3 false).1 4 true).1.first, cI .i64 (enter (enter (enter (tick (tick (pnew 2 5)).1).1 1 true).1 3 false).1 4 true).1.most], 77⟩)]) (by kernel_rfl) ?_
  refine wo_run [2] [1, 2, 3, 4, 5, 6, 7, 8] [9] (l' := [(1, eL 9 0), (2, eB (tick (pnew 2 5)).2), (3, eB (tick (tick (pnew 2 5)).1).2), (4, eI .i64 (tick (tick (pnew 2 5)).1).1.span), (5, eB (enter (tick (tick (pnew 2 5)).1).1 1 true).2), (6, eB (enter (enter (tick (tick (pnew 2 5)).1).1 1 true).1 3 false).2), (7, eI .i64 (enter (enter (tick (tick (pnew 2 5)).1).1 1 true).1 3 false).1.left), (8, eB (enter (enter (enter (tick (tick (pnew 2 5)).1).1 1 true).1 3 false).1 4 true).2)]) (H' := [(9, ⟨[cI .i64 (enter (enter (enter (tick (tick (pnew 2 5)).1).1 1 true).1 3 false).1 4 true).1.span, cI .i64 (enter (enter (enter (tick (tick (pnew 2 5)).1).1 1 true).1 3 false).1 4 true).1.left, cI .i64 (enter (enter (enter (tick (tick (pnew 2 5)).1).1 1 true).1 3 false).1 4 true).1.view, cI .i64 (enter (enter (enter (tick (tick (pnew 2 5)).1).1 1 true).1 3 false).1 4 true).1.first, cI .i64 (enter (enter (enter (tick (tick (pnew 2 5)).1).1 1 true).1 3 false).1 4 true).1.most], 77⟩)]) (by kernel_rfl) ?_
  refine wo_nil ?_
  refine we_then ?_
  refine wc_seq ?_
  refine wc_reg [0, 1, 2, 3, 4, 5, 6, 7, 8, 9, 10, 11, 12, 13, 14, 15, 16, 17, 18, 19, 20, 21, 22, 23, 24, 25, 26, 27, 28, 29, 30, 31, 32, 33, 34, 35, 36, 37, 38, 39, 40, 41, 42, 43, 44] (by kernel_rfl) ?_
  refine wo_run [0, 1, 2] [1, 3, 4, 5, 6, 7, 8, 32] [9] (l' := [(1, eL 9 0), (3, eB (tick (tick (pnew 2 5)).1).2), (4, eI .i64 (tick (tick (pnew 2 5)).1).1.span), (5, eB (enter (tick (tick (pnew 2 5)).1).1 1 true).2), (6, eB (enter (enter (tick (tick (pnew 2 5)).1).1 1 true).1 3 false).2), (7, eI .i64 (enter (enter (tick (tick (pnew 2 5)).1).1 1 true).1 3 false).1.left), (8, eB (enter (enter (enter (tick (tick (pnew 2 5)).1).1 1 true).1 3 false).1 4 true).2), (32, eB (!(tick (pnew 2 5)).2))]) (H' := [(9, ⟨[cI .i64 (enter (enter (enter (tick (tick (pnew 2 5)).1).1 1 true).1 3 false).1 4 true).1.span, cI .i64 (enter (enter (enter (tick (tick (pnew 2 5)).1).1 1 true).1 3 false).1 4 true).1.left, cI .i64 (enter (enter (enter (tick (tick (pnew 2 5)).1).1 1 true).1 3 false).1 4 true).1.view, cI .i64 (enter (enter (enter (tick (tick (pnew 2 5)).1).1 1 true).1 3 false).1 4 true).1.first, cI .i64 (enter (enter (enter (tick (tick (pnew 2 5)).1).1 1 true).1 3 false).1 4 true).1.most], 77⟩)]) (by kernel_rfl) ?_
  refine wo_is 32 true rfl (by kernel_rfl) ?_
  refine wo_run [3, 4, 5] [1, 4, 5, 6, 7, 8, 35] [9] (l' := [(1, eL 9 0), (4, eI .i64 (tick (tick (pnew 2 5)).1).1.span), (5, eB (enter (tick (tick (pnew 2 5)).1).1 1 true).2), (6, eB (enter (enter (tick (tick (pnew 2 5)).1).1 1 true).1 3 false).2), (7, eI .i64 (enter (enter (tick (tick (pnew 2 5)).1).1 1 true).1 3 false).1.left), (8, eB (enter (enter (enter (tick (tick (pnew 2 5)).1).1 1 true).1 3 false).1 4 true).2), (35, eB (tick (tick (pnew 2 5)).1).2)]) (H' := [(9, ⟨[cI .i64 (enter (enter (enter (tick (tick (pnew 2 5)).1).1 1 true).1 3 false).1 4 true).1.span, cI .i64 (enter (enter (enter (tick (tick (pnew 2 5)).1).1 1 true).1 3 false).1 4 true).1.left, cI .i64 (enter (enter (enter (tick (tick (pnew 2 5)).1).1 1 true).1 3 false).1 4 true).1.view, cI .i64 (enter (enter (enter (tick (tick (pnew 2 5)).1).1 1 true).1 3 false).1 4 true).1.first, cI .i64 (enter (enter (enter (tick (tick (pnew 2 5)).1).1 1 true).1 3 false).1 4 true).1.most], 77⟩)]) (by kernel_rfl) ?_
  refine wo_is 35 true rfl (by kernel_rfl) ?_
  refine wo_run [6, 7, 8, 9] [1, 5, 6, 7, 8, 39] [9] (l' := [(1, eL 9 0), (5, eB (enter (tick (tick (pnew 2 5)).1).1 1 true).2), (6, eB (enter (enter (tick (tick (pnew 2 5)).1).1 1 true).1 3 false).2), (7, eI .i64 (enter (enter (tick (tick (pnew 2 5)).1).1 1 true).1 3 false).1.left), (8, eB (enter (enter (enter (tick (tick (pnew 2 5)).1).1 1 true).1 3 false).1 4 true).2), (39, eB ((tick (tick (pnew 2 5)).1).1.span == 4))]) (H' := [(9, ⟨[cI .i64 (enter (enter (enter (tick (tick (pnew 2 5)).1).1 1 true).1 3 false).1 4 true).1.span, cI .i64 (enter (enter (enter (tick (tick (pnew 2 5)).1).1 1 true).1 3 false).1 4 true).1.left, cI .i64 (enter (enter (enter (tick (tick (pnew 2 5)).1).1 1 true).1 3 false).1 4 true).1.view, cI .i64 (enter (enter (enter (tick (tick (pnew 2 5)).1).1 1 true).1 3 false).1 4 true).1.first, cI .i64 (enter (enter (enter (tick (tick (pnew 2 5)).1).1 1 true).1 3 false).1 4 true).1.most], 77⟩)]) (by kernel_rfl) ?_
  refine wo_is 39 true rfl (by kernel_rfl) ?_
  refine wo_run [10, 11, 12, 13] [1, 6, 7, 8, 43] [9] (l' := [(1, eL 9 0), (6, eB (enter (enter (tick (tick (pnew 2 5)).1).1 1 true).1 3 false).2), (7, eI .i64 (enter (enter (tick (tick (pnew 2 5)).1).1 1 true).1 3 false).1.left), (8, eB (enter (enter (enter (tick (tick (pnew 2 5)).1).1 1 true).1 3 false).1 4 true).2), (43, eB (!(enter (tick (tick (pnew 2 5)).1).1 1 true).2))]) (H' := [(9, ⟨[cI .i64 (enter (enter (enter (tick (tick (pnew 2 5)).1).1 1 true).1 3 false).1 4 true).1.span, cI .i64 (enter (enter (enter (tick (tick (pnew 2 5)).1).1 1 true).1 3 false).1 4 true).1.left, cI .i64 (enter (enter (enter (tick (tick (pnew 2 5)).1).1 1 true).1 3 false).1 4 true).1.view, cI .i64 (enter (enter (enter (tick (tick (pnew 2 5)).1).1 1 true).1 3 false).1 4 true).1.first, cI .i64 (enter (enter (enter (tick (tick (pnew 2 5)).1).1 1 true).1 3 false).1 4 true).1.most], 77⟩)]) (by kernel_rfl) ?_
  refine wo_is 43 true rfl (by kernel_rfl) ?_
  refine wo_run [14, 15, 16] [1, 7, 8, 46] [9] (l' := [(1, eL 9 0), (7, eI .i64 (enter (enter (tick (tick (pnew 2 5)).1).1 1 true).1 3 false).1.left), (8, eB (enter (enter (enter (tick (tick (pnew 2 5)).1).1 1 true).1 3 false).1 4 true).2), (46, eB (enter (enter (tick (tick (pnew 2 5)).1).1 1 true).1 3 false).2)]) (H' := [(9, ⟨[cI .i64 (enter (enter (enter (tick (tick (pnew 2 5)).1).1 1 true).1 3 false).1 4 true).1.span, cI .i64 (enter (enter (enter (tick (tick (pnew 2 5)).1).1 1 true).1 3 false).1 4 true).1.left, cI .i64 (enter (enter (enter (tick (tick (pnew 2 5)).1).1 1 true).1 3 false).1 4 true).1.view, cI .i64 (enter (enter (enter (tick (tick (pnew 2 5)).1).1 1 true).1 3 false).1 4 true).1.first, cI .i64 (enter (enter (enter (tick (tick (pnew 2 5)).1).1 1 true).1 3 false).1 4 true).1.most], 77⟩)]) (by kernel_rfl) ?_
  refine wo_is 46 true rfl (by kernel_rfl) ?_
  refine wo_run [17, 18, 19, 20] [1, 8, 50] [9] (l' := [(1, eL 9 0), (8, eB (enter (enter (enter (tick (tick (pnew 2 5)).1).1 1 true).1 3 false).1 4 true).2), (50, eB ((enter (enter (tick (tick (pnew 2 5)).1).1 1 true).1 3 false).1.left == 4))]) (H' := [(9, ⟨[cI .i64 (enter (enter (enter (tick (tick (pnew 2 5)).1).1 1 true).1 3 false).1 4 true).1.span, cI .i64 (enter (enter (enter (tick (tick (pnew 2 5)).1).1 1 true).1 3 false).1 4 true).1.left, cI .i64 (enter (enter (enter (tick (tick (pnew 2 5)).1).1 1 true).1 3 false).1 4 true).1.view, cI .i64 (enter (enter (enter (tick (tick (pnew 2 5)).1).1 1 true).1 3 false).1 4 true).1.first, cI .i64 (enter (enter (enter (tick (tick (pnew 2 5)).1).1 1 true).1 3 false).1 4 true).1.most], 77⟩)]) (by kernel_rfl) ?_
  refine wo_is 50 true rfl (by kernel_rfl) ?_
  refine wo_run [21, 22, 23] [1, 53] [9] (l' := [(1, eL 9 0), (53, eB (enter (enter (enter (tick (tick (pnew 2 5)).1).1 1 true).1 3 false).1 4 true).2)]) (H' := [(9, ⟨[cI .i64 (enter (enter (enter (tick (tick (pnew 2 5)).1).1 1 true).1 3 false).1 4 true).1.span, cI .i64 (enter (enter (enter (tick (tick (pnew 2 5)).1).1 1 true).1 3 false).1 4 true).1.left, cI .i64 (enter (enter (enter (tick (tick (pnew 2 5)).1).1 1 true).1 3 false).1 4 true).1.view, cI .i64 (enter (enter (enter (tick (tick (pnew 2 5)).1).1 1 true).1 3 false).1 4 true).1.first, cI .i64 (enter (enter (enter (tick (tick (pnew 2 5)).1).1 1 true).1 3 false).1 4 true).1.most], 77⟩)]) (by kernel_rfl) ?_
  refine wo_is 53 true rfl (by kernel_rfl) ?_
  refine wo_run [24, 25, 26] [1, 53, 56] [9] (l' := [(1, eL 9 0), (53, eB true), (56, eL 9 0)]) (H' := [(9, ⟨[cI .i64 (enter (enter (enter (tick (tick (pnew 2 5)).1).1 1 true).1 3 false).1 4 true).1.span, cI .i64 (enter (enter (enter (tick (tick (pnew 2 5)).1).1 1 true).1 3 false).1 4 true).1.left, cI .i64 (enter (enter (enter (tick (tick (pnew 2 5)).1).1 1 true).1 3 false).1 4 true).1.view, cI .i64 (enter (enter (enter (tick (tick (pnew 2 5)).1).1 1 true).1 3 false).1 4 true).1.first, cI .i64 (enter (enter (enter (tick (tick (pnew 2 5)).1).1 1 true).1 3 false).1 4 true).1.most], 77⟩)]) (by kernel_rfl) ?_
  refine wo_op rfl rfl (ot_call (vs := [sL 9 0]) rfl rfl rfl Try.func41 (by kernel_rfl) (by kernel_rfl) (by kernel_rfl) (eI .i64 (enter (enter (enter (tick (tick (pnew 2 5)).1).1 1 true).1 3 false).1 4 true).1.left) (trivial) (fun ρ w h => left_any (enter (enter (enter (tick (tick (pnew 2 5)).1).1 1 true).1 3 false).1 4 true).1 w (fun k => ρ (Sx.look [(100000, 9)] k)) (h.heap (π := [(100000, 9)]) (Hc := [(100000, ⟨[cI .i64 (enter (enter (enter (tick (tick (pnew 2 5)).1).1 1 true).1 3 false).1 4 true).1.span, cI .i64 (enter (enter (enter (tick (tick (pnew 2 5)).1).1 1 true).1 3 false).1 4 true).1.left, cI .i64 (enter (enter (enter (tick (tick (pnew 2 5)).1).1 1 true).1 3 false).1 4 true).1.view, cI .i64 (enter (enter (enter (tick (tick (pnew 2 5)).1).1 1 true).1 3 false).1 4 true).1.first, cI .i64 (enter (enter (enter (tick (tick (pnew 2 5)).1).1 1 true).1 3 false).1 4 true).1.most], 77⟩)]) rfl (⟨⟨by kernel_rfl, by kernel_rfl, by kernel_rfl⟩, trivial⟩)))) ?_
  refine wo_run [28, 29, 30] [1, 60] [9] (l' := [(1, eL 9 0), (60, eB ((enter (enter (enter (tick (tick (pnew 2 5)).1).1 1 true).1 3 false).1 4 true).1.left == 2))]) (H' := [(9, ⟨[cI .i64 (enter (enter (enter (tick (tick (pnew 2 5)).1).1 1 true).1 3 false).1 4 true).1.span, cI .i64 (enter (enter (enter (tick (tick (pnew 2 5)).1).1 1 true).1 3 false).1 4 true).1.left, cI .i64 (enter (enter (enter (tick (tick (pnew 2 5)).1).1 1 true).1 3 false).1 4 true).1.view, cI .i64 (enter (enter (enter (tick (tick (pnew 2 5)).1).1 1 true).1 3 false).1 4 true).1.first, cI .i64 (enter (enter (enter (tick (tick (pnew 2 5)).1).1 1 true).1 3 false).1 4 true).1.most], 77⟩)]) (by kernel_rfl) ?_
  refine wo_is 60 true rfl (by kernel_rfl) ?_
  refine wo_run [31] [60, 61] [9] (l' := [(60, eB true), (61, eL 9 0)]) (H' := [(9, ⟨[cI .i64 (enter (enter (enter (tick (tick (pnew 2 5)).1).1 1 true).1 3 false).1 4 true).1.span, cI .i64 (enter (enter (enter (tick (tick (pnew 2 5)).1).1 1 true).1 3 false).1 4 true).1.left, cI .i64 (enter (enter (enter (tick (tick (pnew 2 5)).1).1 1 true).1 3 false).1 4 true).1.view, cI .i64 (enter (enter (enter (tick (tick (pnew 2 5)).1).1 1 true).1 3 false).1 4 true).1.first, cI .i64 (enter (enter (enter (tick (tick (pnew 2 5)).1).1 1 true).1 3 false).1 4 true).1.most], 77⟩)]) (by kernel_rfl) ?_
  refine wo_op rfl rfl (ot_call (vs := [sL 9 0]) rfl rfl rfl Try.func39 (by kernel_rfl) (by kernel_rfl) (by kernel_rfl) (eI .i64 (enter (enter (enter (tick (tick (pnew 2 5)).1).1 1 true).1 3 false).1 4 true).1.view) (trivial) (fun ρ w h => view_any (enter (enter (enter (tick (tick (pnew 2 5)).1).1 1 true).1 3 false).1 4 true).1 w (fun k => ρ (Sx.look [(100000, 9)] k)) (h.heap (π := [(100000, 9)]) (Hc := [(100000, ⟨[cI .i64 (enter (enter (enter (tick (tick (pnew 2 5)).1).1 1 true).1 3 false).1 4 true).1.span, cI .i64 (enter (enter (enter (tick (tick (pnew 2 5)).1).1 1 true).1 3 false).1 4 true).1.left, cI .i64 (enter (enter (enter (tick (tick (pnew 2 5)).1).1 1 true).1 3 false).1 4 true).1.view, cI .i64 (enter (enter (enter (tick (tick (pnew 2 5)).1).1 1 true).1 3 false).1 4 true).1.first, cI .i64 (enter (enter (enter (tick (tick (pnew 2 5)).1).1 1 true).1 3 false).1 4 true).1.most], 77⟩)]) rfl (⟨⟨by kernel_rfl, by kernel_rfl, by kernel_rfl⟩, trivial⟩)))) ?_
  refine wo_run [33, 34, 35] [65] [] (l' := [(65, eB ((enter (enter (enter (tick (tick (pnew 2 5)).1).1 1 true).1 3 false).1 4 true).1.view == 4))]) (H' := []) (by kernel_rfl) ?_
  refine wo_is 65 true rfl (by kernel_rfl) ?_
  refine wo_op rfl rfl (ot_bslice (e := 3) (d := 66) (n := 3) (size := 1) [.ints .i64 3 (List.replicate 3 0)] [.ints .i64 3 ((((List.replicate 3 0).set 0 7).set 1 8).set 2 9)] rfl rfl rfl (by kernel_rfl) rfl (by kernel_rfl) (okc_ints (List.length_replicate) (okc_nil)) (fun _ => rfl) (by kernel_rfl) (by kernel_rfl)) ?_
  refine wo_op rfl rfl (ot_call (vs := [.a (.ls 66 0 3 3), sI .i64 5]) rfl rfl rfl Try.func33 (by kernel_rfl) (by kernel_rfl) (by kernel_rfl) (eI .i64 (leader 3 (fun i => ((((List.replicate 3 0).set 0 7).set 1 8).set 2 9).getD i 0) 5)) (trivial) (fun ρ w h => leader_any (some ⟨ρ 66, 0, none⟩) 3 3 (ρ 66) 0 (fun i => ((((List.replicate 3 0).set 0 7).set 1 8).set 2 9).getD i 0) 5 (by decide) w (fun _ => ⟨rfl, (h.ints (k := 66) (xs := ((((List.replicate 3 0).set 0 7).set 1 8).set 2 9)) rfl).1⟩) (fun i hi => (h.ints (k := 66) (xs := ((((List.replicate 3 0).set 0 7).set 1 8).set 2 9)) rfl).2 i hi) ρ)) ?_
  refine wo_run [38, 39, 40] [70] [] (l' := [(70, eB ((leader 3 (fun i => ((((List.replicate 3 0).set 0 7).set 1 8).set 2 9).getD i 0) 5) == 8))]) (H' := []) (by kernel_rfl) ?_
  refine wo_is 70 true rfl (by kernel_rfl) ?_
  refine wo_op rfl rfl (ot_call (vs := [sV (.slice none 0 0), sI .i64 1]) rfl rfl rfl Try.func33 (by kernel_rfl) (by kernel_rfl) (by kernel_rfl) (eI .i64 (leader 0 (fun _ => 0) 1)) (trivial) (fun ρ w h => leader_any none 0 0 0 0 (fun _ => 0) 1 (by decide) w (fun h => absurd h (Nat.lt_irrefl 0)) (fun i hi => absurd hi (Nat.not_lt_zero i)) ρ)) ?_
  refine wo_run [42, 43, 44] [0] [] (l' := [(0, eB ((leader 0 (fun _ => 0) 1) == (-1)))]) (H' := []) (by kernel_rfl) ?_
  refine wo_nil ?_
  refine we_then ?_
  refine wc_ret ?_
  refine we_ret (.inl rfl) (v := eB ((leader 0 (fun _ => 0) 1) == (-1))) (by kernel_rfl) ?_
  intro ρ' w' hf
  refine ⟨?_, hf.below noS⟩
  exact congrArg (fun b => Ending.returned (EV.conc ρ (eB b))) (by kernel_rfl)

theorem rnew2_any (f m : Int) (w : World) (ρ : Nat → Nat) :
    Calls Try.prog 31 ([sI .i64 f, sI .i64 m].map (SV.conc ρ)).toArray w fun r w' => ∃ (x0 : Unit) (σ : Nat → Nat), True ∧ r = .returned (EV.conc σ (eL 16 0)) ∧ Ran ρ [] [(16, ⟨[cI .i64 (pnew f m).view, cI .i64 (pnew f m).first, cI .i64 (pnew f m).most, cI .i64 (pnew f m).span, cI .i64 (pnew f m).left], 89⟩)] w w' σ := by
  have := rnew_any f m w ρ; rw [rnew_eq] at this; exact this
theorem rtick2_any {F M : Int} {p : Pace} (h : Inv F M p) (w : World) (ρ : Nat → Nat) (hH : HeapAt ρ [(100000, ⟨[cI .i64 p.view, cI .i64 p.first, cI .i64 p.most, cI .i64 p.span, cI .i64 p.left], 89⟩)] w) :
    Calls Try.prog 36 ([sL 100000 0].map (SV.conc ρ)).toArray w fun r w' => ∃ (x0 : Unit) (σ : Nat → Nat), True ∧ r = .returned (EV.conc σ (eB (tick p).2)) ∧ Ran ρ [(100000, ⟨[cI .i64 p.view, cI .i64 p.first, cI .i64 p.most, cI .i64 p.span, cI .i64 p.left], 89⟩)] [(100000, ⟨[cI .i64 (tick p).1.view, cI .i64 (tick p).1.first, cI .i64 (tick p).1.most, cI .i64 (tick p).1.span, cI .i64 (tick p).1.left], 89⟩)] w w' σ := by
  have := rtick_any p w ρ hH; rw [rtick_eq h] at this; exact this
theorem renter2_any (p : Pace) (v : Int) (g : Bool) (w : World) (ρ : Nat → Nat) (hH : HeapAt ρ [(100000, ⟨[cI .i64 p.view, cI .i64 p.first, cI .i64 p.most, cI .i64 p.span, cI .i64 p.left], 89⟩)] w) :
    Calls Try.prog 38 ([sL 100000 0, sI .i64 v, sB g].map (SV.conc ρ)).toArray w fun r w' => ∃ (x0 : Unit) (σ : Nat → Nat), True ∧ r = .returned (EV.conc σ (eB (enter p v g).2)) ∧ Ran ρ [(100000, ⟨[cI .i64 p.view, cI .i64 p.first, cI .i64 p.most, cI .i64 p.span, cI .i64 p.left], 89⟩)] [(100000, ⟨[cI .i64 (enter p v g).1.view, cI .i64 (enter p v g).1.first, cI .i64 (enter p v g).1.most, cI .i64 (enter p v g).1.span, cI .i64 (enter p v g).1.left], 89⟩)] w w' σ := by
  have := renter_any p v g w ρ hH; rw [renter_eq p v g] at this; exact this

end Go.Proofs.Ytckhcmdjgkoocaa.Pc
