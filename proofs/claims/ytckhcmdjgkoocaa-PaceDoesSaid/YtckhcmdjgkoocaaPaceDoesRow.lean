/-
  PaceDoes: all calls, in every order, answer as the document says.
-/
import Derived.Test.YtckhcmdjgkoocaaRows
import Derived.Test.YtckhcmdjgkoocaaPaceDoes
import Derived.WalkKit
import Derived.ProofKit
import Derived.OpenShut
import Derived.Below
import Derived.Test.YtckhcmdjgkoocaaSxRow
namespace Go.Proofs.Ytckhcmdjgkoocaa.paceDoes
open Go.ChangeShapes Go.WideShapes Go.ChangeAt Go.RowKit Go.Sx
set_option linter.unusedVariables false
set_option linter.unusedSimpArgs false

theorem own : ownKnob Try.prog.godebug = none := by kernel_rfl
theorem laidOut : laidOutB Try.prog = true := by kernel_rfl

set_option maxRecDepth 100000 in
theorem lifted (os : Os) (started : os.Started) (H : Type) (enc : TypeId × Value → H) :
    ReturnsInHanded {} Try.checked os 9 .any (Rows.paceDoesSpec.pre6 enc Try.prog Try.f9 Rows.paceDoesRow.domain false) (Rows.paceDoesSpec.post enc Try.prog Try.f9 false true false false) := by
  refine returnsInHanded_of_change (C := Try.checked) own started (by kernel_rfl) Try.func9
    (ChangeSpec.witness6 (enc := enc) (C := Try.checked) false ⟨#[], #[.int .i64 0, .int .i64 0, .slice none 0 0, .slice none 0 0, .int .i64 0], []⟩ 12 (by kernel_rfl) (by kernel_rfl) (by kernel_rfl) (by kernel_rfl)) ?_
  intro W base args ds gs before hval0 hW hcnd _
  have hval : ∀ (j : Nat) t v, Try.f9.params[j]? = some t → args[j]? = some v → Value.okWide Try.prog W .any base t v := hval0
  have hW' := hW
  obtain ⟨p, q, hA0, hV, rfl, hfz, hnd⟩ := hW
  have hA : DataW.TrodAll enc Try.prog W 0 (fun _ => true) true Try.f9.params.toList args.toList ds p := hA0
  rw [Try.params9] at hA hval
  obtain ⟨v0, vs0, d0, ds0, p0, q0, hargs, rfl, rfl, h0, r0⟩ := trodAll_cons hA
  obtain ⟨v1, vs1, d1, ds1, p1, q1, rfl, rfl, rfl, h1, r1⟩ := trodAll_cons r0
  obtain ⟨v2, vs2, d2, ds2, p2, q2, rfl, rfl, rfl, h2, r2⟩ := trodAll_cons r1
  obtain ⟨v3, vs3, d3, ds3, p3, q3, rfl, rfl, rfl, h3, r3⟩ := trodAll_cons r2
  obtain ⟨v4, vs4, d4, ds4, p4, q4, rfl, rfl, rfl, h4, r4⟩ := trodAll_cons r3
  obtain ⟨rfl, rfl, rfl⟩ := trodAll_nil r4
  obtain rfl : args = #[v0, v1, v2, v3, v4] := by cases args; simp_all
  obtain ⟨rfl, rfl⟩ := trodVars_none hV
  have k0 := h0
  have lt0 : ∀ x ∈ p0, x.block < W.heap.size := by obtain ⟨m, hm⟩ := k0; exact DataW.trod_lt m _ _ _ hm
  have k1 := h1
  have lt1 : ∀ x ∈ p1, x.block < W.heap.size := by obtain ⟨m, hm⟩ := k1; exact DataW.trod_lt m _ _ _ hm
  have k2 := h2
  have lt2 : ∀ x ∈ p2, x.block < W.heap.size := by obtain ⟨m, hm⟩ := k2; exact DataW.trod_lt m _ _ _ hm
  have k3 := h3
  have lt3 : ∀ x ∈ p3, x.block < W.heap.size := by obtain ⟨m, hm⟩ := k3; exact DataW.trod_lt m _ _ _ hm
  have k4 := h4
  have lt4 : ∀ x ∈ p4, x.block < W.heap.size := by obtain ⟨m, hm⟩ := k4; exact DataW.trod_lt m _ _ _ hm
  clear hA0 hval0
  obtain ⟨f, rfl, rfl, rfl, wf⟩ := open_int Try.underlying2 (hval 0 2 v0 rfl rfl) h0
  obtain ⟨m, rfl, rfl, rfl, wm⟩ := open_int Try.underlying2 (hval 1 2 v1 rfl rfl) h1
  obtain ⟨a2, len2, cap2, b2, off2, c2, rfl, lc2, cm2, an2, mt2, hb2, hc2⟩ : ∃ (a : Option Addr) (len cap b off : Nat) (c : Nat → List Chunk), v2 = .slice a len cap ∧ len ≤ cap ∧ cap ≤ maxLen ∧ (a = none → len = 0) ∧ (∀ i, i < len → MatchL (Rd enc Try.prog W 0 (fun _ => true) true) [.i .i64, .i .i64, .b] (c i)) ∧ (0 < len → a = some ⟨b, off, none⟩ ∧ b < W.heap.size) ∧ ∀ i, i < len → CellsAt W b (off + i * 3) (c i) := by
    obtain ⟨fuel, hf⟩ := h2
    have hv1 : v2.cells.toList = [v2] := cells_one (hval 2 62 v2 rfl rfl) (by kernel_rfl)
    rw [hv1] at hf
    exact slice_open (d := 9) Try.underlying62 (by kernel_rfl) (by kernel_rfl) (by decide) hf
  obtain ⟨x, hx⟩ := @Deep.choose_lt Pc.PStep ⟨⟨0, 0, false⟩⟩ _ _ (fun i hi => Pc.pstep_of (mt2 i hi))
  obtain ⟨a3, len3, cap3, b3, off3, c3, rfl, lc3, cm3, an3, mt3, hb3, hc3⟩ : ∃ (a : Option Addr) (len cap b off : Nat) (c : Nat → List Chunk), v3 = .slice a len cap ∧ len ≤ cap ∧ cap ≤ maxLen ∧ (a = none → len = 0) ∧ (∀ i, i < len → MatchL (Rd enc Try.prog W 0 (fun _ => true) true) [.i .i64] (c i)) ∧ (0 < len → a = some ⟨b, off, none⟩ ∧ b < W.heap.size) ∧ ∀ i, i < len → CellsAt W b (off + i * 1) (c i) := by
    obtain ⟨fuel, hf⟩ := h3
    have hv1 : v3.cells.toList = [v3] := cells_one (hval 3 56 v3 rfl rfl) (by kernel_rfl)
    rw [hv1] at hf
    exact slice_open (d := 9) Try.underlying56 (by kernel_rfl) (by kernel_rfl) (by decide) hf
  obtain ⟨y, hy⟩ := @Deep.choose_lt Int ⟨0⟩ _ _ (fun i hi => Pc.int_of (mt3 i hi))
  obtain ⟨view, rfl, rfl, rfl, wview⟩ := open_int Try.underlying2 (hval 4 2 v4 rfl rfl) h4
  refine (Pc.paceDoes_any f m (Pc.le_of_wf wf) (Pc.le_of_wf wm) a2 len2 cap2 b2 off2 x lc2 cm2 a3 len3 cap3 b3 off3 y view (Pc.le_of_wf wview) W hb2 (fun i hi => by have := hc2 i hi; rw [(hx i hi)] at this; exact this) hb3 (fun i hi => by have := hc3 i hi; rw [(hy i hi)] at this; exact this) (fun _ => 0)).mono fun e W' ⟨he, bel⟩ => ?_
  subst he
  exact ⟨_, rfl, _, _, _, [], _, [], hW', trodAll_mk1 (shut_bool Try.underlying4 _), (trodAll_cons_mk (Below.trod laidOut (by kernel_rfl) (of_decide_eq_true (by kernel_rfl)) k0 bel lt0) (trodAll_cons_mk (Below.trod laidOut (by kernel_rfl) (of_decide_eq_true (by kernel_rfl)) k1 bel lt1) (trodAll_cons_mk (Below.trod laidOut (by kernel_rfl) (of_decide_eq_true (by kernel_rfl)) k2 bel lt2) (trodAll_cons_mk (Below.trod laidOut (by kernel_rfl) (of_decide_eq_true (by kernel_rfl)) k3 bel lt3) (trodAll_cons_mk (Below.trod laidOut (by kernel_rfl) (of_decide_eq_true (by kernel_rfl)) k4 bel lt4) (trodAll_mk0)))))), rfl, bel.frame _, fun h => by cases h⟩

theorem over : Rows.paceDoesRow.holds Try.pinned (OpenSpec.ofChange Rows.paceDoesSpec) :=
  OpenClaim.holds_of_wide 9 Try.f9 rfl rfl rfl rfl rfl rfl rfl ⟨rfl, rfl, rfl, rfl, rfl⟩ rfl rfl rfl rfl rfl (by kernel_rfl) Try.func9 (by kernel_rfl)
    (of_decide_eq_true (by kernel_rfl)) (by unfold Func.isWrapper; first | (rw [if_pos (by decide +kernel)]; kernel_rfl) | (rw [if_neg (by decide +kernel)]; exact ⟨rfl, rfl⟩))
    (fun os started H enc _ => lifted os started H enc)

end Go.Proofs.Ytckhcmdjgkoocaa.paceDoes
namespace Go.Proofs.Ytckhcmdjgkoocaa
theorem paceDoes_holds : Rows.PaceDoesSaid := paceDoes.over
#print axioms paceDoes_holds
end Go.Proofs.Ytckhcmdjgkoocaa
