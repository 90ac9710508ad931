/-
  PaceLeads: in each row of four views for each seat each one leads four.
-/
import Derived.Test.YtckhcmdjgkoocaaRows
import Derived.Test.YtckhcmdjgkoocaaPaceLeads
import Derived.WalkKit
import Derived.ProofKit
import Derived.OpenShut
import Derived.Below
import Derived.Test.YtckhcmdjgkoocaaSxRow
namespace Go.Proofs.Ytckhcmdjgkoocaa.paceLeads
open Go.ChangeShapes Go.WideShapes Go.ChangeAt Go.RowKit Go.Sx
set_option linter.unusedVariables false
set_option linter.unusedSimpArgs false

theorem own : ownKnob Try.prog.godebug = none := by kernel_rfl
theorem laidOut : laidOutB Try.prog = true := by kernel_rfl

set_option maxRecDepth 100000 in
theorem lifted (os : Os) (started : os.Started) (H : Type) (enc : TypeId × Value → H) :
    ReturnsInHanded {} Try.checked os 12 .any (Rows.paceLeadsSpec.pre6 enc Try.prog Try.f12 Rows.paceLeadsRow.domain false) (Rows.paceLeadsSpec.post enc Try.prog Try.f12 false true false false) := by
  refine returnsInHanded_of_change (C := Try.checked) own started (by kernel_rfl) Try.func12
    (ChangeSpec.witness6 (enc := enc) (C := Try.checked) false ⟨#[], #[.slice none 0 0, .int .i64 0], []⟩ 12 (by kernel_rfl) (by kernel_rfl) (by kernel_rfl) (by kernel_rfl)) ?_
  intro W base args ds gs before hval0 hW hcnd _
  have hval : ∀ (j : Nat) t v, Try.f12.params[j]? = some t → args[j]? = some v → Value.okWide Try.prog W .any base t v := hval0
  have hW' := hW
  obtain ⟨p, q, hA0, hV, rfl, hfz, hnd⟩ := hW
  have hA : DataW.TrodAll enc Try.prog W 0 (fun _ => true) true Try.f12.params.toList args.toList ds p := hA0
  rw [Try.params12] at hA hval
  obtain ⟨v0, vs0, d0, ds0, p0, q0, hargs, rfl, rfl, h0, r0⟩ := trodAll_cons hA
  obtain ⟨v1, vs1, d1, ds1, p1, q1, rfl, rfl, rfl, h1, r1⟩ := trodAll_cons r0
  obtain ⟨rfl, rfl, rfl⟩ := trodAll_nil r1
  obtain rfl : args = #[v0, v1] := by cases args; simp_all
  obtain ⟨rfl, rfl⟩ := trodVars_none hV
  have k0 := h0
  have lt0 : ∀ x ∈ p0, x.block < W.heap.size := by obtain ⟨m, hm⟩ := k0; exact DataW.trod_lt m _ _ _ hm
  have k1 := h1
  have lt1 : ∀ x ∈ p1, x.block < W.heap.size := by obtain ⟨m, hm⟩ := k1; exact DataW.trod_lt m _ _ _ hm
  clear hA0 hval0
  obtain ⟨a0, len0, cap0, b0, off0, c0, rfl, lc0, cm0, an0, mt0, hb0, hc0⟩ : ∃ (a : Option Addr) (len cap b off : Nat) (c : Nat → List Chunk), v0 = .slice a len cap ∧ len ≤ cap ∧ cap ≤ maxLen ∧ (a = none → len = 0) ∧ (∀ i, i < len → MatchL (Rd enc Try.prog W 0 (fun _ => true) true) [.i .i64] (c i)) ∧ (0 < len → a = some ⟨b, off, none⟩ ∧ b < W.heap.size) ∧ ∀ i, i < len → CellsAt W b (off + i * 1) (c i) := by
    obtain ⟨fuel, hf⟩ := h0
    have hv1 : v0.cells.toList = [v0] := cells_one (hval 0 56 v0 rfl rfl) (by kernel_rfl)
    rw [hv1] at hf
    exact slice_open (d := 9) Try.underlying56 (by kernel_rfl) (by kernel_rfl) (by decide) hf
  obtain ⟨x, hx⟩ := @Deep.choose_lt Int ⟨0⟩ _ _ (fun i hi => Pc.int_of (mt0 i hi))
  obtain ⟨view, rfl, rfl, rfl, wview⟩ := open_int Try.underlying2 (hval 1 2 v1 rfl rfl) h1
  refine (Pc.paceLeads_any a0 len0 cap0 b0 off0 x lc0 cm0 view W hb0 (fun i hi => by have := hc0 i hi; rw [(hx i hi)] at this; exact this) (fun _ => 0)).mono fun e W' ⟨he, bel⟩ => ?_
  subst he
  exact ⟨_, rfl, _, _, _, [], _, [], hW', trodAll_mk1 (shut_bool Try.underlying4 _), (trodAll_cons_mk (Below.trod laidOut (by kernel_rfl) (of_decide_eq_true (by kernel_rfl)) k0 bel lt0) (trodAll_cons_mk (Below.trod laidOut (by kernel_rfl) (of_decide_eq_true (by kernel_rfl)) k1 bel lt1) (trodAll_mk0))), rfl, bel.frame _, fun h => by cases h⟩

theorem over : Rows.paceLeadsRow.holds Try.pinned (OpenSpec.ofChange Rows.paceLeadsSpec) :=
  OpenClaim.holds_of_wide 12 Try.f12 rfl rfl rfl rfl rfl rfl rfl ⟨rfl, rfl, rfl, rfl, rfl⟩ rfl rfl rfl rfl rfl (by kernel_rfl) Try.func12 (by kernel_rfl)
    (of_decide_eq_true (by kernel_rfl)) (by unfold Func.isWrapper; first | (rw [if_pos (by decide +kernel)]; kernel_rfl) | (rw [if_neg (by decide +kernel)]; exact ⟨rfl, rfl⟩))
    (fun os started H enc _ => lifted os started H enc)

end Go.Proofs.Ytckhcmdjgkoocaa.paceLeads
namespace Go.Proofs.Ytckhcmdjgkoocaa
theorem paceLeads_holds : Rows.PaceLeadsSaid := paceLeads.over
#print axioms paceLeads_holds
end Go.Proofs.Ytckhcmdjgkoocaa
