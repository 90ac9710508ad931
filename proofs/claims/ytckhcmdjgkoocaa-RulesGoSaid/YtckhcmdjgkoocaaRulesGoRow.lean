/-
  RulesGo: the rules never stop who works together: for every row of moves.
-/
import Derived.Test.YtckhcmdjgkoocaaRows
import Derived.Test.YtckhcmdjgkoocaaRulesGo
import Derived.WalkKit
import Derived.ProofKit
import Derived.OpenShut
import Derived.Below
import Derived.Test.YtckhcmdjgkoocaaSxRow
namespace Go.Proofs.Ytckhcmdjgkoocaa.rulesGo
open Go.ChangeShapes Go.WideShapes Go.ChangeAt Go.RowKit Go.Sx
set_option linter.unusedVariables false
set_option linter.unusedSimpArgs false

theorem own : ownKnob Try.prog.godebug = none := by kernel_rfl
theorem laidOut : laidOutB Try.prog = true := by kernel_rfl

set_option maxRecDepth 100000 in
theorem lifted (os : Os) (started : os.Started) (H : Type) (enc : TypeId × Value → H) :
    ReturnsInHanded {} Try.checked os 8 .any (Rows.rulesGoSpec.pre6 enc Try.prog Try.f8 Rows.rulesGoRow.domain false) (Rows.rulesGoSpec.post enc Try.prog Try.f8 false true false false) := by
  refine returnsInHanded_of_change (C := Try.checked) own started (by kernel_rfl) Try.func8
    (ChangeSpec.witness6 (enc := enc) (C := Try.checked) false ⟨#[], #[.slice none 0 0], []⟩ 12 (by kernel_rfl) (by kernel_rfl) (by kernel_rfl) (by kernel_rfl)) ?_
  intro W base args ds gs before hval0 hW hcnd _
  have hval : ∀ (j : Nat) t v, Try.f8.params[j]? = some t → args[j]? = some v → Value.okWide Try.prog W .any base t v := hval0
  have hW' := hW
  obtain ⟨p, q, hA0, hV, rfl, hfz, hnd⟩ := hW
  have hA : DataW.TrodAll enc Try.prog W 0 (fun _ => true) true Try.f8.params.toList args.toList ds p := hA0
  rw [Try.params8] at hA hval
  obtain ⟨v0, vs0, d0, ds0, p0, q0, hargs, rfl, rfl, h0, r0⟩ := trodAll_cons hA
  obtain ⟨rfl, rfl, rfl⟩ := trodAll_nil r0
  obtain rfl : args = #[v0] := by cases args; simp_all
  obtain ⟨rfl, rfl⟩ := trodVars_none hV
  have k0 := h0
  have lt0 : ∀ x ∈ p0, x.block < W.heap.size := by obtain ⟨m, hm⟩ := k0; exact DataW.trod_lt m _ _ _ hm
  clear hA0 hval0
  obtain ⟨a0, len0, cap0, b0, off0, c0, rfl, lc0, cm0, an0, mt0, hb0, hc0⟩ : ∃ (a : Option Addr) (len cap b off : Nat) (c : Nat → List Chunk), v0 = .slice a len cap ∧ len ≤ cap ∧ cap ≤ maxLen ∧ (a = none → len = 0) ∧ (∀ i, i < len → MatchL (Rd enc Try.prog W 0 (fun _ => true) true) [.i .i64, .i .i64, .i .i64, .i .i64] (c i)) ∧ (0 < len → a = some ⟨b, off, none⟩ ∧ b < W.heap.size) ∧ ∀ i, i < len → CellsAt W b (off + i * 4) (c i) := by
    obtain ⟨fuel, hf⟩ := h0
    have hv1 : v0.cells.toList = [v0] := cells_one (hval 0 43 v0 rfl rfl) (by kernel_rfl)
    rw [hv1] at hf
    exact slice_open (d := 9) Try.underlying43 (by kernel_rfl) (by kernel_rfl) (by decide) hf
  obtain ⟨x, hx⟩ := @Deep.choose_lt Mv ⟨⟨0, 0, 0, 0⟩⟩ _ _ (fun i hi => mv_of (mt0 i hi))
  refine (rulesGo_any a0 len0 cap0 b0 off0 x lc0 cm0 W hb0 (fun i hi => by have := hc0 i hi; rw [hx i hi] at this; exact this) (fun _ => 0)).mono fun e W' ⟨he, bel⟩ => ?_
  subst he
  exact ⟨_, rfl, _, _, _, [], _, [], hW', trodAll_mk1 (shut_bool Try.underlying4 _), (trodAll_cons_mk (Below.trod laidOut (by kernel_rfl) (of_decide_eq_true (by kernel_rfl)) k0 bel lt0) (trodAll_mk0)), rfl, bel.frame _, fun h => by cases h⟩

theorem over : Rows.rulesGoRow.holds Try.pinned (OpenSpec.ofChange Rows.rulesGoSpec) :=
  OpenClaim.holds_of_wide 8 Try.f8 rfl rfl rfl rfl rfl rfl rfl ⟨rfl, rfl, rfl, rfl, rfl⟩ rfl rfl rfl rfl rfl (by kernel_rfl) Try.func8 (by kernel_rfl)
    (of_decide_eq_true (by kernel_rfl)) (by unfold Func.isWrapper; first | (rw [if_pos (by decide +kernel)]; kernel_rfl) | (rw [if_neg (by decide +kernel)]; exact ⟨rfl, rfl⟩))
    (fun os started H enc _ => lifted os started H enc)

end Go.Proofs.Ytckhcmdjgkoocaa.rulesGo
namespace Go.Proofs.Ytckhcmdjgkoocaa
theorem rulesGo_holds : Rows.RulesGoSaid := rulesGo.over
#print axioms rulesGo_holds
end Go.Proofs.Ytckhcmdjgkoocaa
