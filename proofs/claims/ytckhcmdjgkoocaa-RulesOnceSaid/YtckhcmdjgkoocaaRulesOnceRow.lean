/-
  RulesOnce: no view is voted in twice, nor behind having been given up; nothing that is kept ever falls: for every root and row of steps.
-/
import Derived.Test.YtckhcmdjgkoocaaRows
import Derived.Test.YtckhcmdjgkoocaaRulesA
import Derived.WalkKit
import Derived.ProofKit
import Derived.OpenShut
import Derived.Below
import Derived.Test.YtckhcmdjgkoocaaSxRow
namespace Go.Proofs.Ytckhcmdjgkoocaa.rulesOnce
open Go.ChangeShapes Go.WideShapes Go.ChangeAt Go.RowKit Go.Sx
set_option linter.unusedVariables false
set_option linter.unusedSimpArgs false

theorem own : ownKnob Try.prog.godebug = none := by kernel_rfl
theorem laidOut : laidOutB Try.prog = true := by kernel_rfl

set_option maxRecDepth 100000 in
theorem lifted (os : Os) (started : os.Started) (H : Type) (enc : TypeId × Value → H) :
    ReturnsInHanded {} Try.checked os 4 .any (Rows.rulesOnceSpec.pre6 enc Try.prog Try.f4 Rows.rulesOnceRow.domain false) (Rows.rulesOnceSpec.post enc Try.prog Try.f4 false true false false) := by
  refine returnsInHanded_of_change (C := Try.checked) own started (by kernel_rfl) Try.func4
    (ChangeSpec.witness6 (enc := enc) (C := Try.checked) false ⟨#[], #[.agg #[.int .u8 0, .int .u8 0, .int .u8 0, .int .u8 0, .int .u8 0, .int .u8 0, .int .u8 0, .int .u8 0, .int .u8 0, .int .u8 0, .int .u8 0, .int .u8 0, .int .u8 0, .int .u8 0, .int .u8 0, .int .u8 0, .int .u8 0, .int .u8 0, .int .u8 0, .int .u8 0, .int .u8 0, .int .u8 0, .int .u8 0, .int .u8 0, .int .u8 0, .int .u8 0, .int .u8 0, .int .u8 0, .int .u8 0, .int .u8 0, .int .u8 0, .int .u8 0], .slice none 0 0], []⟩ 12 (by kernel_rfl) (by kernel_rfl) (by kernel_rfl) (by kernel_rfl)) ?_
  intro W base args ds gs before hval0 hW hcnd _
  have hval : ∀ (j : Nat) t v, Try.f4.params[j]? = some t → args[j]? = some v → Value.okWide Try.prog W .any base t v := hval0
  have hW' := hW
  obtain ⟨p, q, hA0, hV, rfl, hfz, hnd⟩ := hW
  have hA : DataW.TrodAll enc Try.prog W 0 (fun _ => true) true Try.f4.params.toList args.toList ds p := hA0
  rw [Try.params4] at hA hval
  obtain ⟨v0, vs0, d0, ds0, p0, q0, hargs, rfl, rfl, h0, r0⟩ := trodAll_cons hA
  obtain ⟨v1, vs1, d1, ds1, p1, q1, rfl, rfl, rfl, h1, r1⟩ := trodAll_cons r0
  obtain ⟨rfl, rfl, rfl⟩ := trodAll_nil r1
  obtain rfl : args = #[v0, v1] := by cases args; simp_all
  obtain ⟨rfl, rfl⟩ := trodVars_none hV
  have k0 := h0
  have lt0 : ∀ x ∈ p0, x.block < W.heap.size := by obtain ⟨m, hm⟩ := k0; exact DataW.trod_lt m _ _ _ hm
  have k1 := h1
  have lt1 : ∀ x ∈ p1, x.block < W.heap.size := by obtain ⟨m, hm⟩ := k1; exact DataW.trod_lt m _ _ _ hm
  clear hA0 hval0
  obtain ⟨cs0, rfl, m0⟩ : ∃ cs, v0 = .agg (flat (fun _ => 0) cs).toArray ∧ MatchL (Rd enc Try.prog W 0 (fun _ => true) true) [.is .u8 32] cs := by
    obtain ⟨fuel, hf⟩ := h0
    exact val_open (d := 9) (hval 0 23 v0 rfl rfl) (by kernel_rfl) (by kernel_rfl) hf
  obtain ⟨D, rfl, oD⟩ := dig_of m0
  obtain ⟨a1, len1, cap1, b1, off1, c1, rfl, lc1, cm1, an1, mt1, hb1, hc1⟩ : ∃ (a : Option Addr) (len cap b off : Nat) (c : Nat → List Chunk), v1 = .slice a len cap ∧ len ≤ cap ∧ cap ≤ maxLen ∧ (a = none → len = 0) ∧ (∀ i, i < len → MatchL (Rd enc Try.prog W 0 (fun _ => true) true) [.i .i64, .i .i64, .i .i64, .is .u8 32, .b] (c i)) ∧ (0 < len → a = some ⟨b, off, none⟩ ∧ b < W.heap.size) ∧ ∀ i, i < len → CellsAt W b (off + i * 36) (c i) := by
    obtain ⟨fuel, hf⟩ := h1
    have hv1 : v1.cells.toList = [v1] := cells_one (hval 1 39 v1 rfl rfl) (by kernel_rfl)
    rw [hv1] at hf
    exact slice_open (d := 9) Try.underlying39 (by kernel_rfl) (by kernel_rfl) (by decide) hf
  obtain ⟨x, hx⟩ := @Deep.choose_lt Step ⟨⟨0, 0, 0, [], false⟩⟩ _ _ (fun i hi => step_of (mt1 i hi))
  refine (rulesOnce_any D oD a1 len1 cap1 b1 off1 x (fun i hi => (hx i hi).2) lc1 cm1 W hb1 (fun i hi => by have := hc1 i hi; rw [(hx i hi).1] at this; exact this) (fun _ => 0)).mono fun e W' ⟨he, bel⟩ => ?_
  subst he
  exact ⟨_, rfl, _, _, _, [], _, [], hW', trodAll_mk1 (shut_bool Try.underlying4 _), (trodAll_cons_mk (Below.trod laidOut (by kernel_rfl) (of_decide_eq_true (by kernel_rfl)) k0 bel lt0) (trodAll_cons_mk (Below.trod laidOut (by kernel_rfl) (of_decide_eq_true (by kernel_rfl)) k1 bel lt1) (trodAll_mk0))), rfl, bel.frame _, fun h => by cases h⟩

theorem over : Rows.rulesOnceRow.holds Try.pinned (OpenSpec.ofChange Rows.rulesOnceSpec) :=
  OpenClaim.holds_of_wide 4 Try.f4 rfl rfl rfl rfl rfl rfl rfl ⟨rfl, rfl, rfl, rfl, rfl⟩ rfl rfl rfl rfl rfl (by kernel_rfl) Try.func4 (by kernel_rfl)
    (of_decide_eq_true (by kernel_rfl)) (by unfold Func.isWrapper; first | (rw [if_pos (by decide +kernel)]; kernel_rfl) | (rw [if_neg (by decide +kernel)]; exact ⟨rfl, rfl⟩))
    (fun os started H enc _ => lifted os started H enc)

end Go.Proofs.Ytckhcmdjgkoocaa.rulesOnce
namespace Go.Proofs.Ytckhcmdjgkoocaa
theorem rulesOnce_holds : Rows.RulesOnceSaid := rulesOnce.over
#print axioms rulesOnce_holds
end Go.Proofs.Ytckhcmdjgkoocaa
