/- A run of four validators: a move, whoever moves. -/
import Derived.Test.YtckhcmdjgkoocaaRulesP2
namespace Go.Proofs.Ytckhcmdjgkoocaa
open Go.RowKit Go.Sx
set_option linter.unusedVariables false
set_option linter.unusedSimpArgs false

def mwho (m : Mv) : Nat := ((IntKind.wrap .i64 (Int.tmod (IntKind.wrap .u64 m.who) 4))).toNat
theorem who4 (x : Int) : IntKind.wrap .i64 (Int.tmod (IntKind.wrap .u64 x) 4) = 0 ∨ IntKind.wrap .i64 (Int.tmod (IntKind.wrap .u64 x) 4) = 1 ∨ IntKind.wrap .i64 (Int.tmod (IntKind.wrap .u64 x) 4) = 2 ∨ IntKind.wrap .i64 (Int.tmod (IntKind.wrap .u64 x) 4) = 3 := by
  rw [Int.tmod_eq_emod_of_nonneg (u64_ge x)]
  have h1 := Int.emod_nonneg (IntKind.wrap .u64 x) (show (4 : Int) ≠ 0 by decide)
  have h2 := Int.emod_lt_of_pos (IntKind.wrap .u64 x) (show (0 : Int) < 4 by decide)
  rw [i64_of (by omega) (by omega)]
  omega


set_option maxHeartbeats 4000000 in
theorem play_any (r : Run) (cap : Nat) (rest : List Value) (hr : r.ok cap rest) (m : Mv) (w : World) (ρ : Nat → Nat) (hH : HeapAt ρ [(100000, ⟨(cRun 100001 r.n cap r.s0 r.s1 r.s2), 51⟩), (100001, ⟨[.vals (rowV gB r.L ++ rest)], 47⟩)] w) :
    Calls Try.prog 24 ([sL 100000 0, .agg [cI .i64 m.kind, cI .i64 m.who, cI .i64 m.block, cI .i64 m.view]].map (SV.conc ρ)).toArray w fun r' w' => ∃ (x : Option (Nat × List Value)) (σ : Nat → Nat), playOk r m x ∧ r' = .returned (EV.conc σ (.t [])) ∧ Ran ρ [(100000, ⟨(cRun 100001 r.n cap r.s0 r.s1 r.s2), 51⟩), (100001, ⟨[.vals (rowV gB r.L ++ rest)], 47⟩)] (playH r m (mwho m) cap rest x) w w' σ := by
  rcases who4 m.who with h | h | h | h
  · rw [show mwho m = 0 from by unfold mwho; rw [h]; rfl]; exact play0_any r cap rest hr m h w ρ hH
  · rw [show mwho m = 1 from by unfold mwho; rw [h]; rfl]; exact play1_any r cap rest hr m h w ρ hH
  · rw [show mwho m = 2 from by unfold mwho; rw [h]; rfl]; exact play2_any r cap rest hr m h w ρ hH
  · rw [show mwho m = 3 from by unfold mwho; rw [h]; rfl]; exact play3_any r cap rest hr m h w ρ hH

end Go.Proofs.Ytckhcmdjgkoocaa
