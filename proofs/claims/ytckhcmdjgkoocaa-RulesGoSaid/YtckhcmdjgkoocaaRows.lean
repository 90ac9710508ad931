/-
  No cell of these rows narrows 'for every input' (looked for: loops, veiled, ifaces, maps, wideKeys, modest, calm, conditions, laid).
  DERIVED. THE GIVEN ROWS OF THIS SEAT. 12 by the template 'for every input the law returns true; each argument reads behind the call as it read before'; 0 by the template 'total and deterministic' (their statements: YtckhcmdjgkoocaaTotals.lean).
  GIVEN WITH THE SEED: the statements are not yours to turn. If you find one false, say at which input.
  Laid BY PROGRAM, IN A SANDBOX (cutbox-rows.mjs): the forced cells as the released guide's own fill.sh prints them over the translation 88f88310d5bc49bf… (all of the seat's roots in one cut). By AI agents, Wed Nov 11 2026. No macro, syntax, notation, axiom, sorry.
-/
import Derived.Test.YtckhcmdjgkoocaaChecked
import GoSem.Claim
import GoSem.ClaimJoined
import GoSem.ClaimMapViews
import Derived.JoinedTies
import Derived.KernelRfl
namespace Go.Proofs.Ytckhcmdjgkoocaa
/- THE CELL 'sum', in the pinned program and in every row, IS THE sha256 OF THE DUMP (.gsa) THAT YtckhcmdjgkoocaaProg.lean LOADS. Nothing in Lean hashes anything: it is a label: what it is worth is what the hold of that sum in a sandbox is worth. -/
noncomputable def Try.pinned : Pinned := { name := "ytckhcmdjgkoocaa", sum := "88f88310d5bc49bf89599fffc6bb30ea8b1db31fcd9a2091142726dff1d94f31", checked := Try.checked }
namespace Rows
def none {H : Type} : Left H := { results := [], args := [] }

/-- 'wapentakelaw15.RulesDo': WHATEVER THE INPUT: true; the input reads as it did. -/
def rulesDoSpec : ChangeSpec := { name := "rulesDo", fn := fun _ => fun
  | [d1, d2] => { results := [.lit (.bool true)], args := [d1, d2] }
  | _ => none }
def rulesDoRow : OpenClaim := { program := "ytckhcmdjgkoocaa", sum := "88f88310d5bc49bf89599fffc6bb30ea8b1db31fcd9a2091142726dff1d94f31", func := "wapentake/wapentakelaw15.RulesDo", spec := "rulesDo", apart := false }
def RulesDoSaid : Prop := rulesDoRow.holds Try.pinned (OpenSpec.ofChange rulesDoSpec)

/-- ITS FALSE NEIGHBOUR: 'it returns false'. Refute it at one input. -/
def rulesDoWrong : ChangeSpec := { name := "rulesDo", fn := fun _ => fun
  | [d1, d2] => { results := [.lit (.bool false)], args := [d1, d2] }
  | _ => none }
def RulesDoWrongFalsely : Prop := rulesDoRow.holds Try.pinned (OpenSpec.ofChange rulesDoWrong)

/-- 'wapentakelaw15.RulesOnce': WHATEVER THE INPUT: true; the input reads as it did. -/
def rulesOnceSpec : ChangeSpec := { name := "rulesOnce", fn := fun _ => fun
  | [d1, d2] => { results := [.lit (.bool true)], args := [d1, d2] }
  | _ => none }
def rulesOnceRow : OpenClaim := { program := "ytckhcmdjgkoocaa", sum := "88f88310d5bc49bf89599fffc6bb30ea8b1db31fcd9a2091142726dff1d94f31", func := "wapentake/wapentakelaw15.RulesOnce", spec := "rulesOnce", apart := false }
def RulesOnceSaid : Prop := rulesOnceRow.holds Try.pinned (OpenSpec.ofChange rulesOnceSpec)

/-- ITS FALSE NEIGHBOUR: 'it returns false'. Refute it at one input. -/
def rulesOnceWrong : ChangeSpec := { name := "rulesOnce", fn := fun _ => fun
  | [d1, d2] => { results := [.lit (.bool false)], args := [d1, d2] }
  | _ => none }
def RulesOnceWrongFalsely : Prop := rulesOnceRow.holds Try.pinned (OpenSpec.ofChange rulesOnceWrong)

/-- 'wapentakelaw15.RulesLock': WHATEVER THE INPUT: true; the input reads as it did. -/
def rulesLockSpec : ChangeSpec := { name := "rulesLock", fn := fun _ => fun
  | [d1, d2, d3] => { results := [.lit (.bool true)], args := [d1, d2, d3] }
  | _ => none }
def rulesLockRow : OpenClaim := { program := "ytckhcmdjgkoocaa", sum := "88f88310d5bc49bf89599fffc6bb30ea8b1db31fcd9a2091142726dff1d94f31", func := "wapentake/wapentakelaw15.RulesLock", spec := "rulesLock", apart := false }
def RulesLockSaid : Prop := rulesLockRow.holds Try.pinned (OpenSpec.ofChange rulesLockSpec)

/-- ITS FALSE NEIGHBOUR: 'it returns false'. Refute it at one input. -/
def rulesLockWrong : ChangeSpec := { name := "rulesLock", fn := fun _ => fun
  | [d1, d2, d3] => { results := [.lit (.bool false)], args := [d1, d2, d3] }
  | _ => none }
def RulesLockWrongFalsely : Prop := rulesLockRow.holds Try.pinned (OpenSpec.ofChange rulesLockWrong)

/-- 'wapentakelaw15.RulesAgree': WHATEVER THE INPUT: true; the input reads as it did. -/
def rulesAgreeSpec : ChangeSpec := { name := "rulesAgree", fn := fun _ => fun
  | [d] => { results := [.lit (.bool true)], args := [d] }
  | _ => none }
def rulesAgreeRow : OpenClaim := { program := "ytckhcmdjgkoocaa", sum := "88f88310d5bc49bf89599fffc6bb30ea8b1db31fcd9a2091142726dff1d94f31", func := "wapentake/wapentakelaw15.RulesAgree", spec := "rulesAgree", apart := false }
def RulesAgreeSaid : Prop := rulesAgreeRow.holds Try.pinned (OpenSpec.ofChange rulesAgreeSpec)

/-- ITS FALSE NEIGHBOUR: 'it returns false'. Refute it at one input. -/
def rulesAgreeWrong : ChangeSpec := { name := "rulesAgree", fn := fun _ => fun
  | [d] => { results := [.lit (.bool false)], args := [d] }
  | _ => none }
def RulesAgreeWrongFalsely : Prop := rulesAgreeRow.holds Try.pinned (OpenSpec.ofChange rulesAgreeWrong)

/-- 'wapentakelaw15.RulesView': WHATEVER THE INPUT: true; the input reads as it did. -/
def rulesViewSpec : ChangeSpec := { name := "rulesView", fn := fun _ => fun
  | [d] => { results := [.lit (.bool true)], args := [d] }
  | _ => none }
def rulesViewRow : OpenClaim := { program := "ytckhcmdjgkoocaa", sum := "88f88310d5bc49bf89599fffc6bb30ea8b1db31fcd9a2091142726dff1d94f31", func := "wapentake/wapentakelaw15.RulesView", spec := "rulesView", apart := false }
def RulesViewSaid : Prop := rulesViewRow.holds Try.pinned (OpenSpec.ofChange rulesViewSpec)

/-- ITS FALSE NEIGHBOUR: 'it returns false'. Refute it at one input. -/
def rulesViewWrong : ChangeSpec := { name := "rulesView", fn := fun _ => fun
  | [d] => { results := [.lit (.bool false)], args := [d] }
  | _ => none }
def RulesViewWrongFalsely : Prop := rulesViewRow.holds Try.pinned (OpenSpec.ofChange rulesViewWrong)

/-- 'wapentakelaw15.RulesGo': WHATEVER THE INPUT: true; the input reads as it did. -/
def rulesGoSpec : ChangeSpec := { name := "rulesGo", fn := fun _ => fun
  | [d] => { results := [.lit (.bool true)], args := [d] }
  | _ => none }
def rulesGoRow : OpenClaim := { program := "ytckhcmdjgkoocaa", sum := "88f88310d5bc49bf89599fffc6bb30ea8b1db31fcd9a2091142726dff1d94f31", func := "wapentake/wapentakelaw15.RulesGo", spec := "rulesGo", apart := false }
def RulesGoSaid : Prop := rulesGoRow.holds Try.pinned (OpenSpec.ofChange rulesGoSpec)

/-- ITS FALSE NEIGHBOUR: 'it returns false'. Refute it at one input. -/
def rulesGoWrong : ChangeSpec := { name := "rulesGo", fn := fun _ => fun
  | [d] => { results := [.lit (.bool false)], args := [d] }
  | _ => none }
def RulesGoWrongFalsely : Prop := rulesGoRow.holds Try.pinned (OpenSpec.ofChange rulesGoWrong)

/-- 'wapentakelaw16.PaceDoes': WHATEVER THE INPUT: true; the input reads as it did. -/
def paceDoesSpec : ChangeSpec := { name := "paceDoes", fn := fun _ => fun
  | [d1, d2, d3, d4, d5] => { results := [.lit (.bool true)], args := [d1, d2, d3, d4, d5] }
  | _ => none }
def paceDoesRow : OpenClaim := { program := "ytckhcmdjgkoocaa", sum := "88f88310d5bc49bf89599fffc6bb30ea8b1db31fcd9a2091142726dff1d94f31", func := "wapentake/wapentakelaw16.PaceDoes", spec := "paceDoes", apart := false }
def PaceDoesSaid : Prop := paceDoesRow.holds Try.pinned (OpenSpec.ofChange paceDoesSpec)

/-- ITS FALSE NEIGHBOUR: 'it returns false'. Refute it at one input. -/
def paceDoesWrong : ChangeSpec := { name := "paceDoes", fn := fun _ => fun
  | [d1, d2, d3, d4, d5] => { results := [.lit (.bool false)], args := [d1, d2, d3, d4, d5] }
  | _ => none }
def PaceDoesWrongFalsely : Prop := paceDoesRow.holds Try.pinned (OpenSpec.ofChange paceDoesWrong)

/-- 'wapentakelaw16.PaceBound': WHATEVER THE INPUT: true; the input reads as it did. -/
def paceBoundSpec : ChangeSpec := { name := "paceBound", fn := fun _ => fun
  | [d1, d2, d3] => { results := [.lit (.bool true)], args := [d1, d2, d3] }
  | _ => none }
def paceBoundRow : OpenClaim := { program := "ytckhcmdjgkoocaa", sum := "88f88310d5bc49bf89599fffc6bb30ea8b1db31fcd9a2091142726dff1d94f31", func := "wapentake/wapentakelaw16.PaceBound", spec := "paceBound", apart := false }
def PaceBoundSaid : Prop := paceBoundRow.holds Try.pinned (OpenSpec.ofChange paceBoundSpec)

/-- ITS FALSE NEIGHBOUR: 'it returns false'. Refute it at one input. -/
def paceBoundWrong : ChangeSpec := { name := "paceBound", fn := fun _ => fun
  | [d1, d2, d3] => { results := [.lit (.bool false)], args := [d1, d2, d3] }
  | _ => none }
def PaceBoundWrongFalsely : Prop := paceBoundRow.holds Try.pinned (OpenSpec.ofChange paceBoundWrong)

/-- 'wapentakelaw16.PaceFires': WHATEVER THE INPUT: true; the input reads as it did. -/
def paceFiresSpec : ChangeSpec := { name := "paceFires", fn := fun _ => fun
  | [d1, d2, d3] => { results := [.lit (.bool true)], args := [d1, d2, d3] }
  | _ => none }
def paceFiresRow : OpenClaim := { program := "ytckhcmdjgkoocaa", sum := "88f88310d5bc49bf89599fffc6bb30ea8b1db31fcd9a2091142726dff1d94f31", func := "wapentake/wapentakelaw16.PaceFires", spec := "paceFires", apart := false }
def PaceFiresSaid : Prop := paceFiresRow.holds Try.pinned (OpenSpec.ofChange paceFiresSpec)

/-- ITS FALSE NEIGHBOUR: 'it returns false'. Refute it at one input. -/
def paceFiresWrong : ChangeSpec := { name := "paceFires", fn := fun _ => fun
  | [d1, d2, d3] => { results := [.lit (.bool false)], args := [d1, d2, d3] }
  | _ => none }
def PaceFiresWrongFalsely : Prop := paceFiresRow.holds Try.pinned (OpenSpec.ofChange paceFiresWrong)

/-- 'wapentakelaw16.PaceLeads': WHATEVER THE INPUT: true; the input reads as it did. -/
def paceLeadsSpec : ChangeSpec := { name := "paceLeads", fn := fun _ => fun
  | [d1, d2] => { results := [.lit (.bool true)], args := [d1, d2] }
  | _ => none }
def paceLeadsRow : OpenClaim := { program := "ytckhcmdjgkoocaa", sum := "88f88310d5bc49bf89599fffc6bb30ea8b1db31fcd9a2091142726dff1d94f31", func := "wapentake/wapentakelaw16.PaceLeads", spec := "paceLeads", apart := false }
def PaceLeadsSaid : Prop := paceLeadsRow.holds Try.pinned (OpenSpec.ofChange paceLeadsSpec)

/-- ITS FALSE NEIGHBOUR: 'it returns false'. Refute it at one input. -/
def paceLeadsWrong : ChangeSpec := { name := "paceLeads", fn := fun _ => fun
  | [d1, d2] => { results := [.lit (.bool false)], args := [d1, d2] }
  | _ => none }
def PaceLeadsWrongFalsely : Prop := paceLeadsRow.holds Try.pinned (OpenSpec.ofChange paceLeadsWrong)

/-- 'wapentakelaw16.PaceGain': WHATEVER THE INPUT: true; the input reads as it did. -/
def paceGainSpec : ChangeSpec := { name := "paceGain", fn := fun _ => fun
  | [d1, d2, d3, d4] => { results := [.lit (.bool true)], args := [d1, d2, d3, d4] }
  | _ => none }
def paceGainRow : OpenClaim := { program := "ytckhcmdjgkoocaa", sum := "88f88310d5bc49bf89599fffc6bb30ea8b1db31fcd9a2091142726dff1d94f31", func := "wapentake/wapentakelaw16.PaceGain", spec := "paceGain", apart := false }
def PaceGainSaid : Prop := paceGainRow.holds Try.pinned (OpenSpec.ofChange paceGainSpec)

/-- ITS FALSE NEIGHBOUR: 'it returns false'. Refute it at one input. -/
def paceGainWrong : ChangeSpec := { name := "paceGain", fn := fun _ => fun
  | [d1, d2, d3, d4] => { results := [.lit (.bool false)], args := [d1, d2, d3, d4] }
  | _ => none }
def PaceGainWrongFalsely : Prop := paceGainRow.holds Try.pinned (OpenSpec.ofChange paceGainWrong)

/-- 'wapentakelaw16.PaceDoubles': WHATEVER THE INPUT: true; the input reads as it did. -/
def paceDoublesSpec : ChangeSpec := { name := "paceDoubles", fn := fun _ => fun
  | [d1, d2, d3] => { results := [.lit (.bool true)], args := [d1, d2, d3] }
  | _ => none }
def paceDoublesRow : OpenClaim := { program := "ytckhcmdjgkoocaa", sum := "88f88310d5bc49bf89599fffc6bb30ea8b1db31fcd9a2091142726dff1d94f31", func := "wapentake/wapentakelaw16.PaceDoubles", spec := "paceDoubles", apart := false }
def PaceDoublesSaid : Prop := paceDoublesRow.holds Try.pinned (OpenSpec.ofChange paceDoublesSpec)

/-- ITS FALSE NEIGHBOUR: 'it returns false'. Refute it at one input. -/
def paceDoublesWrong : ChangeSpec := { name := "paceDoubles", fn := fun _ => fun
  | [d1, d2, d3] => { results := [.lit (.bool false)], args := [d1, d2, d3] }
  | _ => none }
def PaceDoublesWrongFalsely : Prop := paceDoublesRow.holds Try.pinned (OpenSpec.ofChange paceDoublesWrong)

/- THE SECOND FORM. 'bulk': how many values and letters a reading holds, each counted each time it is reached (what is shared counts as often as it is met; a slice's spare places count too). A statement '..UptoSaid' is the law's where the arguments, and the package variables that the reading takes, are together of bulk at most 1048576: NARROWER than '..Said'. Prove '..Said' where nothing that the law and all that it calls make is longer than what came in: it says more and counts as full. Else prove '..UptoSaid'. A law counts once. -/
mutual
def uptoBulk {H : Type} : DataW H → Nat
  | .lit (.string bytes) => bytes.length + 1
  | .lit _ => 1
  | .nil => 1
  | .ptr d => uptoBulk d + 1
  | .slice elems spare => uptoBulkAll elems + uptoBulkAll spare + 1
  | .agg parts => uptoBulkAll parts + 1
  | .iface _ d => uptoBulk d + 1
  | .map entries => uptoBulkEntries entries + 1
  | .held _ => 1
def uptoBulkAll {H : Type} : List (DataW H) → Nat
  | [] => 0
  | d :: r => uptoBulk d + uptoBulkAll r
def uptoBulkEntries {H : Type} : List (Lit × DataW H) → Nat
  | [] => 0
  | x :: r => uptoBulkEntry x + uptoBulkEntries r
def uptoBulkEntry {H : Type} : Lit × DataW H → Nat
  | (.string bytes, d) => bytes.length + uptoBulk d + 1
  | (_, d) => uptoBulk d + 1
 end
def uptoSmall : (H : Type) → List (DataW H) → Bool := fun _ ds => decide (uptoBulkAll ds ≤ 1048576)
def OpenSpec.upto (s : _root_.Go.ChangeSpec) : _root_.Go.OpenSpec := { _root_.Go.OpenSpec.ofChange s with cond := some uptoSmall }

/-- 'wapentakelaw15.RulesDo', WHERE WHAT IT READS IS OF BULK AT MOST 1048576: true; the input reads as it did. -/
def rulesDoUptoRow : OpenClaim := { program := "ytckhcmdjgkoocaa", sum := "88f88310d5bc49bf89599fffc6bb30ea8b1db31fcd9a2091142726dff1d94f31", func := "wapentake/wapentakelaw15.RulesDo", spec := "rulesDo", apart := false, narrowed := true }
def RulesDoUptoSaid : Prop := rulesDoUptoRow.holds Try.pinned (OpenSpec.upto rulesDoSpec)

/-- 'wapentakelaw15.RulesOnce', WHERE WHAT IT READS IS OF BULK AT MOST 1048576: true; the input reads as it did. -/
def rulesOnceUptoRow : OpenClaim := { program := "ytckhcmdjgkoocaa", sum := "88f88310d5bc49bf89599fffc6bb30ea8b1db31fcd9a2091142726dff1d94f31", func := "wapentake/wapentakelaw15.RulesOnce", spec := "rulesOnce", apart := false, narrowed := true }
def RulesOnceUptoSaid : Prop := rulesOnceUptoRow.holds Try.pinned (OpenSpec.upto rulesOnceSpec)

/-- 'wapentakelaw15.RulesLock', WHERE WHAT IT READS IS OF BULK AT MOST 1048576: true; the input reads as it did. -/
def rulesLockUptoRow : OpenClaim := { program := "ytckhcmdjgkoocaa", sum := "88f88310d5bc49bf89599fffc6bb30ea8b1db31fcd9a2091142726dff1d94f31", func := "wapentake/wapentakelaw15.RulesLock", spec := "rulesLock", apart := false, narrowed := true }
def RulesLockUptoSaid : Prop := rulesLockUptoRow.holds Try.pinned (OpenSpec.upto rulesLockSpec)

/-- 'wapentakelaw15.RulesAgree', WHERE WHAT IT READS IS OF BULK AT MOST 1048576: true; the input reads as it did. -/
def rulesAgreeUptoRow : OpenClaim := { program := "ytckhcmdjgkoocaa", sum := "88f88310d5bc49bf89599fffc6bb30ea8b1db31fcd9a2091142726dff1d94f31", func := "wapentake/wapentakelaw15.RulesAgree", spec := "rulesAgree", apart := false, narrowed := true }
def RulesAgreeUptoSaid : Prop := rulesAgreeUptoRow.holds Try.pinned (OpenSpec.upto rulesAgreeSpec)

/-- 'wapentakelaw15.RulesView', WHERE WHAT IT READS IS OF BULK AT MOST 1048576: true; the input reads as it did. -/
def rulesViewUptoRow : OpenClaim := { program := "ytckhcmdjgkoocaa", sum := "88f88310d5bc49bf89599fffc6bb30ea8b1db31fcd9a2091142726dff1d94f31", func := "wapentake/wapentakelaw15.RulesView", spec := "rulesView", apart := false, narrowed := true }
def RulesViewUptoSaid : Prop := rulesViewUptoRow.holds Try.pinned (OpenSpec.upto rulesViewSpec)

/-- 'wapentakelaw15.RulesGo', WHERE WHAT IT READS IS OF BULK AT MOST 1048576: true; the input reads as it did. -/
def rulesGoUptoRow : OpenClaim := { program := "ytckhcmdjgkoocaa", sum := "88f88310d5bc49bf89599fffc6bb30ea8b1db31fcd9a2091142726dff1d94f31", func := "wapentake/wapentakelaw15.RulesGo", spec := "rulesGo", apart := false, narrowed := true }
def RulesGoUptoSaid : Prop := rulesGoUptoRow.holds Try.pinned (OpenSpec.upto rulesGoSpec)

/-- 'wapentakelaw16.PaceDoes', WHERE WHAT IT READS IS OF BULK AT MOST 1048576: true; the input reads as it did. -/
def paceDoesUptoRow : OpenClaim := { program := "ytckhcmdjgkoocaa", sum := "88f88310d5bc49bf89599fffc6bb30ea8b1db31fcd9a2091142726dff1d94f31", func := "wapentake/wapentakelaw16.PaceDoes", spec := "paceDoes", apart := false, narrowed := true }
def PaceDoesUptoSaid : Prop := paceDoesUptoRow.holds Try.pinned (OpenSpec.upto paceDoesSpec)

/-- 'wapentakelaw16.PaceBound', WHERE WHAT IT READS IS OF BULK AT MOST 1048576: true; the input reads as it did. -/
def paceBoundUptoRow : OpenClaim := { program := "ytckhcmdjgkoocaa", sum := "88f88310d5bc49bf89599fffc6bb30ea8b1db31fcd9a2091142726dff1d94f31", func := "wapentake/wapentakelaw16.PaceBound", spec := "paceBound", apart := false, narrowed := true }
def PaceBoundUptoSaid : Prop := paceBoundUptoRow.holds Try.pinned (OpenSpec.upto paceBoundSpec)

/-- 'wapentakelaw16.PaceFires', WHERE WHAT IT READS IS OF BULK AT MOST 1048576: true; the input reads as it did. -/
def paceFiresUptoRow : OpenClaim := { program := "ytckhcmdjgkoocaa", sum := "88f88310d5bc49bf89599fffc6bb30ea8b1db31fcd9a2091142726dff1d94f31", func := "wapentake/wapentakelaw16.PaceFires", spec := "paceFires", apart := false, narrowed := true }
def PaceFiresUptoSaid : Prop := paceFiresUptoRow.holds Try.pinned (OpenSpec.upto paceFiresSpec)

/-- 'wapentakelaw16.PaceLeads', WHERE WHAT IT READS IS OF BULK AT MOST 1048576: true; the input reads as it did. -/
def paceLeadsUptoRow : OpenClaim := { program := "ytckhcmdjgkoocaa", sum := "88f88310d5bc49bf89599fffc6bb30ea8b1db31fcd9a2091142726dff1d94f31", func := "wapentake/wapentakelaw16.PaceLeads", spec := "paceLeads", apart := false, narrowed := true }
def PaceLeadsUptoSaid : Prop := paceLeadsUptoRow.holds Try.pinned (OpenSpec.upto paceLeadsSpec)

/-- 'wapentakelaw16.PaceGain', WHERE WHAT IT READS IS OF BULK AT MOST 1048576: true; the input reads as it did. -/
def paceGainUptoRow : OpenClaim := { program := "ytckhcmdjgkoocaa", sum := "88f88310d5bc49bf89599fffc6bb30ea8b1db31fcd9a2091142726dff1d94f31", func := "wapentake/wapentakelaw16.PaceGain", spec := "paceGain", apart := false, narrowed := true }
def PaceGainUptoSaid : Prop := paceGainUptoRow.holds Try.pinned (OpenSpec.upto paceGainSpec)

/-- 'wapentakelaw16.PaceDoubles', WHERE WHAT IT READS IS OF BULK AT MOST 1048576: true; the input reads as it did. -/
def paceDoublesUptoRow : OpenClaim := { program := "ytckhcmdjgkoocaa", sum := "88f88310d5bc49bf89599fffc6bb30ea8b1db31fcd9a2091142726dff1d94f31", func := "wapentake/wapentakelaw16.PaceDoubles", spec := "paceDoubles", apart := false, narrowed := true }
def PaceDoublesUptoSaid : Prop := paceDoublesUptoRow.holds Try.pinned (OpenSpec.upto paceDoublesSpec)

end Rows
end Go.Proofs.Ytckhcmdjgkoocaa
