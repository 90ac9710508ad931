/-
  NARROWER THAN 'FOR EVERY INPUT', by the rows' own cells (each row's printed sentence says how): CertQCs: laid · CertMakes: laid · CertMade: laid · CertOverlap: laid · CertFewer: laid · CertVotes: laid.
  DERIVED. THE GIVEN ROWS OF THIS SEAT. 6 by the template 'for every input the law returns true; each argument reads behind the call as it read before'; 0 by the template 'total and deterministic' (their statements: YtlgffgnkkihaoaaDoorTotals.lean).
  GIVEN WITH THE SEED: the statements are not yours to turn. If you find one false, say at which input.
  Laid BY PROGRAM, IN A SANDBOX (cutbox-rows.mjs): the forced cells as the released guide's own fill.sh prints them over the translation 2ccc6c4d82342704… (all of the seat's roots in one cut). By AI agents, Wed Nov 11 2026. No macro, syntax, notation, axiom, sorry.
-/
import Derived.Test.YtlgffgnkkihaoaaDoorChecked
import GoSem.Claim
import GoSem.ClaimJoined
import GoSem.ClaimMapViews
import Derived.JoinedTies
import Derived.KernelRfl
namespace Go.Proofs.YtlgffgnkkihaoaaDoor
/- THE CELL 'sum', in the pinned program and in every row, IS THE sha256 OF THE DUMP (.gsa) THAT YtlgffgnkkihaoaaDoorProg.lean LOADS. Nothing in Lean hashes anything: it is a label: what it is worth is what the hold of that sum in a sandbox is worth. -/
noncomputable def Tryd.pinned : Pinned := { name := "ytlgffgnkkihaoaadoor", sum := "2ccc6c4d82342704fae3165acc1c6cbb24fa3db6f15e4f05ef502e0ef2b2f46e", checked := Tryd.checked }
namespace Rows
def none {H : Type} : Left H := { results := [], args := [] }

/- WHAT THE LISTED PACKAGE-LEVEL VARIABLES READ AS WHEN THE CALL BEGINS. Each datum BY PROGRAM (the guide's laid-datum.mjs) off the statement by which the dump's own 'gosem.cut.vars' lays the variable. In a bare row this is a premise. The card (YtlgffgnkkihaoaaDoorCards.lean) ties it to the program's text. -/
def laid_wapentake_sha_k {H : Type} : DataW H := .agg [.lit (.int .u32 1116352408), .lit (.int .u32 1899447441), .lit (.int .u32 3049323471), .lit (.int .u32 3921009573), .lit (.int .u32 961987163), .lit (.int .u32 1508970993), .lit (.int .u32 2453635748), .lit (.int .u32 2870763221), .lit (.int .u32 3624381080), .lit (.int .u32 310598401), .lit (.int .u32 607225278), .lit (.int .u32 1426881987), .lit (.int .u32 1925078388), .lit (.int .u32 2162078206), .lit (.int .u32 2614888103), .lit (.int .u32 3248222580), .lit (.int .u32 3835390401), .lit (.int .u32 4022224774), .lit (.int .u32 264347078), .lit (.int .u32 604807628), .lit (.int .u32 770255983), .lit (.int .u32 1249150122), .lit (.int .u32 1555081692), .lit (.int .u32 1996064986), .lit (.int .u32 2554220882), .lit (.int .u32 2821834349), .lit (.int .u32 2952996808), .lit (.int .u32 3210313671), .lit (.int .u32 3336571891), .lit (.int .u32 3584528711), .lit (.int .u32 113926993), .lit (.int .u32 338241895), .lit (.int .u32 666307205), .lit (.int .u32 773529912), .lit (.int .u32 1294757372), .lit (.int .u32 1396182291), .lit (.int .u32 1695183700), .lit (.int .u32 1986661051), .lit (.int .u32 2177026350), .lit (.int .u32 2456956037), .lit (.int .u32 2730485921), .lit (.int .u32 2820302411), .lit (.int .u32 3259730800), .lit (.int .u32 3345764771), .lit (.int .u32 3516065817), .lit (.int .u32 3600352804), .lit (.int .u32 4094571909), .lit (.int .u32 275423344), .lit (.int .u32 430227734), .lit (.int .u32 506948616), .lit (.int .u32 659060556), .lit (.int .u32 883997877), .lit (.int .u32 958139571), .lit (.int .u32 1322822218), .lit (.int .u32 1537002063), .lit (.int .u32 1747873779), .lit (.int .u32 1955562222), .lit (.int .u32 2024104815), .lit (.int .u32 2227730452), .lit (.int .u32 2361852424), .lit (.int .u32 2428436474), .lit (.int .u32 2756734187), .lit (.int .u32 3204031479), .lit (.int .u32 3329325298)]

/-- 'wapentakelaw06.CertQCs': WHATEVER THE INPUT: true; the input reads as it did. -/
def certQCsSpec : ChangeSpec := { name := "certQCs", fn := fun _ => fun
  | [d1, d2, d3] => { results := [.lit (.bool true)], args := [d1, d2, d3] }
  | _ => none }
def certQCsRow : OpenClaim := { program := "ytlgffgnkkihaoaadoor", sum := "2ccc6c4d82342704fae3165acc1c6cbb24fa3db6f15e4f05ef502e0ef2b2f46e", func := "wapentake/wapentakelaw06.CertQCs", spec := "certQCs", unfollowed := true, recurses := true, named := ["wapentake/sha.k"], plainKeys := false, apart := false, laid := [("wapentake/sha.k", laid_wapentake_sha_k)] }
def CertQCsSaid : Prop := certQCsRow.holds Tryd.pinned (OpenSpec.ofChange certQCsSpec)

/-- ITS FALSE NEIGHBOUR: 'it returns false'. Refute it at one input. -/
def certQCsWrong : ChangeSpec := { name := "certQCs", fn := fun _ => fun
  | [d1, d2, d3] => { results := [.lit (.bool false)], args := [d1, d2, d3] }
  | _ => none }
def CertQCsWrongFalsely : Prop := certQCsRow.holds Tryd.pinned (OpenSpec.ofChange certQCsWrong)

/-- 'wapentakelaw06.CertMakes': WHATEVER THE INPUT: true; the input reads as it did. -/
def certMakesSpec : ChangeSpec := { name := "certMakes", fn := fun _ => fun
  | [d] => { results := [.lit (.bool true)], args := [d] }
  | _ => none }
def certMakesRow : OpenClaim := { program := "ytlgffgnkkihaoaadoor", sum := "2ccc6c4d82342704fae3165acc1c6cbb24fa3db6f15e4f05ef502e0ef2b2f46e", func := "wapentake/wapentakelaw06.CertMakes", spec := "certMakes", unfollowed := true, recurses := true, named := ["wapentake/sha.k"], plainKeys := false, apart := false, laid := [("wapentake/sha.k", laid_wapentake_sha_k)] }
def CertMakesSaid : Prop := certMakesRow.holds Tryd.pinned (OpenSpec.ofChange certMakesSpec)

/-- ITS FALSE NEIGHBOUR: 'it returns false'. Refute it at one input. -/
def certMakesWrong : ChangeSpec := { name := "certMakes", fn := fun _ => fun
  | [d] => { results := [.lit (.bool false)], args := [d] }
  | _ => none }
def CertMakesWrongFalsely : Prop := certMakesRow.holds Tryd.pinned (OpenSpec.ofChange certMakesWrong)

/-- 'wapentakelaw06.CertMade': WHATEVER THE INPUT: true; the input reads as it did. -/
def certMadeSpec : ChangeSpec := { name := "certMade", fn := fun _ => fun
  | [d1, d2, d3] => { results := [.lit (.bool true)], args := [d1, d2, d3] }
  | _ => none }
def certMadeRow : OpenClaim := { program := "ytlgffgnkkihaoaadoor", sum := "2ccc6c4d82342704fae3165acc1c6cbb24fa3db6f15e4f05ef502e0ef2b2f46e", func := "wapentake/wapentakelaw06.CertMade", spec := "certMade", unfollowed := true, recurses := true, named := ["wapentake/sha.k"], plainKeys := false, apart := false, laid := [("wapentake/sha.k", laid_wapentake_sha_k)] }
def CertMadeSaid : Prop := certMadeRow.holds Tryd.pinned (OpenSpec.ofChange certMadeSpec)

/-- ITS FALSE NEIGHBOUR: 'it returns false'. Refute it at one input. -/
def certMadeWrong : ChangeSpec := { name := "certMade", fn := fun _ => fun
  | [d1, d2, d3] => { results := [.lit (.bool false)], args := [d1, d2, d3] }
  | _ => none }
def CertMadeWrongFalsely : Prop := certMadeRow.holds Tryd.pinned (OpenSpec.ofChange certMadeWrong)

/-- 'wapentakelaw06.CertOverlap': WHATEVER THE INPUT: true; the input reads as it did. -/
def certOverlapSpec : ChangeSpec := { name := "certOverlap", fn := fun _ => fun
  | [d1, d2, d3, d4] => { results := [.lit (.bool true)], args := [d1, d2, d3, d4] }
  | _ => none }
def certOverlapRow : OpenClaim := { program := "ytlgffgnkkihaoaadoor", sum := "2ccc6c4d82342704fae3165acc1c6cbb24fa3db6f15e4f05ef502e0ef2b2f46e", func := "wapentake/wapentakelaw06.CertOverlap", spec := "certOverlap", unfollowed := true, recurses := true, named := ["wapentake/sha.k"], plainKeys := false, apart := false, laid := [("wapentake/sha.k", laid_wapentake_sha_k)] }
def CertOverlapSaid : Prop := certOverlapRow.holds Tryd.pinned (OpenSpec.ofChange certOverlapSpec)

/-- ITS FALSE NEIGHBOUR: 'it returns false'. Refute it at one input. -/
def certOverlapWrong : ChangeSpec := { name := "certOverlap", fn := fun _ => fun
  | [d1, d2, d3, d4] => { results := [.lit (.bool false)], args := [d1, d2, d3, d4] }
  | _ => none }
def CertOverlapWrongFalsely : Prop := certOverlapRow.holds Tryd.pinned (OpenSpec.ofChange certOverlapWrong)

/-- 'wapentakelaw06.CertFewer': WHATEVER THE INPUT: true; the input reads as it did. -/
def certFewerSpec : ChangeSpec := { name := "certFewer", fn := fun _ => fun
  | [d1, d2, d3, d4] => { results := [.lit (.bool true)], args := [d1, d2, d3, d4] }
  | _ => none }
def certFewerRow : OpenClaim := { program := "ytlgffgnkkihaoaadoor", sum := "2ccc6c4d82342704fae3165acc1c6cbb24fa3db6f15e4f05ef502e0ef2b2f46e", func := "wapentake/wapentakelaw06.CertFewer", spec := "certFewer", unfollowed := true, recurses := true, named := ["wapentake/sha.k"], plainKeys := false, apart := false, laid := [("wapentake/sha.k", laid_wapentake_sha_k)] }
def CertFewerSaid : Prop := certFewerRow.holds Tryd.pinned (OpenSpec.ofChange certFewerSpec)

/-- ITS FALSE NEIGHBOUR: 'it returns false'. Refute it at one input. -/
def certFewerWrong : ChangeSpec := { name := "certFewer", fn := fun _ => fun
  | [d1, d2, d3, d4] => { results := [.lit (.bool false)], args := [d1, d2, d3, d4] }
  | _ => none }
def CertFewerWrongFalsely : Prop := certFewerRow.holds Tryd.pinned (OpenSpec.ofChange certFewerWrong)

/-- 'wapentakelaw06.CertVotes': WHATEVER THE INPUT: true; the input reads as it did. -/
def certVotesSpec : ChangeSpec := { name := "certVotes", fn := fun _ => fun
  | [d1, d2, d3, d4] => { results := [.lit (.bool true)], args := [d1, d2, d3, d4] }
  | _ => none }
def certVotesRow : OpenClaim := { program := "ytlgffgnkkihaoaadoor", sum := "2ccc6c4d82342704fae3165acc1c6cbb24fa3db6f15e4f05ef502e0ef2b2f46e", func := "wapentake/wapentakelaw06.CertVotes", spec := "certVotes", unfollowed := true, recurses := true, named := ["wapentake/sha.k"], plainKeys := false, apart := false, laid := [("wapentake/sha.k", laid_wapentake_sha_k)] }
def CertVotesSaid : Prop := certVotesRow.holds Tryd.pinned (OpenSpec.ofChange certVotesSpec)

/-- ITS FALSE NEIGHBOUR: 'it returns false'. Refute it at one input. -/
def certVotesWrong : ChangeSpec := { name := "certVotes", fn := fun _ => fun
  | [d1, d2, d3, d4] => { results := [.lit (.bool false)], args := [d1, d2, d3, d4] }
  | _ => none }
def CertVotesWrongFalsely : Prop := certVotesRow.holds Tryd.pinned (OpenSpec.ofChange certVotesWrong)

/- THE SECOND FORM. 'bulk': how many values and letters a reading holds, each counted each time it is reached (what is shared counts as often as it is met; a slice's spare places count too). A statement '..UptoSaid' is the law's where the arguments, and the package variables that the reading takes, are together of bulk at most 1048576: NARROWER than '..Said'. Prove '..Said' where nothing that the law and all that it calls make is longer than what came in: it says more and counts as full. Else prove '..UptoSaid'. A law counts once. -/
mutual
def uptoBulk {H : Type} : DataW H → Nat
  | .lit (.string bytes) => bytes.length + 1
  | .lit _ => 1
  | .nil => 1
  | .ptr d => uptoBulk d + 1
  | .slice elems spare => uptoBulkAll elems + uptoBulkAll spare + 1
  | .agg parts => uptoBulkAll parts + 1
  | .iface _ d => uptoBulk d + 1
  | .map entries => uptoBulkEntries entries + 1
  | .held _ => 1
def uptoBulkAll {H : Type} : List (DataW H) → Nat
  | [] => 0
  | d :: r => uptoBulk d + uptoBulkAll r
def uptoBulkEntries {H : Type} : List (Lit × DataW H) → Nat
  | [] => 0
  | x :: r => uptoBulkEntry x + uptoBulkEntries r
def uptoBulkEntry {H : Type} : Lit × DataW H → Nat
  | (.string bytes, d) => bytes.length + uptoBulk d + 1
  | (_, d) => uptoBulk d + 1
 end
def uptoSmall : (H : Type) → List (DataW H) → Bool := fun _ ds => decide (uptoBulkAll ds ≤ 1048576)
def OpenSpec.upto (s : _root_.Go.ChangeSpec) : _root_.Go.OpenSpec := { _root_.Go.OpenSpec.ofChange s with cond := some uptoSmall }

/-- 'wapentakelaw06.CertQCs', WHERE WHAT IT READS IS OF BULK AT MOST 1048576: true; the input reads as it did. -/
def certQCsUptoRow : OpenClaim := { program := "ytlgffgnkkihaoaadoor", sum := "2ccc6c4d82342704fae3165acc1c6cbb24fa3db6f15e4f05ef502e0ef2b2f46e", func := "wapentake/wapentakelaw06.CertQCs", spec := "certQCs", unfollowed := true, recurses := true, named := ["wapentake/sha.k"], plainKeys := false, apart := false, laid := [("wapentake/sha.k", laid_wapentake_sha_k)], narrowed := true }
def CertQCsUptoSaid : Prop := certQCsUptoRow.holds Tryd.pinned (OpenSpec.upto certQCsSpec)

/-- 'wapentakelaw06.CertMakes', WHERE WHAT IT READS IS OF BULK AT MOST 1048576: true; the input reads as it did. -/
def certMakesUptoRow : OpenClaim := { program := "ytlgffgnkkihaoaadoor", sum := "2ccc6c4d82342704fae3165acc1c6cbb24fa3db6f15e4f05ef502e0ef2b2f46e", func := "wapentake/wapentakelaw06.CertMakes", spec := "certMakes", unfollowed := true, recurses := true, named := ["wapentake/sha.k"], plainKeys := false, apart := false, laid := [("wapentake/sha.k", laid_wapentake_sha_k)], narrowed := true }
def CertMakesUptoSaid : Prop := certMakesUptoRow.holds Tryd.pinned (OpenSpec.upto certMakesSpec)

/-- 'wapentakelaw06.CertMade', WHERE WHAT IT READS IS OF BULK AT MOST 1048576: true; the input reads as it did. -/
def certMadeUptoRow : OpenClaim := { program := "ytlgffgnkkihaoaadoor", sum := "2ccc6c4d82342704fae3165acc1c6cbb24fa3db6f15e4f05ef502e0ef2b2f46e", func := "wapentake/wapentakelaw06.CertMade", spec := "certMade", unfollowed := true, recurses := true, named := ["wapentake/sha.k"], plainKeys := false, apart := false, laid := [("wapentake/sha.k", laid_wapentake_sha_k)], narrowed := true }
def CertMadeUptoSaid : Prop := certMadeUptoRow.holds Tryd.pinned (OpenSpec.upto certMadeSpec)

/-- 'wapentakelaw06.CertOverlap', WHERE WHAT IT READS IS OF BULK AT MOST 1048576: true; the input reads as it did. -/
def certOverlapUptoRow : OpenClaim := { program := "ytlgffgnkkihaoaadoor", sum := "2ccc6c4d82342704fae3165acc1c6cbb24fa3db6f15e4f05ef502e0ef2b2f46e", func := "wapentake/wapentakelaw06.CertOverlap", spec := "certOverlap", unfollowed := true, recurses := true, named := ["wapentake/sha.k"], plainKeys := false, apart := false, laid := [("wapentake/sha.k", laid_wapentake_sha_k)], narrowed := true }
def CertOverlapUptoSaid : Prop := certOverlapUptoRow.holds Tryd.pinned (OpenSpec.upto certOverlapSpec)

/-- 'wapentakelaw06.CertFewer', WHERE WHAT IT READS IS OF BULK AT MOST 1048576: true; the input reads as it did. -/
def certFewerUptoRow : OpenClaim := { program := "ytlgffgnkkihaoaadoor", sum := "2ccc6c4d82342704fae3165acc1c6cbb24fa3db6f15e4f05ef502e0ef2b2f46e", func := "wapentake/wapentakelaw06.CertFewer", spec := "certFewer", unfollowed := true, recurses := true, named := ["wapentake/sha.k"], plainKeys := false, apart := false, laid := [("wapentake/sha.k", laid_wapentake_sha_k)], narrowed := true }
def CertFewerUptoSaid : Prop := certFewerUptoRow.holds Tryd.pinned (OpenSpec.upto certFewerSpec)

/-- 'wapentakelaw06.CertVotes', WHERE WHAT IT READS IS OF BULK AT MOST 1048576: true; the input reads as it did. -/
def certVotesUptoRow : OpenClaim := { program := "ytlgffgnkkihaoaadoor", sum := "2ccc6c4d82342704fae3165acc1c6cbb24fa3db6f15e4f05ef502e0ef2b2f46e", func := "wapentake/wapentakelaw06.CertVotes", spec := "certVotes", unfollowed := true, recurses := true, named := ["wapentake/sha.k"], plainKeys := false, apart := false, laid := [("wapentake/sha.k", laid_wapentake_sha_k)], narrowed := true }
def CertVotesUptoSaid : Prop := certVotesUptoRow.holds Tryd.pinned (OpenSpec.upto certVotesSpec)

end Rows
end Go.Proofs.YtlgffgnkkihaoaaDoor
