/-
  NARROWER THAN 'FOR EVERY INPUT', by the rows' own cells (each row's printed sentence says how): ShaSums: laid · ShaJoins: laid · ShaPieces: laid · ShaBack: laid · SignRight: laid · SignApart: laid · SignBudget: laid · SignDoes: laid · SignOnce: laid · SignReuse: laid.
  DERIVED. THE GIVEN ROWS OF THIS SEAT. 10 by the template 'for every input the law returns true; each argument reads behind the call as it read before'; 0 by the template 'total and deterministic' (their statements: YtjcghjgennddaaaDoorTotals.lean).
  GIVEN WITH THE SEED: the statements are not yours to turn. If you find one false, say at which input.
  Laid BY PROGRAM, IN A SANDBOX (cutbox-rows.mjs): the forced cells as the released guide's own fill.sh prints them over the translation 8653aff11f47e23d… (all of the seat's roots in one cut). By AI agents, Wed Nov 11 2026. No macro, syntax, notation, axiom, sorry.
-/
import Derived.Test.YtjcghjgennddaaaDoorChecked
import GoSem.Claim
import GoSem.ClaimJoined
import GoSem.ClaimMapViews
import Derived.JoinedTies
import Derived.KernelRfl
namespace Go.Proofs.YtjcghjgennddaaaDoor
/- THE CELL 'sum', in the pinned program and in every row, IS THE sha256 OF THE DUMP (.gsa) THAT YtjcghjgennddaaaDoorProg.lean LOADS. Nothing in Lean hashes anything: it is a label: what it is worth is what the hold of that sum in a sandbox is worth. -/
noncomputable def Tryd.pinned : Pinned := { name := "ytjcghjgennddaaadoor", sum := "8653aff11f47e23d746857a7e1c747213956f8e62c86263b4424bc2cba5e693b", checked := Tryd.checked }
namespace Rows
def none {H : Type} : Left H := { results := [], args := [] }

/- WHAT THE LISTED PACKAGE-LEVEL VARIABLES READ AS WHEN THE CALL BEGINS. Each datum BY PROGRAM (the guide's laid-datum.mjs) off the statement by which the dump's own 'gosem.cut.vars' lays the variable. In a bare row this is a premise. The card (YtjcghjgennddaaaDoorCards.lean) ties it to the program's text. -/
def laid_wapentake_sha_k {H : Type} : DataW H := .agg [.lit (.int .u32 1116352408), .lit (.int .u32 1899447441), .lit (.int .u32 3049323471), .lit (.int .u32 3921009573), .lit (.int .u32 961987163), .lit (.int .u32 1508970993), .lit (.int .u32 2453635748), .lit (.int .u32 2870763221), .lit (.int .u32 3624381080), .lit (.int .u32 310598401), .lit (.int .u32 607225278), .lit (.int .u32 1426881987), .lit (.int .u32 1925078388), .lit (.int .u32 2162078206), .lit (.int .u32 2614888103), .lit (.int .u32 3248222580), .lit (.int .u32 3835390401), .lit (.int .u32 4022224774), .lit (.int .u32 264347078), .lit (.int .u32 604807628), .lit (.int .u32 770255983), .lit (.int .u32 1249150122), .lit (.int .u32 1555081692), .lit (.int .u32 1996064986), .lit (.int .u32 2554220882), .lit (.int .u32 2821834349), .lit (.int .u32 2952996808), .lit (.int .u32 3210313671), .lit (.int .u32 3336571891), .lit (.int .u32 3584528711), .lit (.int .u32 113926993), .lit (.int .u32 338241895), .lit (.int .u32 666307205), .lit (.int .u32 773529912), .lit (.int .u32 1294757372), .lit (.int .u32 1396182291), .lit (.int .u32 1695183700), .lit (.int .u32 1986661051), .lit (.int .u32 2177026350), .lit (.int .u32 2456956037), .lit (.int .u32 2730485921), .lit (.int .u32 2820302411), .lit (.int .u32 3259730800), .lit (.int .u32 3345764771), .lit (.int .u32 3516065817), .lit (.int .u32 3600352804), .lit (.int .u32 4094571909), .lit (.int .u32 275423344), .lit (.int .u32 430227734), .lit (.int .u32 506948616), .lit (.int .u32 659060556), .lit (.int .u32 883997877), .lit (.int .u32 958139571), .lit (.int .u32 1322822218), .lit (.int .u32 1537002063), .lit (.int .u32 1747873779), .lit (.int .u32 1955562222), .lit (.int .u32 2024104815), .lit (.int .u32 2227730452), .lit (.int .u32 2361852424), .lit (.int .u32 2428436474), .lit (.int .u32 2756734187), .lit (.int .u32 3204031479), .lit (.int .u32 3329325298)]

/-- 'wapentakelaw01.ShaSums': WHATEVER THE INPUT: true; the input reads as it did. -/
def shaSumsSpec : ChangeSpec := { name := "shaSums", fn := fun _ => fun
  | [d] => { results := [.lit (.bool true)], args := [d] }
  | _ => none }
def shaSumsRow : OpenClaim := { program := "ytjcghjgennddaaadoor", sum := "8653aff11f47e23d746857a7e1c747213956f8e62c86263b4424bc2cba5e693b", func := "wapentake/wapentakelaw01.ShaSums", spec := "shaSums", named := ["wapentake/sha.k"], plainKeys := false, apart := false, laid := [("wapentake/sha.k", laid_wapentake_sha_k)] }
def ShaSumsSaid : Prop := shaSumsRow.holds Tryd.pinned (OpenSpec.ofChange shaSumsSpec)

/-- ITS FALSE NEIGHBOUR: 'it returns false'. Refute it at one input. -/
def shaSumsWrong : ChangeSpec := { name := "shaSums", fn := fun _ => fun
  | [d] => { results := [.lit (.bool false)], args := [d] }
  | _ => none }
def ShaSumsWrongFalsely : Prop := shaSumsRow.holds Tryd.pinned (OpenSpec.ofChange shaSumsWrong)

/-- 'wapentakelaw01.ShaJoins': WHATEVER THE INPUT: true; the input reads as it did. -/
def shaJoinsSpec : ChangeSpec := { name := "shaJoins", fn := fun _ => fun
  | [d1, d2] => { results := [.lit (.bool true)], args := [d1, d2] }
  | _ => none }
def shaJoinsRow : OpenClaim := { program := "ytjcghjgennddaaadoor", sum := "8653aff11f47e23d746857a7e1c747213956f8e62c86263b4424bc2cba5e693b", func := "wapentake/wapentakelaw01.ShaJoins", spec := "shaJoins", named := ["wapentake/sha.k"], plainKeys := false, apart := false, laid := [("wapentake/sha.k", laid_wapentake_sha_k)] }
def ShaJoinsSaid : Prop := shaJoinsRow.holds Tryd.pinned (OpenSpec.ofChange shaJoinsSpec)

/-- ITS FALSE NEIGHBOUR: 'it returns false'. Refute it at one input. -/
def shaJoinsWrong : ChangeSpec := { name := "shaJoins", fn := fun _ => fun
  | [d1, d2] => { results := [.lit (.bool false)], args := [d1, d2] }
  | _ => none }
def ShaJoinsWrongFalsely : Prop := shaJoinsRow.holds Tryd.pinned (OpenSpec.ofChange shaJoinsWrong)

/-- 'wapentakelaw01.ShaPieces': WHATEVER THE INPUT: true; the input reads as it did. -/
def shaPiecesSpec : ChangeSpec := { name := "shaPieces", fn := fun _ => fun
  | [d] => { results := [.lit (.bool true)], args := [d] }
  | _ => none }
def shaPiecesRow : OpenClaim := { program := "ytjcghjgennddaaadoor", sum := "8653aff11f47e23d746857a7e1c747213956f8e62c86263b4424bc2cba5e693b", func := "wapentake/wapentakelaw01.ShaPieces", spec := "shaPieces", named := ["wapentake/sha.k"], plainKeys := false, apart := false, laid := [("wapentake/sha.k", laid_wapentake_sha_k)] }
def ShaPiecesSaid : Prop := shaPiecesRow.holds Tryd.pinned (OpenSpec.ofChange shaPiecesSpec)

/-- ITS FALSE NEIGHBOUR: 'it returns false'. Refute it at one input. -/
def shaPiecesWrong : ChangeSpec := { name := "shaPieces", fn := fun _ => fun
  | [d] => { results := [.lit (.bool false)], args := [d] }
  | _ => none }
def ShaPiecesWrongFalsely : Prop := shaPiecesRow.holds Tryd.pinned (OpenSpec.ofChange shaPiecesWrong)

/-- 'wapentakelaw01.ShaBack': WHATEVER THE INPUT: true; the input reads as it did. -/
def shaBackSpec : ChangeSpec := { name := "shaBack", fn := fun _ => fun
  | [d1, d2, d3] => { results := [.lit (.bool true)], args := [d1, d2, d3] }
  | _ => none }
def shaBackRow : OpenClaim := { program := "ytjcghjgennddaaadoor", sum := "8653aff11f47e23d746857a7e1c747213956f8e62c86263b4424bc2cba5e693b", func := "wapentake/wapentakelaw01.ShaBack", spec := "shaBack", named := ["wapentake/sha.k"], plainKeys := false, apart := false, laid := [("wapentake/sha.k", laid_wapentake_sha_k)] }
def ShaBackSaid : Prop := shaBackRow.holds Tryd.pinned (OpenSpec.ofChange shaBackSpec)

/-- ITS FALSE NEIGHBOUR: 'it returns false'. Refute it at one input. -/
def shaBackWrong : ChangeSpec := { name := "shaBack", fn := fun _ => fun
  | [d1, d2, d3] => { results := [.lit (.bool false)], args := [d1, d2, d3] }
  | _ => none }
def ShaBackWrongFalsely : Prop := shaBackRow.holds Tryd.pinned (OpenSpec.ofChange shaBackWrong)

/-- 'wapentakelaw05.SignRight': WHATEVER THE INPUT: true; the input reads as it did. -/
def signRightSpec : ChangeSpec := { name := "signRight", fn := fun _ => fun
  | [d] => { results := [.lit (.bool true)], args := [d] }
  | _ => none }
def signRightRow : OpenClaim := { program := "ytjcghjgennddaaadoor", sum := "8653aff11f47e23d746857a7e1c747213956f8e62c86263b4424bc2cba5e693b", func := "wapentake/wapentakelaw05.SignRight", spec := "signRight", named := ["wapentake/sha.k"], plainKeys := false, apart := false, laid := [("wapentake/sha.k", laid_wapentake_sha_k)] }
def SignRightSaid : Prop := signRightRow.holds Tryd.pinned (OpenSpec.ofChange signRightSpec)

/-- ITS FALSE NEIGHBOUR: 'it returns false'. Refute it at one input. -/
def signRightWrong : ChangeSpec := { name := "signRight", fn := fun _ => fun
  | [d] => { results := [.lit (.bool false)], args := [d] }
  | _ => none }
def SignRightWrongFalsely : Prop := signRightRow.holds Tryd.pinned (OpenSpec.ofChange signRightWrong)

/-- 'wapentakelaw05.SignApart': WHATEVER THE INPUT: true; the input reads as it did. -/
def signApartSpec : ChangeSpec := { name := "signApart", fn := fun _ => fun
  | [d1, d2, d3] => { results := [.lit (.bool true)], args := [d1, d2, d3] }
  | _ => none }
def signApartRow : OpenClaim := { program := "ytjcghjgennddaaadoor", sum := "8653aff11f47e23d746857a7e1c747213956f8e62c86263b4424bc2cba5e693b", func := "wapentake/wapentakelaw05.SignApart", spec := "signApart", named := ["wapentake/sha.k"], plainKeys := false, apart := false, laid := [("wapentake/sha.k", laid_wapentake_sha_k)] }
def SignApartSaid : Prop := signApartRow.holds Tryd.pinned (OpenSpec.ofChange signApartSpec)

/-- ITS FALSE NEIGHBOUR: 'it returns false'. Refute it at one input. -/
def signApartWrong : ChangeSpec := { name := "signApart", fn := fun _ => fun
  | [d1, d2, d3] => { results := [.lit (.bool false)], args := [d1, d2, d3] }
  | _ => none }
def SignApartWrongFalsely : Prop := signApartRow.holds Tryd.pinned (OpenSpec.ofChange signApartWrong)

/-- 'wapentakelaw05.SignBudget': WHATEVER THE INPUT: true; the input reads as it did. -/
def signBudgetSpec : ChangeSpec := { name := "signBudget", fn := fun _ => fun
  | [d1, d2] => { results := [.lit (.bool true)], args := [d1, d2] }
  | _ => none }
def signBudgetRow : OpenClaim := { program := "ytjcghjgennddaaadoor", sum := "8653aff11f47e23d746857a7e1c747213956f8e62c86263b4424bc2cba5e693b", func := "wapentake/wapentakelaw05.SignBudget", spec := "signBudget", named := ["wapentake/sha.k"], plainKeys := false, apart := false, laid := [("wapentake/sha.k", laid_wapentake_sha_k)] }
def SignBudgetSaid : Prop := signBudgetRow.holds Tryd.pinned (OpenSpec.ofChange signBudgetSpec)

/-- ITS FALSE NEIGHBOUR: 'it returns false'. Refute it at one input. -/
def signBudgetWrong : ChangeSpec := { name := "signBudget", fn := fun _ => fun
  | [d1, d2] => { results := [.lit (.bool false)], args := [d1, d2] }
  | _ => none }
def SignBudgetWrongFalsely : Prop := signBudgetRow.holds Tryd.pinned (OpenSpec.ofChange signBudgetWrong)

/-- 'wapentakelaw05.SignDoes': WHATEVER THE INPUT: true; the input reads as it did. -/
def signDoesSpec : ChangeSpec := { name := "signDoes", fn := fun _ => fun
  | [d1, d2, d3] => { results := [.lit (.bool true)], args := [d1, d2, d3] }
  | _ => none }
def signDoesRow : OpenClaim := { program := "ytjcghjgennddaaadoor", sum := "8653aff11f47e23d746857a7e1c747213956f8e62c86263b4424bc2cba5e693b", func := "wapentake/wapentakelaw05.SignDoes", spec := "signDoes", named := ["wapentake/sha.k"], plainKeys := false, apart := false, laid := [("wapentake/sha.k", laid_wapentake_sha_k)] }
def SignDoesSaid : Prop := signDoesRow.holds Tryd.pinned (OpenSpec.ofChange signDoesSpec)

/-- ITS FALSE NEIGHBOUR: 'it returns false'. Refute it at one input. -/
def signDoesWrong : ChangeSpec := { name := "signDoes", fn := fun _ => fun
  | [d1, d2, d3] => { results := [.lit (.bool false)], args := [d1, d2, d3] }
  | _ => none }
def SignDoesWrongFalsely : Prop := signDoesRow.holds Tryd.pinned (OpenSpec.ofChange signDoesWrong)

/-- 'wapentakelaw05.SignOnce': WHATEVER THE INPUT: true; the input reads as it did. -/
def signOnceSpec : ChangeSpec := { name := "signOnce", fn := fun _ => fun
  | [d1, d2] => { results := [.lit (.bool true)], args := [d1, d2] }
  | _ => none }
def signOnceRow : OpenClaim := { program := "ytjcghjgennddaaadoor", sum := "8653aff11f47e23d746857a7e1c747213956f8e62c86263b4424bc2cba5e693b", func := "wapentake/wapentakelaw05.SignOnce", spec := "signOnce", named := ["wapentake/sha.k"], plainKeys := false, apart := false, laid := [("wapentake/sha.k", laid_wapentake_sha_k)] }
def SignOnceSaid : Prop := signOnceRow.holds Tryd.pinned (OpenSpec.ofChange signOnceSpec)

/-- ITS FALSE NEIGHBOUR: 'it returns false'. Refute it at one input. -/
def signOnceWrong : ChangeSpec := { name := "signOnce", fn := fun _ => fun
  | [d1, d2] => { results := [.lit (.bool false)], args := [d1, d2] }
  | _ => none }
def SignOnceWrongFalsely : Prop := signOnceRow.holds Tryd.pinned (OpenSpec.ofChange signOnceWrong)

/-- 'wapentakelaw05.SignReuse': WHATEVER THE INPUT: true; the input reads as it did. -/
def signReuseSpec : ChangeSpec := { name := "signReuse", fn := fun _ => fun
  | [d1, d2, d3, d4] => { results := [.lit (.bool true)], args := [d1, d2, d3, d4] }
  | _ => none }
def signReuseRow : OpenClaim := { program := "ytjcghjgennddaaadoor", sum := "8653aff11f47e23d746857a7e1c747213956f8e62c86263b4424bc2cba5e693b", func := "wapentake/wapentakelaw05.SignReuse", spec := "signReuse", named := ["wapentake/sha.k"], plainKeys := false, apart := false, laid := [("wapentake/sha.k", laid_wapentake_sha_k)] }
def SignReuseSaid : Prop := signReuseRow.holds Tryd.pinned (OpenSpec.ofChange signReuseSpec)

/-- ITS FALSE NEIGHBOUR: 'it returns false'. Refute it at one input. -/
def signReuseWrong : ChangeSpec := { name := "signReuse", fn := fun _ => fun
  | [d1, d2, d3, d4] => { results := [.lit (.bool false)], args := [d1, d2, d3, d4] }
  | _ => none }
def SignReuseWrongFalsely : Prop := signReuseRow.holds Tryd.pinned (OpenSpec.ofChange signReuseWrong)

/- THE SECOND FORM. 'bulk': how many values and letters a reading holds, each counted each time it is reached (what is shared counts as often as it is met; a slice's spare places count too). A statement '..UptoSaid' is the law's where the arguments, and the package variables that the reading takes, are together of bulk at most 1048576: NARROWER than '..Said'. Prove '..Said' where nothing that the law and all that it calls make is longer than what came in: it says more and counts as full. Else prove '..UptoSaid'. A law counts once. -/
mutual
def uptoBulk {H : Type} : DataW H → Nat
  | .lit (.string bytes) => bytes.length + 1
  | .lit _ => 1
  | .nil => 1
  | .ptr d => uptoBulk d + 1
  | .slice elems spare => uptoBulkAll elems + uptoBulkAll spare + 1
  | .agg parts => uptoBulkAll parts + 1
  | .iface _ d => uptoBulk d + 1
  | .map entries => uptoBulkEntries entries + 1
  | .held _ => 1
def uptoBulkAll {H : Type} : List (DataW H) → Nat
  | [] => 0
  | d :: r => uptoBulk d + uptoBulkAll r
def uptoBulkEntries {H : Type} : List (Lit × DataW H) → Nat
  | [] => 0
  | x :: r => uptoBulkEntry x + uptoBulkEntries r
def uptoBulkEntry {H : Type} : Lit × DataW H → Nat
  | (.string bytes, d) => bytes.length + uptoBulk d + 1
  | (_, d) => uptoBulk d + 1
 end
def uptoSmall : (H : Type) → List (DataW H) → Bool := fun _ ds => decide (uptoBulkAll ds ≤ 1048576)
def OpenSpec.upto (s : _root_.Go.ChangeSpec) : _root_.Go.OpenSpec := { _root_.Go.OpenSpec.ofChange s with cond := some uptoSmall }

/-- 'wapentakelaw01.ShaSums', WHERE WHAT IT READS IS OF BULK AT MOST 1048576: true; the input reads as it did. -/
def shaSumsUptoRow : OpenClaim := { program := "ytjcghjgennddaaadoor", sum := "8653aff11f47e23d746857a7e1c747213956f8e62c86263b4424bc2cba5e693b", func := "wapentake/wapentakelaw01.ShaSums", spec := "shaSums", named := ["wapentake/sha.k"], plainKeys := false, apart := false, laid := [("wapentake/sha.k", laid_wapentake_sha_k)], narrowed := true }
def ShaSumsUptoSaid : Prop := shaSumsUptoRow.holds Tryd.pinned (OpenSpec.upto shaSumsSpec)

/-- 'wapentakelaw01.ShaJoins', WHERE WHAT IT READS IS OF BULK AT MOST 1048576: true; the input reads as it did. -/
def shaJoinsUptoRow : OpenClaim := { program := "ytjcghjgennddaaadoor", sum := "8653aff11f47e23d746857a7e1c747213956f8e62c86263b4424bc2cba5e693b", func := "wapentake/wapentakelaw01.ShaJoins", spec := "shaJoins", named := ["wapentake/sha.k"], plainKeys := false, apart := false, laid := [("wapentake/sha.k", laid_wapentake_sha_k)], narrowed := true }
def ShaJoinsUptoSaid : Prop := shaJoinsUptoRow.holds Tryd.pinned (OpenSpec.upto shaJoinsSpec)

/-- 'wapentakelaw01.ShaPieces', WHERE WHAT IT READS IS OF BULK AT MOST 1048576: true; the input reads as it did. -/
def shaPiecesUptoRow : OpenClaim := { program := "ytjcghjgennddaaadoor", sum := "8653aff11f47e23d746857a7e1c747213956f8e62c86263b4424bc2cba5e693b", func := "wapentake/wapentakelaw01.ShaPieces", spec := "shaPieces", named := ["wapentake/sha.k"], plainKeys := false, apart := false, laid := [("wapentake/sha.k", laid_wapentake_sha_k)], narrowed := true }
def ShaPiecesUptoSaid : Prop := shaPiecesUptoRow.holds Tryd.pinned (OpenSpec.upto shaPiecesSpec)

/-- 'wapentakelaw01.ShaBack', WHERE WHAT IT READS IS OF BULK AT MOST 1048576: true; the input reads as it did. -/
def shaBackUptoRow : OpenClaim := { program := "ytjcghjgennddaaadoor", sum := "8653aff11f47e23d746857a7e1c747213956f8e62c86263b4424bc2cba5e693b", func := "wapentake/wapentakelaw01.ShaBack", spec := "shaBack", named := ["wapentake/sha.k"], plainKeys := false, apart := false, laid := [("wapentake/sha.k", laid_wapentake_sha_k)], narrowed := true }
def ShaBackUptoSaid : Prop := shaBackUptoRow.holds Tryd.pinned (OpenSpec.upto shaBackSpec)

/-- 'wapentakelaw05.SignRight', WHERE WHAT IT READS IS OF BULK AT MOST 1048576: true; the input reads as it did. -/
def signRightUptoRow : OpenClaim := { program := "ytjcghjgennddaaadoor", sum := "8653aff11f47e23d746857a7e1c747213956f8e62c86263b4424bc2cba5e693b", func := "wapentake/wapentakelaw05.SignRight", spec := "signRight", named := ["wapentake/sha.k"], plainKeys := false, apart := false, laid := [("wapentake/sha.k", laid_wapentake_sha_k)], narrowed := true }
def SignRightUptoSaid : Prop := signRightUptoRow.holds Tryd.pinned (OpenSpec.upto signRightSpec)

/-- 'wapentakelaw05.SignApart', WHERE WHAT IT READS IS OF BULK AT MOST 1048576: true; the input reads as it did. -/
def signApartUptoRow : OpenClaim := { program := "ytjcghjgennddaaadoor", sum := "8653aff11f47e23d746857a7e1c747213956f8e62c86263b4424bc2cba5e693b", func := "wapentake/wapentakelaw05.SignApart", spec := "signApart", named := ["wapentake/sha.k"], plainKeys := false, apart := false, laid := [("wapentake/sha.k", laid_wapentake_sha_k)], narrowed := true }
def SignApartUptoSaid : Prop := signApartUptoRow.holds Tryd.pinned (OpenSpec.upto signApartSpec)

/-- 'wapentakelaw05.SignBudget', WHERE WHAT IT READS IS OF BULK AT MOST 1048576: true; the input reads as it did. -/
def signBudgetUptoRow : OpenClaim := { program := "ytjcghjgennddaaadoor", sum := "8653aff11f47e23d746857a7e1c747213956f8e62c86263b4424bc2cba5e693b", func := "wapentake/wapentakelaw05.SignBudget", spec := "signBudget", named := ["wapentake/sha.k"], plainKeys := false, apart := false, laid := [("wapentake/sha.k", laid_wapentake_sha_k)], narrowed := true }
def SignBudgetUptoSaid : Prop := signBudgetUptoRow.holds Tryd.pinned (OpenSpec.upto signBudgetSpec)

/-- 'wapentakelaw05.SignDoes', WHERE WHAT IT READS IS OF BULK AT MOST 1048576: true; the input reads as it did. -/
def signDoesUptoRow : OpenClaim := { program := "ytjcghjgennddaaadoor", sum := "8653aff11f47e23d746857a7e1c747213956f8e62c86263b4424bc2cba5e693b", func := "wapentake/wapentakelaw05.SignDoes", spec := "signDoes", named := ["wapentake/sha.k"], plainKeys := false, apart := false, laid := [("wapentake/sha.k", laid_wapentake_sha_k)], narrowed := true }
def SignDoesUptoSaid : Prop := signDoesUptoRow.holds Tryd.pinned (OpenSpec.upto signDoesSpec)

/-- 'wapentakelaw05.SignOnce', WHERE WHAT IT READS IS OF BULK AT MOST 1048576: true; the input reads as it did. -/
def signOnceUptoRow : OpenClaim := { program := "ytjcghjgennddaaadoor", sum := "8653aff11f47e23d746857a7e1c747213956f8e62c86263b4424bc2cba5e693b", func := "wapentake/wapentakelaw05.SignOnce", spec := "signOnce", named := ["wapentake/sha.k"], plainKeys := false, apart := false, laid := [("wapentake/sha.k", laid_wapentake_sha_k)], narrowed := true }
def SignOnceUptoSaid : Prop := signOnceUptoRow.holds Tryd.pinned (OpenSpec.upto signOnceSpec)

/-- 'wapentakelaw05.SignReuse', WHERE WHAT IT READS IS OF BULK AT MOST 1048576: true; the input reads as it did. -/
def signReuseUptoRow : OpenClaim := { program := "ytjcghjgennddaaadoor", sum := "8653aff11f47e23d746857a7e1c747213956f8e62c86263b4424bc2cba5e693b", func := "wapentake/wapentakelaw05.SignReuse", spec := "signReuse", named := ["wapentake/sha.k"], plainKeys := false, apart := false, laid := [("wapentake/sha.k", laid_wapentake_sha_k)], narrowed := true }
def SignReuseUptoSaid : Prop := signReuseUptoRow.holds Tryd.pinned (OpenSpec.upto signReuseSpec)

end Rows
end Go.Proofs.YtjcghjgennddaaaDoor
