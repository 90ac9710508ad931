/-
  ShaSums: the digest of all bytes is SHA-256, by the book, and the bytes stay as they are: for all bytes.
-/
import Derived.Test.YtjcghjgennddaaaDoorCards
import Derived.Test.YtjcghjgennddaaaDoorTie
import Derived.Test.YtjcghjgennddaaaDoorShaL
import Derived.WalkKit
import Derived.ProofKit
import Derived.OpenShut
import Derived.Below
import Derived.SizedLaws
import Derived.Deep.DeepHandedRow
import Derived.Lib.LaidTab
namespace Go.Proofs.YtjcghjgennddaaaDoor.shaSums
open Go.ChangeShapes Go.WideShapes Go.ChangeAt Go.RowKit Go.Sx
set_option linter.unusedVariables false
set_option linter.unusedSimpArgs false
theorem byte_of {R : TypeId → Value → Prop} : ∀ {cs : List Chunk}, MatchL R [.i .u8] cs → ∃ x : Int, cs = [cI .u8 x] ∧ 0 ≤ x ∧ x < 256
  | [.one (.v (.int _ x))], ⟨rfl, h, _⟩ => ⟨x, rfl, by
    simp only [Lit.wf, Bool.and_eq_true, decide_eq_true_eq] at h
    have e1 : IntKind.min .u8 = 0 := by decide
    have e2 : IntKind.max .u8 = 255 := by decide
    omega⟩
theorem bat_of {w : World} {a : Option Addr} {len cap b off : Nat} {x : Nat → Int} (lc : len ≤ cap) (cm : cap ≤ maxLen) (hb : 0 < len → a = some ⟨b, off, none⟩ ∧ b < w.heap.size) (hc : ∀ i, i < len → CellsAt w b (off + i * 1) [cI .u8 (x i)]) :
    BAt w (fun _ => True) a len cap b off ((List.range len).map x) := by
  refine ⟨by simp, lc, cm, fun h0 => ⟨(hb h0).1, trivial, (hb h0).2⟩, fun i y hi => ?_⟩
  have hil : i < len := by
    rcases Nat.lt_or_ge i len with h | h
    · exact h
    · rw [List.getElem?_eq_none (by simpa using h)] at hi; cases hi
  have := hc i hil 0 (.int .u8 (x i)) rfl
  simp only [Nat.mul_one, Nat.add_zero] at this
  rw [this]
  simp [hil] at hi
  rw [hi]
theorem okB_of {len : Nat} {x : Nat → Int} (h : ∀ i, i < len → 0 ≤ x i ∧ x i < 256) : OkB ((List.range len).map x) := fun y hy => by
  obtain ⟨i, hi, rfl⟩ := List.mem_map.1 hy
  exact h i (List.mem_range.1 hi)
theorem slice_len {H : Type} {enc : TypeId × Value → H} {P : Program} {w : World} {spare : Nat → Bool} {held : Bool} {t e : TypeId} {fuel : Nat} {a : Option Addr} {len cap : Nat} {x : DataW H × List MemPlace} (ht : P.underlying t = some (.slice e))
    (h : DataW.trod enc P w 0 spare held fuel t [.slice a len cap] = some x) : len = 0 ∨ ∃ es sp, x.1 = .slice es sp ∧ es.length = len := by
  rcases Deep.open_slice ht h with ⟨hv, _⟩ | ⟨ad, len', cap', m, n, D, Pl, hv, _, _, _, _, hx, _⟩
  · left
    simp only [List.cons.injEq, Value.slice.injEq, and_true] at hv
    exact hv.2.1
  · right
    simp only [List.cons.injEq, Value.slice.injEq, and_true] at hv
    refine ⟨_, _, by rw [hx], ?_⟩
    simp [hv.2.1]
theorem own : ownKnob Tryd.prog.godebug = none := by kernel_rfl
theorem laidOut : laidOutB Tryd.prog = true := by kernel_rfl
theorem gTab : Tryd.prog.globalNamed "wapentake/sha.k" = some 0 := by kernel_rfl
theorem gTabType : (Tryd.prog.globals[0]?).map (·.type) = some 114 := by kernel_rfl
theorem cellsW : Tryd.prog.cellsOf 114 = 64 := by kernel_rfl
theorem cellsE : Tryd.prog.cellsOf 79 = 1 := by kernel_rfl
set_option maxRecDepth 100000 in
theorem table {W : World} (h : laidMetH Tryd.prog Rows.shaSumsRow.laid W) : Lib.TabIs Tryd.prog W "wapentake/sha.k" .u32 shaK :=
  Lib.tabIs_of_head (rest := []) gTab gTabType Tryd.underlying114 Tryd.underlying79 cellsE cellsW h
set_option maxRecDepth 100000 in
theorem kat {W : World} (h : laidMetH Tryd.prog Rows.shaSumsRow.laid W) : KAt W := by
  refine ⟨fun j v hv => ?_, ?_⟩
  · have hj : j < shaK.length := by
      rcases Nat.lt_or_ge j shaK.length with h | h
      · exact h
      · rw [List.getElem?_eq_none (by simpa [flat] using h)] at hv; cases hv
    have := (table h).cell gTab j hj
    rw [Nat.zero_add, this]
    simp only [flat, List.append_nil, List.getElem?_map] at hv
    rw [List.getElem?_eq_getElem hj] at hv
    simp only [Option.map_some, Option.some.injEq] at hv
    rw [← hv, List.getD_eq_getElem?_getD, List.getElem?_eq_getElem hj]
    rfl
  · exact block_lt_of_cell ((table h).cell gTab 0 (by decide))
set_option maxRecDepth 100000 in
theorem contract (H : Type) (enc : TypeId × Value → H) (W : World) (base : Nat) (args : Array Value) (ds gs : List (DataW H)) (before : List MemPlace)
    (hval0 : ∀ (j : Nat) t v, Tryd.f3.params[j]? = some t → args[j]? = some v → Value.okWide Tryd.prog W .any base t v)
    (hW : DataW.Whole enc Tryd.prog Tryd.f3.params.toList Rows.shaSumsSpec.vars false W args.toList ds gs before)
    (hsz : (DataW.weightsEach Tryd.prog (Tryd.f3.params.toList ++ (OpenSpec.ofChange Rows.shaSumsSpec).bare.plain.varTypes Tryd.prog) (ds ++ gs)).all (· ≤ reachBytes) = true) (hL : laidMetH Tryd.prog Rows.shaSumsRow.laid W) :
    Calls Tryd.prog 3 args W fun e W' => ∃ v, e = .returned v ∧ Rows.shaSumsSpec.post enc Tryd.prog Tryd.f3 false true false false W args v W' := by
  have hval : ∀ (j : Nat) t v, Tryd.f3.params[j]? = some t → args[j]? = some v → Value.okWide Tryd.prog W .any base t v := hval0
  have hW' := hW
  obtain ⟨p, q, hA0, hV, rfl, hfz, hnd⟩ := hW
  have hA : DataW.TrodAll enc Tryd.prog W 0 (fun _ => true) true Tryd.f3.params.toList args.toList ds p := hA0
  rw [Tryd.params3] at hA hval hsz
  obtain ⟨v0, vs0, d0, ds0, p0, q0, hargs, rfl, rfl, h0, r0⟩ := trodAll_cons hA
  obtain ⟨rfl, rfl, rfl⟩ := trodAll_nil r0
  obtain rfl : args = #[v0] := by cases args; simp_all
  obtain ⟨rfl, rfl⟩ := trodVars_none hV
  have k0 := h0
  have lt0 : ∀ x ∈ p0, x.block < W.heap.size := by obtain ⟨m, hm⟩ := k0; exact DataW.trod_lt m _ _ _ hm
  clear hA0 hval0
  obtain ⟨a0, len0, cap0, b0, off0, c0, rfl, lc0, cm0, an0, mt0, hb0, hc0⟩ : ∃ (a : Option Addr) (len cap b off : Nat) (c : Nat → List Chunk), v0 = .slice a len cap ∧ len ≤ cap ∧ cap ≤ maxLen ∧ (a = none → len = 0) ∧ (∀ i, i < len → MatchL (Rd enc Tryd.prog W 0 (fun _ => true) true) [.i .u8] (c i)) ∧ (0 < len → a = some ⟨b, off, none⟩ ∧ b < W.heap.size) ∧ ∀ i, i < len → CellsAt W b (off + i * 1) (c i) := by
    obtain ⟨fuel, hf⟩ := h0
    have hv1 : v0.cells.toList = [v0] := cells_one (hval 0 22 v0 rfl rfl) (by kernel_rfl)
    rw [hv1] at hf
    exact slice_open (d := 9) Tryd.underlying22 (by kernel_rfl) (by kernel_rfl) (by decide) hf
  obtain ⟨x0, hx0⟩ := @Deep.choose_lt Int ⟨0⟩ _ _ (fun i hi => byte_of (mt0 i hi))
  have hbat0 : BAt W (fun _ => True) a0 len0 cap0 b0 off0 ((List.range len0).map x0) := bat_of lc0 cm0 hb0 (fun i hi => by have := hc0 i hi; rw [(hx0 i hi).1] at this; exact this)
  have hok0 : OkB ((List.range len0).map x0) := okB_of (fun i hi => (hx0 i hi).2)
  have hre0 : len0 ≤ 140737488351232 := by
    obtain ⟨fuel, hf⟩ := k0
    have hv1 : (Value.slice a0 len0 cap0).cells.toList = [Value.slice a0 len0 cap0] := rfl
    rw [hv1] at hf
    rcases slice_len Tryd.underlying22 hf with h0 | ⟨es, sp, hd, hl⟩
    · omega
    · simp only at hd
      subst hd
      have := sized_slice hsz (j := 0) (t := 22) (e := 5) rfl rfl Tryd.underlying22
      rw [show Tryd.prog.bytesOf 5 = 1 from by kernel_rfl] at this
      simp only [reachBytes] at this
      omega
  refine (shaSums_any a0 len0 cap0 b0 off0 _ W (fun _ => 0) hbat0 hok0 hre0 (kat hL)).mono fun e W' ⟨he, bel⟩ => ?_
  subst he
  exact ⟨_, rfl, _, _, _, [], _, [], hW', trodAll_mk1 (shut_bool Tryd.underlying4 _), (trodAll_cons_mk (Below.trod laidOut (by kernel_rfl) (of_decide_eq_true (by kernel_rfl)) k0 bel lt0) (trodAll_mk0)), rfl, bel.frame _, fun h => by cases h⟩

/-- A world for the witness: the settled one, the table holding what its initialiser lays. -/
noncomputable def laidWorld (os : Os) : World :=
  { World.holding Tryd.prog os ⟨#[], #[], []⟩ with heap := (World.holding Tryd.prog os ⟨#[], #[], []⟩).heap.modify 0 fun
      | .cells _ t frozen => .cells #[.int .u32 1116352408, .int .u32 1899447441, .int .u32 3049323471, .int .u32 3921009573, .int .u32 961987163, .int .u32 1508970993, .int .u32 2453635748, .int .u32 2870763221, .int .u32 3624381080, .int .u32 310598401, .int .u32 607225278, .int .u32 1426881987, .int .u32 1925078388, .int .u32 2162078206, .int .u32 2614888103, .int .u32 3248222580, .int .u32 3835390401, .int .u32 4022224774, .int .u32 264347078, .int .u32 604807628, .int .u32 770255983, .int .u32 1249150122, .int .u32 1555081692, .int .u32 1996064986, .int .u32 2554220882, .int .u32 2821834349, .int .u32 2952996808, .int .u32 3210313671, .int .u32 3336571891, .int .u32 3584528711, .int .u32 113926993, .int .u32 338241895, .int .u32 666307205, .int .u32 773529912, .int .u32 1294757372, .int .u32 1396182291, .int .u32 1695183700, .int .u32 1986661051, .int .u32 2177026350, .int .u32 2456956037, .int .u32 2730485921, .int .u32 2820302411, .int .u32 3259730800, .int .u32 3345764771, .int .u32 3516065817, .int .u32 3600352804, .int .u32 4094571909, .int .u32 275423344, .int .u32 430227734, .int .u32 506948616, .int .u32 659060556, .int .u32 883997877, .int .u32 958139571, .int .u32 1322822218, .int .u32 1537002063, .int .u32 1747873779, .int .u32 1955562222, .int .u32 2024104815, .int .u32 2227730452, .int .u32 2361852424, .int .u32 2428436474, .int .u32 2756734187, .int .u32 3204031479, .int .u32 3329325298] t frozen
      | o => o }
theorem laid_met (os : Os) : laidMet Tryd.prog Rows.shaSumsRow.laid ((laidWorld os).forCall (fun _ _ => 0) ⟨#[], #[.slice none 0 0], []⟩).memory :=
  laidMet_of_run' 8 (by kernel_rfl) (by kernel_rfl)
theorem reads (os : Os) {H : Type} (enc : TypeId × Value → H) : ∃ places, DataW.whole enc Tryd.prog ((laidWorld os).forCall (fun _ _ => 0) ⟨#[], #[.slice none 0 0], []⟩).memory Tryd.f3.params.toList Rows.shaSumsSpec.vars false (#[.slice none 0 0] : Array Value).toList 8 = some ([.nil], [], places) :=
  ⟨[], by kernel_rfl⟩
set_option maxRecDepth 100000 in
theorem lifted (os : Os) (started : os.Started) (H : Type) (enc : TypeId × Value → H) (F : Stop.Interp) :
    ReturnsInHanded {} Tryd.checked os 3 .any ((OpenSpec.ofChange Rows.shaSumsSpec).preRow enc Tryd.prog Tryd.f3 Rows.shaSumsRow.domain false Rows.shaSumsRow.laid) (((OpenSpec.ofChange Rows.shaSumsSpec).at F).post enc Tryd.prog Tryd.f3 false true false false) := by
  obtain ⟨places, hx⟩ := reads os enc
  refine returnsInHanded_of_row (C := Tryd.checked) (s := OpenSpec.ofChange Rows.shaSumsSpec) own started (by kernel_rfl) Tryd.func3
    (witness_row_at (enc := enc) (C := Tryd.checked) false (laidWorld os) #[.slice none 0 0] rfl (by kernel_rfl) (by kernel_rfl) (by kernel_rfl)
      (OpenSpec.preRow_of_cond 8 hx (by kernel_rfl) (fun k hk => by cases hk) (by kernel_rfl) (laid_met os))) ?_
  intro W base args ds gs before hval hW _ hcond hsz hL _ _
  exact contract H enc W base args ds gs before hval hW hsz hL
theorem said : Rows.ShaSumsSaid :=
  OpenClaim.holds_of_cond 3 Tryd.f3 rfl rfl rfl rfl rfl rfl rfl ⟨rfl, rfl, rfl, rfl, rfl⟩ rfl rfl rfl rfl rfl (by kernel_rfl) Tryd.func3 (by kernel_rfl)
    (of_decide_eq_true (by kernel_rfl)) (by unfold Func.isWrapper; first | (rw [if_pos (by decide +kernel)]; kernel_rfl) | (rw [if_neg (by decide +kernel)]; exact ⟨rfl, rfl⟩))
    (fun os started H enc _ F => by rw [OpenClaim.pre_eq_preRow]; exact lifted os started H enc F)
theorem plain (f : FuncId) (fn : Func) (hf : Tryd.pinned.checked.prog.funcNamed "wapentake/wapentakelaw01.ShaSums" = some f) (hfn : Tryd.pinned.checked.prog.funcs[f]? = some fn) :
    false = Tryd.pinned.checked.prog.looks [] ∧ ∀ (j : Nat) t, fn.params[j]? = some t → Tryd.pinned.checked.prog.wantsStandIn t = false := by
  obtain rfl : f = 3 := Option.some.inj ((show Tryd.prog.funcNamed "wapentake/wapentakelaw01.ShaSums" = some 3 by kernel_rfl).symm.trans hf) |>.symm
  obtain rfl : fn = Tryd.f3 := (Option.some.inj (Tryd.func3.symm.trans hfn)).symm
  refine ⟨by kernel_rfl, fun j t ht => ?_⟩
  rw [Tryd.params3] at ht
  have hm := Array.mem_of_getElem? ht
  simp only [List.mem_toArray, List.mem_cons, List.not_mem_nil, or_false] at hm
  obtain rfl := hm
  · exact (show Tryd.prog.wantsStandIn 22 = false by kernel_rfl)
theorem card : Rows.ShaSumsCardSaid :=
  Claim7.holds_tied_plain_at .later [] _ _ _ _ said (fun _ h => by cases h) (by kernel_rfl) (fun _ h => by cases h) shaSums_row_tie rfl ⟨rfl, rfl⟩ (by kernel_rfl) rfl plain (by kernel_rfl)
end Go.Proofs.YtjcghjgennddaaaDoor.shaSums
namespace Go.Proofs.YtjcghjgennddaaaDoor
theorem shaSums_holds : Rows.ShaSumsCardSaid := shaSums.card
#print axioms shaSums_holds
end Go.Proofs.YtjcghjgennddaaaDoor
