/- Certificates: the laws' arguments. -/
import Derived.Test.YtlgffgnkkihaoaaDoorYdG
import Derived.Test.YtlgffgnkkihaoaaDoorDxRead
namespace Go.Proofs.YtlgffgnkkihaoaaDoor
open Go.ChangeShapes Go.WideShapes Go.ChangeAt Go.RowKit Go.Dx
set_option linter.unusedVariables false
set_option linter.unusedSimpArgs false
abbrev shSig : Sh := .st [.int .i64, .arr .u8 32]
abbrev shSG : Sh := .st [.int .i64, .int .i64, .str]
abbrev shQC : Sh := .st [.int .i64, .int .i64, .int .i64, .arr .u8 32, .sl (.int .i64), .sl shSig]
abbrev shRC : Sh := .st [.int .i64, .sl (.int .i64), .sl (.sl (.int .i64))]
abbrev shVT : Sh := .st [.int .i64, .int .i64, .int .i64, .arr .u8 32, .int .i64, shSig]
abbrev shTM : Sh := .st [.int .i64, .int .i64, .int .i64, shQC, .int .i64, shSig]
def cvSi (x : Dat shSig) : SI := (x.1, x.2.1)
def cvSG (x : Dat shSG) : SG := (x.1, x.2.1, x.2.2.1)
def cvQC (x : Dat shQC) : QC := ⟨x.1, x.2.1, x.2.2.1, x.2.2.2.1, x.2.2.2.2.1, List.map (α := Dat shSig) cvSi x.2.2.2.2.2.1⟩
def cvRC (x : Dat shRC) : RC := ⟨x.1, x.2.1, x.2.2.1⟩
def cvVT (x : Dat shVT) : VT := ⟨x.1, x.2.1, x.2.2.1, x.2.2.2.1, x.2.2.2.2.1, cvSi x.2.2.2.2.2.1⟩
theorem sl_cv {s : Sh} {β : Type} {f : β → List DC} {d : β} (cv : Dat s → β) (hf : ∀ x, toC s x = f (cv x)) (hd : cv (dfl s) = d) (L : List (Dat s)) : (fun i => toC s (L.getD i (dfl s))) = lC f d (L.map cv) := by
  funext i
  unfold lC
  rw [hf]
  congr 1
  rw [List.getD_eq_getElem?_getD, List.getD_eq_getElem?_getD, List.getElem?_map]
  cases L[i]? with
  | none => exact hd
  | some x => rfl
theorem sl_si (L : List (Dat shSig)) : slD shSig L (fun x => toC shSig x) = .sl 33 (L.map cvSi).length (lC siE siZ (L.map cvSi)) := by
  have e := sl_cv (s := shSig) (f := siE) (d := siZ) cvSi (fun _ => rfl) rfl L
  rw [List.length_map]
  exact congrArg (fun z => D.sl 33 L.length z) e
theorem sl_sg (L : List (Dat shSG)) : slD shSG L (fun x => toC shSG x) = .sl 3 (L.map cvSG).length (lC sgE sgZ (L.map cvSG)) := by
  have e := sl_cv (s := shSG) (f := sgE) (d := sgZ) cvSG (fun _ => rfl) rfl L
  rw [List.length_map]
  exact congrArg (fun z => D.sl 3 L.length z) e
theorem sl_vt (L : List (Dat shVT)) : slD shVT L (fun x => toC shVT x) = .sl 69 (L.map cvVT).length (lC vtE vtZ (L.map cvVT)) := by
  have e := sl_cv (s := shVT) (f := vtE) (d := vtZ) cvVT (fun _ => rfl) rfl L
  rw [List.length_map]
  exact congrArg (fun z => D.sl 69 L.length z) e
theorem sl_nu (L : List (List Int)) : slD (.sl (.int .i64)) L (fun x => toC (.sl (.int .i64)) x) = .sl 1 L.length (lC nuE [] L) := rfl
variable {m : Mem} {ρ : Nat → Dx.Loc} {v : Value}
theorem br_sg {L : List (Dat shSG)} (h : SRep m ρ (.a (.d (slD shSG L (fun y => toC shSG y)))) v) : SRep m ρ (.a (.d (.sl 3 (L.map cvSG).length (lC sgE sgZ (L.map cvSG))))) v := by rw [sl_sg] at h; exact h
theorem br_vts {L : List (Dat shVT)} (h : SRep m ρ (.a (.d (slD shVT L (fun y => toC shVT y)))) v) : SRep m ρ (.a (.d (.sl 69 (L.map cvVT).length (lC vtE vtZ (L.map cvVT))))) v := by rw [sl_vt] at h; exact h
theorem up_qc (x : Dat shQC) : upC (toC shQC x) = [.one (.d (.v (.int .i64 (cvQC x).ch))), .one (.d (.v (.int .i64 (cvQC x).ep))), .one (.d (.v (.int .i64 (cvQC x).vw))), .ints .u8 32 (cvQC x).blk, .one (.d (.si .i64 (cvQC x).who)), .one (.d (.sl 33 (cvQC x).sigs.length (lC siE siZ (cvQC x).sigs)))] := by
  exact congrArg (fun z : D => [Chunk.one (.d (.v (.int .i64 (cvQC x).ch))), .one (.d (.v (.int .i64 (cvQC x).ep))), .one (.d (.v (.int .i64 (cvQC x).vw))), .ints .u8 32 (cvQC x).blk, .one (.d (.si .i64 (cvQC x).who)), .one (.d z)]) (sl_si x.2.2.2.2.2.1)
theorem br_qc {x : Dat shQC} (h : SRep m ρ (.agg (upC (toC shQC x))) v) : SRep m ρ (.agg [.one (.d (.v (.int .i64 (cvQC x).ch))), .one (.d (.v (.int .i64 (cvQC x).ep))), .one (.d (.v (.int .i64 (cvQC x).vw))), .ints .u8 32 (cvQC x).blk, .one (.d (.si .i64 (cvQC x).who)), .one (.d (.sl 33 (cvQC x).sigs.length (lC siE siZ (cvQC x).sigs)))]) v := by rw [up_qc] at h; exact h
theorem br_rc {x : Dat shRC} (h : SRep m ρ (.agg (upC (toC shRC x))) v) : SRep m ρ (.agg [.one (.d (.v (.int .i64 (cvRC x).ep))), .one (.d (.si .i64 (cvRC x).mem)), .one (.d (.sl 1 (cvRC x).seats.length (lC nuE [] (cvRC x).seats)))]) v := h
theorem br_vt {x : Dat shVT} (h : SRep m ρ (.agg (upC (toC shVT x))) v) : SRep m ρ (.agg [.one (.d (.v (.int .i64 (cvVT x).ch))), .one (.d (.v (.int .i64 (cvVT x).ep))), .one (.d (.v (.int .i64 (cvVT x).vw))), .ints .u8 32 (cvVT x).blk, .one (.d (.v (.int .i64 (cvVT x).who))), .one (.d (.v (.int .i64 (cvVT x).sig.1))), .ints .u8 32 (cvVT x).sig.2]) v := h
theorem br_tm {x : Dat shTM} (h : SRep m ρ (.agg (upC (toC shTM x))) v) : SRep m ρ (.agg [.one (.d (.v (.int .i64 x.1))), .one (.d (.v (.int .i64 x.2.1))), .one (.d (.v (.int .i64 x.2.2.1))), .one (.d (.v (.int .i64 (cvQC x.2.2.2.1).ch))), .one (.d (.v (.int .i64 (cvQC x.2.2.2.1).ep))), .one (.d (.v (.int .i64 (cvQC x.2.2.2.1).vw))), .ints .u8 32 (cvQC x.2.2.2.1).blk, .one (.d (.si .i64 (cvQC x.2.2.2.1).who)), .one (.d (.sl 33 (cvQC x.2.2.2.1).sigs.length (lC siE siZ (cvQC x.2.2.2.1).sigs))), .one (.d (.v (.int .i64 x.2.2.2.2.1))), .one (.d (.v (.int .i64 x.2.2.2.2.2.1.1))), .ints .u8 32 x.2.2.2.2.2.1.2.1]) v := by
  have e := congrArg (fun z : D => SRep m ρ (.agg [Chunk.one (.d (.v (.int .i64 x.1))), .one (.d (.v (.int .i64 x.2.1))), .one (.d (.v (.int .i64 x.2.2.1))), .one (.d (.v (.int .i64 (cvQC x.2.2.2.1).ch))), .one (.d (.v (.int .i64 (cvQC x.2.2.2.1).ep))), .one (.d (.v (.int .i64 (cvQC x.2.2.2.1).vw))), .ints .u8 32 (cvQC x.2.2.2.1).blk, .one (.d (.si .i64 (cvQC x.2.2.2.1).who)), .one (.d z), .one (.d (.v (.int .i64 x.2.2.2.2.1))), .one (.d (.v (.int .i64 x.2.2.2.2.2.1.1))), .ints .u8 32 x.2.2.2.2.2.1.2.1]) v) (sl_si x.2.2.2.1.2.2.2.2.2.1)
  exact e.mp h
theorem inB {x : Int} (h : inK .u8 x) : 0 ≤ x ∧ x < 256 := inK_u8 h
theorem wf_d {L : List Int} (h : WfS (.arr .u8 32) L) : OkD L := ⟨fun x hx => inB (h.2 x hx), h.1⟩
theorem wf_sg {L : List (Dat shSG)} {k : Nat} (hb : blk (.sl shSG) L ≤ k) (hk : k ≤ 1048576) : (L.map cvSG).length < 1073741824 ∧ ∀ x ∈ L.map cvSG, x.2.2.size + 300 ≤ lim := by
  have hlim : lim = 68719476736 := rfl
  have hn : List.length (α := Dat shSG) L < blk (.sl shSG) L := len_blk (s := shSG) L
  refine ⟨by rw [List.length_map]; omega, fun x hx => ?_⟩
  obtain ⟨y, hy, rfl⟩ := List.mem_map.1 hx
  have h1 := blk_mem (s := shSG) L y hy
  have h2 : ByteArray.size y.2.2.1 + 1 ≤ blk shSG y := by simp only [blk, blkL]; omega
  show ByteArray.size y.2.2.1 + _ ≤ _
  omega
theorem wf_qc {x : Dat shQC} {k : Nat} (h : WfS shQC x) (hb : blk shQC x ≤ k) (hk : k ≤ 1048576) : OkQC (cvQC x) := by
  obtain ⟨_, _, _, h4, _, h6, _⟩ := h
  have n1 : List.length (α := Int) x.2.2.2.2.1 < blk (.sl (.int .i64)) x.2.2.2.2.1 := len_blk (s := .int .i64) x.2.2.2.2.1
  have n2 : List.length (α := Dat shSig) x.2.2.2.2.2.1 < blk (.sl shSig) x.2.2.2.2.2.1 := len_blk (s := shSig) x.2.2.2.2.2.1
  have n3 : blk (.sl (.int .i64)) x.2.2.2.2.1 ≤ blk shQC x := by simp only [blk, blkL]; omega
  have n4 : blk (.sl shSig) x.2.2.2.2.2.1 ≤ blk shQC x := by simp only [blk, blkL]; omega
  have e1 : (cvQC x).who.length = List.length (α := Int) x.2.2.2.2.1 := rfl
  have e2 : (cvQC x).sigs.length = List.length (α := Dat shSig) x.2.2.2.2.2.1 := List.length_map ..
  refine ⟨wf_d h4, by rw [e1]; omega, by rw [e2]; omega, fun s hs => ?_⟩
  obtain ⟨y, hy, rfl⟩ := List.mem_map.1 hs
  exact (h6 y hy).2.1.1
theorem wf_vts {L : List (Dat shVT)} {k : Nat} (h : WfS (.sl shVT) L) (hb : blk (.sl shVT) L ≤ k) (hk : k ≤ 1048576) : (L.map cvVT).length < 67108864 ∧ ∀ x ∈ L.map cvVT, OkD x.blk ∧ x.sig.2.length = 32 := by
  have hn : List.length (α := Dat shVT) L < blk (.sl shVT) L := len_blk (s := shVT) L
  refine ⟨by rw [List.length_map]; omega, fun x hx => ?_⟩
  obtain ⟨y, hy, rfl⟩ := List.mem_map.1 hx
  obtain ⟨_, _, _, h4, _, h6, _⟩ := h y hy
  exact ⟨wf_d h4, h6.2.1.1⟩
theorem wf_seats {x : Dat shRC} {k : Nat} (hb : blk shRC x ≤ k) (hk : k ≤ 1048576) (n : Int) : (seatsP (cvRC x) n).length < 1099511627776 := by
  have n2 : blk (.sl (.sl (.int .i64))) x.2.2.1 ≤ blk shRC x := by simp only [blk, blkL]; omega
  unfold seatsP
  split
  · simp
  · rw [List.getD_eq_getElem?_getD]
    cases h : (cvRC x).seats[n.toNat]? with
    | none => simp
    | some l =>
      have hm : l ∈ (cvRC x).seats := List.mem_of_getElem? h
      have h1 := blk_mem (s := .sl (.int .i64)) x.2.2.1 l hm
      have h2 : List.length (α := Int) l < blk (.sl (.int .i64)) l := len_blk (s := .int .i64) l
      show List.length l < _
      omega
end Go.Proofs.YtlgffgnkkihaoaaDoor
