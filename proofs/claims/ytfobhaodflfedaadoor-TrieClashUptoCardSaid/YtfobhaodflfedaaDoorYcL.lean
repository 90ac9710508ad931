/- Tries: the laws' arguments. -/
import Derived.Test.YtfobhaodflfedaaDoorYcI
import Derived.Test.YtfobhaodflfedaaDoorDxRead
namespace Go.Proofs.YtfobhaodflfedaaDoor
open Go.ChangeShapes Go.WideShapes Go.ChangeAt Go.RowKit Go.Dx
set_option linter.unusedVariables false
set_option linter.unusedSimpArgs false
abbrev shSE : Sh := .st [.arr .u8 32, .str]
def cvS (x : Dat shSE) : SE := (x.1, x.2.1)
theorem sl_eqv {m : Mem} {ρ : Nat → Dx.Loc} {sz n : Nat} {c c' : Nat → List DC} {v : Value} (hc : ∀ i, i < n → c i = c' i) (h : SRep m ρ (.a (.d (.sl sz n c))) v) : SRep m ρ (.a (.d (.sl sz n c'))) v := by
  have h : DRep m (.sl sz n c) v := h
  show DRep m (.sl sz n c') v
  unfold DRep at h ⊢
  obtain ⟨a, cap, h1, h2, h3⟩ := h
  refine ⟨a, cap, h1, h2, fun hn => ?_⟩
  obtain ⟨b, off, cells, e1, e2, e3, e4⟩ := h3 hn
  exact ⟨b, off, cells, e1, e2, e3, fun i hi => by rw [← hc i hi]; exact e4 i hi⟩
theorem br_se {m : Mem} {ρ : Nat → Dx.Loc} {v : Value} {L : List (Dat shSE)} (h : SRep m ρ (.a (.d (slD shSE L (fun y => toC shSE y)))) v) : SRep m ρ (.a (.d (.sl 33 (L.map cvS).length (lC rE rZ (L.map cvS))))) v := by
  rw [List.length_map]
  refine sl_eqv (c := fun i => toC shSE (L.getD i (dfl shSE))) (fun i hi => ?_) h
  unfold lC
  have : (L.map cvS).getD i rZ = cvS (L.getD i (dfl shSE)) := by
    have hi : i < List.length (α := Dat shSE) L := hi
    rw [List.getD_eq_getElem?_getD, List.getD_eq_getElem?_getD, List.getElem?_map, List.getElem?_eq_getElem hi]; rfl
  rw [this]; rfl
theorem wf_se {L : List (Dat shSE)} (h : WfS (.sl shSE) L) (hb : blk (.sl shSE) L ≤ 1048576) : OkR (L.map cvS) ∧ (L.map cvS).length < 536870912 ∧ ∀ e ∈ L.map cvS, e.2.size + 40000 ≤ lim := by
  have hlim : lim = 68719476736 := rfl
  have hsz : ∀ x, List.Mem x L → ByteArray.size x.2.1 < blk (.sl shSE) L := fun x hx => by
    have h1 := blk_mem (s := shSE) L x hx
    have h2 : ByteArray.size x.2.1 + 1 ≤ blk shSE x := by
      simp only [blk, blkL]; omega
    omega
  have hn : List.length (α := Dat shSE) L < blk (.sl shSE) L := len_blk (s := shSE) L
  refine ⟨fun e he => ?_, by rw [List.length_map]; omega, fun e he => ?_⟩
  · obtain ⟨x, hx, rfl⟩ := List.mem_map.1 he
    have hx' : List.Mem x L := hx
    have := hsz x hx'
    exact ⟨(h x hx').1.1, fun z hz => inK_u8 ((h x hx').1.2 z hz), by show ByteArray.size x.2.1 + _ ≤ _; omega⟩
  · obtain ⟨x, hx, rfl⟩ := List.mem_map.1 he
    have hx' : List.Mem x L := hx
    have := hsz x hx'
    show ByteArray.size x.2.1 + _ ≤ _; omega
end Go.Proofs.YtfobhaodflfedaaDoor
