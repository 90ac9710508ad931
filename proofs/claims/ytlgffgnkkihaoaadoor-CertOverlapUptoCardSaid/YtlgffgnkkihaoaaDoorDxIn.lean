/- What a law is given: bytes and rows of bytes, as they are read; a law's call. -/
import Derived.Test.YtlgffgnkkihaoaaDoorDxWp
import Derived.Deep.Slices
import Derived.WalkKit
import Derived.ProofKit
namespace Go.Dx
open Go.RowKit
set_option linter.unusedVariables false
set_option linter.unusedSimpArgs false
section
variable {H : Type} {enc : TypeId × Value → H} {P : Program} {w : World} {spare : Nat → Bool} {held : Bool}
abbrev allM (w : World) : Mem := ⟨w, fun i => i < w.heap.size⟩
/-- Bytes' values lie between 0 and 255. -/
def By (L : List Int) : Prop := ∀ x ∈ L, 0 ≤ x ∧ x < 256
theorem one_cell {ad : Addr} {cs : List Value} (h : w.cells? 0 ad 1 = some cs) : ∃ v, cs = [v] ∧ w.cell? ad = some v := by
  unfold World.cells? at h
  rw [if_pos (Nat.zero_le _)] at h
  have e : List.range 1 = [0] := rfl
  rw [e] at h
  simp only [List.mapM_cons, List.mapM_nil] at h
  have ea : ad.add 0 = ad := rfl
  rw [ea] at h
  cases hc : w.cell? ad with
  | none => rw [hc] at h; cases h
  | some v => rw [hc] at h; exact ⟨v, by simpa using h.symm, rfl⟩
theorem in_byte {e : TypeId} {n : Nat} {v : Value} {y : DataW H × List MemPlace} (he : P.underlying e = some (.int .u8)) (h : DataW.trod enc P w 0 spare held n e [v] = some y) : ∃ z, v = .int .u8 z ∧ 0 ≤ z ∧ z < 256 := by
  obtain ⟨z, rfl, hw⟩ : ∃ z, v = .int .u8 z ∧ (Lit.int .u8 z).wf = true := by
    cases n with
    | zero => simp [DataW.trod] at h
    | succ m =>
      unfold DataW.trod at h
      rw [he] at h
      split at h <;> simp_all
  refine ⟨z, rfl, ?_⟩
  simp only [Lit.wf, Bool.and_eq_true, decide_eq_true_eq] at hw
  have e1 : IntKind.min .u8 = 0 := by decide
  have e2 : IntKind.max .u8 = 255 := by decide
  omega
/-- Cells one behind the other. -/
theorem cells_at {ad : Addr} {len : Nat} {f : Nat → Value} (h0 : 0 < len) (h : ∀ i, i < len → w.cell? (ad.add (i * 1)) = some (f i)) :
    ∃ b off cells, ad = ⟨b, off, none⟩ ∧ (allM w).fz b cells ∧ ∀ i, i < len → cells[off + i]? = some (f i) := by
  obtain ⟨b, off, spot⟩ := ad
  have g0 := h 0 h0
  have e0 : (⟨b, off, spot⟩ : Addr).add (0 * 1) = ⟨b, off, spot⟩ := rfl
  rw [e0] at g0
  unfold World.cell? at g0
  cases hb : w.heap[b]? with
  | none => simp [hb] at g0
  | some o =>
    simp only [hb] at g0
    cases o with
    | cells c ty fr =>
      simp only at g0
      have hs : spot = none := by
        cases spot with
        | none => rfl
        | some s => simp at g0
      subst hs
      refine ⟨b, off, c.toList, rfl, ⟨(Array.getElem?_eq_some_iff.1 hb).1, ty, fr, by simpa using hb⟩, fun i hi => ?_⟩
      have gi := h i hi
      unfold World.cell? at gi
      by_cases hi0 : i = 0
      · subst hi0
        rw [e0] at gi
        simp only [hb] at gi
        simpa using gi
      · have ea : (⟨b, off, none⟩ : Addr).add (i * 1) = ⟨b, off + i, none⟩ := by simp [Addr.add, hi0]
        rw [ea] at gi
        simp only [hb] at gi
        simpa using gi
    | _ => simp at g0
theorem choose_by {α : Type} [Inhabited α] {p : Nat → α → Prop} {n : Nat} (h : ∀ i, i < n → ∃ x, p i x) : ∃ f : Nat → α, ∀ i, i < n → p i (f i) := by
  refine ⟨fun i => if hi : i < n then Classical.choose (h i hi) else default, fun i hi => ?_⟩
  simp only [hi, dif_pos]
  exact Classical.choose_spec (h i hi)
theorem range_get {α : Type} {f : Nat → α} {n i : Nat} {x : α} (h : ((List.range n).map f)[i]? = some x) : i < n ∧ x = f i := by
  rw [List.getElem?_map] at h
  rcases Nat.lt_or_ge i n with hi | hi
  · rw [List.getElem?_range hi] at h
    simp at h; exact ⟨hi, h.symm⟩
  · rw [List.getElem?_eq_none (by simpa using hi)] at h; cases h
/-- As many as are read. -/
def Sz1 (L : List Int) (d : DataW H) : Prop := L = [] ∨ ∃ es sp, d = .slice es sp ∧ es.length = L.length
theorem in_bytes {t e : TypeId} {fuel : Nat} {v : Value} {x : DataW H × List MemPlace} (ht : P.underlying t = some (.slice e)) (he : P.underlying e = some (.int .u8)) (hs : P.cellsOf e = 1) (h : DataW.trod enc P w 0 spare held fuel t [v] = some x) :
    ∃ L, By L ∧ IRep (allM w) .u8 L v ∧ Sz1 L x.1 := by
  rcases Deep.open_slice ht h with ⟨hv, _⟩ | ⟨ad, len, cap, m, n, D, Pl, hv, _, hlc, hcm, hm, hx, hel⟩
  · simp only [List.cons.injEq, and_true] at hv
    subst hv
    exact ⟨[], (fun x hx => by cases hx), ⟨none, 0, rfl, Nat.le_refl _, fun h => absurd rfl h⟩, .inl rfl⟩
  · simp only [List.cons.injEq, and_true] at hv
    subst hv
    have hlm : len ≤ m := by rw [hm]; split <;> omega
    rw [hs] at hel
    obtain ⟨f, hf⟩ := choose_by (α := Int) (p := fun i z => w.cell? (ad.add (i * 1)) = some (.int .u8 z) ∧ 0 ≤ z ∧ z < 256) (n := len) fun i hi => by
      obtain ⟨cs', h1, h2⟩ := hel i (by omega)
      obtain ⟨v, rfl, h3⟩ := one_cell h1
      obtain ⟨z, rfl, hz⟩ := in_byte he h2
      exact ⟨z, h3, hz⟩
    refine ⟨(List.range len).map f, fun x hx => ?_, ⟨some ad, cap, by simp, by simpa using hlc, fun hne => ?_⟩, .inr ⟨_, _, by rw [hx], by simp⟩⟩
    · obtain ⟨i, hi, rfl⟩ := List.mem_map.1 hx
      exact (hf i (List.mem_range.1 hi)).2
    · have h0 : 0 < len := by
        rcases Nat.eq_zero_or_pos len with h | h
        · subst h; exact absurd rfl hne
        · exact h
      obtain ⟨b, off, cells, rfl, h1, h2⟩ := cells_at h0 fun i hi => (hf i hi).1
      refine ⟨b, off, cells, rfl, h1, fun i z hz => ?_⟩
      obtain ⟨hi, rfl⟩ := range_get hz
      exact h2 i hi
def SzL : List (List Int) → List (DataW H) → Prop
  | [], _ => True
  | L :: Ls, d :: ds => Sz1 L d ∧ SzL Ls ds
  | _ :: _, [] => False
theorem szL_map {f : Nat → List Int} {D : Nat → DataW H} : ∀ {l : List Nat}, (∀ i ∈ l, Sz1 (f i) (D i)) → SzL (l.map f) (l.map D)
  | [], _ => trivial
  | i :: l, h => ⟨h i (by simp), szL_map fun j hj => h j (by simp [hj])⟩
theorem in_rows {t e b : TypeId} {fuel : Nat} {v : Value} {x : DataW H × List MemPlace} (ht : P.underlying t = some (.slice e)) (he : P.underlying e = some (.slice b)) (hs : P.cellsOf e = 1) (hb : P.underlying b = some (.int .u8)) (hs' : P.cellsOf b = 1)
    (h : DataW.trod enc P w 0 spare held fuel t [v] = some x) : ∃ Ls, (∀ L ∈ Ls, By L) ∧ BRepS (allM w) Ls v ∧ (Ls = [] ∨ ∃ ds sp, x.1 = .slice ds sp ∧ ds.length = Ls.length ∧ SzL Ls ds) := by
  rcases Deep.open_slice ht h with ⟨hv, _⟩ | ⟨ad, len, cap, m, n, D, Pl, hv, _, hlc, hcm, hm, hx, hel⟩
  · simp only [List.cons.injEq, and_true] at hv
    subst hv
    exact ⟨[], (fun x hx => by cases hx), ⟨none, 0, rfl, Nat.le_refl _, fun h => absurd rfl h⟩, .inl rfl⟩
  · simp only [List.cons.injEq, and_true] at hv
    subst hv
    have hlm : len ≤ m := by rw [hm]; split <;> omega
    rw [hs] at hel
    obtain ⟨f, hf⟩ := choose_by (α := Value × List Int) (p := fun i q => w.cell? (ad.add (i * 1)) = some q.1 ∧ By q.2 ∧ IRep (allM w) .u8 q.2 q.1 ∧ Sz1 q.2 (D i)) (n := len) fun i hi => by
      obtain ⟨cs', h1, h2⟩ := hel i (by omega)
      obtain ⟨v, rfl, h3⟩ := one_cell h1
      obtain ⟨L, k1, k2, k3⟩ := in_bytes he hb hs' h2
      exact ⟨(v, L), h3, k1, k2, k3⟩
    refine ⟨(List.range len).map fun i => (f i).2, fun L hL => ?_, ⟨some ad, cap, by simp, by simpa using hlc, fun hne => ?_⟩, .inr ⟨_, _, by rw [hx], by simp, szL_map fun i hi => (hf i (List.mem_range.1 hi)).2.2.2⟩⟩
    · obtain ⟨i, hi, rfl⟩ := List.mem_map.1 hL
      exact (hf i (List.mem_range.1 hi)).2.1
    · have h0 : 0 < len := by
        rcases Nat.eq_zero_or_pos len with h | h
        · subst h; exact absurd rfl hne
        · exact h
      obtain ⟨b, off, cells, rfl, h1, h2⟩ := cells_at h0 fun i hi => (hf i hi).1
      refine ⟨b, off, cells, rfl, h1, fun i L hL => ?_⟩
      obtain ⟨hi, rfl⟩ := range_get hL
      exact ⟨_, h2 i hi, (hf i hi).2.2.1⟩
theorem cells_one {r : Reach} {bs : Nat} {t : TypeId} {v : Value} (hv : Value.okWide P w r bs t v) (hag : isAggB P t = some false) : v.cells.toList = [v] := by
  unfold Value.okWide at hv
  unfold isAggB at hag
  cases hu : P.underlying t with
  | none => simp [hu] at hag
  | some d =>
    rw [hu] at hv hag
    cases d <;> simp at hag <;> (unfold Cell.okWide at hv; rw [hu] at hv; cases v <;> first | rfl | (unfold Cell.ok at hv; rw [hu] at hv; first | exact hv.elim | exact absurd hv id | cases hv))
/-- A table that is laid, only read. -/
theorem table_pt {g n : Nat} {k : IntKind} {K : List Int} (hn : K.length = n) (h0 : 0 < n) (h : ∀ j, j < n → w.cell? ⟨g, j, none⟩ = some (.int k (K.getD j 0))) : DRep (allM w) (.pt [.ints k n K]) (.pointer (some ⟨g, 0, none⟩)) := by
  have h' : ∀ i, i < n → w.cell? ((⟨g, 0, none⟩ : Addr).add (i * 1)) = some (.int k (K.getD i 0)) := fun i hi => by
    rw [← h i hi]
    by_cases e : i = 0
    · subst e; rfl
    · simp [Addr.add, e]
  obtain ⟨b, off, cells, e, h1, h2⟩ := cells_at h0 h'
  simp only [Addr.mk.injEq] at e
  obtain ⟨rfl, rfl, _⟩ := e
  refine ⟨g, 0, cells, rfl, h1, [], ?_, hn, rfl⟩
  have hsz : szD [.ints k n K] = n := by simp [szD]
  rw [hsz, List.append_nil, List.drop_zero]
  apply List.ext_getElem?
  intro i
  rw [List.getElem?_take]
  split
  · rename_i hi
    have := h2 i hi
    rw [Nat.zero_add] at this
    rw [this, List.getElem?_map, List.getElem?_eq_getElem (by omega)]
    simp [List.getD_eq_getElem?_getD, List.getElem?_eq_getElem (show i < K.length by omega)]
  · rename_i hi
    rw [List.getElem?_eq_none (by simp; omega)]
/-- A law that answers a truth value, and changes nothing. -/
theorem law_run {G : List (Nat × List DC)} {f : FuncId} {vs : List SV} {b : Bool} {us : List Value} (h : CallsOk P G f vs [] (eB b) []) (hL : LRep (allM w) (fun _ => loc1 0 0 0) vs us) (hG : GOk G (allM w)) :
    Calls P f us.toArray w fun r w' => r = .returned (.bool b) ∧ Below w.heap.size w w' := by
  refine (h w (fun i => i < w.heap.size) (fun _ => loc1 0 0 0) us hL ⟨(fun k b hk => by cases hk), (fun k b hk => by cases hk), (fun k k' b b' hk => by cases hk), fun i hi => hi⟩ hG).mono fun r w' hr => ?_
  obtain ⟨F', σ, u, rfl, h1, _, h3⟩ := hr
  have h1 : u = .bool b := h1
  subst h1
  exact ⟨rfl, h3.os, h3.tape, h3.output, h3.size, fun i hi => h3.blk i hi fun k b hk => by cases hk⟩
end
end Go.Dx
