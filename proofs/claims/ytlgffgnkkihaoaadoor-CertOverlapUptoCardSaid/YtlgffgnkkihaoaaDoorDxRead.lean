/- What a law is given, read by its type's shape: numbers, truth values, strings, rows of numbers, structs, slices of such, to any depth. -/
import Derived.Test.YtlgffgnkkihaoaaDoorDxIn
import Derived.Test.YtlgffgnkkihaoaaDoorRows
namespace Go.Dx
open Go.RowKit
open Go.Proofs.YtlgffgnkkihaoaaDoor
set_option linter.unusedVariables false
set_option linter.unusedSimpArgs false
inductive Sh where
  | int (k : IntKind)
  | bool
  | str
  | arr (k : IntKind) (n : Nat)
  | st (fs : List Sh)
  | sl (s : Sh)
mutual
def Dat : Sh → Type
  | .int _ => Int
  | .bool => Bool
  | .str => ByteArray
  | .arr _ _ => List Int
  | .st fs => DatL fs
  | .sl s => List (Dat s)
def DatL : List Sh → Type
  | [] => Unit
  | s :: r => Dat s × DatL r
end
mutual
def dfl : (s : Sh) → Dat s
  | .int _ => (0 : Int)
  | .bool => false
  | .str => (⟨#[]⟩ : ByteArray)
  | .arr _ _ => ([] : List Int)
  | .st fs => dflL fs
  | .sl s => ([] : List (Dat s))
def dflL : (fs : List Sh) → DatL fs
  | [] => ()
  | s :: r => (dfl s, dflL r)
end
mutual
def szS : Sh → Nat
  | .arr _ n => n
  | .st fs => szSL fs
  | _ => 1
def szSL : List Sh → Nat
  | [] => 0
  | s :: r => szS s + szSL r
end
def slD : (s : Sh) → List (Dat s) → (Dat s → List DC) → D
  | .int k, L, _ => .si k L
  | .sl (.int .u8), L, _ => .sb L
  | s, L, f => .sl (szS s) L.length (fun i => f (L.getD i (dfl s)))
mutual
def toC : (s : Sh) → Dat s → List DC
  | .int k, x => [.one (.v (.int k x))]
  | .bool, b => [.one (.v (.bool b))]
  | .str, b => [.one (.v (.string b))]
  | .arr k n, L => [.ints k n L]
  | .st fs, d => toCL fs d
  | .sl s, L => [.one (slD s L (fun x => toC s x))]
def toCL : (fs : List Sh) → DatL fs → List DC
  | [], _ => []
  | s :: r, d => toC s d.1 ++ toCL r d.2
end
def allIn {α : Type} (p : α → Prop) (L : List α) : Prop := ∀ x ∈ L, p x
def inK (k : IntKind) (x : Int) : Prop := k.min ≤ x ∧ x ≤ k.max
mutual
def WfS : (s : Sh) → Dat s → Prop
  | .int k, x => inK k x
  | .bool, _ => True
  | .str, _ => True
  | .arr k n, L => (L : List Int).length = n ∧ allIn (α := Int) (inK k) L
  | .st fs, d => WfSL fs d
  | .sl s, L => allIn (α := Dat s) (fun x => WfS s x) L
def WfSL : (fs : List Sh) → DatL fs → Prop
  | [], _ => True
  | s :: r, d => WfS s d.1 ∧ WfSL r d.2
end
def sumN {α : Type} (f : α → Nat) : List α → Nat
  | [] => 0
  | x :: r => f x + sumN f r
mutual
def blk : (s : Sh) → Dat s → Nat
  | .int _, _ => 1
  | .bool, _ => 1
  | .str, b => (b : ByteArray).size + 1
  | .arr _ _, L => (L : List Int).length + 1
  | .st fs, d => blkL fs d + 1
  | .sl s, L => sumN (fun x => blk s x) L + 1
def blkL : (fs : List Sh) → DatL fs → Nat
  | [], _ => 0
  | s :: r, d => blk s d.1 + blkL r d.2
end
mutual
def shB (P : Program) : Sh → TypeId → Bool
  | .int k, t => match P.underlying t with
    | some (.int k') => kindB k k'
    | _ => false
  | .bool, t => match P.underlying t with
    | some .bool => true
    | _ => false
  | .str, t => match P.underlying t with
    | some .string => true
    | _ => false
  | .arr k n, t => match P.underlying t with
    | some (.array m e) => match P.underlying e with
      | some (.int k') => Nat.beq m n && (kindB k k' && (Nat.beq (P.cellsOf e) 1 && Nat.beq (P.cellsOf t) n))
      | _ => false
    | _ => false
  | .st fs, t => match P.underlying t with
    | some (.struct fl) => shL P fs fl.toList 0 && Nat.beq (P.cellsOf t) (szSL fs)
    | _ => false
  | .sl s, t => match P.underlying t with
    | some (.slice e) => shB P s e && (Nat.beq (P.cellsOf e) (szS s) && Nat.blt 0 (szS s))
    | _ => false
def shL (P : Program) : List Sh → List Field → Nat → Bool
  | [], [], _ => true
  | s :: r, f :: fl, off => shB P s f.type && (Nat.beq f.offset off && (Nat.beq (P.cellsOf f.type) (szS s) && shL P r fl (off + szS s)))
  | _, _, _ => false
end
theorem CRep.app {m : Mem} : ∀ {a b : List DC} {vs ws : List Value}, CRep m a vs → CRep m b ws → CRep m (a ++ b) (vs ++ ws)
  | [], b, vs, ws, h, k => by rw [show vs = [] from h]; exact k
  | .one d :: a, b, vs, ws, h, k => by
    obtain ⟨v, r, rfl, h2, h3, h4⟩ := h
    exact ⟨v, r ++ ws, rfl, h2, h3, CRep.app h4 k⟩
  | .ints kd n xs :: a, b, vs, ws, h, k => by
    obtain ⟨r, rfl, h2, h3⟩ := h
    exact ⟨r ++ ws, by simp, h2, CRep.app h3 k⟩
section
variable {H : Type} {enc : TypeId × Value → H} {P : Program} {w : World} {spare : Nat → Bool} {held : Bool}
theorem one_le {H : Type} (d : DataW H) : 1 ≤ Rows.uptoBulk d := by
  cases d with
  | lit l => cases l <;> simp [Rows.uptoBulk]
  | _ => simp [Rows.uptoBulk]
/-- The cells from a place on, of a block. -/
theorem cells_take {b o n : Nat} {cs : List Value} (h0 : 0 < n) (h : w.cells? 0 ⟨b, o, none⟩ n = some cs) : ∃ c ty fr, w.heap[b]? = some (.cells c ty fr) ∧ cs = (c.toList.drop o).take n ∧ o + n ≤ c.size := by
  unfold World.cells? at h
  rw [if_pos (Nat.zero_le _)] at h
  have key : ∀ (k : Nat) (l : List Nat) (cs : List Value), l = List.range' k l.length → l.mapM (fun i => w.cell? ((⟨b, o, none⟩ : Addr).add i)) = some cs → l ≠ [] → ∃ c ty fr, w.heap[b]? = some (.cells c ty fr) ∧ cs = (c.toList.drop (o + k)).take l.length ∧ o + k + l.length ≤ c.size := by
    intro k l
    induction l generalizing k with
    | nil => intro cs _ _ hn; exact absurd rfl hn
    | cons i l ih =>
      intro cs hl hm _
      simp only [List.length_cons, List.range'_succ, List.cons.injEq] at hl
      obtain ⟨rfl, hl⟩ := hl
      simp only [List.mapM_cons] at hm
      cases hc : w.cell? ((⟨b, o, none⟩ : Addr).add i) with
      | none => rw [hc] at hm; cases hm
      | some v =>
        rw [hc] at hm
        have ea : (⟨b, o, none⟩ : Addr).add i = ⟨b, o + i, none⟩ := by
          by_cases hi : i = 0
          · subst hi; rfl
          · simp [Addr.add, hi]
        rw [ea] at hc
        unfold World.cell? at hc
        cases hb : w.heap[b]? with
        | none => simp [hb] at hc
        | some ob =>
          simp only [hb] at hc
          cases ob with
          | cells c ty fr =>
            simp only at hc
            have hv : c[o + i]? = some v := by simpa using hc
            have hlt : o + i < c.size := by
              rcases Nat.lt_or_ge (o + i) c.size with h | h
              · exact h
              · rw [Array.getElem?_eq_none h] at hv; cases hv
            have hdrop : c.toList.drop (o + i) = v :: c.toList.drop (o + i + 1) := by
              rw [List.drop_eq_getElem_cons (by simpa using hlt)]
              congr 1
              have := Array.getElem?_eq_some_iff.1 hv
              obtain ⟨_, e⟩ := this
              simpa using e
            by_cases hl0 : l = []
            · subst hl0
              have : cs = [v] := by simpa using hm.symm
              subst this
              exact ⟨c, ty, fr, rfl, by rw [hdrop]; simp, by simp; omega⟩
            · cases hr : l.mapM (fun i => w.cell? ((⟨b, o, none⟩ : Addr).add i)) with
              | none => rw [hr] at hm; cases hm
              | some q =>
                rw [hr] at hm
                have hcs : cs = v :: q := by simpa using hm.symm
                obtain ⟨c', ty', fr', h1, h2, h3⟩ := ih (i + 1) q hl hr hl0
                rw [hb] at h1
                simp only [Option.some.injEq, Obj.cells.injEq] at h1
                obtain ⟨rfl, rfl, rfl⟩ := h1
                refine ⟨c, ty, fr, rfl, ?_, by simp only [List.length_cons]; omega⟩
                rw [hcs, hdrop, h2, show o + (i + 1) = o + i + 1 by omega]; simp
          | _ => simp at hc
  obtain ⟨c, ty, fr, h1, h2, h3⟩ := key 0 (List.range n) cs (by rw [List.range_eq_range']; simp) h (by intro e; have := congrArg List.length e; simp at this; omega)
  simp only [List.length_range, Nat.add_zero] at h2 h3
  exact ⟨c, ty, fr, h1, h2, h3⟩
/-- Rows of cells one behind the other. -/
theorem rows_at {ad : Addr} {len sz : Nat} {f : Nat → List Value} (h0 : 0 < len) (hs : 0 < sz) (h : ∀ i, i < len → w.cells? 0 (ad.add (i * sz)) sz = some (f i)) :
    ∃ b off cells, ad = ⟨b, off, none⟩ ∧ (allM w).fz b cells ∧ off + len * sz ≤ cells.length ∧ ∀ i, i < len → f i = (cells.drop (off + i * sz)).take sz := by
  obtain ⟨b, off, spot⟩ := ad
  have g0 := h 0 h0
  have e0 : (⟨b, off, spot⟩ : Addr).add (0 * sz) = ⟨b, off, spot⟩ := by rw [Nat.zero_mul]; rfl
  rw [e0] at g0
  have hsp : spot = none := by
    unfold World.cells? at g0
    rw [if_pos (Nat.zero_le _)] at g0
    obtain ⟨m, rfl⟩ : ∃ m, sz = m + 1 := ⟨sz - 1, by omega⟩
    rw [List.range_succ_eq_map, List.mapM_cons] at g0
    cases hc : w.cell? ((⟨b, off, spot⟩ : Addr).add 0) with
    | none => rw [hc] at g0; cases g0
    | some v =>
      have e1 : (⟨b, off, spot⟩ : Addr).add 0 = ⟨b, off, spot⟩ := rfl
      rw [e1] at hc
      unfold World.cell? at hc
      cases hb : w.heap[b]? with
      | none => simp [hb] at hc
      | some o =>
        simp only [hb] at hc
        cases o with
        | cells c ty fr =>
          cases spot with
          | none => rfl
          | some s => simp at hc
        | _ => simp at hc
  subst hsp
  obtain ⟨c, ty, fr, h1, h2, h3⟩ := cells_take hs g0
  have all : ∀ i, i < len → f i = (c.toList.drop (off + i * sz)).take sz ∧ off + i * sz + sz ≤ c.size := fun i hi => by
    have gi := h i hi
    have ea : (⟨b, off, none⟩ : Addr).add (i * sz) = ⟨b, off + i * sz, none⟩ := by
      by_cases hz : i * sz = 0
      · rw [hz]; rfl
      · simp [Addr.add, hz]
    rw [ea] at gi
    obtain ⟨c', ty', fr', k1, k2, k3⟩ := cells_take hs gi
    rw [h1] at k1
    simp only [Option.some.injEq, Obj.cells.injEq] at k1
    obtain ⟨rfl, _, _⟩ := k1
    exact ⟨k2, k3⟩
  refine ⟨b, off, c.toList, rfl, ⟨(Array.getElem?_eq_some_iff.1 h1).1, ty, fr, by simpa using h1⟩, ?_, fun i hi => (all i hi).1⟩
  have := (all (len - 1) (by omega)).2
  have e : len * sz = (len - 1) * sz + sz := by
    rw [← Nat.succ_mul]; congr 1; omega
  simp only [Array.length_toList]; omega
theorem in_int {k k' : IntKind} {t : TypeId} {fuel : Nat} {cs : List Value} {x : DataW H × List MemPlace} (ht : P.underlying t = some (.int k)) (h : DataW.trod enc P w 0 spare held fuel t cs = some x) : ∃ z, cs = [.int k z] ∧ inK k z ∧ x.1 = .lit (.int k z) := by
  cases fuel with
  | zero => simp [DataW.trod] at h
  | succ m =>
    unfold DataW.trod at h
    rw [ht] at h
    match cs, h with
    | [.int k2 n], h =>
      simp only at h
      split at h
      · rename_i hw
        obtain ⟨rfl, hw⟩ := hw
        simp only [Lit.wf, Bool.and_eq_true, decide_eq_true_eq] at hw
        simp only [Option.some.injEq] at h; subst h
        exact ⟨n, rfl, hw, rfl⟩
      · cases h
theorem in_boolV {t : TypeId} {fuel : Nat} {cs : List Value} {x : DataW H × List MemPlace} (ht : P.underlying t = some .bool) (h : DataW.trod enc P w 0 spare held fuel t cs = some x) : ∃ b, cs = [.bool b] := by
  cases fuel with
  | zero => simp [DataW.trod] at h
  | succ m =>
    unfold DataW.trod at h
    rw [ht] at h
    match cs, h with
    | [.bool b], h => exact ⟨b, rfl⟩
theorem in_strV {t : TypeId} {fuel : Nat} {cs : List Value} {x : DataW H × List MemPlace} (ht : P.underlying t = some .string) (h : DataW.trod enc P w 0 spare held fuel t cs = some x) : ∃ b : ByteArray, cs = [.string b] ∧ x.1 = .lit (.string b.data.toList) := by
  cases fuel with
  | zero => simp [DataW.trod] at h
  | succ m =>
    unfold DataW.trod at h
    rw [ht] at h
    match cs, h with
    | [.string b], h =>
      simp only at h
      split at h
      · simp only [Option.some.injEq] at h; subst h
        exact ⟨b, rfl, rfl⟩
      · cases h
theorem in_struct {t : TypeId} {fl : Array Field} {fuel : Nat} {cs : List Value} {x : DataW H × List MemPlace} (ht : P.underlying t = some (.struct fl)) (h : DataW.trod enc P w 0 spare held fuel t cs = some x) :
    ∃ m xs, cs.length = P.cellsOf t ∧ (fl.toList.mapM fun f => DataW.trod enc P w 0 spare held m f.type ((cs.drop f.offset).take (P.cellsOf f.type))) = some xs ∧ x.1 = .agg (xs.map (·.1)) := by
  cases fuel with
  | zero => simp [DataW.trod] at h
  | succ m =>
    unfold DataW.trod at h
    rw [ht] at h
    simp only at h
    split at h
    · rename_i hl
      obtain ⟨xs, h1, h2⟩ := Option.map_eq_some_iff.1 h
      exact ⟨m, xs, hl, h1, by rw [← h2]⟩
    · cases h
theorem in_array {t e : TypeId} {n fuel : Nat} {cs : List Value} {x : DataW H × List MemPlace} (ht : P.underlying t = some (.array n e)) (h : DataW.trod enc P w 0 spare held fuel t cs = some x) :
    ∃ m xs, cs.length = P.cellsOf t ∧ ((List.range n).mapM fun i => DataW.trod enc P w 0 spare held m e ((cs.drop (i * P.cellsOf e)).take (P.cellsOf e))) = some xs ∧ x.1 = .agg (xs.map (·.1)) := by
  cases fuel with
  | zero => simp [DataW.trod] at h
  | succ m =>
    unfold DataW.trod at h
    rw [ht] at h
    simp only at h
    split at h
    · rename_i hl
      obtain ⟨xs, h1, h2⟩ := Option.map_eq_some_iff.1 h
      exact ⟨m, xs, hl, h1, by rw [← h2]⟩
    · cases h
theorem bulk_all {xs : List (DataW H)} : xs.length ≤ Rows.uptoBulkAll xs := by
  induction xs with
  | nil => exact Nat.zero_le _
  | cons d l ih => have := one_le d; simp only [Rows.uptoBulkAll, List.length_cons]; omega
theorem ints_of {k : IntKind} {e : TypeId} (he : P.underlying e = some (.int k)) (hc : P.cellsOf e = 1) {m : Nat} {cs : List Value} : ∀ (l : List Nat) (a : Nat) (xs : List (DataW H × List MemPlace)), l = List.range' a l.length → a + l.length ≤ cs.length →
    (l.mapM fun i => DataW.trod enc P w 0 spare held m e ((cs.drop (i * P.cellsOf e)).take (P.cellsOf e))) = some xs → ∃ L : List Int, L.length = l.length ∧ (cs.drop a).take l.length = L.map (Value.int k) ∧ (∀ x ∈ L, inK k x) ∧ xs.length = L.length := by
  intro l
  induction l with
  | nil => intro a xs _ _ h; exact ⟨[], rfl, by simp, (fun x hx => by cases hx), by simp at h; simp [← h]⟩
  | cons i l ih =>
    intro a xs hl hle h
    simp only [List.length_cons, List.range'_succ, List.cons.injEq] at hl
    obtain ⟨rfl, hl⟩ := hl
    simp only [List.mapM_cons] at h
    cases h1 : DataW.trod enc P w 0 spare held m e ((cs.drop (i * P.cellsOf e)).take (P.cellsOf e)) with
    | none => rw [h1] at h; cases h
    | some y =>
      rw [h1] at h
      cases h2 : (l.mapM fun i => DataW.trod enc P w 0 spare held m e ((cs.drop (i * P.cellsOf e)).take (P.cellsOf e))) with
      | none => rw [h2] at h; cases h
      | some ys =>
        rw [h2] at h
        have hxs : xs = y :: ys := by simpa using h.symm
        simp only [List.length_cons] at hle
        obtain ⟨L, g1, g2, g3, g4⟩ := ih (i + 1) ys hl (by omega) h2
        obtain ⟨z, k1, k2, k3⟩ := in_int (k' := k) he h1
        rw [hc, Nat.mul_one] at k1
        refine ⟨z :: L, by simp [g1], ?_, fun x hx => ?_, by simp [hxs, g4]⟩
        · have hd : cs.drop i = Value.int k z :: cs.drop (i + 1) := by
            have hlt : i < cs.length := by omega
            rw [List.drop_eq_getElem_cons hlt] at k1 ⊢
            simp only [List.take_succ_cons, List.take_zero, List.cons.injEq, and_true] at k1
            rw [k1]
          rw [hd, List.length_cons, List.take_succ_cons, g2]; rfl
        · rcases List.mem_cons.1 hx with rfl | hx
          · exact k2
          · exact g3 x hx
theorem sumN_map {α β : Type} (f : β → Nat) (g : α → β) : ∀ l : List α, sumN f (l.map g) = sumN (fun x => f (g x)) l
  | [] => rfl
  | x :: l => by simp only [List.map_cons, sumN, sumN_map f g l]
theorem sumN_le {α : Type} {f : α → Nat} {D : α → DataW H} : ∀ {l : List α}, (∀ x ∈ l, f x ≤ Rows.uptoBulk (D x)) → sumN f l ≤ Rows.uptoBulkAll (l.map D)
  | [], _ => Nat.le_refl _
  | x :: l, h => by
    have h1 := h x (by simp)
    have h2 := sumN_le (f := f) (D := D) (l := l) fun y hy => h y (by simp [hy])
    simp only [sumN, List.map_cons, Rows.uptoBulkAll]; omega
/-- A slice, told by what its elements are. -/
theorem slD_rep (s : Sh) {ad : Option Addr} {cap : Nat} {L : List (Dat s)} (hc : L.length ≤ cap) (h : L ≠ [] → ∃ b off cells, ad = some ⟨b, off, none⟩ ∧ (allM w).fz b cells ∧ off + L.length * szS s ≤ cells.length ∧ ∀ i, i < L.length → CRep (allM w) (toC s (L.getD i (dfl s))) ((cells.drop (off + i * szS s)).take (szS s))) :
    DRep (allM w) (slD s L (fun x => toC s x)) (.slice ad L.length cap) := by
  have one : ∀ {cells : List Value} {o : Nat} {v : Value} {r : List Value}, (cells.drop o).take 1 = v :: r → cells[o]? = some v := fun {cells o v r} e => by
    have := congrArg (·[0]?) e
    simpa using this
  have gd : ∀ {i : Nat} {x : Dat s}, L[i]? = some x → i < L.length ∧ L.getD i (dfl s) = x := fun {i x} hx => by
    refine ⟨?_, by simp [List.getD_eq_getElem?_getD, hx]⟩
    rcases Nat.lt_or_ge i L.length with h | h
    · exact h
    · rw [List.getElem?_eq_none h] at hx; cases hx
  unfold slD
  split
  · rename_i k L'
    refine (show IRep (allM w) k L' (.slice ad (L' : List Int).length cap) from ⟨_, _, rfl, hc, fun hn => ?_⟩)
    obtain ⟨b, off, cells, e, h1, h2, h3⟩ := h hn
    refine ⟨b, off, cells, e, h1, fun i x hx => ?_⟩
    obtain ⟨hi, hg⟩ := gd hx
    have h4 := h3 i hi
    rw [hg] at h4
    have e1 : szS (.int k) = 1 := rfl
    rw [e1, Nat.mul_one] at h4
    obtain ⟨v, r, h5, h6, h7, h8⟩ := h4
    rw [show v = _ from h7] at h5
    exact one h5
  · rename_i L'
    refine (show BRepS (allM w) L' (.slice ad (L' : List (List Int)).length cap) from ⟨_, _, rfl, hc, fun hn => ?_⟩)
    obtain ⟨b, off, cells, e, h1, h2, h3⟩ := h hn
    refine ⟨b, off, cells, e, h1, fun i x hx => ?_⟩
    obtain ⟨hi, hg⟩ := gd hx
    have h4 := h3 i hi
    rw [hg] at h4
    have e1 : szS (.sl (.int .u8)) = 1 := rfl
    rw [e1, Nat.mul_one] at h4
    obtain ⟨v, r, h5, h6, h7, h8⟩ := h4
    exact ⟨v, one h5, h7⟩
  · refine ⟨_, _, rfl, hc, fun hn => ?_⟩
    obtain ⟨b, off, cells, e, h1, h2, h3⟩ := h (by intro e; rw [e] at hn; exact hn rfl)
    exact ⟨b, off, cells, e, h1, h2, h3⟩
mutual
theorem rd : ∀ (s : Sh) {t : TypeId} {fuel : Nat} {cs : List Value} {x : DataW H × List MemPlace}, shB P s t = true → DataW.trod enc P w 0 spare held fuel t cs = some x →
    ∃ d : Dat s, CRep (allM w) (toC s d) cs ∧ WfS s d ∧ blk s d ≤ Rows.uptoBulk x.1
  | .int k, t, fuel, cs, x, hs, h => by
    simp only [shB] at hs
    split at hs
    · rename_i k' hu
      have := kind_eq _ _ hs; subst this
      obtain ⟨z, rfl, h2, h3⟩ := in_int (k' := k) hu h
      exact ⟨(z : Int), ⟨_, _, rfl, rfl, rfl, rfl⟩, h2, one_le _⟩
    · cases hs
  | .bool, t, fuel, cs, x, hs, h => by
    simp only [shB] at hs
    split at hs
    · rename_i hu
      obtain ⟨b, rfl⟩ := in_boolV hu h
      exact ⟨(b : Bool), ⟨_, _, rfl, rfl, rfl, rfl⟩, trivial, one_le _⟩
    · cases hs
  | .str, t, fuel, cs, x, hs, h => by
    simp only [shB] at hs
    split at hs
    · rename_i hu
      obtain ⟨b, rfl, hx⟩ := in_strV hu h
      refine ⟨(b : ByteArray), ⟨_, _, rfl, rfl, rfl, rfl⟩, trivial, ?_⟩
      rw [hx]
      show b.size + 1 ≤ b.data.toList.length + 1
      have : b.data.toList.length = b.size := Array.length_toList
      omega
    · cases hs
  | .arr k n, t, fuel, cs, x, hs, h => by
    simp only [shB] at hs
    split at hs
    · rename_i m e hu
      split at hs
      · rename_i k' he
        simp only [Bool.and_eq_true] at hs
        have e1 := Nat.eq_of_beq_eq_true hs.1
        have e2 := kind_eq _ _ hs.2.1
        have e3 := Nat.eq_of_beq_eq_true hs.2.2.1
        have e4 := Nat.eq_of_beq_eq_true hs.2.2.2
        subst e1; subst e2
        obtain ⟨q, xs, h1, h2, h3⟩ := in_array hu h
        obtain ⟨L, g1, g2, g3, g4⟩ := ints_of he e3 (List.range m) 0 xs (by rw [List.range_eq_range']; simp) (by simp; omega) h2
        simp only [List.length_range, List.drop_zero] at g1 g2
        rw [List.take_of_length_le (by omega)] at g2
        refine ⟨(L : List Int), ⟨[], by simp [g2], g1, rfl⟩, ⟨g1, g3⟩, ?_⟩
        rw [h3]
        show L.length + 1 ≤ Rows.uptoBulkAll (xs.map (·.1)) + 1
        have := bulk_all (xs := xs.map (·.1))
        rw [List.length_map] at this; omega
      · cases hs
    · cases hs
  | .st fs, t, fuel, cs, x, hs, h => by
    simp only [shB] at hs
    split at hs
    · rename_i fl hu
      simp only [Bool.and_eq_true] at hs
      have e1 := Nat.eq_of_beq_eq_true hs.2
      obtain ⟨m, xs, h1, h2, h3⟩ := in_struct hu h
      obtain ⟨d, g1, g2, g3⟩ := rdL fs hs.1 h2 (by omega)
      rw [List.drop_zero, List.take_of_length_le (by omega)] at g1
      refine ⟨d, g1, g2, ?_⟩
      rw [h3]
      show blkL fs d + 1 ≤ Rows.uptoBulkAll (xs.map (·.1)) + 1
      omega
    · cases hs
  | .sl s, t, fuel, cs, x, hs, h => by
    simp only [shB] at hs
    split at hs
    · rename_i e hu
      simp only [Bool.and_eq_true] at hs
      have e1 := Nat.eq_of_beq_eq_true hs.2.1
      have e2 : 0 < szS s := Nat.le_of_ble_eq_true hs.2.2
      rcases Deep.open_slice hu h with ⟨hv, hx⟩ | ⟨ad, len, cap, m, n, Dd, Pl, hv, _, hlc, hcm, hm, hx, hel⟩
      · subst hv
        refine ⟨([] : List (Dat s)), ⟨_, [], rfl, rfl, slD_rep s (L := []) (ad := none) (cap := 0) (Nat.le_refl _) (fun h => absurd rfl h), rfl⟩, (fun x hx => by cases hx), one_le _⟩
      · subst hv
        have hlm : len ≤ m := by rw [hm]; split <;> omega
        have hel' : ∀ i, i < len → ∃ p : Dat s × List Value, w.cells? 0 (ad.add (i * szS s)) (szS s) = some p.2 ∧ CRep (allM w) (toC s p.1) p.2 ∧ WfS s p.1 ∧ blk s p.1 ≤ Rows.uptoBulk (Dd i) := fun i hi => by
          obtain ⟨cs', h1, h2⟩ := hel i (by omega)
          rw [e1] at h1
          obtain ⟨d, g1, g2, g3⟩ := rd s hs.1 h2
          exact ⟨(d, cs'), h1, g1, g2, g3⟩
        haveI : Inhabited (Dat s × List Value) := ⟨(dfl s, [])⟩
        obtain ⟨f, hf⟩ := choose_by hel'
        have hL : ∀ i, i < len → ((List.range len).map fun i => (f i).1).getD i (dfl s) = (f i).1 := fun i hi => by
          rw [List.getD_eq_getElem?_getD, List.getElem?_map, List.getElem?_range hi]; rfl
        refine ⟨(((List.range len).map fun i => (f i).1) : List (Dat s)), ⟨_, [], rfl, rfl, ?_, rfl⟩, fun x hx => ?_, ?_⟩
        · have hlen : ((List.range len).map fun i => (f i).1).length = len := by simp
          have := slD_rep (w := w) s (L := (List.range len).map fun i => (f i).1) (ad := some ad) (cap := cap) (by simpa using hlc) (fun hn => by
            have h0 : 0 < len := by
              rcases Nat.eq_zero_or_pos len with h | h
              · subst h; exact absurd rfl hn
              · exact h
            obtain ⟨b, off, cells, rfl, h1, h2, h3⟩ := rows_at h0 e2 fun i hi => (hf i hi).1
            refine ⟨b, off, cells, rfl, h1, by rw [hlen]; exact h2, fun i hi => ?_⟩
            rw [hlen] at hi
            rw [hL i hi, ← h3 i hi]
            exact (hf i hi).2.1)
          rw [hlen] at this
          exact this
        · obtain ⟨i, hi, rfl⟩ := List.mem_map.1 hx
          exact (hf i (List.mem_range.1 hi)).2.2.1
        · rw [hx]
          show sumN (fun x => blk s x) ((List.range len).map fun i => (f i).1) + 1 ≤ Rows.uptoBulkAll ((List.range len).map Dd) + _ + 1
          rw [sumN_map]
          have := sumN_le (f := fun i => blk s (f i).1) (D := Dd) (l := List.range len) fun i hi => (hf i (List.mem_range.1 hi)).2.2.2
          omega
    · cases hs
theorem rdL : ∀ (fs : List Sh) {fl : List Field} {off m : Nat} {cs : List Value} {xs : List (DataW H × List MemPlace)}, shL P fs fl off = true → (fl.mapM fun f => DataW.trod enc P w 0 spare held m f.type ((cs.drop f.offset).take (P.cellsOf f.type))) = some xs → off + szSL fs ≤ cs.length →
    ∃ d : DatL fs, CRep (allM w) (toCL fs d) ((cs.drop off).take (szSL fs)) ∧ WfSL fs d ∧ blkL fs d ≤ Rows.uptoBulkAll (xs.map (·.1))
  | [], fl, off, m, cs, xs, hs, h, hl => by
    cases fl with
    | nil => exact ⟨(), by simp [toCL, szSL, CRep], trivial, Nat.zero_le _⟩
    | cons f fl => simp [shL] at hs
  | s :: r, fl, off, m, cs, xs, hs, h, hl => by
    cases fl with
    | nil => simp [shL] at hs
    | cons f fl =>
      simp only [shL, Bool.and_eq_true] at hs
      have e1 := Nat.eq_of_beq_eq_true hs.2.1
      have e2 := Nat.eq_of_beq_eq_true hs.2.2.1
      simp only [List.mapM_cons] at h
      cases h1 : DataW.trod enc P w 0 spare held m f.type ((cs.drop f.offset).take (P.cellsOf f.type)) with
      | none => rw [h1] at h; cases h
      | some y =>
        rw [h1] at h
        cases h2 : (fl.mapM fun f => DataW.trod enc P w 0 spare held m f.type ((cs.drop f.offset).take (P.cellsOf f.type))) with
        | none => rw [h2] at h; cases h
        | some ys =>
          rw [h2] at h
          have hxs : xs = y :: ys := by simpa using h.symm
          simp only [szSL] at hl
          obtain ⟨d, g1, g2, g3⟩ := rd s hs.1 h1
          obtain ⟨dr, k1, k2, k3⟩ := rdL r hs.2.2.2 h2 (by omega)
          rw [e1, e2] at g1
          refine ⟨(d, dr), ?_, ⟨g2, k2⟩, ?_⟩
          · have e : (cs.drop off).take (szS s + szSL r) = (cs.drop off).take (szS s) ++ (cs.drop (off + szS s)).take (szSL r) := by
              rw [List.take_add, List.drop_drop]
            show CRep _ (toC s d ++ toCL r dr) ((cs.drop off).take (szS s + szSL r))
            rw [e]
            exact g1.app k1
          · rw [hxs]
            show blk s d + blkL r dr ≤ Rows.uptoBulk y.1 + Rows.uptoBulkAll (ys.map (·.1))
            omega
end
theorem cells_agg {r : Reach} {bs : Nat} {t : TypeId} {v : Value} (hv : Value.okWide P w r bs t v) (hag : isAggB P t = some true) : v = .agg v.cells.toList.toArray := by
  unfold Value.okWide at hv
  unfold isAggB at hag
  cases hu : P.underlying t with
  | none => simp [hu] at hag
  | some d =>
    rw [hu] at hv hag
    cases d <;> simp at hag
    all_goals (obtain ⟨cs, rfl, _⟩ := hv; rfl)
/-- An argument of one cell. -/
theorem rd_one {s : Sh} {r : Reach} {bs : Nat} {t : TypeId} {v : Value} {d : DataW H} {p : List MemPlace} {dc : Dat s → D} (hs : shB P s t = true) (hag : isAggB P t = some false) (he : ∀ x, toC s x = [.one (dc x)]) (hv : Value.okWide P w r bs t v) (h : DataW.Trod enc P w 0 spare held t v d p) :
    ∃ x : Dat s, SRep (allM w) (fun _ => loc1 0 0 0) (.a (.d (dc x))) v ∧ WfS s x ∧ blk s x ≤ Rows.uptoBulk d := by
  obtain ⟨fuel, hf⟩ := h
  rw [cells_one hv hag] at hf
  obtain ⟨x, h1, h2, h3⟩ := rd s hs hf
  rw [he] at h1
  obtain ⟨u, q, e, _, h4, _⟩ := h1
  simp only [List.cons.injEq] at e
  obtain ⟨rfl, _⟩ := e
  exact ⟨x, h4, h2, h3⟩
/-- An argument of several cells. -/
theorem rd_agg {s : Sh} {r : Reach} {bs : Nat} {t : TypeId} {v : Value} {d : DataW H} {p : List MemPlace} (hs : shB P s t = true) (hag : isAggB P t = some true) (hv : Value.okWide P w r bs t v) (h : DataW.Trod enc P w 0 spare held t v d p) :
    ∃ x : Dat s, SRep (allM w) (fun _ => loc1 0 0 0) (.agg (upC (toC s x))) v ∧ WfS s x ∧ blk s x ≤ Rows.uptoBulk d := by
  obtain ⟨fuel, hf⟩ := h
  obtain ⟨x, h1, h2, h3⟩ := rd s hs hf
  exact ⟨x, ⟨_, cells_agg hv hag, upC_rep h1⟩, h2, h3⟩
end
/-! what this says of common shapes -/
abbrev shBy : Sh := .sl (.int .u8)
abbrev shRows : Sh := .sl (.sl (.int .u8))
abbrev shDig : Sh := .arr .u8 32
theorem inK_u8 {x : Int} (h : inK .u8 x) : 0 ≤ x ∧ x < 256 := by
  have e1 : IntKind.min .u8 = 0 := by decide
  have e2 : IntKind.max .u8 = 255 := by decide
  unfold inK at h; omega
theorem inK_i64 {x : Int} (h : inK .i64 x) : -9223372036854775808 ≤ x ∧ x < 9223372036854775808 := by
  have e1 : IntKind.min .i64 = -9223372036854775808 := by decide
  have e2 : IntKind.max .i64 = 9223372036854775807 := by decide
  unfold inK at h; omega
theorem inK_u64 {x : Int} (h : inK .u64 x) : 0 ≤ x ∧ x < 18446744073709551616 := by
  have e1 : IntKind.min .u64 = 0 := by decide
  have e2 : IntKind.max .u64 = 18446744073709551615 := by decide
  unfold inK at h; omega
theorem wf_by {L : List Int} (h : WfS shBy L) : By L := fun x hx => inK_u8 (h x hx)
theorem wf_rows {Ls : List (List Int)} (h : WfS shRows Ls) : ∀ L ∈ Ls, By L := fun L hL => wf_by (h L hL)
theorem wf_dig {L : List Int} (h : WfS shDig L) : L.length = 32 ∧ By L := ⟨h.1, fun x hx => inK_u8 (h.2 x hx)⟩
theorem wf_digs {P : List (List Int)} (h : WfS (.sl shDig) P) : ∀ d ∈ P, d.length = 32 ∧ By d := fun d hd => wf_dig (h d hd)
theorem sumN_one {α : Type} {f : α → Nat} (h : ∀ x, f x = 1) : ∀ l : List α, sumN f l = l.length
  | [] => rfl
  | x :: l => by simp only [sumN, h, sumN_one h l, List.length_cons]; omega
theorem blk_by (L : List Int) : blk shBy L = L.length + 1 := by
  have := sumN_one (α := Dat (.int .u8)) (f := fun x => blk (.int .u8) x) (fun x => rfl) L
  exact congrArg (· + 1) this
theorem blk_rows : ∀ Ls : List (List Int), Ls.flatten.length + Ls.length < blk shRows Ls := fun Ls => by
  show _ < sumN (fun x => blk shBy x) Ls + 1
  induction Ls with
  | nil => simp
  | cons L r ih =>
    have := blk_by L
    simp only [List.flatten_cons, List.length_append, List.length_cons, sumN, this]; omega
theorem sumN_mem {α : Type} {f : α → Nat} {x : α} : ∀ {l : List α}, x ∈ l → f x ≤ sumN f l
  | y :: l, h => by
    simp only [sumN]
    rcases List.mem_cons.1 h with rfl | h
    · omega
    · have := sumN_mem (f := f) h; omega
theorem blk_mem {s : Sh} (L : List (Dat s)) (x : Dat s) (h : x ∈ L) : blk s x < blk (.sl s) L := by
  show _ < sumN (fun x => blk s x) L + 1
  have := sumN_mem (f := fun x => blk s x) h
  omega
theorem len_blk {s : Sh} : ∀ L : List (Dat s), L.length < blk (.sl s) L := fun L => by
  show _ < sumN (fun x => blk s x) L + 1
  have h1 : ∀ x : Dat s, 1 ≤ blk s x := fun x => by cases s <;> simp [blk]
  induction L with
  | nil => simp
  | cons x r ih => have := h1 x; simp only [List.length_cons, sumN]; omega
end Go.Dx
