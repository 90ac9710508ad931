/- Slices of slices of bytes that are only read. -/
import Derived.Test.YtjcghjgennddaaaDoorSxNat
namespace Go.Sx
open Go.RowKit
set_option linter.unusedVariables false
set_option linter.unusedSimpArgs false
/-- A slice value, and where it points. -/
structure SD where
  a : Option Addr
  len : Nat
  cap : Nat
  b : Nat
  off : Nat
def SD.val (s : SD) : Value := .slice s.a s.len s.cap
structure BBAt (w : World) (X : Nat → Prop) (a : Option Addr) (len cap b off : Nat) (V : Nat → SD) (Ls : List (List Int)) : Prop where
  ln : Ls.length = len
  lc : len ≤ cap
  cm : cap ≤ maxLen
  ptr : 0 < len → a = some ⟨b, off, none⟩ ∧ X b ∧ b < w.heap.size
  cell : ∀ i, i < len → w.cell? ⟨b, off + i, none⟩ = some (V i).val
  el : ∀ i, i < len → BAt w X (V i).a (V i).len (V i).cap (V i).b (V i).off (Ls.getD i [])
theorem BAt.nz {w : World} {X : Nat → Prop} {a : Option Addr} {len cap b off : Nat} {L : List Int} (h : BAt w X a len cap b off L) : a = none → len = 0 := by
  intro e
  rcases Nat.eq_zero_or_pos len with h0 | h0
  · exact h0
  · have := (h.ptr h0).1; rw [e] at this; cases this
theorem BBAt.cellsAt {w : World} {X : Nat → Prop} {a : Option Addr} {len cap b off : Nat} {V : Nat → SD} {Ls : List (List Int)} (h : BBAt w X a len cap b off V Ls) {i : Nat} (hi : i < len) : CellsAt w b (off + i * 1) [cV (.slice (V i).a (V i).len (V i).cap)] := by
  intro j v hv
  cases j with
  | zero => simp only [flat, List.getElem?_cons_zero, Option.some.injEq] at hv; subst hv; rw [Nat.mul_one, Nat.add_zero]; exact h.cell i hi
  | succ j => simp [flat] at hv
theorem BBAt.enter {w : World} {X Y : Nat → Prop} {a : Option Addr} {len cap b off : Nat} {V : Nat → SD} {Ls : List (List Int)} (h : BBAt w X a len cap b off V Ls) (hX : ∀ i, X i → i < w.heap.size → Y i) : BBAt w Y a len cap b off V Ls :=
  ⟨h.ln, h.lc, h.cm, fun h0 => ⟨(h.ptr h0).1, hX _ (h.ptr h0).2.1 (h.ptr h0).2.2, (h.ptr h0).2.2⟩, h.cell, fun i hi => (h.el i hi).enter hX⟩
theorem At.bbats {C : Ctx} {H : Heap} {ρ : Nat → Nat} {w : World} (h : At C ρ H w) {a : Option Addr} {len cap b off : Nat} {V : Nat → SD} {Ls : List (List Int)} (hb : BBAt C.E C.X a len cap b off V Ls) {Y : Nat → Prop} (hY : ∀ i, C.X i → Y i) : BBAt w Y a len cap b off V Ls := by
  refine ⟨hb.ln, hb.lc, hb.cm, fun h0 => ?_, fun i hi => ?_, fun i hi => h.bats (hb.el i hi) hY⟩
  · obtain ⟨p1, p2, p3⟩ := hb.ptr h0
    exact ⟨p1, hY _ p2, (h.ag _ p2).1⟩
  · obtain ⟨p1, p2, p3⟩ := hb.ptr (by omega)
    rw [cell_of_ag h.ag p2]
    exact hb.cell i hi
theorem getD_take' {α : Type} (L : List α) {n i : Nat} (d : α) (h : i < n) : (L.take n).getD i d = L.getD i d := by simp [List.getD_eq_getElem?_getD, List.getElem?_take, h]
theorem take_succ_getD {α : Type} (L : List α) (d : α) {i : Nat} (h : i < L.length) : L.take (i + 1) = L.take i ++ [L.getD i d] := by
  rw [List.take_succ_eq_append_getElem h]; simp [h]
end Go.Sx
namespace Go.Sx
open Go.RowKit
/-- Bytes lie at each of some slices. -/
def BAll (w : World) (X : Nat → Prop) : List SD → List (List Int) → Prop
  | [], [] => True
  | d :: ds, L :: Ls => BAt w X d.a d.len d.cap d.b d.off L ∧ BAll w X ds Ls
  | _, _ => False
def sd0 : SD := ⟨none, 0, 0, 0, 0⟩
theorem BAll.len {w : World} {X : Nat → Prop} : ∀ {ds : List SD} {Ls : List (List Int)}, BAll w X ds Ls → Ls.length = ds.length
  | [], [], _ => rfl
  | d :: ds, L :: Ls, h => by simp [h.2.len]
  | [], _ :: _, h => h.elim
  | _ :: _, [], h => h.elim
theorem BAll.get {w : World} {X : Nat → Prop} : ∀ {ds : List SD} {Ls : List (List Int)}, BAll w X ds Ls → ∀ i, i < ds.length → BAt w X (ds.getD i sd0).a (ds.getD i sd0).len (ds.getD i sd0).cap (ds.getD i sd0).b (ds.getD i sd0).off (Ls.getD i [])
  | [], _, _, i, hi => absurd hi (Nat.not_lt_zero _)
  | d :: ds, L :: Ls, h, 0, _ => h.1
  | d :: ds, L :: Ls, h, i + 1, hi => h.2.get i (by simpa using hi)
  | _ :: _, [], h, _, _ => h.elim
/-- Slices in an own block, as a call reads them. -/
theorem At.bball {C : Ctx} {H : Heap} {ρ : Nat → Nat} {w : World} (h : At C ρ H w) {X : Nat → Prop} {k n : Nat} {b : Blk} {ds : List SD} {Ls : List (List Int)} (hk : getH H k = some b) (hX : X (ρ k)) (hcs : flat ρ b.cs = ds.map SD.val) (hn : ds.length = n) (hm : n ≤ maxLen) (hall : BAll w X ds Ls) :
    BBAt w X (some ⟨ρ k, 0, none⟩) n n (ρ k) 0 (fun i => ds.getD i sd0) Ls := by
  have hp := h.hp k b hk
  have hlt : ρ k < w.heap.size := (Array.getElem?_eq_some_iff.1 hp).1
  subst hn
  refine ⟨hall.len, Nat.le_refl _, hm, fun _ => ⟨rfl, hX, hlt⟩, fun i hi => ?_, fun i hi => hall.get i hi⟩
  rw [cell_of_row w (ρ k) _ _ _ (0, 0) hp]
  simp [hcs, hi]
end Go.Sx
namespace Go.Sx
open Go.RowKit
set_option linter.unusedVariables false
set_option linter.unusedSimpArgs false
/-- A row of numbers. -/
def iV (k : IntKind) (L : List Int) : List Value := L.map (Value.int k)
theorem iV_len (k : IntKind) (L : List Int) : (iV k L).length = L.length := by simp [iV]
theorem rowi_at {k : IntKind} {L : List Int} {rest : List Value} {i off : Nat} (hi : i < L.length) (ho : off = i) (ρ : Nat → Nat) : (flat ρ [.vals (iV k L ++ rest)])[off]? = some (.int k (L.getD i 0)) := by
  subst ho
  rw [flat_vals, List.getElem?_append_left (by simpa [iV] using hi)]
  simp [iV, hi]
theorem rowi_set {k : IntKind} {L : List Int} {rest : List Value} {i off : Nat} {x : Int} (hi : i < L.length) (ho : off = i) (ρ : Nat → Nat) :
    flat ρ [.vals (iV k (L.set i x) ++ rest)] = (flat ρ [.vals (iV k L ++ rest)]).take off ++ flat ρ (SV.chunks (sI k x)) ++ (flat ρ [.vals (iV k L ++ rest)]).drop (off + sz (SV.chunks (sI k x))) := by
  subst ho
  rw [flat_vals, flat_vals, ← set_seg hi x]
  have e : sz (SV.chunks (sI k x)) = 1 := rfl
  have e2 : flat ρ (SV.chunks (sI k x)) = [.int k x] := rfl
  unfold iV
  rw [e, e2, List.take_append_of_le_length (by simp; omega), List.drop_append_of_le_length (by simp; omega)]
  simp [List.map_take, List.map_drop]
section
variable {P : Program} {C : Ctx} {l : Env} {H : Heap}
theorem rd_shl {o : Oper} {t yt : TypeId} {x y : Operand} {k yk : IntKind} {X Y : Int} (n : Nat) (hop : o.op = .binOp .shl t x y yt) (hx : ev l x = some (.s (.a (.v (.int k X))))) (hy : ev l y = some (.s (.a (.v (.int yk Y))))) (hY : Y = (n : Int)) (hn : n < k.bits) :
    ∀ ρ a w, Sv C ρ l H a w → (execOp a.eval o).run P w = .ok (.value ((eI k (k.wrap (X * 2 ^ n))).conc ρ)) w ∧ (eI k (k.wrap (X * 2 ^ n))).ok := by
  intro ρ a w hs
  refine ⟨?_, trivial⟩
  obtain ⟨dst, oop, type, pos, after, guard⟩ := o
  simp only at hop
  subst hop; subst hY
  have ex : a.eval x = .int k X := (hs.ev hx).1
  have ey : a.eval y = .int yk (n : Int) := (hs.ev hy).1
  have hb : binOp .shl t (.int k X) (.int yk (n : Int)) = Op.shift .shl k X yk (n : Int) := rfl
  have hm : min n k.bits = n := Nat.min_eq_left (Nat.le_of_lt hn)
  have h0 : ¬ ((n : Int) < 0) := by omega
  simp only [execOp, ex, ey, hb]
  simp [Op.shift, h0, hm, Sem.run_bind]
  rfl
/-- An empty slice of elements of one cell, that may grow. -/
theorem empty_flat (ρ : Nat → Nat) (k : IntKind) : flat ρ [.vals (iV k [] ++ [])] = flat ρ [] := rfl
theorem srcof_row {tx e' k c n ty : Nat} {x : Operand} {kd : IntKind} {L : List Int} {rest : List Value} (hx : ev l x = some (.s (.a (.ls k 0 n c)))) (hu : P.underlying tx = some (.slice e')) (hk : getH H k = some ⟨[.vals (L.map (Value.int kd) ++ rest)], ty⟩) (hl : L.length = n) : SrcOf P C l H 1 tx x n (L.map (Value.int kd)) :=
  srcof_own hu hx hk (by simp [hl]) (fun u hu => by
    obtain ⟨y, _, rfl⟩ := List.mem_map.1 hu
    rfl) (fun ρ j u hj => by
    rw [flat_vals, Nat.zero_add]
    have hlt : j < (L.map (Value.int kd)).length := by
      rcases Nat.lt_or_ge j (L.map (Value.int kd)).length with h | h
      · exact h
      · rw [List.getElem?_eq_none h] at hj; cases hj
    rw [List.getElem?_append_left hlt]; exact hj)
end
end Go.Sx
