/- More operations: division by what is not nought, literals of slices, slices of own blocks. -/
import Derived.Test.YtjcghjgennddaaaDoorSxCall
namespace Go.Sx
open Go.RowKit
set_option linter.unusedVariables false
set_option linter.unusedSimpArgs false

section
variable {P : Program} {C : Ctx} {ρ : Nat → Nat} {l : Env} {H : Heap} {a : Act} {w : World} {Q : Exit → Act → World → Prop}

theorem rd_quo {o : Oper} {t yt : TypeId} {x y : Operand} {k : IntKind} {X Y : Int} (hop : o.op = .binOp .quo t x y yt) (hx : ev l x = some (.s (.a (.v (.int k X))))) (hy : ev l y = some (.s (.a (.v (.int k Y))))) (h0 : Y ≠ 0) :
    ∀ ρ a w, Sv C ρ l H a w → (execOp a.eval o).run P w = .ok (.value ((eI k (k.wrap (Int.tdiv X Y))).conc ρ)) w ∧ (eI k (k.wrap (Int.tdiv X Y))).ok := by
  intro ρ a w hs
  refine ⟨?_, trivial⟩
  obtain ⟨dst, oop, type, pos, after, guard⟩ := o
  simp only at hop
  subst hop
  have ex : a.eval x = .int k X := (hs.ev hx).1
  have ey : a.eval y = .int k Y := (hs.ev hy).1
  have hb : binOp .quo t (.int k X) (.int k Y) = (if k ≠ k then stuck "BinOp: operands of different kinds" else Op.intDiv .quo k X Y) := rfl
  simp only [execOp, ex, ey, hb]
  simp [Op.intDiv, h0, Sem.run_bind]
  rfl

theorem rd_rem {o : Oper} {t yt : TypeId} {x y : Operand} {k : IntKind} {X Y : Int} (hop : o.op = .binOp .rem t x y yt) (hx : ev l x = some (.s (.a (.v (.int k X))))) (hy : ev l y = some (.s (.a (.v (.int k Y))))) (h0 : Y ≠ 0) :
    ∀ ρ a w, Sv C ρ l H a w → (execOp a.eval o).run P w = .ok (.value ((eI k (Int.tmod X Y)).conc ρ)) w ∧ (eI k (Int.tmod X Y)).ok := by
  intro ρ a w hs
  refine ⟨?_, trivial⟩
  obtain ⟨dst, oop, type, pos, after, guard⟩ := o
  simp only at hop
  subst hop
  have ex : a.eval x = .int k X := (hs.ev hx).1
  have ey : a.eval y = .int k Y := (hs.ev hy).1
  have hb : binOp .rem t (.int k X) (.int k Y) = (if k ≠ k then stuck "BinOp: operands of different kinds" else Op.intDiv .rem k X Y) := rfl
  simp only [execOp, ex, ey, hb]
  simp [Op.intDiv, h0, Sem.run_bind]
  rfl

/-- A literal of a slice. -/
theorem ot_bslice {o : Oper} {t e : TypeId} {d n size : Nat} {parts : Array (Nat × Operand)} (zc r : List Chunk) (hop : o.op = .buildSlice t n parts) (hdst : o.dst = some d) (hu : P.underlying t = some (.slice e)) (hi : (P.info? e).map (·.size) = some size)
    (hsm : Nat.ble (n * size) 16777216 = true) (hz : ((P.info? e).bind (·.zero)).map (fun z => (Array.range (n * size)).map (fun i => z.cells[i % z.cells.size]!)) = some (flat (fun _ => 0) zc).toArray)
    (hzc : okCs zc) (hzf : ∀ ρ, flat ρ zc = flat (fun _ => 0) zc) (hf : (evp l parts.toList).bind (fillC (fun i => some (i * size, size)) zc) = some r)
    (hc : (noRefE d l && noRefH d H && noRefC d r && Nat.blt d C.N) = true) :
    OT P Q C o l H (putE l d (.s (.a (.ls d 0 n n)))) ((d, ⟨r, e⟩) :: H) := by
  intro ρ a w hs K hK
  simp only [Bool.and_eq_true] at hc
  obtain ⟨⟨⟨c2, c3⟩, c4⟩, c5⟩ := hc
  cases hq : evp l parts.toList with
  | none => simp [hq] at hf
  | some vs =>
    have hf' : fillC (fun i => some (i * size, size)) zc vs = some r := by simpa [hq] using hf
    obtain ⟨e1, e2⟩ := evp_conc hs.toSv hq
    obtain ⟨h1, h2⟩ := fillC_fill ρ hzc e2 hf'
    have ha : (parts.map fun (i, x) => (i, a.eval x)) = (vs.map fun p => (p.1, p.2.conc ρ)).toArray := by
      apply Array.ext'
      simpa using e1
    have hb : (execOp a.eval o).run P w = .ok (.value (.slice (some ⟨w.heap.size, 0, none⟩) n n)) (w.alloc (.cells (flat ρ r).toArray e)) := by
      obtain ⟨dst, op, type, pos, after, guard⟩ := o
      simp only at hop
      subst hop
      cases hq : P.info? e with
      | none => simp [hq] at hi
      | some i =>
        have hsz : i.size = size := by simpa [hq] using hi
        cases hzz : i.zero with
        | none => simp [hq, hzz] at hz
        | some z =>
          have hz' : (Array.range (n * size)).map (fun i => z.cells[i % z.cells.size]!) = (flat ρ zc).toArray := by
            rw [hzf ρ]; simpa [hq, hzz] using hz
          have hle : ¬ n * size > 2 ^ 24 := by have := Nat.le_of_ble_eq_true hsm; omega
          have hfill : Instr.fill (fun i => some (i * size, size)) (flat ρ zc).toArray (vs.map fun p => (p.1, p.2.conc ρ)) = some (flat ρ r).toArray := h2
          simp only [execOp, ha, Instr.buildSlice, Sem.run_bind, run_underlying hu, Result.andThen_ok, sizeOf, typeInfo, run_program, hq, Sem.run_pure, hsz, if_neg hle]
          by_cases h0 : n * size = 0
          · have hz0 : (Array.range (n * size)).map (fun i => (#[] : Array Value)[i % (#[] : Array Value).size]!) = (flat ρ zc).toArray := by
              rw [← hz', h0]; simp
            rw [← hz0] at hfill
            rw [if_pos h0, Sem.run_bind, Sem.run_pure, Result.andThen_ok]
            simp only [hfill, Sem.run_bind, Sem.run_pure, Result.andThen_ok, newRow]
            rfl
          · simp only [if_neg h0, zeroValue, typeInfo, Sem.run_bind, run_program, Result.andThen_ok, hq, Sem.run_pure, hzz, hz', hfill, newRow]
            rfl
    simp only [Oper.wp, hb, Oper.upon, hdst]
    have hs' := (hs.alloc (t := e) c2 c3 c4 h1 (Nat.le_of_ble_eq_true c5)).put (d := d) (e := .s (.a (.ls d 0 n n))) (Nat.le_of_ble_eq_true c5) trivial
    have e0 : (EV.s (.a (.ls d 0 n n))).conc (upd ρ d w.heap.size) = .slice (some ⟨w.heap.size, 0, none⟩) n n := by simp [EV.conc, SV.conc, AV.conc, upd]
    rw [e0] at hs'
    exact hK _ _ _ (agr_upd c3) hs'

/-- An own row of numbers, as a contract sees it that only reads. -/
theorem At.ints (h : At C ρ H w) {k n ty : Nat} {kd : IntKind} {xs : List Int} (hk : getH H k = some ⟨[.ints kd n xs], ty⟩) :
    ρ k < w.heap.size ∧ ∀ i, i < xs.length → CellsAt w (ρ k) (0 + i * 1) [.one (.v (.int kd (xs.getD i 0)))] := by
  have hp := h.hp k _ hk
  refine ⟨(Array.getElem?_eq_some_iff.1 hp).1, fun i hi j v hv => ?_⟩
  have hj : j = 0 := by
    cases j with
    | zero => rfl
    | succ j => simp [flat] at hv
  subst hj
  simp only [flat, List.getElem?_cons_zero, Option.some.injEq] at hv
  subst hv
  rw [cell_of_row w (ρ k) _ _ ty (0, 0) hp]
  simp [flat, hi, List.getD_eq_getElem?_getD, AV.conc]

/-- What a slice of the snapshot has, as a contract sees it. -/
theorem At.cells (h : At C ρ H w) {b off : Nat} {cs : List Chunk} (hx : C.X b) (hc : CellsAt C.E b off cs) : CellsAt w b off cs := fun j v hv => by
  rw [cell_of_ag h.ag hx]; exact hc j v hv

/-- Of the handed blocks: each is as it was. -/
def SameH (H : Heap) : Heap → Prop
  | [] => True
  | (k, b) :: r => (Nat.ble 100000 k = true ∧ getH H k = some b ∧ ∀ ρ σ : Nat → Nat, (∀ j, 100000 ≤ j → ρ j = σ j) → flat ρ b.cs = flat σ b.cs) ∧ SameH H r

theorem SameH.get {H : Heap} {k : Nat} {b : Blk} : ∀ {Hc : Heap}, SameH H Hc → getH Hc k = some b → Nat.ble 100000 k = true ∧ getH H k = some b ∧ ∀ ρ σ : Nat → Nat, (∀ j, 100000 ≤ j → ρ j = σ j) → flat ρ b.cs = flat σ b.cs
  | [], _, h => by simp [getH] at h
  | (j, v) :: r, hn, h => by
    simp only [getH] at h
    split at h
    · rename_i hj
      have : j = k := Nat.eq_of_beq_eq_true hj
      subst this
      simp only [Option.some.injEq] at h; subst h
      exact hn.1
    · exact SameH.get hn.2 h

/-- What was handed over is as it was: the call has changed nothing. -/
theorem Fin.same {C : Ctx} {σ : Nat → Nat} {H Hc : Heap} {w' : World} (h : Fin C σ H w') (hN : Nat.ble C.N 100000 = true) (hS : C.S = fun i => ∃ k c, getH Hc k = some c ∧ C.r k = i) (hH : HeapAt C.r Hc C.w0)
    (hk : SameH H Hc) : Below C.w0.heap.size C.w0 w' := by
  refine ⟨h.keep.os, h.keep.tape, h.keep.output, h.keep.size, fun i hi => ?_⟩
  by_cases hs : C.S i
  · rw [hS] at hs
    obtain ⟨k, c, h1, h2⟩ := hs
    obtain ⟨g1, g2, g3⟩ := hk.get h1
    have h3 := (h.hp k c g2).1
    rw [h.pin k (Nat.le_trans (Nat.le_of_ble_eq_true hN) (Nat.le_of_ble_eq_true g1)), h2] at h3
    have h4 := (hH.hp k c h1).1
    rw [h2] at h4
    rw [h3, h4, g3 σ C.r (fun j hj => h.pin j (Nat.le_trans (Nat.le_of_ble_eq_true hN) hj))]
  · exact h.keep.block i hi hs

/-- The length of a slice of an own block. -/
theorem rd_len {o : Oper} {c : Call} {x : Operand} {k off len cap : Nat} (hop : o.op = .call c) (hc : c.callee = .builtin .len) (ha : c.args = #[x]) (hx : ev l x = some (.s (.a (.ls k off len cap))))
    (hr : ∀ ad, pureNext P (execOp (fun _ => .slice (some ad) len cap) o) = some (.int .i64 (len : Nat))) :
    ∀ ρ a w, Sv C ρ l H a w → (execOp a.eval o).run P w = .ok (.value ((eI .i64 (len : Nat)).conc ρ)) w ∧ (eI .i64 (len : Nat)).ok := by
  intro ρ a w hs
  refine ⟨?_, trivial⟩
  have := pureNext_run (hr ⟨ρ k, off, none⟩) w
  have e : execOp a.eval o = execOp (fun _ => .slice (some ⟨ρ k, off, none⟩) len cap) o := by
    refine execOp_congr o (by intro cs b e; rw [hop] at e; cases e) fun y hy => ?_
    rw [hop] at hy
    obtain ⟨callee, args, argTypes⟩ := c
    simp only at hc ha
    subst hc; subst ha
    have : y = x := by simpa [Op.operands, Call.operands] using hy
    subst this
    exact (hs.ev hx).1
  rw [e]
  exact this

/-- The address of an element of a slice, at an index that is a sum. -/
theorem rd_indexI {o : Oper} {t e : TypeId} {x ix : Operand} {ad : Option Addr} {len cap : Nat} {ik : IntKind} (b off size k : Nat) (X : Int) (hop : o.op = .indexAddr t x ix) (hu : P.underlying t = some (.slice e)) (hi : (P.info? e).map (·.size) = some size)
    (hx : ev l x = some (.s (.a (.v (.slice ad len cap))))) (hix : ev l ix = some (.s (.a (.v (.int ik X))))) (hX : X = (k : Nat)) (hk : k < len) (ha : ad = some ⟨b, off, none⟩) :
    ∀ ρ a w, Sv C ρ l H a w → (execOp a.eval o).run P w = .ok (.value ((eV (.pointer (some ⟨b, off + k * size, none⟩))).conc ρ)) w ∧ (eV (.pointer (some ⟨b, off + k * size, none⟩))).ok := by
  subst hX
  exact rd_index b off size k hop hu hi hx hix hk ha
end
end Go.Sx
