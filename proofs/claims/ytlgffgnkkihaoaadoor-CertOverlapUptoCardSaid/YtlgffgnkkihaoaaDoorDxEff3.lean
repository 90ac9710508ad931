/- Variables, literals of slices, append, make, copy. -/
import Derived.Test.YtlgffgnkkihaoaaDoorDxEff2
namespace Go.Dx
open Go.RowKit
set_option linter.unusedVariables false
set_option linter.unusedSimpArgs false
section
variable {P : Program} {C : Ctx} {F : Nat → Prop} {ρ : Nat → Loc} {l : Env} {H : Heap} {a : Act} {w : World} {G : List (Nat × List DC)}

/-- A new variable with these cells. -/
theorem alloc_cells (hs : St C F ρ l H a w) {d t : Nat} {cs : List Chunk} {vs : List Value} (hk : KRep ⟨w, F⟩ ρ cs vs) (hf : freshN d C.N l H = true) (hr : memN d (refsC cs) = false) (hd : d < C.N) :
    ∃ ρ', St C F ρ' (putE l d (S1 (.lp d 0))) ((d, .cells cs t) :: H) (a.put (some d) (.pointer (some ⟨w.heap.size, 0, none⟩))) (w.alloc (.cells vs.toArray t)) ∧ Fr H ((d, .cells cs t) :: H) (fun i => i = d) F ρ w F ρ' (w.alloc (.cells vs.toArray t)) := by
  have h1 := hs.alloc (k := d) (n := 0) (cap := 0) (b := .cells cs t) (o := .cells vs.toArray t) hf hr (fun hle => ⟨vs, ⟨alloc_at w _, rfl⟩, hk.mono hle⟩)
  exact ⟨_, h1.put hd (by simp [ERep, SRep, ARep, updL, loc1]), Fr.new hs (alloc_below w _) (fun i hi => by obtain rfl : i = _ := hi; exact Nat.le_refl _) cons_cases⟩
def allocV (P : Program) (N : Nat) (l : Env) (H : Heap) (t d : Nat) : Option (Env × Heap) :=
  match zeroOf P t, freshN d N l H && Nat.blt d N with
  | some cs, true => match memN d (refsC cs) with
    | false => some (putE l d (S1 (.lp d 0)), (d, .cells cs t) :: H)
    | true => none
  | _, _ => none
theorem allocV_ok {o : Oper} {t d : Nat} {l' : Env} {H' : Heap} (hop : o.op = .alloc t) (hdst : o.dst = some d) (h : allocV P C.N l H t d = some (l', H')) : StepOk P C o l H [] l' H' (fun i => i = d) := by
  intro _ F ρ a w hs Q K hK
  unfold allocV at h
  split at h
  · rename_i cs hz hb
    split at h
    · rename_i hm
      simp only [Option.some.injEq, Prod.mk.injEq] at h; obtain ⟨rfl, rfl⟩ := h
      simp only [Bool.and_eq_true] at hb
      obtain ⟨i, z, hi, hzz, hr⟩ := zeroOf_spec (ρ := ρ) hz
      obtain ⟨ρ', h1, hfr⟩ := alloc_cells (t := t) hs (hr ⟨w, F⟩) hb.1 hm (Nat.le_of_ble_eq_true hb.2)
      have hrun : (execOp a.eval o).run P w = .ok (.value (.pointer (some ⟨w.heap.size, 0, none⟩))) (w.alloc (.cells z.cells t)) := by
        obtain ⟨dst, op, type, pos, after, guard⟩ := o
        simp only at hop; subst hop
        simp only [execOp, Instr.alloc, zeroValue, typeInfo, Sem.run_bind, run_program, Result.andThen_ok, hi, hzz, Sem.run_pure, newVar, newRow]
        rfl
      simp only [Oper.wp, hrun, Oper.upon]
      rw [hdst]
      rw [hdst] at hK
      simp only [Array.toArray_toList] at h1 hfr
      exact hK _ _ _ _ h1 hfr
    · cases h
  · cases h
def boxV (N : Nat) (G : List (Nat × List DC)) (l : Env) (H : Heap) (t d : Nat) (x : Operand) : Option (Env × Heap) :=
  match ev G l x with
  | some (.s v) => match chunksV v, freshN d N l H && Nat.blt d N with
    | some cs, true => match memN d (refsC cs) with
      | false => some (putE l d (S1 (.lp d 0)), (d, .cells cs t) :: H)
      | true => none
    | _, _ => none
  | _ => none
theorem boxV_ok {o : Oper} {t d : Nat} {x : Operand} {l' : Env} {H' : Heap} (hG : C.G = G) (hop : o.op = .box t x) (hdst : o.dst = some d) (h : boxV C.N G l H t d x = some (l', H')) : StepOk P C o l H [] l' H' (fun i => i = d) := by
  intro _ F ρ a w hs Q K hK
  unfold boxV at h
  split at h
  · rename_i v hx
    split at h
    · rename_i cs hcs hb
      split at h
      · rename_i hm
        simp only [Option.some.injEq, Prod.mk.injEq] at h; obtain ⟨rfl, rfl⟩ := h
        simp only [Bool.and_eq_true] at hb
        obtain ⟨vs, hc, hk⟩ := chunksV_spec hcs (show SRep ⟨w, F⟩ ρ v (a.eval x) from hs.ev hG hx)
        obtain ⟨ρ', h1, hfr⟩ := alloc_cells (t := t) hs hk hb.1 hm (Nat.le_of_ble_eq_true hb.2)
        have hrun : (execOp a.eval o).run P w = .ok (.value (.pointer (some ⟨w.heap.size, 0, none⟩))) (w.alloc (.cells vs.toArray t)) := by
          obtain ⟨dst, op, type, pos, after, guard⟩ := o
          simp only at hop; subst hop
          simp only [execOp, Instr.box, newVar, newRow, hc]
          rfl
        simp only [Oper.wp, hrun, Oper.upon]
        rw [hdst]
        rw [hdst] at hK
        exact hK _ _ _ _ h1 hfr
      · cases h
    · cases h
  · cases h
theorem store_ok {o : Oper} {t : TypeId} {x y : Operand} {p : AV} {v : SV} {H' : Heap} (hG : C.G = G) (hop : o.op = .store t x y) (hdst : o.dst = none) (hx : aOf (ev G l x) = some p) (hy : ev G l y = some (.s v)) (h : storeV P t H p v = some H') : StepOk P C o l H [] l H' (fun _ => False) := by
  intro _ F ρ a w hs Q K hK
  obtain ⟨w', k, h1, h2, h3⟩ := storeV_run h hs (aOf_rep hs hG hx) (hs.ev hG hy)
  have hrun : (execOp a.eval o).run P w = .ok .skip w' := by
    obtain ⟨dst, op, type, pos, after, guard⟩ := o
    simp only at hop; subst hop
    simp only [execOp, Sem.run_bind, h1, Result.andThen_ok, Sem.run_pure]
  simp only [Oper.wp, hrun, Oper.upon]
  rw [hdst]
  rw [hdst] at hK
  exact hK _ _ undef _ h2 h3.fr

/-! rows -/
/-- A new row is there, in new memory; or nil. -/
theorem new_row (hs : St C F ρ l H a w) {d t cap : Nat} {c : Cont} {vs rest : List Value} {w' : World} {ad : Option Addr} (hB : Below w.heap.size w w') (hc : ContRep ⟨w, F⟩ c vs) (hrest : ∀ v ∈ rest, v.oneCell' = true) (hl : (vs ++ rest).length = cap * c.sz) (hcap : c.len ≤ cap)
    (hf : freshN d C.N l H = true) (hd : d < C.N) (h : (w'.heap[w.heap.size]? = some (.cells (vs ++ rest).toArray t (0, 0)) ∧ ad = some ⟨w.heap.size, 0, none⟩) ∨ (vs ++ rest = [] ∧ ad = none ∧ cap = 0)) :
    ∃ ρ', St C F ρ' (putE l d (S1 (.rw d))) ((d, .row c t) :: H) (a.put (some d) (.slice ad c.len cap)) w' ∧ Fr H ((d, .row c t) :: H) (fun i => i = d) F ρ w F ρ' w' := by
  have hle : Mem.le ⟨w, F⟩ ⟨w', F⟩ := Mem.le_of (fun _ h => h) fun i hi => hB.block i (hs.frz i hi)
  have hs' := hs.grow hB
  rcases h with ⟨h1, rfl⟩ | ⟨h1, rfl, rfl⟩
  · have hlt : w.heap.size < w'.heap.size := (Array.getElem?_eq_some_iff.1 h1).1
    have := hs'.add (k := d) (x := ⟨w.heap.size, some ⟨w.heap.size, 0, none⟩, c.len, cap, fun i => i = w.heap.size⟩) (b := .row c t) hf
      ⟨vs, rest, .inl ⟨⟨h1, rfl⟩, rfl⟩, hc.mono hle, hrest, hl, rfl, hcap⟩ rfl
      (fun i hi => by obtain rfl : i = _ := hi; exact ⟨fun hF => absurd (hs.frz _ hF) (Nat.lt_irrefl _), hlt, .inl hs.keep.size⟩)
      (fun j b hj i hi hz => by obtain rfl : i = _ := hi; exact absurd (hs.own j b hj _ hz).2 (Nat.lt_irrefl _))
    exact ⟨_, this.put hd (by simp [ERep, SRep, ARep, updL]), Fr.new hs hB (fun i hi => by obtain rfl : i = _ := hi; exact Nat.le_refl _) cons_cases⟩
  · have := hs'.add (k := d) (x := ⟨0, none, c.len, 0, fun _ => False⟩) (b := .row c t) hf
      ⟨vs, rest, .inr ⟨h1, rfl, rfl, rfl⟩, hc.mono hle, hrest, hl, rfl, hcap⟩ rfl (fun i hi => hi.elim) (fun j b hj i hi => hi.elim)
    exact ⟨_, this.put hd (by simp [ERep, SRep, ARep, updL]), Fr.new hs hB (fun i hi => hi.elim) cons_cases⟩

/-- The elements of a literal: all of them data. -/
def splitC : Nat → Nat → List Chunk → Option (List (List DC))
  | 0, _, [] => some []
  | 0, _, _ :: _ => none
  | n + 1, sz, cs => match takeC cs sz, dropC cs sz with
    | some x, some r => match downC x, splitC n sz r with
      | some d, some s => some (d :: s)
      | _, _ => none
    | _, _ => none
def bytesOf : List (List DC) → Option (List (List Int))
  | [] => some []
  | [.one (.si .u8 L)] :: r => match bytesOf r with
    | some s => some (L :: s)
    | none => none
  | [.one (.v (.slice none 0 0))] :: r => match bytesOf r with
    | some s => some ([] :: s)
    | none => none
  | _ => none
theorem splitC_rep {m : Mem} : ∀ {n sz : Nat} {cs : List Chunk} {ds : List (List DC)} {vs : List Value}, splitC n sz cs = some ds → KRep m ρ cs vs → vs.length = n * sz ∧ ds.length = n ∧ ∀ i, i < n → CRep m (ds.getD i []) ((vs.drop (i * sz)).take sz)
  | 0, sz, [], ds, vs, h, hk => by
    simp only [splitC, Option.some.injEq] at h; subst h
    obtain rfl : vs = [] := hk
    exact ⟨by simp, rfl, fun i hi => absurd hi (Nat.not_lt_zero _)⟩
  | 0, sz, _ :: _, ds, vs, h, hk => by simp [splitC] at h
  | n + 1, sz, cs, ds, vs, h, hk => by
    simp only [splitC] at h
    split at h
    · rename_i x r hx hr
      split at h
      · rename_i d s hd hs
        simp only [Option.some.injEq] at h; subst h
        obtain ⟨h1, h2⟩ := takeC_rep hk hx
        obtain ⟨h3, h4⟩ := dropC_rep hk hr
        obtain ⟨h5, h6, h7⟩ := splitC_rep hs h4
        refine ⟨by simp at h5; rw [Nat.add_mul]; omega, by simp [h6], fun i hi => ?_⟩
        cases i with
        | zero => simpa using downC_rep hd h2
        | succ i =>
          have := h7 i (by omega)
          rw [List.drop_drop] at this
          simpa [Nat.add_mul, Nat.add_comm] using this
      · cases h
    · cases h
theorem bytesOf_rep {m : Mem} : ∀ {ds : List (List DC)} {Ls : List (List Int)}, bytesOf ds = some Ls → Ls.length = ds.length ∧ ∀ (i : Nat) (L : List Int) (v : Value), Ls[i]? = some L → CRep m (ds.getD i []) [v] → IRep m .u8 L v
  | [], Ls, h => by simp only [bytesOf, Option.some.injEq] at h; subst h; exact ⟨rfl, fun i L v h => by simp at h⟩
  | d :: r, Ls, h => by
    unfold bytesOf at h
    split at h
    · rename_i h0; cases h0
    · rename_i L r' h0
      simp only [List.cons.injEq] at h0; obtain ⟨rfl, rfl⟩ := h0
      split at h
      · rename_i s hs
        simp only [Option.some.injEq] at h; subst h
        obtain ⟨h1, h2⟩ := bytesOf_rep (m := m) hs
        refine ⟨by simp [h1], fun i L' v hi hc => ?_⟩
        cases i with
        | zero =>
          simp at hi; subst hi
          obtain ⟨v', q, e, _, h3, _⟩ := hc
          simp only [List.cons.injEq] at e; obtain ⟨rfl, rfl⟩ := e
          exact h3
        | succ i => exact h2 i L' v (by simpa using hi) (by simpa using hc)
      · cases h
    · rename_i r' h0
      simp only [List.cons.injEq] at h0; obtain ⟨rfl, rfl⟩ := h0
      split at h
      · rename_i s hs
        simp only [Option.some.injEq] at h; subst h
        obtain ⟨h1, h2⟩ := bytesOf_rep (m := m) hs
        refine ⟨by simp [h1], fun i L' v hi hc => ?_⟩
        cases i with
        | zero =>
          simp at hi; subst hi
          obtain ⟨v', q, e, _, h3, _⟩ := hc
          simp only [List.cons.injEq] at e; obtain ⟨rfl, rfl⟩ := e
          obtain rfl : v = _ := h3
          exact ⟨_, _, rfl, Nat.zero_le _, fun h => absurd rfl h⟩
        | succ i => exact h2 i L' v (by simpa using hi) (by simpa using hc)
      · cases h
    · cases h
/-- A row without elements. -/
def nulC (P : Program) (e : TypeId) : Option Cont :=
  match P.underlying e with
  | some (.int k) => some (.ints k [])
  | some (.slice t) => match P.underlying t with
    | some (.int .u8) => some (.bts [])
    | _ => none
  | _ => none
theorem nulC_rep {m : Mem} {e : TypeId} {c : Cont} (h : nulC P e = some c) : ContRep m c [] ∧ c.len = 0 ∧ c.sz = 1 := by
  unfold nulC at h
  split at h
  · simp only [Option.some.injEq] at h; subst h
    exact ⟨⟨rfl, by simp, rfl⟩, rfl, rfl⟩
  · split at h
    · simp only [Option.some.injEq] at h; subst h
      exact ⟨⟨rfl, by simp, fun i L hi => by simp at hi⟩, rfl, rfl⟩
    · cases h
  · cases h
/-- The chunks of a literal of n elements as a row. -/
def contOf (P : Program) (e : TypeId) (n sz : Nat) (cs : List Chunk) : Option Cont :=
  match cs with
  | [.ints k m xs] => match P.underlying e, Nat.beq m n && Nat.beq sz 1 with
    | some (.int _), true => some (.ints k xs)
    | _, _ => match splitC n sz cs with
      | some ds => some (.st sz n (fun i => ds.getD i []))
      | none => none
  | [] => match nulC P e, Nat.beq n 0 && Nat.beq sz 1 with
    | some c, true => some c
    | _, _ => match splitC n sz [] with
      | some ds => some (.st sz n (fun i => ds.getD i []))
      | none => none
  | [.one (.d (.v (.int k x)))] => match P.underlying e, Nat.beq n 1 && Nat.beq sz 1 with
    | some (.int _), true => some (.ints k [x])
    | _, _ => match splitC n sz cs with
      | some ds => some (.st sz n (fun i => ds.getD i []))
      | none => none
  | _ => match splitC n sz cs with
    | some ds => match bytesOf ds, Nat.beq sz 1 with
      | some Ls, true => some (.bts Ls)
      | _, _ => some (.st sz n (fun i => ds.getD i []))
    | none => none
theorem contOf_rep {m : Mem} {e : TypeId} {n sz : Nat} {cs : List Chunk} {c : Cont} {vs : List Value} (h : contOf P e n sz cs = some c) (hk : KRep m ρ cs vs) : ContRep m c vs ∧ c.len = n ∧ c.sz = sz := by
  have st : ∀ {ds}, splitC n sz cs = some ds → ContRep m (.st sz n (fun i => ds.getD i [])) vs := fun {ds} hd => by
    obtain ⟨h1, h2, h3⟩ := splitC_rep hd hk
    exact ⟨h1, hk.one, h3⟩
  unfold contOf at h
  split at h
  · rename_i k m' xs
    split at h
    · rename_i hb
      simp only [Bool.and_eq_true] at hb
      have e1 := Nat.eq_of_beq_eq_true hb.1
      have e2 := Nat.eq_of_beq_eq_true hb.2
      subst e1; subst e2
      simp only [Option.some.injEq] at h; subst h
      have h1 := hk.one
      obtain ⟨q, rfl, h3, h4⟩ := hk
      obtain rfl : q = [] := h4
      exact ⟨⟨by simp [Cont.len, Cont.sz], h1, by simp⟩, h3, rfl⟩
    · split at h
      · rename_i ds hd
        simp only [Option.some.injEq] at h; subst h
        exact ⟨st hd, rfl, rfl⟩
      · cases h
  · split at h
    · rename_i c' hc hb
      simp only [Bool.and_eq_true] at hb
      have e1 := Nat.eq_of_beq_eq_true hb.1
      have e2 := Nat.eq_of_beq_eq_true hb.2
      subst e1; subst e2
      simp only [Option.some.injEq] at h; subst h
      obtain rfl : vs = [] := hk
      exact nulC_rep hc
    · split at h
      · rename_i ds hd
        simp only [Option.some.injEq] at h; subst h
        exact ⟨st hd, rfl, rfl⟩
      · cases h
  · rename_i k x
    split at h
    · rename_i hb
      simp only [Bool.and_eq_true] at hb
      have e1 := Nat.eq_of_beq_eq_true hb.1
      have e2 := Nat.eq_of_beq_eq_true hb.2
      subst e1; subst e2
      simp only [Option.some.injEq] at h; subst h
      have h1 := hk.one
      obtain ⟨v, r, rfl, h3, h4, h5⟩ := hk
      obtain rfl : r = [] := h5
      obtain rfl : v = .int k x := h4
      exact ⟨⟨rfl, h1, rfl⟩, rfl, rfl⟩
    · split at h
      · rename_i ds hd
        simp only [Option.some.injEq] at h; subst h
        exact ⟨st hd, rfl, rfl⟩
      · cases h
  · split at h
    · rename_i ds hd
      split at h
      · rename_i Ls hL hb
        have e2 := Nat.eq_of_beq_eq_true hb
        subst e2
        simp only [Option.some.injEq] at h; subst h
        obtain ⟨h1, h2, h3⟩ := splitC_rep hd hk
        obtain ⟨h4, h5⟩ := bytesOf_rep (m := m) hL
        refine ⟨⟨by simp only [Cont.len, Cont.sz]; omega, hk.one, fun i L hi => ?_⟩, by simp only [Cont.len]; omega, rfl⟩
        have hlt : i < Ls.length := by
          rcases Nat.lt_or_ge i Ls.length with h | h
          · exact h
          · rw [List.getElem?_eq_none h] at hi; cases hi
        have hlt' : i < vs.length := by omega
        have := h3 i (by omega)
        have e : (vs.drop (i * 1)).take 1 = [vs[i]] := by
          rw [Nat.mul_one, List.drop_eq_getElem?_toList_append, List.getElem?_eq_getElem hlt']; rfl
        rw [e] at this
        exact ⟨vs[i], List.getElem?_eq_getElem hlt', h5 i L _ hi this⟩
      · simp only [Option.some.injEq] at h; subst h
        exact ⟨st hd, rfl, rfl⟩
    · cases h
/-- The noughts that a literal is filled into. -/
def zeroN (P : Program) (e : TypeId) (n sz : Nat) : Option (List Chunk) :=
  match P.underlying e, zeroOf P e with
  | some (.int k), _ => match n with
    | 0 => some []
    | n + 1 => some [.ints k (n + 1) (List.replicate (n + 1) 0)]
  | some _, some z => some ((List.range n).foldl (fun acc _ => appC z acc) [])
  | _, _ => none
/-- A literal of things that are not all data. -/
theorem new_lits (hs : St C F ρ l H a w) {d t n : Nat} {cs : List Chunk} {vs : List Value} (hk : KRep ⟨w, F⟩ ρ cs vs) (hf : freshN d C.N l H = true) (hr : memN d (Blk.refs (.cells cs t)) = false) (hd : d < C.N) :
    St C F (updL ρ d (loc1 w.heap.size 0 0)) (putE l d (S1 (.ls d 0 n 0 n))) ((d, .cells cs t) :: H) (a.put (some d) (.slice (some ⟨w.heap.size, 0, none⟩) n n)) (w.alloc (.cells vs.toArray t)) ∧ Fr H ((d, .cells cs t) :: H) (fun i => i = d) F ρ w F (updL ρ d (loc1 w.heap.size 0 0)) (w.alloc (.cells vs.toArray t)) := by
  have h1 := hs.alloc (k := d) (n := 0) (cap := 0) (b := .cells cs t) (o := .cells vs.toArray t) hf hr (fun hle => ⟨vs, ⟨alloc_at w _, rfl⟩, hk.mono hle⟩)
  exact ⟨h1.put hd (by simp [ERep, SRep, ARep, updL, loc1]), Fr.new hs (alloc_below w _) (fun i hi => by obtain rfl : i = _ := hi; exact Nat.le_refl _) cons_cases⟩
def bslice (P : Program) (N : Nat) (G : List (Nat × List DC)) (l : Env) (H : Heap) (t n d : Nat) (parts : List (Nat × Operand)) : Option (Env × Heap) :=
  match P.underlying t with
  | some (.slice e) => match szT P e, P.info? e, evp G l parts with
    | some sz, some i, some vs => match i.zero, zeroN P e n sz with
      | some z, some zc => match repB zc ((Array.range (n * sz)).map (fun i => z.cells[i % z.cells.size]!)).toList, fillC (fun i => some (i * sz, sz)) zc vs with
        | true, some r => match contOf P e n sz r, freshN d N l H && (Nat.blt d N && Nat.ble (n * sz) 16777216) with
          | some c, true => some (putE l d (S1 (.rw d)), (d, .row c e) :: H)
          | none, true => match memN d (Blk.refs (.cells r e)) with
            | false => some (putE l d (S1 (.ls d 0 n 0 n)), (d, .cells r e) :: H)
            | true => none
          | _, _ => none
        | _, _ => none
      | _, _ => none
    | _, _, _ => none
  | _ => none
theorem bslice_ok {o : Oper} {t n d : Nat} {parts : Array (Nat × Operand)} {l' : Env} {H' : Heap} (hG : C.G = G) (hop : o.op = .buildSlice t n parts) (hdst : o.dst = some d) (h : bslice P C.N G l H t n d parts.toList = some (l', H')) : StepOk P C o l H [] l' H' (fun i => i = d) := by
  intro _ F ρ a w hs Q K hK
  unfold bslice at h
  split at h
  · rename_i e hu
    split at h
    · rename_i sz i vs hsz hi hvs
      split at h
      · rename_i z zc hz hzc
        split at h
        · rename_i r hrep hfill
          split at h
          · rename_i c hc hb
            simp only [Option.some.injEq, Prod.mk.injEq] at h; obtain ⟨rfl, rfl⟩ := h
            simp only [Bool.and_eq_true] at hb
            have hle := Nat.le_of_ble_eq_true hb.2.2
            obtain ⟨ws, h1, h2⟩ := fillC_fill (m := ⟨w, F⟩) (ρ := ρ) (repB_spec hrep) (evp_rep hs hG hvs) hfill
            obtain ⟨h3, h4, h5⟩ := contOf_rep hc h1
            have hisz : i.size = sz := by simpa [szT, hi] using hsz
            have hrun : (execOp a.eval o).run P w = .ok (.value (.slice (some ⟨w.heap.size, 0, none⟩) n n)) (w.alloc (.cells ws.toArray e)) := by
              obtain ⟨dst, op, type, pos, after, guard⟩ := o
              simp only at hop
              subst hop
              have ha : (parts.map fun (i, x) => (i, a.eval x)).toList = parts.toList.map fun p => (p.1, a.eval p.2) := by simp
              have hle' : ¬ n * sz > 2 ^ 24 := by omega
              simp only [Array.toArray_toList] at h2
              simp only [execOp, Instr.buildSlice, Sem.run_bind, run_underlying hu, Result.andThen_ok, szT_run hsz, Sem.run_pure, if_neg hle', ha]
              by_cases h0 : n * sz = 0
              · have hz0 : (Array.range (n * sz)).map (fun i => (#[] : Array Value)[i % (#[] : Array Value).size]!) = (Array.range (n * sz)).map (fun i => z.cells[i % z.cells.size]!) := by rw [h0]; simp
                rw [if_pos h0, Sem.run_bind, Sem.run_pure, Result.andThen_ok, hz0]
                simp only [h2, Sem.run_bind, Sem.run_pure, Result.andThen_ok, newRow]
                rfl
              · simp only [if_neg h0, zeroValue, typeInfo, Sem.run_bind, run_program, Result.andThen_ok, hi, Sem.run_pure, hz, h2, newRow]
                rfl
            obtain ⟨ρ', h6, hfr⟩ := new_row (t := e) (rest := []) (cap := n) (ad := some ⟨w.heap.size, 0, none⟩) hs (alloc_below w (.cells ws.toArray e)) h3 (by simp) (by rw [List.append_nil, h3.1, h4]) (by omega) hb.1 (Nat.le_of_ble_eq_true hb.2.1) (.inl ⟨by rw [List.append_nil]; exact alloc_at w _, rfl⟩)
            simp only [Oper.wp, hrun, Oper.upon]
            rw [hdst]
            rw [hdst] at hK
            rw [h4] at h6
            exact hK _ _ _ _ h6 hfr
          · rename_i hc hb
            split at h
            rotate_left
            · cases h
            rename_i hm
            simp only [Option.some.injEq, Prod.mk.injEq] at h; obtain ⟨rfl, rfl⟩ := h
            simp only [Bool.and_eq_true] at hb
            have hle := Nat.le_of_ble_eq_true hb.2.2
            obtain ⟨ws, h1, h2⟩ := fillC_fill (m := ⟨w, F⟩) (ρ := ρ) (repB_spec hrep) (evp_rep hs hG hvs) hfill
            have hisz : i.size = sz := by simpa [szT, hi] using hsz
            have hrun : (execOp a.eval o).run P w = .ok (.value (.slice (some ⟨w.heap.size, 0, none⟩) n n)) (w.alloc (.cells ws.toArray e)) := by
              obtain ⟨dst, op, type, pos, after, guard⟩ := o
              simp only at hop
              subst hop
              have ha : (parts.map fun (i, x) => (i, a.eval x)).toList = parts.toList.map fun p => (p.1, a.eval p.2) := by simp
              have hle' : ¬ n * sz > 2 ^ 24 := by omega
              simp only [Array.toArray_toList] at h2
              simp only [execOp, Instr.buildSlice, Sem.run_bind, run_underlying hu, Result.andThen_ok, szT_run hsz, Sem.run_pure, if_neg hle', ha]
              by_cases h0 : n * sz = 0
              · have hz0 : (Array.range (n * sz)).map (fun i => (#[] : Array Value)[i % (#[] : Array Value).size]!) = (Array.range (n * sz)).map (fun i => z.cells[i % z.cells.size]!) := by rw [h0]; simp
                rw [if_pos h0, Sem.run_bind, Sem.run_pure, Result.andThen_ok, hz0]
                simp only [h2, Sem.run_bind, Sem.run_pure, Result.andThen_ok, newRow]
                rfl
              · simp only [if_neg h0, zeroValue, typeInfo, Sem.run_bind, run_program, Result.andThen_ok, hi, Sem.run_pure, hz, h2, newRow]
                rfl
            obtain ⟨h6, hfr⟩ := new_lits (n := n) hs h1 hb.1 hm (Nat.le_of_ble_eq_true hb.2.1)
            simp only [Oper.wp, hrun, Oper.upon]
            rw [hdst]
            rw [hdst] at hK
            exact hK _ _ _ _ h6 hfr
          · cases h
        · cases h
      · cases h
    · cases h
  · cases h
end
end Go.Dx
