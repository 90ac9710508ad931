/- How arguments read: a value's cells as chunks; the elements of a slice; and what a row asks in the end. -/
import Derived.Test.YtjcghjgennddaaaDoorSxMore
import Derived.ProofKit
import Derived.OpenShut
import Derived.Deep.Slices
namespace Go.Sx
open Go.RowKit Go.ChangeShapes Go.WideShapes
set_option linter.unusedVariables false
set_option linter.unusedSimpArgs false

inductive Leaf where
  | i (k : IntKind)
  | b
  | is (k : IntKind) (n : Nat)
  | raw (t : TypeId)

def leavesF (rec : TypeId → Option (List Leaf)) (P : Program) : Nat → List Field → Option (List Leaf × Nat)
  | o, [] => some ([], o)
  | o, f :: fs => match Nat.beq f.offset o, rec f.type, leavesF rec P (o + P.cellsOf f.type) fs with
    | true, some a, some (r, n) => some (a ++ r, n)
    | _, _, _ => none

def leavesA (a : List Leaf) : Nat → List Leaf
  | 0 => []
  | n + 1 => a ++ leavesA a n

/-- What a type's cells are, one behind the other. -/
def leaves (P : Program) : Nat → TypeId → Option (List Leaf)
  | 0, _ => none
  | d + 1, t => match P.underlying t with
    | some (.int k) => some [.i k]
    | some .bool => some [.b]
    | some (.struct fs) => match leavesF (leaves P d) P 0 fs.toList with
      | some (ls, n) => match Nat.beq n (P.cellsOf t) with
        | true => some ls
        | false => none
      | none => none
    | some (.array n e) => match P.underlying e with
      | some (.int k) => match Nat.beq (P.cellsOf e) 1 && Nat.beq (P.cellsOf t) n with
        | true => some [.is k n]
        | false => none
      | _ => match Nat.beq (P.cellsOf t) (n * P.cellsOf e), leaves P d e with
        | true, some a => some (leavesA a n)
        | _, _ => none
    | some _ => some [.raw t]
    | none => none

def MatchL (R : TypeId → Value → Prop) : List Leaf → List Chunk → Prop
  | [], [] => True
  | .i k :: ls, .one (.v (.int k' x)) :: cs => k' = k ∧ (Lit.int k x).wf = true ∧ MatchL R ls cs
  | .b :: ls, .one (.v (.bool _)) :: cs => MatchL R ls cs
  | .is k n :: ls, .ints k' n' xs :: cs => k' = k ∧ n' = n ∧ xs.length = n ∧ (∀ x ∈ xs, (Lit.int k x).wf = true) ∧ MatchL R ls cs
  | .raw t :: ls, .one (.v x) :: cs => R t x ∧ MatchL R ls cs
  | _, _ => False

theorem MatchL.append {R : TypeId → Value → Prop} : ∀ {ls ls' : List Leaf} {cs cs' : List Chunk}, MatchL R ls cs → MatchL R ls' cs' → MatchL R (ls ++ ls') (cs ++ cs')
  | [], ls', [], cs', _, h => h
  | .i k :: ls, ls', .one (.v (.int k' x)) :: cs, cs', ⟨h1, h2, h3⟩, h => ⟨h1, h2, MatchL.append h3 h⟩
  | .b :: ls, ls', .one (.v (.bool _)) :: cs, cs', h3, h => @MatchL.append R ls ls' cs cs' h3 h
  | .is k n :: ls, ls', .ints k' n' xs :: cs, cs', ⟨h1, h2, h4, h5, h3⟩, h => ⟨h1, h2, h4, h5, MatchL.append h3 h⟩
  | .raw t :: ls, ls', .one (.v x) :: cs, cs', ⟨h1, h3⟩, h => ⟨h1, MatchL.append h3 h⟩

section
variable {H : Type} {enc : TypeId × Value → H} {P : Program} {w : World} {base : Nat} {spare : Nat → Bool} {held : Bool}

theorem trod_one {fuel : Nat} {t : TypeId} {cs : List Value} {x : DataW H × List MemPlace} {d : TypeDesc} (hu : P.underlying t = some d) (hd : d.isRow = false) (h : DataW.trod enc P w base spare held fuel t cs = some x) : ∃ v, cs = [v] := by
  cases fuel with
  | zero => simp [DataW.trod] at h
  | succ n =>
    unfold DataW.trod at h
    rw [hu] at h
    split at h <;> first
      | exact ⟨_, rfl⟩
      | (rename_i heq; simp only [Option.some.injEq] at heq; subst heq; simp [TypeDesc.isRow] at hd)
      | cases h

def Rd (enc : TypeId × Value → H) (P : Program) (w : World) (base : Nat) (spare : Nat → Bool) (held : Bool) (t : TypeId) (v : Value) : Prop := ∃ n d ps, DataW.trod enc P w base spare held n t [v] = some (d, ps)

theorem trod_ints {k : IntKind} {e : TypeId} (he : P.underlying e = some (.int k)) : ∀ (cs : List Value) (n : Nat), n = cs.length → (∀ i, i < n → ∃ m y, DataW.trod enc P w base spare held m e ((cs.drop i).take 1) = some y) →
    ∃ xs : List Int, cs = xs.map (Value.int k) ∧ ∀ x ∈ xs, (Lit.int k x).wf = true
  | [], n, hn, h => ⟨[], rfl, (fun x hx => by cases hx)⟩
  | c :: cs, n, hn, h => by
    obtain ⟨m, y, h0⟩ := h 0 (by simp [hn])
    simp only [List.drop_zero, List.take_succ_cons, List.take_zero] at h0
    obtain ⟨z, rfl, hw⟩ : ∃ z, c = .int k z ∧ (Lit.int k z).wf = true := by
      cases m with
      | zero => simp [DataW.trod] at h0
      | succ m =>
        unfold DataW.trod at h0
        rw [he] at h0
        split at h0 <;> simp_all
    obtain ⟨xs, rfl, hxs⟩ := trod_ints he cs cs.length rfl (fun i hi => by
      obtain ⟨m', y', h'⟩ := h (i + 1) (by simp [hn]; omega)
      exact ⟨m', y', by simpa using h'⟩)
    refine ⟨z :: xs, rfl, fun x hx => ?_⟩
    cases hx with
    | head => exact hw
    | tail _ hx => exact hxs x hx

theorem fields_flat (rec : TypeId → Option (List Leaf)) (hrec : ∀ t ls, rec t = some ls → ∀ fuel cs x, DataW.trod enc P w base spare held fuel t cs = some x → ∃ cks, flat (fun _ => 0) cks = cs ∧ MatchL (Rd enc P w base spare held) ls cks) (cs : List Value) :
    ∀ (fs : List Field) (o n : Nat) (ls : List Leaf), leavesF rec P o fs = some (ls, n) → n ≤ cs.length → (∀ f ∈ fs, ∃ m y, DataW.trod enc P w base spare held m f.type ((cs.drop f.offset).take (P.cellsOf f.type)) = some y) →
      o ≤ n ∧ ∃ cks, flat (fun _ => 0) cks = (cs.drop o).take (n - o) ∧ MatchL (Rd enc P w base spare held) ls cks
  | [], o, n, ls, h, hn, hf => by
    simp only [leavesF, Option.some.injEq, Prod.mk.injEq] at h
    obtain ⟨rfl, rfl⟩ := h
    exact ⟨Nat.le_refl _, [], by simp [flat], trivial⟩
  | f :: fs, o, n, ls, h, hn, hf => by
    simp only [leavesF] at h
    split at h
    · rename_i a r n' ho ha hr
      simp only [Option.some.injEq, Prod.mk.injEq] at h
      obtain ⟨rfl, rfl⟩ := h
      have ho' := Nat.eq_of_beq_eq_true ho
      obtain ⟨hle, cks2, e2, m2⟩ := fields_flat rec hrec cs fs _ _ _ hr hn (fun g hg => hf g (by simp [hg]))
      obtain ⟨m, y, hy⟩ := hf f (by simp)
      obtain ⟨cks1, e1, m1⟩ := hrec _ _ ha _ _ _ hy
      refine ⟨by omega, cks1 ++ cks2, ?_, m1.append m2⟩
      rw [flat_append, e1, e2, ho']
      have e3 : n' - o = P.cellsOf f.type + (n' - (o + P.cellsOf f.type)) := by omega
      rw [e3, List.take_add, List.drop_drop]
    · cases h

theorem elems_flat {ls : List Leaf} {s : Nat} (cs : List Value) (hrec : ∀ cs', (∃ m y, True ∧ DataW.trod enc P w base spare held m y cs' ≠ none) → True) (n : Nat) (hl : cs.length = n * s)
    (hf : ∀ i, i < n → ∃ cks, flat (fun _ => 0) cks = (cs.drop (i * s)).take s ∧ MatchL (Rd enc P w base spare held) ls cks) :
    ∀ m i, i + m = n → ∃ cks, flat (fun _ => 0) cks = cs.drop (i * s) ∧ MatchL (Rd enc P w base spare held) (leavesA ls m) cks
  | 0, i, h => ⟨[], by rw [List.drop_of_length_le (by rw [hl, ← h]; simp)]; rfl, trivial⟩
  | m + 1, i, h => by
    obtain ⟨cks1, e1, m1⟩ := hf i (by omega)
    obtain ⟨cks2, e2, m2⟩ := elems_flat cs hrec n hl hf m (i + 1) (by omega)
    refine ⟨cks1 ++ cks2, ?_, m1.append m2⟩
    rw [flat_append, e1, e2]
    have : (i + 1) * s = i * s + s := by rw [Nat.add_mul, Nat.one_mul]
    rw [this, ← List.drop_drop, List.take_append_drop]

theorem trod_leaves : ∀ (d : Nat) (t : TypeId) (ls : List Leaf), leaves P d t = some ls → ∀ fuel cs x, DataW.trod enc P w base spare held fuel t cs = some x →
    ∃ cks, flat (fun _ => 0) cks = cs ∧ MatchL (Rd enc P w base spare held) ls cks
  | 0, t, ls, h, _, _, _, _ => by simp [leaves] at h
  | d + 1, t, ls, h, fuel, cs, x, hx => by
    simp only [leaves] at h
    split at h
    · rename_i k hu
      simp only [Option.some.injEq] at h
      subst h
      obtain ⟨v, rfl⟩ := trod_one hu rfl hx
      have hone : ∀ i, i < 1 → ∃ m y, DataW.trod enc P w base spare held m t (([v].drop i).take 1) = some y := fun i hi => by
        obtain rfl : i = 0 := by omega
        exact ⟨fuel, x, hx⟩
      obtain ⟨xs, e, hw⟩ := trod_ints (cs := [v]) hu 1 rfl hone
      match xs, e, hw with
      | [z], e, hw =>
        simp only [List.map_cons, List.map_nil, List.cons.injEq, and_true] at e
        exact ⟨[.one (.v (.int k z))], by simp [flat, AV.conc, e], rfl, hw z (by simp), trivial⟩
    · rename_i hu
      simp only [Option.some.injEq] at h
      subst h
      cases fuel with
      | zero => simp [DataW.trod] at hx
      | succ n =>
        unfold DataW.trod at hx
        rw [hu] at hx
        split at hx <;> first
          | cases hx; done
          | (rename_i heq; exact ⟨[.one (.v (.bool _))], by simp [flat, AV.conc]; rfl, trivial⟩)
          | simp_all
    · rename_i fs hu
      split at h
      · rename_i ls' n hls
        split at h
        · rename_i hn
          simp only [Option.some.injEq] at h
          subst h
          obtain ⟨xs, m, rfl, _, hlen, hxl, hf⟩ := DataW.trod_struct hu hx
          have hn' := Nat.eq_of_beq_eq_true hn
          obtain ⟨_, cks, e, hm⟩ := fields_flat (leaves P d) (fun t ls h => trod_leaves d t ls h) cs fs.toList 0 n ls' hls (by omega) (fun f hf' => by
            obtain ⟨i, hi⟩ := List.mem_iff_getElem?.1 hf'
            have := hf i f (by simpa using hi)
            have hil : i < xs.length := by
              rw [hxl]
              rcases Nat.lt_or_ge i fs.size with h | h
              · exact h
              · rw [List.getElem?_eq_none (by simpa using h)] at hi; cases hi
            exact ⟨m, xs[i], by rw [this, List.getElem?_eq_getElem hil]⟩)
          refine ⟨cks, ?_, hm⟩
          rw [e, List.drop_zero, Nat.sub_zero, hn', ← hlen, List.take_length]
        · cases h
      · cases h
    · rename_i n e hu
      split at h
      · rename_i k he
        split at h
        · rename_i hc
          rw [Bool.and_eq_true] at hc
          simp only [Option.some.injEq] at h
          subst h
          obtain ⟨xs, m, rfl, _, hlen, hxl, hf⟩ := DataW.trod_array hu hx
          have h1 := Nat.eq_of_beq_eq_true hc.1
          have h2 := Nat.eq_of_beq_eq_true hc.2
          obtain ⟨zs, rfl, hw⟩ := trod_ints (cs := cs) he n (by omega) (fun i hi => by
            have := hf i hi
            rw [h1, Nat.mul_one] at this
            exact ⟨m, xs[i]'(by omega), by rw [this, List.getElem?_eq_getElem (by omega)]⟩)
          exact ⟨[.ints k n zs], by simp [flat], rfl, rfl, by simp at hlen; omega, hw, trivial⟩
        · cases h
      · split at h
        · rename_i a hc ha
          simp only [Option.some.injEq] at h
          subst h
          obtain ⟨xs, m, rfl, _, hlen, hxl, hf⟩ := DataW.trod_array hu hx
          have h2 := Nat.eq_of_beq_eq_true hc
          obtain ⟨cks, e1, hm⟩ := elems_flat (ls := a) cs (fun _ _ => trivial) n (s := P.cellsOf e) (by omega) (fun i hi => by
            have := hf i hi
            exact trod_leaves d e a ha m _ (xs[i]'(by omega)) (by rw [this, List.getElem?_eq_getElem (by omega)])) n 0 (by omega)
          exact ⟨cks, by simpa using e1, hm⟩
        · cases h
    · rename_i d' hn1 hn2 hn3 hn4 hu
      simp only [Option.some.injEq] at h
      subst h
      have hd : d'.isRow = false := by
        cases d' <;> first | rfl | (exfalso; exact hn3 _ rfl) | (exfalso; exact hn4 _ _ rfl)
      obtain ⟨v, rfl⟩ := trod_one hu hd hx
      exact ⟨[.one (.v v)], rfl, ⟨fuel, x.1, x.2, hx⟩, trivial⟩
    · cases h
end

/-! memory that is only read -/

/-- These chunks lie at a place of the snapshot. -/
def CellsAt (E : World) (b off : Nat) (cs : List Chunk) : Prop := ∀ j v, (flat (fun _ => 0) cs)[j]? = some v → E.cell? ⟨b, off + j, none⟩ = some v

/-- A slice's elements as they lie in the snapshot; c i: the chunks of element i. -/
def SliceAt (C : Ctx) (a : Option Addr) (len size : Nat) (c : Nat → List Chunk) (b off : Nat) : Prop :=
  (0 < len → a = some ⟨b, off, none⟩ ∧ C.X b) ∧ ∀ i, i < len → CellsAt C.E b (off + i * size) (c i)

theorem cell_of_ag {C : Ctx} {w : World} (h : ∀ b, C.X b → b < w.heap.size ∧ w.heap[b]? = C.E.heap[b]?) {b : Nat} (hx : C.X b) (off : Nat) : w.cell? ⟨b, off, none⟩ = C.E.cell? ⟨b, off, none⟩ := by
  simp only [World.cell?, (h b hx).2]

section
variable {P : Program} {C : Ctx} {ρ : Nat → Nat} {l : Env} {H : Heap} {a : Act} {w : World}

/-- The address of an element of a slice. -/
theorem rd_index {o : Oper} {t e : TypeId} {x ix : Operand} {ad : Option Addr} {len cap : Nat} {ik : IntKind} (b off size k : Nat) (hop : o.op = .indexAddr t x ix) (hu : P.underlying t = some (.slice e)) (hi : (P.info? e).map (·.size) = some size)
    (hx : ev l x = some (.s (.a (.v (.slice ad len cap))))) (hix : ev l ix = some (.s (.a (.v (.int ik (k : Int)))))) (hk : k < len) (ha : ad = some ⟨b, off, none⟩) :
    ∀ ρ a w, Sv C ρ l H a w → (execOp a.eval o).run P w = .ok (.value ((eV (.pointer (some ⟨b, off + k * size, none⟩))).conc ρ)) w ∧ (eV (.pointer (some ⟨b, off + k * size, none⟩))).ok := by
  intro ρ a w hs
  refine ⟨?_, trivial⟩
  obtain ⟨dst, oop, type, pos, after, guard⟩ := o
  simp only at hop
  subst hop
  subst ha
  have ex : a.eval x = .slice (some ⟨b, off, none⟩) len cap := (hs.ev hx).1
  have ei : a.eval ix = .int ik k := (hs.ev hix).1
  cases hq : P.info? e with
  | none => simp [hq] at hi
  | some i =>
    have hsz : i.size = size := by simpa [hq] using hi
    have hb : (0 ≤ (k : Int) ∧ (k : Int) < (len : Int)) := ⟨Int.natCast_nonneg k, by omega⟩
    simp only [execOp, ex, ei, Instr.indexAt, asIntOf, Sem.run_bind, Sem.run_pure, Result.andThen_ok, run_underlying hu, if_pos hb, sizeOf, typeInfo, run_program, hq, hsz, Int.toNat_natCast, Addr.add_mid]
    rfl

/-- A load from memory that is only read. 'j': how far behind the place of which the chunks are known. -/
theorem rd_load {o : Oper} {t : TypeId} {x : Operand} (b o0 j : Nat) (cs : List Chunk) {v : SV} (hop : o.op = .load t x) (off : Nat) (hx : ev l x = some (.s (.a (.v (.pointer (some ⟨b, off, none⟩)))))) (ho : off = o0 + j) (hX : C.X b)
    (hc : CellsAt C.E b o0 cs) (hok : okCs cs) (hf : ∀ ρ, flat ρ cs = flat (fun _ => 0) cs) (hl : ldC P t cs j = some v) :
    ∀ ρ a w, Sv C ρ l H a w → (execOp a.eval o).run P w = .ok (.value ((EV.s v).conc ρ)) w ∧ (EV.s v).ok := by
  intro ρ a w hs
  obtain ⟨dst, oop, type, pos, after, guard⟩ := o
  simp only at hop
  subst hop
  subst ho
  have ex : a.eval x = .pointer (some ⟨b, o0 + j, none⟩) := (hs.ev hx).1
  have hcell : ∀ i u, (flat ρ cs)[i]? = some u → w.cell? ⟨b, o0 + i, none⟩ = some u := fun i u hu => by
    rw [cell_of_ag hs.ag hX]
    exact hc i u (by rw [← hf ρ]; exact hu)
  have key : (loadVar t ⟨b, o0 + j, none⟩).run P w = .ok (v.conc ρ) w ∧ v.ok := by
    unfold ldC at hl
    split at hl
    · rename_i hag
      split at hl
      · rename_i i hi
        split at hl
        · rename_i r hr
          split at hl
          · rename_i s hs'
            simp only [Option.some.injEq] at hl
            subst hl
            obtain ⟨h1, pre, h2, h3⟩ := dropC_flat ρ hok hr
            obtain ⟨h4, post, h5, h6⟩ := takeC_flat ρ h1 hs'
            refine ⟨?_, h4⟩
            have hlc : (loadCells ⟨b, o0 + j, none⟩ (flat ρ s).length).run P w = .ok (flat ρ s).toArray w :=
              run_loadCells_list (P := P) w ⟨b, o0 + j, none⟩ (flat ρ s) (fun i u hu => by
                rw [Addr.add_mid, Nat.add_assoc]
                refine hcell (j + i) u ?_
                have hil : i < (flat ρ s).length := by
                  rcases Nat.lt_or_ge i (flat ρ s).length with h | h
                  · exact h
                  · rw [List.getElem?_eq_none h] at hu; cases hu
                rw [h2, h5, List.getElem?_append_right (by omega), show j + i - pre.length = i by omega, List.getElem?_append_left hil]
                exact hu)
            rw [h6] at hlc
            simp only [loadVar, Sem.run_bind, isAggB_run hag, Result.andThen_ok, if_true]
            simp [sizeOf, typeInfo, hi, hlc, SV.conc]
          · cases hl
        · cases hl
      · cases hl
    · rename_i hag
      split at hl
      · rename_i y hy
        simp only [Option.some.injEq] at hl
        subst hl
        refine ⟨?_, trivial⟩
        have := hcell j _ (atC_flat ρ hok hy)
        simp only [loadVar, Sem.run_bind, isAggB_run hag, Result.andThen_ok, Bool.false_eq_true, if_false]
        simp [this, SV.conc]
      · cases hl
    · cases hl
  refine ⟨?_, key.2⟩
  simp only [execOp, ex, Instr.loadAt, Instr.sureAddr, Sem.run_bind, Sem.run_pure, Result.andThen_ok, key.1]
  rfl
end

/-- A slice that came in, element by element. -/
theorem slice_open {H : Type} {enc : TypeId × Value → H} {P : Program} {w : World} {spare : Nat → Bool} {held : Bool} {t e : TypeId} {fuel d : Nat} {v : Value} {x : DataW H × List MemPlace} {ls : List Leaf} {size : Nat}
    (ht : P.underlying t = some (.slice e)) (hl : leaves P d e = some ls) (hs : P.cellsOf e = size) (hpos : 0 < size) (h : DataW.trod enc P w 0 spare held fuel t [v] = some x) :
    ∃ (a : Option Addr) (len cap b off : Nat) (c : Nat → List Chunk), v = .slice a len cap ∧ len ≤ cap ∧ cap ≤ maxLen ∧ (a = none → len = 0) ∧ (∀ i, i < len → MatchL (Rd enc P w 0 spare held) ls (c i)) ∧
      (0 < len → a = some ⟨b, off, none⟩ ∧ b < w.heap.size) ∧ ∀ i, i < len → CellsAt w b (off + i * size) (c i) := by
  rcases Deep.open_slice ht h with ⟨hv, _⟩ | ⟨ad, len, cap, m, n, D, Pl, hv, _, hlc, hcm, hm, _, hel⟩
  · simp only [List.cons.injEq, and_true] at hv
    exact ⟨none, 0, 0, 0, 0, fun _ => [], hv, Nat.le_refl _, by simp [maxLen], fun _ => rfl, fun i hi => absurd hi (Nat.not_lt_zero _), fun h => absurd h (Nat.lt_irrefl _), fun i hi => absurd hi (Nat.not_lt_zero _)⟩
  · simp only [List.cons.injEq, and_true] at hv
    have hlm : len ≤ m := by rw [hm]; split <;> omega
    have : ∀ i, i < len → ∃ c : List Chunk, MatchL (Rd enc P w 0 spare held) ls c ∧ w.cells? 0 (ad.add (i * size)) size = some (flat (fun _ => 0) c) := fun i hi => by
      obtain ⟨cs', h1, h2⟩ := hel i (by omega)
      obtain ⟨cks, e1, e2⟩ := trod_leaves d e ls hl n cs' _ h2
      exact ⟨cks, e2, by rw [e1, ← hs]; exact h1⟩
    obtain ⟨c, hc⟩ := @Deep.choose_lt (List Chunk) ⟨[]⟩ _ _ this
    have cell : ∀ i, i < len → ∀ j u, (flat (fun _ => 0) (c i))[j]? = some u → w.cell? ((ad.add (i * size)).add j) = some u := fun i hi j u hu => by
      have h2 := (hc i hi).2
      unfold World.cells? at h2
      rw [if_pos (Nat.zero_le _)] at h2
      have hlen := mapM_some_length h2
      have hj : j < (flat (fun _ => 0) (c i)).length := by
        rcases Nat.lt_or_ge j (flat (fun _ => 0) (c i)).length with h | h
        · exact h
        · rw [List.getElem?_eq_none h] at hu; cases hu
      have hj' : j < size := by simpa [hlen] using hj
      have := mapM_some_get h2 j j (by simp [hj'])
      rw [this, hu]
    obtain ⟨b, off, spot⟩ := ad
    have hspot : 0 < len → spot = none := fun hpl => by
      have h2 := (hc 0 hpl).2
      unfold World.cells? at h2
      rw [if_pos (Nat.zero_le _)] at h2
      have hlen := mapM_some_length h2
      simp only [List.length_range] at hlen
      have h3 := cell 0 hpl 0 ((flat (fun _ => 0) (c 0))[0]'(by omega)) (by rw [List.getElem?_eq_getElem (by omega)])
      rw [Nat.zero_mul] at h3
      have : (⟨b, off, spot⟩ : Addr).add 0 = ⟨b, off, spot⟩ := rfl
      rw [this, this] at h3
      cases spot with
      | none => rfl
      | some s => exfalso; unfold World.cell? at h3; split at h3 <;> simp at h3
    refine ⟨some ⟨b, off, spot⟩, len, cap, b, off, c, hv, hlc, hcm, (fun h => by cases h), fun i hi => (hc i hi).1, fun hpl => ?_, fun i hi => ?_⟩
    · obtain rfl := hspot hpl
      refine ⟨rfl, ?_⟩
      have h2 := (hc 0 hpl).2
      unfold World.cells? at h2
      rw [if_pos (Nat.zero_le _)] at h2
      have hlen := mapM_some_length h2
      simp only [List.length_range] at hlen
      have h3 := cell 0 hpl 0 ((flat (fun _ => 0) (c 0))[0]'(by omega)) (by rw [List.getElem?_eq_getElem (by omega)])
      have h4 := block_lt_of_cell h3
      simpa [Addr.add] using h4
    · obtain rfl := hspot (by omega)
      intro j u hu
      have := cell i hi j u hu
      rwa [Addr.add_mid, Addr.add_mid] at this

/-- A value by value: its cells as chunks. -/
theorem val_open {H : Type} {enc : TypeId × Value → H} {P : Program} {w : World} {spare : Nat → Bool} {held : Bool} {t : TypeId} {fuel d : Nat} {v : Value} {x : DataW H × List MemPlace} {ls : List Leaf} {r : Reach} {bs : Nat}
    (hv : Value.okWide P w r bs t v) (hag : isAggB P t = some true) (hl : leaves P d t = some ls) (h : DataW.trod enc P w 0 spare held fuel t v.cells.toList = some x) :
    ∃ cs, v = .agg (flat (fun _ => 0) cs).toArray ∧ MatchL (Rd enc P w 0 spare held) ls cs := by
  obtain ⟨cks, e1, e2⟩ := trod_leaves d t ls hl _ _ _ h
  refine ⟨cks, ?_, e2⟩
  unfold Value.okWide at hv
  unfold isAggB at hag
  cases hu : P.underlying t with
  | none => simp [hu] at hag
  | some d =>
    rw [hu] at hv hag
    cases d <;> simp at hag
    all_goals
      obtain ⟨cs, rfl, _⟩ := hv
      rw [e1]
      simp [Value.cells]
theorem xI {ρ : Nat → Nat} {i n : Nat} (h : i < n) : i < n ∧ ¬ ∃ k b, getH ([] : Heap) k = some b ∧ ρ k = i := ⟨h, fun ⟨k, b, h, _⟩ => by cases h⟩
theorem wrap_succ {k : Nat} (h : k < 9223372036854775807) : IntKind.wrap .i64 ((k : Int) + 1) = ((k + 1 : Nat) : Int) := by
  rw [IntKind.wrap_i64]; omega
theorem cells_one {P : Program} {w : World} {r : Reach} {bs : Nat} {t : TypeId} {v : Value} (hv : Value.okWide P w r bs t v) (hag : isAggB P t = some false) : v.cells.toList = [v] := by
  unfold Value.okWide at hv
  unfold isAggB at hag
  cases hu : P.underlying t with
  | none => simp [hu] at hag
  | some d =>
    rw [hu] at hv hag
    cases d <;> simp at hag <;> (unfold Cell.okWide at hv; rw [hu] at hv; cases v <;> first | rfl | (unfold Cell.ok at hv; rw [hu] at hv; first | exact hv.elim | exact absurd hv id | cases hv))
end Go.Sx
