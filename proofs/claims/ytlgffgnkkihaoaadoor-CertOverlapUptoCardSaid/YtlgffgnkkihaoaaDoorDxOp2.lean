/- More operations that only yield a value: loads, slices, comparisons, conversions, literals. -/
import Derived.Test.YtlgffgnkkihaoaaDoorDxOp
namespace Go.Dx
open Go.RowKit
set_option linter.unusedVariables false
set_option linter.unusedSimpArgs false
section
variable {P : Program} {C : Ctx} {F : Nat → Prop} {ρ : Nat → Loc} {l : Env} {H : Heap} {a : Act} {w : World} {G : List (Nat × List DC)}

def oneR (x : Option SV) : Res :=
  match x with
  | some v => some ([], .s v)
  | none => none
/-- What a load yields. -/
def loadV (P : Program) (t : TypeId) (H : Heap) (x : AV) : Res :=
  match x with
  | .lp k off => match getH H k with
    | some (.cells cs _) => oneR (ldC P t cs off)
    | _ => none
  | .lx k off n i => match getH H k, isAggB P t with
    | some (.cells cs _), some false => match atI cs off with
      | some (kd, m, xs) => match Nat.beq m n with
        | true => some ([], eI kd (xs.getD i 0))
        | false => none
      | none => none
    | _, _ => none
  | .re k sz i off => match getH H k with
    | some (.row (.st sz' n c) _) => match Nat.beq sz sz' with
      | true => oneR (ldC P t (upC (c i)) off)
      | false => none
    | some (.row (.ints kd L) _) => match isAggB P t, Nat.beq sz 1 && Nat.beq off 0 with
      | some false, true => some ([], eI kd (L.getD i 0))
      | _, _ => none
    | some (.row (.bts Ls) _) => match isAggB P t, Nat.beq sz 1 && Nat.beq off 0 with
      | some false, true => some ([], S1 (.d (.si .u8 (Ls.getD i []))))
      | _, _ => none
    | _ => none
  | .d (.pt cs) => oneR (ldC P t (upC cs) 0)
  | _ => none
theorem oneR_some {x : Option SV} {ps : List Prop} {e : EV} (h : oneR x = some (ps, e)) : ∃ v, x = some v ∧ e = .s v := by
  unfold oneR at h
  split at h
  · simp only [Option.some.injEq, Prod.mk.injEq] at h; exact ⟨_, rfl, h.2.symm⟩
  · cases h
theorem load_cell {t : TypeId} {b o : Nat} {ty : TypeId} {fr : Nat × Nat} {cells : List Value} {v : Value} (hag : isAggB P t = some false) (hg : w.heap[b]? = some (.cells cells.toArray ty fr)) (hv : cells[o]? = some v) : (loadVar t ⟨b, o, none⟩).run P w = .ok v w := by
  have : w.cell? ⟨b, o, none⟩ = some v := by rw [cell_of_row w b o _ ty fr hg]; simpa using hv
  simp only [loadVar, Sem.run_bind, isAggB_run hag, Result.andThen_ok, Bool.false_eq_true, if_false]
  simp [this]
theorem loadV_run {t : TypeId} {x : AV} {u : Value} {ps : List Prop} {e : EV} (h : loadV P t H x = some (ps, e)) (hH : HOk w F ρ H) (hr : ARep ⟨w, F⟩ ρ x u) :
    ∃ v, (Instr.loadAt t u).run P w = .ok v w ∧ ERep ⟨w, F⟩ ρ e v := by
  have run : ∀ (ad : Addr), (Instr.loadAt t (.pointer (some ad))).run P w = (loadVar t ad).run P w := fun ad => by simp [Instr.loadAt, Instr.sureAddr]
  unfold loadV at h
  split at h
  · rename_i k off
    split at h
    · rename_i cs ty hg
      obtain ⟨v, hl, rfl⟩ := oneR_some h
      obtain ⟨vs, ⟨h1, _⟩, h2⟩ := hH.hp k _ hg
      rw [show u = _ from hr, run]
      obtain ⟨y, h3, h4⟩ := ldC_load (o := 0) hl h2 h1 (fun j v hj => by simpa using hj)
      exact ⟨y, by simpa using h3, h4⟩
    · cases h
  · rename_i k off n i
    split at h
    · rename_i cs ty hg hag
      split at h
      · rename_i kd m xs hat
        split at h
        · rename_i hb
          obtain rfl := Nat.eq_of_beq_eq_true hb
          simp only [Option.some.injEq, Prod.mk.injEq] at h; obtain ⟨rfl, rfl⟩ := h
          obtain ⟨rfl, hi⟩ := hr
          obtain ⟨vs, ⟨h1, _⟩, h2⟩ := hH.hp k _ hg
          obtain ⟨h3, A, B, rfl, h5, _⟩ := atI_rep h2 hat
          rw [run]
          refine ⟨_, load_cell hag h1 ?_, rfl⟩
          rw [List.append_assoc, List.getElem?_append_right (by omega), List.getElem?_append_left (by simp; omega), h5, Nat.add_sub_cancel_left, List.getElem?_map, getD_of (by omega) 0]
          rfl
        · cases h
      · cases h
    · cases h
  · rename_i k sz i off
    obtain ⟨rfl, hi⟩ := hr
    split at h
    · rename_i sz' n c ty hg
      split at h
      · rename_i hb
        obtain rfl := Nat.eq_of_beq_eq_true hb
        obtain ⟨v, hl, rfl⟩ := oneR_some h
        obtain ⟨vs, rest, hrow, ⟨_, _, h2⟩, _, _, hn, hc⟩ := hH.hp k _ hg
        simp only [Cont.len] at hn hc
        obtain ⟨⟨h1, _⟩, _⟩ := hrow.real (by omega)
        rw [run]
        refine ldC_load hl (upC_rep (h2 i (by omega))) h1 fun j v hj => ?_
        rw [List.getElem?_take] at hj
        split at hj
        · rw [List.getElem?_drop] at hj
          rw [List.getElem?_append_left, hj]
          rcases Nat.lt_or_ge (i * sz + j) vs.length with h | h
          · exact h
          · rw [List.getElem?_eq_none h] at hj; cases hj
        · cases hj
      · cases h
    · rename_i kd L ty hg
      split at h
      · rename_i hag hb
        simp only [Bool.and_eq_true] at hb
        obtain rfl := Nat.eq_of_beq_eq_true hb.1
        obtain rfl := Nat.eq_of_beq_eq_true hb.2
        simp only [Option.some.injEq, Prod.mk.injEq] at h; obtain ⟨rfl, rfl⟩ := h
        obtain ⟨vs, rest, hrow, ⟨_, _, h2⟩, _, _, hn, hc⟩ := hH.hp k _ hg
        simp only [Cont.len] at hn hc
        obtain ⟨⟨h1, _⟩, _⟩ := hrow.real (by omega)
        rw [run]
        refine ⟨_, load_cell hag h1 ?_, rfl⟩
        obtain rfl : vs = _ := h2
        rw [List.getElem?_append_left (by simp; omega), Nat.mul_one, Nat.add_zero, List.getElem?_map, getD_of (by omega) 0]
        rfl
      · cases h
    · rename_i Ls ty hg
      split at h
      · rename_i hag hb
        simp only [Bool.and_eq_true] at hb
        obtain rfl := Nat.eq_of_beq_eq_true hb.1
        obtain rfl := Nat.eq_of_beq_eq_true hb.2
        simp only [Option.some.injEq, Prod.mk.injEq] at h; obtain ⟨rfl, rfl⟩ := h
        obtain ⟨vs, rest, hrow, ⟨h0, _, h2⟩, _, _, hn, hc⟩ := hH.hp k _ hg
        simp only [Cont.len, Cont.sz] at hn hc h0
        obtain ⟨⟨h1, _⟩, _⟩ := hrow.real (by omega)
        rw [run]
        obtain ⟨y, h3, h4⟩ := h2 i _ (getD_of (by omega) [])
        exact ⟨y, load_cell hag h1 (by rw [Nat.mul_one, Nat.add_zero, List.getElem?_append_left (by omega)]; exact h3), h4⟩
      · cases h
    · cases h
  · rename_i cs
    obtain ⟨v, hl, rfl⟩ := oneR_some h
    obtain ⟨b, off, cells, rfl, ⟨_, ty, fr, h1⟩, h2⟩ := hr
    rw [run]
    have := ldC_load (o := off) (P := P) (ρ := ρ) (t := t) (off := 0) hl (upC_rep h2) h1 fun j v hj => by
      rw [List.getElem?_take] at hj
      split at hj
      · rwa [List.getElem?_drop] at hj
      · cases hj
    exact this
  · cases h

/-! slices -/
theorem IRep.sub {m : Mem} {k : IntKind} {L : List Int} {ad : Option Addr} {len cap lo hi : Nat} (h : IRep m k L (.slice ad len cap)) (h1 : lo ≤ hi) (h2 : hi ≤ L.length) : IRep m k ((L.take hi).drop lo) (.slice (if cap = lo then ad else ad.map (·.add (lo * 1))) (hi - lo) (cap - lo)) := by
  obtain ⟨a', cap', e, h3, h4⟩ := h
  simp only [Value.slice.injEq] at e
  obtain ⟨rfl, rfl, rfl⟩ := e
  have hl : ((L.take hi).drop lo).length = hi - lo := by simp; omega
  refine ⟨_, _, by rw [hl], by omega, fun hn => ?_⟩
  have hlt : lo < hi := by
    rcases Nat.lt_or_ge lo hi with h | h
    · exact h
    · exact absurd (List.eq_nil_of_length_eq_zero (by omega)) hn
  obtain ⟨b, off, cells, rfl, h6, h7⟩ := h4 (by intro e; subst e; simp at h2; omega)
  refine ⟨b, off + lo, cells, ?_, h6, fun i x hx => ?_⟩
  · rw [if_neg (by omega)]; simp [Addr.add_mid]
  · rw [List.getElem?_drop, List.getElem?_take] at hx
    split at hx
    · rw [Nat.add_assoc]; exact h7 _ _ hx
    · cases hx
theorem BRepS.sub {m : Mem} {Ls : List (List Int)} {ad : Option Addr} {len cap lo hi : Nat} (h : BRepS m Ls (.slice ad len cap)) (h1 : lo ≤ hi) (h2 : hi ≤ Ls.length) : BRepS m ((Ls.take hi).drop lo) (.slice (if cap = lo then ad else ad.map (·.add (lo * 1))) (hi - lo) (cap - lo)) := by
  obtain ⟨a', cap', e, h3, h4⟩ := h
  simp only [Value.slice.injEq] at e
  obtain ⟨rfl, rfl, rfl⟩ := e
  have hl : ((Ls.take hi).drop lo).length = hi - lo := by simp; omega
  refine ⟨_, _, by rw [hl], by omega, fun hn => ?_⟩
  have hlt : lo < hi := by
    rcases Nat.lt_or_ge lo hi with h | h
    · exact h
    · exact absurd (List.eq_nil_of_length_eq_zero (by omega)) hn
  obtain ⟨b, off, cells, rfl, h6, h7⟩ := h4 (by intro e; subst e; simp at h2; omega)
  refine ⟨b, off + lo, cells, ?_, h6, fun i x hx => ?_⟩
  · rw [if_neg (by omega)]; simp [Addr.add_mid]
  · rw [List.getElem?_drop, List.getElem?_take] at hx
    split at hx
    · rw [Nat.add_assoc]; exact h7 _ _ hx
    · cases hx
def loN : Option (IntKind × Int) → Nat
  | none => 0
  | some (_, x) => x.toNat
def hiN (n : Nat) : Option (IntKind × Int) → Nat
  | none => n
  | some (_, y) => y.toNat
def opnd : Option (IntKind × Int) → Option Value
  | none => none
  | some (k, x) => some (.int k x)
def bndOk (n : Nat) : Option (IntKind × Int) → Option (IntKind × Int) → List Prop
  | none, none => []
  | some (_, x), none => [0 ≤ x ∧ x ≤ n]
  | none, some (_, y) => [0 ≤ y ∧ y ≤ n]
  | some (_, x), some (_, y) => [0 ≤ x ∧ x ≤ y ∧ y ≤ n]
theorem bnd_spec {n : Nat} {lo hi : Option (IntKind × Int)} (h : allP (bndOk n lo hi)) : loN lo ≤ hiN n hi ∧ hiN n hi ≤ n ∧ ∀ (s : Bool) (cap : Nat) (w : World), n ≤ cap → (Instr.sliceBounds s n cap (opnd lo) (opnd hi) none).run P w = .ok (loN lo, hiN n hi, cap) w := by
  cases lo with
  | none =>
    cases hi with
    | none => exact ⟨Nat.zero_le _, Nat.le_refl _, fun s cap w hc => by simp [Instr.sliceBounds, opnd, loN, hiN]⟩
    | some y =>
      obtain ⟨k, y⟩ := y
      have := h.1
      refine ⟨Nat.zero_le _, by simp only [hiN]; omega, fun s cap w hc => ?_⟩
      have hb := run_sliceBound (P := P) (w := w) k y cap (if s then .sliceAcap else .sliceAlen) this.1 (by omega)
      simp [Instr.sliceBounds, opnd, loN, hiN, hb]
  | some x =>
    obtain ⟨kx, x⟩ := x
    cases hi with
    | none =>
      have := h.1
      refine ⟨by simp only [hiN, loN]; omega, Nat.le_refl _, fun s cap w hc => ?_⟩
      have hb := run_sliceBound (P := P) (w := w) kx x n .sliceB this.1 (by omega)
      simp [Instr.sliceBounds, opnd, loN, hiN, hb]
    | some y =>
      obtain ⟨ky, y⟩ := y
      have := h.1
      refine ⟨by simp only [hiN, loN]; omega, by simp only [hiN]; omega, fun s cap w hc => ?_⟩
      have hb := run_sliceBound (P := P) (w := w) ky y cap (if s then .sliceAcap else .sliceAlen) (by omega) (by omega)
      have hb' := run_sliceBound (P := P) (w := w) kx x y.toNat .sliceB this.1 (by omega)
      simp [Instr.sliceBounds, opnd, loN, hiN, hb, hb']
def cutL {α : Type} (L : List α) : Option (IntKind × Int) → Option (IntKind × Int) → List α
  | none, none => L
  | some (_, x), none => L.drop x.toNat
  | none, some (_, y) => L.take y.toNat
  | some (_, x), some (_, y) => (L.take y.toNat).drop x.toNat
theorem cutL_eq {α : Type} (L : List α) (lo hi : Option (IntKind × Int)) : cutL L lo hi = (L.take (hiN L.length hi)).drop (loN lo) := by
  cases lo <;> cases hi <;> simp [cutL, loN, hiN]
def cutF (c : Nat → List DC) : Option (IntKind × Int) → Nat → List DC
  | none => c
  | some (_, x) => fun i => c (x.toNat + i)
theorem cutF_eq (c : Nat → List DC) (lo : Option (IntKind × Int)) (i : Nat) : cutF c lo i = c (loN lo + i) := by
  cases lo <;> simp [cutF, loN]
def lenN (n : Nat) : Option (IntKind × Int) → Option (IntKind × Int) → Nat
  | none, none => n
  | some (_, x), none => n - x.toNat
  | none, some (_, y) => y.toNat
  | some (_, x), some (_, y) => y.toNat - x.toNat
theorem lenN_eq (n : Nat) (lo hi : Option (IntKind × Int)) : lenN n lo hi = hiN n hi - loN lo := by
  cases lo <;> cases hi <;> simp [lenN, loN, hiN]
def startN (i : Nat) : Option (IntKind × Int) → Nat
  | none => i
  | some (_, x) => i + x.toNat
theorem startN_eq (i : Nat) (lo : Option (IntKind × Int)) : startN i lo = i + loN lo := by cases lo <;> simp [startN, loN]
def inOk (i n : Nat) : Option (IntKind × Int) → List Prop
  | none => []
  | some (_, x) => [i + x.toNat < n]
theorem inOk_spec {i n : Nat} {lo : Option (IntKind × Int)} (h : allP (inOk i n lo)) : loN lo = 0 ∨ i + loN lo < n := by
  cases lo with
  | none => exact .inl rfl
  | some x => exact .inr h.1
def appP : List Prop → List Prop → List Prop
  | [], q => q
  | x :: r, q => x :: appP r q
theorem allP_app : ∀ {p q : List Prop}, allP (appP p q) → allP p ∧ allP q
  | [], q, h => ⟨trivial, h⟩
  | x :: r, q, h => let ⟨a, b⟩ := allP_app h.2; ⟨⟨h.1, a⟩, b⟩
def sliceV (P : Program) (t : TypeId) (x : AV) (lo hi : Option (IntKind × Int)) : Res :=
  match P.underlying t, x with
  | some (.slice e), .d (.si k L) => match szT P e with
    | some 1 => some (bndOk L.length lo hi, S1 (.d (.si k (cutL L lo hi))))
    | _ => none
  | some (.slice e), .d (.sb Ls) => match szT P e with
    | some 1 => some (bndOk Ls.length lo hi, S1 (.d (.sb (cutL Ls lo hi))))
    | _ => none
  | some (.slice e), .d (.sl sz n c) => match szT P e with
    | some s => match Nat.beq s sz with
      | true => some (bndOk n lo hi, S1 (.d (.sl sz (lenN n lo hi) (cutF c lo))))
      | false => none
    | _ => none
  | some (.slice e), .ls k off n i len => match szT P e with
    | some 1 => some (appP (bndOk len lo hi) (inOk i n lo), S1 (.ls k off n (startN i lo) (lenN len lo hi)))
    | _ => none
  | some (.array n e), .lp k off => match szT P e with
    | some 1 => some (appP (bndOk n lo hi) (inOk 0 n lo), S1 (.ls k off n (startN 0 lo) (lenN n lo hi)))
    | _ => none
  | some (.array n e), .d (.pt (.ints k m xs :: _)) => match szT P e, Nat.beq m n with
    | some 1, true => some (bndOk n lo hi, S1 (.d (.si k (cutL xs lo hi))))
    | _, _ => none
  | _, _ => none
theorem DRep.cut {m : Mem} {sz n : Nat} {c : Nat → List DC} {ad : Option Addr} {cap lo len : Nat} (h : DRep m (.sl sz n c) (.slice ad n cap)) (hl : lo + len ≤ n) :
    DRep m (.sl sz len fun i => c (lo + i)) (.slice (if cap = lo then ad else ad.map (·.add (lo * sz))) len (cap - lo)) := by
  obtain ⟨a, cap', e, h1, h2⟩ := h
  simp only [Value.slice.injEq, true_and] at e
  obtain ⟨rfl, rfl⟩ := e
  refine ⟨_, _, rfl, by omega, fun h0 => ?_⟩
  obtain ⟨b, off, cells, rfl, hz, h3, h4⟩ := h2 (by omega)
  have e : (if cap = lo then some (⟨b, off, none⟩ : Addr) else (some (⟨b, off, none⟩ : Addr)).map (·.add (lo * sz))) = some ⟨b, off + lo * sz, none⟩ := by
    rw [if_neg (by omega)]
    show some (Addr.add _ _) = _
    rw [Addr.add_mid]
  rw [e]
  have hm : (lo + len) * sz ≤ n * sz := Nat.mul_le_mul_right _ hl
  rw [Nat.add_mul] at hm
  refine ⟨b, off + lo * sz, cells, rfl, hz, by omega, fun i hi => ?_⟩
  have := h4 (lo + i) (by omega)
  rw [Nat.add_mul, ← Nat.add_assoc] at this; exact this
theorem slc_run {t e : TypeId} {lo hi : Option (IntKind × Int)} {ad : Option Addr} {len cap s : Nat} (w : World) (hu : P.underlying t = some (.slice e)) (hs : szT P e = some s) (hb : allP (bndOk len lo hi)) (hc : len ≤ cap) :
    (Instr.sliceAt t (.slice ad len cap) (opnd lo) (opnd hi) none).run P w = .ok (.slice (if cap = loN lo then ad else ad.map (·.add (loN lo * s))) (hiN len hi - loN lo) (cap - loN lo)) w := by
  obtain ⟨_, _, h3⟩ := bnd_spec (P := P) hb
  have := h3 true cap w hc
  simp [Instr.sliceAt, Instr.slice, run_underlying hu, this, szT_run hs]
theorem sliceV_run {t : TypeId} {x : AV} {lo hi : Option (IntKind × Int)} {u : Value} {ps : List Prop} {e : EV} {m : Mem} (h : sliceV P t x lo hi = some (ps, e)) (hp : allP ps) (hr : ARep m ρ x u) (w : World) :
    ∃ v, (Instr.sliceAt t u (opnd lo) (opnd hi) none).run P w = .ok v w ∧ ERep m ρ e v := by
  have slc : ∀ {e ad len cap s}, P.underlying t = some (.slice e) → szT P e = some s → allP (bndOk len lo hi) → len ≤ cap →
      (Instr.sliceAt t (.slice ad len cap) (opnd lo) (opnd hi) none).run P w = .ok (.slice (if cap = loN lo then ad else ad.map (·.add (loN lo * s))) (hiN len hi - loN lo) (cap - loN lo)) w := fun {e ad len cap s} hu hs hb hc => by
    obtain ⟨_, _, h3⟩ := bnd_spec (P := P) hb
    have := h3 true cap w hc
    simp [Instr.sliceAt, Instr.slice, run_underlying hu, this, szT_run hs]
  have arr : ∀ {e n b off s}, P.underlying t = some (.array n e) → szT P e = some s → allP (bndOk n lo hi) →
      (Instr.sliceAt t (.pointer (some ⟨b, off, none⟩)) (opnd lo) (opnd hi) none).run P w = .ok (.slice (some (if n = loN lo then ⟨b, off, none⟩ else Addr.add ⟨b, off, none⟩ (loN lo * s))) (hiN n hi - loN lo) (n - loN lo)) w := fun {e n b off s} hu hs hb => by
    obtain ⟨_, _, h3⟩ := bnd_spec (P := P) hb
    have := h3 false n w (Nat.le_refl _)
    simp [Instr.sliceAt, Instr.sureAddr, run_underlying hu, this, szT_run hs]
  unfold sliceV at h
  split at h
  · rename_i e' k L hu
    split at h
    · rename_i hs
      simp only [Option.some.injEq, Prod.mk.injEq] at h; obtain ⟨rfl, rfl⟩ := h
      have hr' : IRep m k L u := hr
      obtain ⟨ad, cap, rfl, h1, h2⟩ := hr
      obtain ⟨b1, b2, _⟩ := bnd_spec (P := P) hp
      refine ⟨_, slc hu hs hp h1, ?_⟩
      show IRep m k (cutL L lo hi) _
      rw [cutL_eq]
      exact hr'.sub b1 b2
    · cases h
  · rename_i e' Ls hu
    split at h
    · rename_i hs
      simp only [Option.some.injEq, Prod.mk.injEq] at h; obtain ⟨rfl, rfl⟩ := h
      have hr' : BRepS m Ls u := hr
      obtain ⟨ad, cap, rfl, h1, h2⟩ := hr
      obtain ⟨b1, b2, _⟩ := bnd_spec (P := P) hp
      refine ⟨_, slc hu hs hp h1, ?_⟩
      show BRepS m (cutL Ls lo hi) _
      rw [cutL_eq]
      exact hr'.sub b1 b2
    · cases h
  · rename_i e' sz n c hu
    split at h
    · rename_i s hs
      split at h
      · rename_i hb
        obtain rfl := Nat.eq_of_beq_eq_true hb
        simp only [Option.some.injEq, Prod.mk.injEq] at h; obtain ⟨rfl, rfl⟩ := h
        obtain ⟨ad, cap, rfl, h1, h2⟩ := hr
        obtain ⟨b1, b2, _⟩ := bnd_spec (P := P) hp
        refine ⟨_, slc hu hs hp h1, ?_⟩
        rw [← lenN_eq]
        refine ⟨_, _, rfl, by rw [lenN_eq]; omega, fun hn => ?_⟩
        rw [lenN_eq] at hn
        obtain ⟨b, off, cells, rfl, h3, h5, h4⟩ := h2 (by omega)
        refine ⟨b, off + loN lo * s, cells, ?_, h3, ?_, fun i hi' => ?_⟩
        · rw [if_neg (by omega)]; simp [Addr.add_mid]
        · have hm : (loN lo + (hiN n hi - loN lo)) * s ≤ n * s := Nat.mul_le_mul_right _ (by omega)
          rw [Nat.add_mul] at hm
          rw [lenN_eq]; omega
        · rw [cutF_eq, Nat.add_assoc, ← Nat.add_mul]
          rw [lenN_eq] at hi'
          exact h4 _ (by omega)
      · cases h
    · cases h
  · rename_i e' k off n i len hu
    split at h
    · rename_i hs
      simp only [Option.some.injEq, Prod.mk.injEq] at h; obtain ⟨rfl, rfl⟩ := h
      obtain ⟨rfl, hle⟩ := hr
      obtain ⟨hp1, hp2⟩ := allP_app hp
      have hin := inOk_spec hp2
      obtain ⟨b1, b2, _⟩ := bnd_spec (P := P) hp1
      refine ⟨_, slc hu hs hp1 (by omega), ?_, ?_⟩
      · rw [lenN_eq, startN_eq]
        have e1 : n - i - loN lo = n - (i + loN lo) := by omega
        rw [e1]
        by_cases hc : n - i = loN lo
        · have h0 : loN lo = 0 := by omega
          rw [if_pos hc, h0]; simp
        · rw [if_neg hc]; simp [Addr.add_mid, Nat.add_assoc]
      · rw [lenN_eq, startN_eq]; omega
    · cases h
  · rename_i n e' k off hu
    split at h
    · rename_i hs
      simp only [Option.some.injEq, Prod.mk.injEq] at h; obtain ⟨rfl, rfl⟩ := h
      obtain rfl : u = _ := hr
      obtain ⟨hp1, hp2⟩ := allP_app hp
      have hin := inOk_spec hp2
      obtain ⟨b1, b2, _⟩ := bnd_spec (P := P) hp1
      refine ⟨_, arr hu hs hp1, ?_, ?_⟩
      · rw [lenN_eq, startN_eq, Nat.zero_add]
        by_cases hc : n = loN lo
        · have h0 : loN lo = 0 := by omega
          rw [if_pos hc, h0]; simp
        · rw [if_neg hc]; simp [Addr.add_mid]
      · rw [lenN_eq, startN_eq]; omega
    · cases h
  · rename_i n e' k m' xs r hu
    split at h
    · rename_i hs hb
      obtain rfl := Nat.eq_of_beq_eq_true hb
      simp only [Option.some.injEq, Prod.mk.injEq] at h; obtain ⟨rfl, rfl⟩ := h
      obtain ⟨b, off, cells, rfl, h1, q, h2, h3, h4⟩ := hr
      obtain ⟨b1, b2, _⟩ := bnd_spec (P := P) hp
      refine ⟨_, arr hu hs hp, ?_⟩
      have hI : IRep m k xs (.slice (some ⟨b, off, none⟩) xs.length m') := ⟨_, _, rfl, by omega, fun hn => ⟨b, off, cells, rfl, h1, fun i x hx => by
        have h5 := congrArg (·[i]?) h2
        have hlt : i < xs.length := by
          rcases Nat.lt_or_ge i xs.length with h | h
          · exact h
          · rw [List.getElem?_eq_none h] at hx; cases hx
        simp only [List.getElem?_take, List.getElem?_drop, szD] at h5
        rw [if_pos (by omega), List.getElem?_append_left (by simpa using hlt), List.getElem?_map, hx] at h5
        simpa using h5⟩⟩
      show IRep m k (cutL xs lo hi) _
      rw [cutL_eq, h3]
      have := hI.sub b1 (by omega)
      by_cases hc : m' = loN lo
      · rw [if_pos hc] at this ⊢; exact this
      · rw [if_neg hc] at this ⊢; exact this
    · cases h
  · cases h
end
end Go.Dx
