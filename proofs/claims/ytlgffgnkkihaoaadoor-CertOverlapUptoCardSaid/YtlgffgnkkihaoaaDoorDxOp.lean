/- Operations that only yield a value, one by one. -/
import Derived.Test.YtlgffgnkkihaoaaDoorDxVal
namespace Go.Dx
open Go.RowKit
set_option linter.unusedVariables false
set_option linter.unusedSimpArgs false
section
variable {P : Program} {C : Ctx} {F : Nat → Prop} {ρ : Nat → Loc} {l : Env} {H : Heap} {a : Act} {w : World} {G : List (Nat × List DC)}

theorem eqV_run {m : Mem} : ∀ {n : Nat} {t : TypeId} {x y : SV} {b : Bool} {u v : Value}, SRep m ρ x u → SRep m ρ y v → eqV P n t x y = some b → ∀ d, n ≤ d → ∀ w, (Op.equalIn d t u v).run P w = .ok b w
  | 0, _, _, _, _, _, _, _, _, h, _, _, _ => by simp [eqV] at h
  | n + 1, t, x, y, b, u, v, hx, hy, h, d, hd, w => by
    obtain ⟨d, rfl⟩ : ∃ m, d = m + 1 := ⟨d - 1, by omega⟩
    simp only [eqV] at h
    split at h
    · rename_i hu
      simp only [Option.some.injEq] at h
      subst h
      rw [show u = _ from hx, show v = _ from hy]
      exact run_equalIn_bool' w d t _ _ hu
    · rename_i hu
      split at h
      · rename_i hk
        obtain rfl := kind_eq _ _ hk
        simp only [Option.some.injEq] at h
        subst h
        rw [show u = _ from hx, show v = _ from hy]
        exact run_equalIn_int w d t _ _ _ _ hu
      · cases h
    · rename_i hu
      simp only [Option.some.injEq] at h
      subst h
      rw [show u = _ from hx, show v = _ from hy]
      exact run_equalIn_string w d t _ _ hu
    · rename_i fs xs ys hu
      split at h
      · rename_i hst
        have hfo : P.fieldsOf t = fs := by simp [Program.fieldsOf, hu]
        obtain ⟨us, rfl, hxs⟩ := hx
        obtain ⟨vs, rfl, hys⟩ := hy
        rw [run_equalIn_struct (P := P) w d t _ _ (by rw [hfo]; exact hu) hst, hfo]
        exact eqF_run (m := m) (fun t x y b u v hx hy h w => eqV_run hx hy h d (by omega) w) hxs hys h w
      · cases h
    · rename_i m' e k mx xs k' my ys hu
      split at h
      · rename_i kk i hue hie
        split at h
        · rename_i hc
          simp only [Bool.and_eq_true] at hc
          obtain ⟨c1, c2, c3, c4, c6⟩ := hc
          have c5 := Nat.le_of_ble_eq_true c4
          obtain rfl := kind_eq _ _ c6
          simp only [Option.some.injEq] at h
          subst h
          obtain ⟨us, rfl, us', h1, l1, h2⟩ := hx
          obtain ⟨vs, rfl, vs', h3, l2, h4⟩ := hy
          obtain rfl : us' = [] := h2
          obtain rfl : vs' = [] := h4
          subst h1; subst h3
          simp only [List.append_nil]
          have e1 := Nat.eq_of_beq_eq_true c1
          have e2 := Nat.eq_of_beq_eq_true c2
          have e3 := Nat.eq_of_beq_eq_true c3
          obtain ⟨d0, rfl⟩ : ∃ m, d = m + 1 := ⟨d - 1, by omega⟩
          have hq : ∀ a b, (Op.equalIn (d0 + 1) e (.int k a) (.int k b)).run P w = .ok (a == b) w := fun a b => run_equalIn_int w d0 e k kk a b hue
          generalize d0 + 1 = D at hq
          have := loop_ints (P := P) hue k w hq xs ys m' 0 (by omega) (by omega)
          simp only [List.drop_zero] at this
          rw [← this]
          rw [Op.equalIn]
          simp only [Sem.run_bind, run_underlying hu, Result.andThen_ok, szT_run hie, e1]
          simp only [Std.Legacy.Range.forIn_eq_forIn_range', Std.Legacy.Range.size, Nat.sub_zero, Nat.add_sub_cancel, Nat.div_one]
          congr 1
          funext r w'
          cases r.fst <;> rfl
        · cases h
      · cases h
    · cases h

/-! the operations -/
def aOf : Option EV → Option AV
  | some (.s (.a x)) => some x
  | _ => none
theorem aOf_some {e : Option EV} {x : AV} (h : aOf e = some x) : e = some (.s (.a x)) := by
  unfold aOf at h
  split at h
  · simp only [Option.some.injEq] at h; subst h; rfl
  · cases h
theorem aOf_rep (h : St C F ρ l H a w) (hG : C.G = G) {x : Operand} {e : AV} (hx : aOf (ev G l x) = some e) : ARep ⟨w, F⟩ ρ e (a.eval x) := h.ev hG (aOf_some hx)
def intOf : Option EV → Option (IntKind × Int)
  | some (.s (.a (.d (.v (.int k x))))) => some (k, x)
  | _ => none
theorem intOf_run (h : St C F ρ l H a w) (hG : C.G = G) {x : Operand} {k : IntKind} {n : Int} (hx : intOf (ev G l x) = some (k, n)) : a.eval x = .int k n := by
  unfold intOf at hx
  split at hx
  · rename_i hv; simp only [Option.some.injEq, Prod.mk.injEq] at hx; obtain ⟨rfl, rfl⟩ := hx; exact h.ev hG hv
  · cases hx
abbrev S1 (x : AV) : EV := .s (.a x)

def nilB : AV → Bool
  | .lp _ _ | .lx _ _ _ _ | .re _ _ _ _ | .d (.pt _) | .d (.v (.pointer (some _))) => true
  | .fn (.func _) _ => true
  | .fb (.func _) _ _ _ => true
  | .d (.v (.func (.func _) _ _)) => true
  | _ => false
theorem nilB_run {o : Oper} {x : Operand} {f : Operand → Value} {y : AV} {m : Mem} (hop : o.op = .nilCheck x) (hb : nilB y = true) (hr : ARep m ρ y (f x)) (w : World) : (execOp f o).run P w = .ok (.value (f x)) w := by
  generalize hu : f x = u at hr
  unfold nilB at hb
  split at hb
  · obtain rfl : u = _ := hr; simp only [execOp, hop, hu]; rfl
  · obtain ⟨rfl, _⟩ := hr; simp only [execOp, hop, hu]; rfl
  · obtain ⟨rfl, _⟩ := hr; simp only [execOp, hop, hu]; rfl
  · obtain ⟨b, off, cells, rfl, _⟩ := hr; simp only [execOp, hop, hu]; rfl
  · obtain rfl : u = _ := hr; simp only [execOp, hop, hu]; rfl
  · obtain rfl : u = _ := hr; simp only [execOp, hop, hu]; rfl
  · obtain ⟨vs, rfl, _⟩ := hr; simp only [execOp, hop, hu]; rfl
  · obtain rfl : u = _ := hr; simp only [execOp, hop, hu]; rfl
  · cases hb
def fieldOf (P : Program) (s : TypeId) (f : Nat) : Option (Nat × TypeId) :=
  match P.underlying s with
  | some (.struct fs) => match fs[f]? with
    | some fl => some (fl.offset, fl.type)
    | none => none
  | _ => none
def fieldA (P : Program) (s : TypeId) (f : Nat) (x : AV) : Res :=
  match fieldOf P s f with
  | some (o, t) => match szT P t with
    | some (_ + 1) => match x with
      | .lp k off => some ([], S1 (.lp k (off + o)))
      | .re k sz i off => some ([], S1 (.re k sz i (off + o)))
      | .d (.pt cs) => match dropD cs o with
        | some r => some ([], S1 (.d (.pt r)))
        | none => none
      | _ => none
    | _ => none
  | none => none
theorem fieldA_run {s : TypeId} {f : Nat} {x : AV} {u : Value} {ps : List Prop} {e : EV} {m : Mem} (h : fieldA P s f x = some (ps, e)) (hr : ARep m ρ x u) (w : World) : ∃ v, (Instr.fieldAt s u f).run P w = .ok v w ∧ ERep m ρ e v := by
  unfold fieldA at h
  split at h
  · rename_i o t hf
    split at h
    · rename_i n hsz
      unfold fieldOf at hf
      split at hf
      · rename_i fs hu
        split at hf
        · rename_i fl hfl
          simp only [Option.some.injEq, Prod.mk.injEq] at hf
          obtain ⟨rfl, rfl⟩ := hf
          have run : ∀ b off, (Instr.fieldAt s (.pointer (some ⟨b, off, none⟩)) f).run P w = .ok (.pointer (some ⟨b, off + fl.offset, none⟩)) w := fun b off => by
            simp only [Instr.fieldAt, Sem.run_bind, run_underlying hu, Result.andThen_ok, hfl, Instr.sureAddr, Sem.run_pure, fieldPlace, szT_run hsz, if_neg (Nat.succ_ne_zero n), Addr.add_mid]
          split at h
          · simp only [Option.some.injEq, Prod.mk.injEq] at h; obtain ⟨rfl, rfl⟩ := h
            rw [show u = _ from hr]
            exact ⟨_, run _ _, rfl⟩
          · simp only [Option.some.injEq, Prod.mk.injEq] at h; obtain ⟨rfl, rfl⟩ := h
            rw [show u = _ from hr.1]
            exact ⟨_, run _ _, by simp [Nat.add_assoc], hr.2⟩
          · rename_i cs
            split at h
            · rename_i r hd
              simp only [Option.some.injEq, Prod.mk.injEq] at h; obtain ⟨rfl, rfl⟩ := h
              obtain ⟨b, off, cells, rfl, h1, h2⟩ := hr
              refine ⟨_, run _ _, b, off + fl.offset, cells, rfl, h1, ?_⟩
              obtain ⟨h3, h4⟩ := dropD_rep h2 hd
              have := szD_drop hd
              rw [this, List.drop_take, List.drop_drop] at h4
              simpa [Nat.add_sub_cancel_left] using h4
            · cases h
          · cases h
        · cases hf
      · cases hf
    · cases h
  · cases h
def fieldV (P : Program) (s : TypeId) (f : Nat) (x : Option EV) : Res :=
  match x, fieldOf P s f with
  | some (.s (.agg cs)), some (o, t) => match ldC P t cs o with
    | some v => some ([], .s v)
    | none => none
  | _, _ => none
theorem fieldV_run {s : TypeId} {f : Nat} {x : EV} {u : Value} {ps : List Prop} {e : EV} {m : Mem} (h : fieldV P s f (some x) = some (ps, e)) (hr : ERep m ρ x u) (w : World) : ∃ v, (Instr.field s u f).run P w = .ok v w ∧ ERep m ρ e v := by
  unfold fieldV at h
  split at h
  · rename_i cs o t hx hf
    simp only [Option.some.injEq] at hx; subst hx
    split at h
    · rename_i v hl
      simp only [Option.some.injEq, Prod.mk.injEq] at h; obtain ⟨rfl, rfl⟩ := h
      unfold fieldOf at hf
      split at hf
      · rename_i fs hu
        split at hf
        · rename_i fl hfl
          simp only [Option.some.injEq, Prod.mk.injEq] at hf
          obtain ⟨rfl, rfl⟩ := hf
          obtain ⟨vs, rfl, hk⟩ := hr
          obtain ⟨y, h1, h2⟩ := ldC_part hl hk w
          refine ⟨y, ?_, h2⟩
          simp only [Instr.field, Sem.run_bind, run_underlying hu, Result.andThen_ok, hfl, asAgg, Sem.run_pure, h1]
        · cases hf
      · cases hf
    · cases h
  · cases h

/-- The address of an element. X: the index. -/
def idxA (P : Program) (t : TypeId) (H : Heap) (x : AV) (X : Int) : Res :=
  match P.underlying t, x with
  | some (.array n e), .lp k off => match szT P e with
    | some 1 => some ([0 ≤ X ∧ X < n], S1 (.lx k off n X.toNat))
    | _ => none
  | some (.array n e), .d (.pt (.ints k m xs :: _)) => match szT P e, Nat.beq m n with
    | some 1, true => some ([0 ≤ X ∧ X < n], S1 (.d (.pt [.one (.v (.int k (xs.getD X.toNat 0)))])))
    | _, _ => none
  | some (.slice e), .ls k off n i len => match szT P e with
    | some 1 => some ([0 ≤ X ∧ X < len], S1 (.lx k off n (i + X.toNat)))
    | some s => match Nat.beq i 0 with
      | true => some ([0 ≤ X ∧ X < len], S1 (.lp k (off + X.toNat * s)))
      | false => none
    | _ => none
  | some (.slice e), .rw k => match szT P e, getH H k with
    | some s, some (.row c _) => match Nat.beq s c.sz with
      | true => some ([0 ≤ X ∧ X < c.len], S1 (.re k s X.toNat 0))
      | false => none
    | _, _ => none
  | some (.slice e), .d (.si k L) => match szT P e with
    | some 1 => some ([0 ≤ X ∧ X < L.length], S1 (.d (.pt [.one (.v (.int k (L.getD X.toNat 0)))])))
    | _ => none
  | some (.slice e), .d (.sb Ls) => match szT P e with
    | some 1 => some ([0 ≤ X ∧ X < Ls.length], S1 (.d (.pt [.one (.si .u8 (Ls.getD X.toNat []))])))
    | _ => none
  | some (.slice e), .d (.sl sz n c) => match szT P e with
    | some s => match Nat.beq s sz with
      | true => some ([0 ≤ X ∧ X < n], S1 (.d (.pt (c X.toNat))))
      | false => none
    | _ => none
  | _, _ => none
theorem getD_of {α : Type} {L : List α} {i : Nat} (h : i < L.length) (d : α) : L[i]? = some (L.getD i d) := by simp [List.getD, List.getElem?_eq_getElem h]
theorem take_sz {m : Mem} {cs : List DC} {vs : List Value} {n : Nat} (h : CRep m cs (vs.take n)) : CRep m cs (vs.take (szD cs)) := by
  have := h.len
  rw [← this]
  have e : vs.take (vs.take n).length = vs.take n := by
    rw [List.length_take]
    rcases Nat.le_total n vs.length with h1 | h1
    · rw [Nat.min_eq_left h1]
    · rw [Nat.min_eq_right h1, List.take_of_length_le (Nat.le_refl _), List.take_of_length_le h1]
  rw [e]; exact h
theorem idxA_run {t : TypeId} {x : AV} {X : Int} {ik : IntKind} {u : Value} {ps : List Prop} {e : EV} (h : idxA P t H x X = some (ps, e)) (hp : allP ps) (hH : HOk w F ρ H) (hr : ARep ⟨w, F⟩ ρ x u) :
    ∃ v, (Instr.indexAt t u (.int ik X)).run P w = .ok v w ∧ ERep ⟨w, F⟩ ρ e v := by
  have arr : ∀ {n e s b off : Nat}, P.underlying t = some (.array n e) → szT P e = some s → 0 ≤ X ∧ X < (n : Int) → (Instr.indexAt t (.pointer (some ⟨b, off, none⟩)) (.int ik X)).run P w = .ok (.pointer (some ⟨b, off + X.toNat * s, none⟩)) w := fun {n e s b off} hu hs hb => by
    simp only [Instr.indexAt, asIntOf, Sem.run_bind, Sem.run_pure, Result.andThen_ok, run_underlying hu, Instr.sureAddr, if_pos hb, szT_run hs, Addr.add_mid]
  have slc : ∀ {e s b off len cap : Nat}, P.underlying t = some (.slice e) → szT P e = some s → 0 ≤ X ∧ X < (len : Int) → (Instr.indexAt t (.slice (some ⟨b, off, none⟩) len cap) (.int ik X)).run P w = .ok (.pointer (some ⟨b, off + X.toNat * s, none⟩)) w := fun {e s b off len cap} hu hs hb => by
    simp only [Instr.indexAt, asIntOf, Sem.run_bind, Sem.run_pure, Result.andThen_ok, run_underlying hu, if_pos hb, szT_run hs, Addr.add_mid]
  unfold idxA at h
  split at h
  · rename_i n e' k off hu
    split at h
    · rename_i hs
      simp only [Option.some.injEq, Prod.mk.injEq] at h; obtain ⟨rfl, rfl⟩ := h
      rw [show u = _ from hr]
      refine ⟨_, arr hu hs hp.1, ?_, by have := hp.1; omega⟩
      simp
    · cases h
  · rename_i n e' k m xs r hu
    split at h
    · rename_i hs hb
      simp only [Option.some.injEq, Prod.mk.injEq] at h; obtain ⟨rfl, rfl⟩ := h
      obtain rfl := Nat.eq_of_beq_eq_true hb
      obtain ⟨b, off, cells, rfl, h1, q, h2, h3, h4⟩ := hr
      refine ⟨_, arr hu hs hp.1, b, _, cells, rfl, h1, ?_⟩
      have hx := hp.1
      have hlt : X.toNat < xs.length := by omega
      have : cells[off + X.toNat]? = some (.int k (xs.getD X.toNat 0)) := by
        have h5 := congrArg (·[X.toNat]?) h2
        simp only [List.getElem?_take, List.getElem?_drop, szD] at h5
        rw [if_pos (by omega), List.getElem?_append_left (by simpa using hlt), List.getElem?_map, getD_of hlt 0] at h5
        simpa using h5
      have h6 : (cells.drop (off + X.toNat * 1)).take 1 = [.int k (xs.getD X.toNat 0)] := by
        rw [Nat.mul_one, List.drop_eq_getElem?_toList_append, this]; rfl
      show CRep _ _ ((cells.drop _).take 1)
      rw [h6]
      exact ⟨_, _, rfl, rfl, rfl, rfl⟩
    · cases h
  · rename_i e' k off n i len hu
    split at h
    · rename_i hs
      simp only [Option.some.injEq, Prod.mk.injEq] at h; obtain ⟨rfl, rfl⟩ := h
      rw [show u = _ from hr.1]
      refine ⟨_, slc hu hs hp.1, ?_, by have := hp.1; have := hr.2; omega⟩
      simp [Nat.add_assoc]
    · rename_i s _ hs
      split at h
      · rename_i hb'
        obtain rfl := Nat.eq_of_beq_eq_true hb'
        simp only [Option.some.injEq, Prod.mk.injEq] at h; obtain ⟨rfl, rfl⟩ := h
        rw [show u = _ from hr.1]
        refine ⟨_, slc hu hs hp.1, ?_⟩
        simp [ERep, SRep, ARep]
      · cases h
    · cases h
  · rename_i e' k hu
    split at h
    · rename_i s c ty hs hg
      split at h
      · rename_i hb'
        have hsz := Nat.eq_of_beq_eq_true hb'
        simp only [Option.some.injEq, Prod.mk.injEq] at h; obtain ⟨rfl, rfl⟩ := h
        obtain ⟨vs, rest, hrow, _, _, _, hn, hc⟩ := hH.hp k _ hg
        have hb := hp.1
        obtain ⟨_, had⟩ := hrow.real (by omega)
        rw [show u = _ from hr, had, ← hn]
        refine ⟨_, slc hu hs hp.1, ?_, by omega⟩
        simp
      · cases h
    · cases h
  · rename_i e' k L hu
    split at h
    · rename_i hs
      simp only [Option.some.injEq, Prod.mk.injEq] at h; obtain ⟨rfl, rfl⟩ := h
      obtain ⟨ad, cap, rfl, h1, h2⟩ := hr
      have hx := hp.1
      have hlt : X.toNat < L.length := by omega
      obtain ⟨b, off, cells, rfl, h3, h4⟩ := h2 (by intro e; subst e; simp at hlt)
      refine ⟨_, slc hu hs hp.1, b, _, cells, rfl, h3, ?_⟩
      have h6 : (cells.drop (off + X.toNat * 1)).take 1 = [.int k (L.getD X.toNat 0)] := by
        rw [Nat.mul_one, List.drop_eq_getElem?_toList_append, h4 _ _ (getD_of hlt 0)]; rfl
      show CRep _ _ ((cells.drop _).take 1)
      rw [h6]
      exact ⟨_, _, rfl, rfl, rfl, rfl⟩
    · cases h
  · rename_i e' Ls hu
    split at h
    · rename_i hs
      simp only [Option.some.injEq, Prod.mk.injEq] at h; obtain ⟨rfl, rfl⟩ := h
      obtain ⟨ad, cap, rfl, h1, h2⟩ := hr
      have hx := hp.1
      have hlt : X.toNat < Ls.length := by omega
      obtain ⟨b, off, cells, rfl, h3, h4⟩ := h2 (by intro e; subst e; simp at hlt)
      refine ⟨_, slc hu hs hp.1, b, _, cells, rfl, h3, ?_⟩
      obtain ⟨y, h5, h6⟩ := h4 _ _ (getD_of hlt [])
      have h7 : (cells.drop (off + X.toNat * 1)).take 1 = [y] := by
        rw [Nat.mul_one, List.drop_eq_getElem?_toList_append, h5]; rfl
      show CRep _ _ ((cells.drop _).take 1)
      rw [h7]
      refine ⟨y, [], rfl, ?_, h6, rfl⟩
      obtain ⟨_, _, rfl, _⟩ := h6; rfl
    · cases h
  · rename_i e' sz n c hu
    split at h
    · rename_i s hs
      split at h
      · rename_i hb
        obtain rfl := Nat.eq_of_beq_eq_true hb
        simp only [Option.some.injEq, Prod.mk.injEq] at h; obtain ⟨rfl, rfl⟩ := h
        obtain ⟨ad, cap, rfl, h1, h2⟩ := hr
        have hx := hp.1
        obtain ⟨b, off, cells, rfl, h3, _, h4⟩ := h2 (by omega)
        exact ⟨_, slc hu hs hp.1, b, _, cells, rfl, h3, take_sz (h4 _ (by omega))⟩
      · cases h
    · cases h
  · cases h
end
end Go.Dx
