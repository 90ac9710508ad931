/- Comparisons, conversions, lengths; all value operations together. -/
import Derived.Test.YtlgffgnkkihaoaaDoorDxMap
namespace Go.Dx
open Go.RowKit
set_option linter.unusedVariables false
set_option linter.unusedSimpArgs false
section
variable {P : Program} {C : Ctx} {F : Nat → Prop} {ρ : Nat → Loc} {l : Env} {H : Heap} {a : Act} {w : World} {G : List (Nat × List DC)}

/-! numbers in a slice, wherever they lie -/
def CellsI (w : World) (k : IntKind) (L : List Int) (u : Value) : Prop :=
  ∃ a cap, u = .slice a L.length cap ∧ L.length ≤ cap ∧ (L ≠ [] → ∃ b off cells ty fr, a = some ⟨b, off, none⟩ ∧ w.heap[b]? = some (.cells cells ty fr) ∧ ∀ i x, L[i]? = some x → cells[off + i]? = some (.int k x))
theorem IRep.cells {m : Mem} {k : IntKind} {L : List Int} {u : Value} (h : IRep m k L u) : CellsI m.w k L u := by
  obtain ⟨ad, cap, e, h1, h2⟩ := h
  refine ⟨ad, cap, e, h1, fun hn => ?_⟩
  obtain ⟨b, off, cells, e', ⟨_, ty, fr, hw⟩, hc⟩ := h2 hn
  exact ⟨b, off, _, ty, fr, e', hw, fun i x hx => by simpa using hc i x hx⟩
def seesI (H : Heap) (x : AV) : Option (IntKind × List Int) :=
  match x with
  | .d (.si k L) => some (k, L)
  | .rw k => match getH H k with
    | some (.row (.ints kd L) _) => some (kd, L)
    | _ => none
  | .ls k off n i len => match getH H k with
    | some (.cells cs _) => match atI cs off with
      | some (kd, m, xs) => match Nat.beq m n with
        | true => some (kd, (xs.drop i).take len)
        | false => none
      | none => none
    | _ => none
  | _ => none
theorem seesI_spec {x : AV} {u : Value} {k : IntKind} {L : List Int} (h : seesI H x = some (k, L)) (hH : HOk w F ρ H) (hr : ARep ⟨w, F⟩ ρ x u) : CellsI w k L u := by
  unfold seesI at h
  split at h
  · simp only [Option.some.injEq, Prod.mk.injEq] at h; obtain ⟨rfl, rfl⟩ := h
    exact IRep.cells (m := ⟨w, F⟩) hr
  · rename_i k'
    split at h
    · rename_i kd L' ty hg
      simp only [Option.some.injEq, Prod.mk.injEq] at h; obtain ⟨rfl, rfl⟩ := h
      obtain ⟨vs, rest, hrow, ⟨_, _, hv⟩, _, h3, h4, h5⟩ := hH.hp _ _ hg
      obtain rfl : vs = _ := hv
      simp only [Cont.len, Cont.sz, List.length_append, List.length_map] at h3 h4 h5
      rw [show u = _ from hr, ← h4]
      refine ⟨_, _, rfl, h5, fun hn => ?_⟩
      have hpos : 0 < L'.length := List.length_pos_iff.2 hn
      obtain ⟨⟨h1, _⟩, had⟩ := hrow.real (by omega)
      exact ⟨_, 0, _, ty, (0, 0), had, h1, fun i x hx => by
        have hlt : i < L'.length := by
          rcases Nat.lt_or_ge i L'.length with h | h
          · exact h
          · rw [List.getElem?_eq_none h] at hx; cases hx
        simp only [List.getElem?_toArray, Nat.zero_add]
        rw [List.getElem?_append_left (by simpa using hlt), List.getElem?_map, hx]; rfl⟩
    · cases h
  · rename_i k' off n i len
    split at h
    · rename_i cs ty hg
      split at h
      · rename_i kd m xs hat
        split at h
        · rename_i hb
          obtain rfl := Nat.eq_of_beq_eq_true hb
          simp only [Option.some.injEq, Prod.mk.injEq] at h; obtain ⟨rfl, rfl⟩ := h
          obtain ⟨rfl, hle⟩ := hr
          obtain ⟨vs, ⟨h1, _⟩, h2⟩ := hH.hp _ _ hg
          obtain ⟨h3, A, B, rfl, h5, _⟩ := atI_rep h2 hat
          have hl : ((xs.drop i).take len).length = len := by simp; omega
          refine ⟨_, _, by rw [hl], by omega, fun hn => ⟨_, off + i, _, ty, (0, 0), rfl, h1, fun j x hx => ?_⟩⟩
          rw [List.getElem?_take] at hx
          split at hx
          · rw [List.getElem?_drop] at hx
            have hlt : i + j < xs.length := by
              rcases Nat.lt_or_ge (i + j) xs.length with h | h
              · exact h
              · rw [List.getElem?_eq_none h] at hx; cases hx
            simp only [List.getElem?_toArray]
            rw [List.append_assoc, List.getElem?_append_right (by omega), List.getElem?_append_left (by simp; omega), List.getElem?_map, show off + i + j - A.length = i + j by omega, hx]; rfl
          · cases hx
        · cases h
      · cases h
    · cases h
  · cases h
theorem CellsI.str {t t' e : TypeId} {u : Value} {L : List Int} (h : CellsI w .u8 L u) (hu : P.underlying t = some (.slice e)) (he : P.underlying e = some (.int .u8)) (hd : P.underlying t' = some .string) : (convert t t' u).run P w = .ok (.string (strOfNums L)) w := by
  obtain ⟨ad, cap, rfl, h1, h2⟩ := h
  cases L with
  | nil =>
    cases ad with
    | none => exact run_convert_bytes_nil w t e hu he 0 cap t' hd
    | some p =>
      show (convert t t' (.slice (some p) 0 cap)).run P w = _
      obtain ⟨pb, po, ps⟩ := p
      rw [run_convert_bytes_string w t t' e _ 0 cap hu he hd, run_bytesToString w _ 0 cap [] (run_loadCells_list w _ [] (fun j v hj => by simp at hj))]
      rfl
  | cons x L =>
    obtain ⟨b, off, cells, ty, fr, rfl, hg, hc⟩ := h2 (by simp)
    refine run_convert_bytes_arg w t e hu he b off _ cap (x :: L) rfl (fun i hi => ?_) t' hd
    rw [cell_of_row w b (off + i) _ ty fr hg]
    exact hc i _ (getD_of hi 0)

/-! two operands -/
def isNilB (x : AV) : Option Bool :=
  match x with
  | .d (.v (.pointer none)) => some true
  | .d (.v (.pointer (some _))) => some false
  | .lp _ _ | .lx _ _ _ _ | .re _ _ _ _ | .d (.pt _) => some false
  | _ => none
theorem isNilB_spec {m : Mem} {x : AV} {u : Value} {b : Bool} (h : isNilB x = some b) (hr : ARep m ρ x u) : ∃ p, u = .pointer p ∧ b = p.isNone := by
  unfold isNilB at h
  split at h <;> simp only [Option.some.injEq, reduceCtorEq] at h <;> subst h
  · exact ⟨_, hr, rfl⟩
  · exact ⟨_, hr, rfl⟩
  · exact ⟨_, hr, rfl⟩
  · exact ⟨_, hr.1, rfl⟩
  · exact ⟨_, hr.1, rfl⟩
  · obtain ⟨_, _, _, e, _⟩ := hr; exact ⟨_, e, rfl⟩
/-- Whether a slice is nil, where that is known. -/
def isNilSl (x : AV) : Option Bool :=
  match x with
  | .d (.v (.slice none _ _)) => some true
  | .d (.v (.slice (some _) _ _)) => some false
  | .d (.si _ (_ :: _)) => some false
  | .d (.sb (_ :: _)) => some false
  | .d (.sl _ (_ + 1) _) => some false
  | _ => none
theorem isNilSl_spec {m : Mem} {x : AV} {u : Value} {b : Bool} (h : isNilSl x = some b) (hr : ARep m ρ x u) : ∃ p n c, u = .slice p n c ∧ b = p.isNone := by
  unfold isNilSl at h
  split at h <;> simp only [Option.some.injEq, reduceCtorEq] at h <;> subst h
  · exact ⟨_, _, _, hr, rfl⟩
  · exact ⟨_, _, _, hr, rfl⟩
  · obtain ⟨a, cap, e, _, hc⟩ := hr
    obtain ⟨b, off, cells, ha, _⟩ := hc (by simp)
    exact ⟨_, _, _, e, by rw [ha]; rfl⟩
  · obtain ⟨a, cap, e, _, hc⟩ := hr
    obtain ⟨b, off, cells, ha, _⟩ := hc (by simp)
    exact ⟨_, _, _, e, by rw [ha]; rfl⟩
  · obtain ⟨a, cap, e, _, hc⟩ := hr
    obtain ⟨b, off, cells, ha, _⟩ := hc (by simp)
    exact ⟨_, _, _, e, by rw [ha]; rfl⟩
def cmpB (op : BinOp) (b : Bool) : Res :=
  match op with
  | .eql => some ([], eB b)
  | .neq => some ([], eB (!b))
  | _ => none
def binV (P : Program) (op : BinOp) (t : TypeId) (x y : Option EV) : Res :=
  match x, y with
  | some (.s (.a (.d (.v (.int k a))))), some (.s (.a (.d (.v (.int k' b))))) => match isShift op with
    | true => shiftI op k a b
    | false => match kindB k k' with
      | true => bopI op k a b
      | false => none
  | some (.s (.a (.d (.v (.bool a))))), some (.s (.a (.d (.v (.bool b))))) => match P.underlying t with
    | some .bool => cmpB op (a == b)
    | _ => none
  | some (.s (.a (.d (.v (.string a))))), some (.s (.a (.d (.v (.string b))))) => match op with
    | .eql => some ([], eB (a.toList == b.toList))
    | .neq => some ([], eB (!(a.toList == b.toList)))
    | .lss => some ([], eB (Op.bytesLess a.toList b.toList))
    | .leq => some ([], eB (Op.bytesLess a.toList b.toList || a.toList == b.toList))
    | .gtr => some ([], eB (!(Op.bytesLess a.toList b.toList || a.toList == b.toList)))
    | .geq => some ([], eB (!Op.bytesLess a.toList b.toList))
    | _ => none
  | some (.s (.agg xs)), some (.s (.agg ys)) => match P.eqGuardType P.depth t, eqV P 60 t (.agg xs) (.agg ys) with
    | false, some b => cmpB op b
    | _, _ => none
  | some (.s (.a x)), some (.s (.a (.d (.v (.pointer none))))) => match P.underlying t, isNilB x with
    | some (.pointer _), some b => cmpB op b
    | _, _ => none
  | some (.s (.a x)), some (.s (.a (.d (.v (.slice none 0 0))))) => match P.underlying t, isNilSl x with
    | some (.slice _), some b => cmpB op b
    | _, _ => none
  | _, _ => none
theorem cmpB_run {op : BinOp} {b : Bool} {ps : List Prop} {e : EV} {m : Mem} (h : cmpB op b = some (ps, e)) {t : TypeId} {u v : Value} (he : binOp .eql t u v = (do pure (.bool (← Op.equal t u v)))) (hn : binOp .neq t u v = (do pure (.bool (!(← Op.equal t u v)))))
    (hq : (Op.equal t u v).run P w = .ok b w) : ∃ r, (binOp op t u v).run P w = .ok r w ∧ ERep m ρ e r := by
  unfold cmpB at h
  split at h
  · simp only [Option.some.injEq, Prod.mk.injEq] at h; obtain ⟨rfl, rfl⟩ := h
    exact ⟨.bool b, by rw [he]; simp only [Sem.run_bind, hq, Result.andThen_ok, Sem.run_pure], rfl⟩
  · simp only [Option.some.injEq, Prod.mk.injEq] at h; obtain ⟨rfl, rfl⟩ := h
    exact ⟨.bool (!b), by rw [hn]; simp only [Sem.run_bind, hq, Result.andThen_ok, Sem.run_pure], rfl⟩
  · cases h
theorem binV_run {op : BinOp} {t : TypeId} {ox oy : Operand} {x y e : EV} {u v : Value} {ps : List Prop} {m : Mem} (h : binV P op t (some x) (some y) = some (ps, e)) (hp : allP ps) (hx : ERep m ρ x u) (hy : ERep m ρ y v) (w : World) :
    ∃ r, (do eqGuard op t ox oy u v; binOp op t u v).run P w = .ok r w ∧ ERep m ρ e r := by
  have guard : (eqGuard op t ox oy u v).run P w = .ok () w → (∃ r, (binOp op t u v).run P w = .ok r w ∧ ERep m ρ e r) → ∃ r, (do eqGuard op t ox oy u v; binOp op t u v).run P w = .ok r w ∧ ERep m ρ e r := fun h1 ⟨r, h2, h3⟩ =>
    ⟨r, by simp only [Sem.run_bind, h1, Result.andThen_ok, h2], h3⟩
  unfold binV at h
  split at h
  · rename_i k p k' q hx' hy'
    simp only [Option.some.injEq] at hx' hy'; subst hx' hy'
    obtain rfl : u = _ := hx
    obtain rfl : v = _ := hy
    refine guard (by unfold eqGuard; split <;> rfl) ?_
    split at h
    · exact shiftI_run h hp t m w
    · split at h
      · rename_i hk
        have := kind_eq _ _ hk; subst this
        exact bopI_run h hp t m w
      · cases h
  · rename_i p q hx' hy'
    simp only [Option.some.injEq] at hx' hy'; subst hx' hy'
    obtain rfl : u = _ := hx
    obtain rfl : v = _ := hy
    refine guard (by unfold eqGuard; split <;> rfl) ?_
    split at h
    · rename_i hu
      exact cmpB_run h rfl rfl (run_equalIn_bool' w 9999 t _ _ hu)
    · cases h
  · rename_i p q hx' hy'
    simp only [Option.some.injEq] at hx' hy'; subst hx' hy'
    obtain rfl : u = _ := hx
    obtain rfl : v = _ := hy
    refine guard (by unfold eqGuard; split <;> rfl) ?_
    split at h <;> simp only [Option.some.injEq, Prod.mk.injEq, reduceCtorEq] at h <;> obtain ⟨rfl, rfl⟩ := h <;> exact ⟨_, rfl, rfl⟩
  · rename_i xs ys hx' hy'
    simp only [Option.some.injEq] at hx' hy'; subst hx' hy'
    split at h
    · rename_i b hg hq
      have hq' := eqV_run (m := m) (ρ := ρ) (x := .agg xs) (y := .agg ys) hx hy hq 10000 (by decide) w
      obtain ⟨us, rfl, hxs⟩ := hx
      obtain ⟨vs, rfl, hys⟩ := hy
      exact guard (run_eqGuard_agg (P := P) w op t ox oy _ _ hg) (cmpB_run h rfl rfl hq')
    · cases h
  · rename_i x' hx' hy'
    simp only [Option.some.injEq] at hx' hy'; subst hx' hy'
    obtain rfl : v = _ := hy
    split at h
    · rename_i et b hu hb
      obtain ⟨p, rfl, rfl⟩ := isNilB_spec hb hx
      refine guard (by unfold eqGuard; split <;> rfl) (cmpB_run h (by cases p <;> rfl) (by cases p <;> rfl) ?_)
      show (Op.equalIn 10000 t _ _).run P w = _
      generalize hd : (9999 : Nat) = d
      rw [show (10000 : Nat) = d + 1 by omega, Op.equalIn]
      simp only [Sem.run_bind, run_underlying hu, Result.andThen_ok]
      cases p <;> rfl
    · cases h
  · rename_i x' hx' hy'
    simp only [Option.some.injEq] at hx' hy'; subst hx' hy'
    obtain rfl : v = _ := hy
    split at h
    · rename_i et b hu hb
      obtain ⟨p, n, c, rfl, rfl⟩ := isNilSl_spec hb hx
      refine guard (by unfold eqGuard; split <;> rfl) (cmpB_run h (by cases p <;> rfl) (by cases p <;> rfl) ?_)
      show (Op.equalIn 10000 t _ _).run P w = _
      generalize hd : (9999 : Nat) = d
      rw [show (10000 : Nat) = d + 1 by omega, Op.equalIn]
      simp only [Sem.run_bind, run_underlying hu, Result.andThen_ok]
      cases p <;> rfl
    · cases h
  · cases h

/-! the rest, and all together -/
def lenV (P : Program) (t : TypeId) (H : Heap) (x : Option EV) : Res :=
  match P.underlying t, x with
  | some (.array n _), _ => some ([], eI .i64 (n : Nat))
  | some .string, some (.s (.a (.d (.v (.string s))))) => some ([], eI .i64 (s.size : Nat))
  | some (.slice _), some (.s (.a y)) => match y with
    | .d (.si _ L) => some ([], eI .i64 (L.length : Nat))
    | .d (.sb Ls) => some ([], eI .i64 (Ls.length : Nat))
    | .d (.sl _ n _) => some ([], eI .i64 (n : Nat))
    | .ls _ _ _ _ len => some ([], eI .i64 (len : Nat))
    | .d (.v (.slice _ n _)) => some ([], eI .i64 (n : Nat))
    | .rw k => match getH H k with
      | some (.row c _) => some ([], eI .i64 (c.len : Nat))
      | _ => none
    | _ => none
  | _, _ => none
theorem lenV_run {t : TypeId} {x : EV} {u : Value} {ps : List Prop} {e : EV} (h : lenV P t H (some x) = some (ps, e)) (hH : HOk w F ρ H) (hx : ERep ⟨w, F⟩ ρ x u) (ty : TypeId) : ∃ r, (Builtin.len_ #[t] ty #[u]).run P w = .ok r w ∧ ERep ⟨w, F⟩ ρ e r := by
  have slc : ∀ {e' ad n cap}, P.underlying t = some (.slice e') → (Builtin.len_ #[t] ty #[.slice ad n cap]).run P w = .ok (.int .i64 (n : Nat)) w := fun {e' ad n cap} hu => by
    simp [Builtin.len_, run_underlying hu, goInt]
  unfold lenV at h
  split at h
  · rename_i n _ hu
    simp only [Option.some.injEq, Prod.mk.injEq] at h; obtain ⟨rfl, rfl⟩ := h
    exact ⟨.int .i64 (n : Nat), by simp [Builtin.len_, run_underlying hu, goInt], rfl⟩
  · rename_i s hu hx'
    simp only [Option.some.injEq] at hx'; subst hx'
    obtain rfl : u = _ := hx
    simp only [Option.some.injEq, Prod.mk.injEq] at h; obtain ⟨rfl, rfl⟩ := h
    exact ⟨.int .i64 (s.size : Nat), by simp [Builtin.len_, run_underlying hu, goInt], rfl⟩
  · rename_i y hu hx'
    simp only [Option.some.injEq] at hx'; subst hx'
    split at h
    · simp only [Option.some.injEq, Prod.mk.injEq] at h; obtain ⟨rfl, rfl⟩ := h
      obtain ⟨_, _, rfl, _⟩ := hx; exact ⟨_, slc hu, rfl⟩
    · simp only [Option.some.injEq, Prod.mk.injEq] at h; obtain ⟨rfl, rfl⟩ := h
      obtain ⟨_, _, rfl, _⟩ := hx; exact ⟨_, slc hu, rfl⟩
    · simp only [Option.some.injEq, Prod.mk.injEq] at h; obtain ⟨rfl, rfl⟩ := h
      obtain ⟨_, _, rfl, _⟩ := hx; exact ⟨_, slc hu, rfl⟩
    · simp only [Option.some.injEq, Prod.mk.injEq] at h; obtain ⟨rfl, rfl⟩ := h
      obtain ⟨rfl, _⟩ := hx; exact ⟨_, slc hu, rfl⟩
    · simp only [Option.some.injEq, Prod.mk.injEq] at h; obtain ⟨rfl, rfl⟩ := h
      obtain rfl : u = _ := hx; exact ⟨_, slc hu, rfl⟩
    · rename_i k
      obtain rfl : u = _ := hx
      split at h
      · rename_i c ty' hg
        simp only [Option.some.injEq, Prod.mk.injEq] at h; obtain ⟨rfl, rfl⟩ := h
        obtain ⟨vs, rest, _, _, _, _, hn, _⟩ := hH.hp k _ hg
        rw [hn]; exact ⟨_, slc hu, rfl⟩
      · cases h
    · cases h
  · cases h
def maxV (mx : Bool) : List (Option EV) → Res
  | [some (.s (.a (.d (.v (.int k x))))), some (.s (.a (.d (.v (.int _ y)))))] => match mx with
    | true => some ([], eI k (if y > x then y else x))
    | false => some ([], eI k (if y < x then y else x))
  | _ => none
def convV (P : Program) (t t' : TypeId) (H : Heap) (x : Option EV) : Res :=
  match P.underlying t, P.underlying t', x with
  | some _, some (.int k), some (.s (.a (.d (.v (.int _ n))))) => some ([], eI k (k.wrap n))
  | some (.slice e), some .string, some (.s (.a y)) => match P.underlying e, seesI H y with
    | some (.int .u8), some (.u8, L) => some ([], S1 (.d (.v (.string (strOfNums L)))))
    | _, _ => none
  | some .string, some .string, some (.s (.a (.d (.v (.string s))))) => some ([], S1 (.d (.v (.string s))))
  | _, _, _ => none
theorem convV_run {t t' : TypeId} {x : EV} {u : Value} {ps : List Prop} {e : EV} (h : convV P t t' H (some x) = some (ps, e)) (hH : HOk w F ρ H) (hx : ERep ⟨w, F⟩ ρ x u) : ∃ r, (convert t t' u).run P w = .ok r w ∧ ERep ⟨w, F⟩ ρ e r := by
  unfold convV at h
  split at h
  · rename_i d k kk n hu hd hx'
    simp only [Option.some.injEq] at hx'; subst hx'
    obtain rfl : u = _ := hx
    simp only [Option.some.injEq, Prod.mk.injEq] at h; obtain ⟨rfl, rfl⟩ := h
    have hk : P.intKind t' = k := by simp [Program.intKind, hd]
    exact ⟨_, run_convert_int (P := P) (w := w) t t' kk n (by rw [hu]; rfl) (by rw [hk]; exact hd), by rw [hk]; exact rfl⟩
  · rename_i e' y hu hd hx'
    simp only [Option.some.injEq] at hx'; subst hx'
    split at h
    · rename_i L he hs
      simp only [Option.some.injEq, Prod.mk.injEq] at h; obtain ⟨rfl, rfl⟩ := h
      exact ⟨_, (seesI_spec hs hH hx).str hu he hd, rfl⟩
    · cases h
  · rename_i s hu hd hx'
    simp only [Option.some.injEq] at hx'; subst hx'
    obtain rfl : u = _ := hx
    simp only [Option.some.injEq, Prod.mk.injEq] at h; obtain ⟨rfl, rfl⟩ := h
    refine ⟨_, ?_, rfl⟩
    unfold convert
    simp only [Sem.run_bind, run_underlying hu, run_underlying hd, Result.andThen_ok]
    rfl
  · cases h
def unV (op : UnOp) (x : Option EV) : Res :=
  match op, x with
  | .not, some (.s (.a (.d (.v (.bool b))))) => some ([], eB (!b))
  | .neg, some (.s (.a (.d (.v (.int k n))))) => some ([], eI k (k.wrap (0 - n)))
  | .xor, some (.s (.a (.d (.v (.int k n))))) => some ([], eI k (bXor k (if k.signed then -1 else k.max) n))
  | _, _ => none
def arrP (P : Program) (t : TypeId) (x : Option EV) : Res :=
  match P.underlying t, x with
  | some (.array n e), some (.s (.a (.d (.si k L)))) => match szT P e with
    | some 1 => some ([n ≤ L.length, 0 < n], S1 (.d (.pt [.ints k n (L.take n)])))
    | _ => none
  | _, _ => none
theorem arrP_run {t : TypeId} {x : EV} {u : Value} {ps : List Prop} {e : EV} {m : Mem} (h : arrP P t (some x) = some (ps, e)) (hp : allP ps) (hx : ERep m ρ x u) (w : World) : ∃ r, (Instr.arrayAt t u).run P w = .ok r w ∧ ERep m ρ e r := by
  unfold arrP at h
  split at h
  · rename_i n e' k L hu hx'
    simp only [Option.some.injEq] at hx'; subst hx'
    split at h
    · simp only [Option.some.injEq, Prod.mk.injEq] at h; obtain ⟨rfl, rfl⟩ := h
      obtain ⟨ad, cap, rfl, h1, h2⟩ := hx
      obtain ⟨p1, p2, _⟩ := hp
      obtain ⟨b, off, cells, rfl, h3, h4⟩ := h2 (by intro e; subst e; simp at p1; omega)
      refine ⟨.pointer (some ⟨b, off, none⟩), ?_, b, off, cells, rfl, h3, [], ?_, by simp; omega, rfl⟩
      · simp only [Instr.arrayAt, Sem.run_bind, run_underlying hu, Result.andThen_ok]
        rw [if_neg (by omega)]; rfl
      · simp only [szD, Nat.add_zero, List.append_nil]
        apply List.ext_getElem?
        intro i
        rw [List.getElem?_take, List.getElem?_drop, List.getElem?_map, List.getElem?_take]
        by_cases hi : i < n
        · rw [if_pos hi, if_pos hi, h4 i _ (getD_of (by omega) 0), getD_of (by omega) 0]; rfl
        · rw [if_neg hi, if_neg hi]; rfl
    · cases h
  · cases h
/-- A string's bytes. -/
def strL (s : ByteArray) : List Int := s.data.toList.map fun b => (b.toNat : Int)
def idxV (P : Program) (t : TypeId) (x : Option EV) (X : Int) : Res :=
  match P.underlying t, x with
  | some (.array n e), some (.s (.agg [.ints k m xs])) => match szT P e, isAggB P e, Nat.beq m n with
    | some 1, some false, true => some ([0 ≤ X ∧ X < n], eI k (xs.getD X.toNat 0))
    | _, _, _ => none
  | some .string, some (.s (.a (.d (.v (.string s))))) => some ([0 ≤ X ∧ X < (s.size : Nat)], eI .u8 ((strL s).getD X.toNat 0))
  | _, _ => none
theorem strL_at {s : ByteArray} {n : Nat} (h : n < s.size) : ∃ b, s[n]? = some b ∧ (strL s).getD n 0 = (b.toNat : Int) := by
  refine ⟨s[n], getElem?_pos s n h, ?_⟩
  have h' : n < s.data.size := h
  unfold strL
  rw [List.getD_eq_getElem?_getD, List.getElem?_map, Array.getElem?_toList, Array.getElem?_eq_getElem h']
  rfl
theorem idxV_run {t : TypeId} {x : EV} {X : Int} {ik : IntKind} {u : Value} {ps : List Prop} {e : EV} {m : Mem} (h : idxV P t (some x) X = some (ps, e)) (hp : allP ps) (hx : ERep m ρ x u) (w : World) : ∃ r, (Instr.index t u (.int ik X)).run P w = .ok r w ∧ ERep m ρ e r := by
  unfold idxV at h
  split at h
  · rename_i n e' k m' xs hu hx'
    simp only [Option.some.injEq] at hx'; subst hx'
    split at h
    · rename_i hs hag hb
      obtain rfl := Nat.eq_of_beq_eq_true hb
      simp only [Option.some.injEq, Prod.mk.injEq] at h; obtain ⟨rfl, rfl⟩ := h
      obtain ⟨vs, rfl, q, rfl, h2, h3⟩ := hx
      obtain rfl : q = [] := h3
      have hb := hp.1
      refine ⟨_, ?_, rfl⟩
      simp only [Instr.index, asIntOf, Sem.run_bind, Sem.run_pure, Result.andThen_ok, run_underlying hu, if_pos hb, szT_run hs, part, isAggB_run hag, Bool.false_eq_true, if_false, List.append_nil, Nat.mul_one, List.getElem?_toArray]
      rw [List.getElem?_map, getD_of (by omega) 0]; rfl
    · cases h
  · rename_i s hu hx'
    simp only [Option.some.injEq] at hx'; subst hx'
    simp only [Option.some.injEq, Prod.mk.injEq] at h; obtain ⟨rfl, rfl⟩ := h
    obtain rfl : u = .string s := hx
    have hb := hp.1
    obtain ⟨b, h1, h2⟩ := strL_at (s := s) (n := X.toNat) (by omega)
    refine ⟨_, ?_, rfl⟩
    simp only [Instr.index, asIntOf, Sem.run_bind, Sem.run_pure, Result.andThen_ok, run_underlying hu, if_pos hb.1, h1, h2]
  · cases h
def nthL : List SV → Nat → Option SV
  | [], _ => none
  | x :: _, 0 => some x
  | _ :: l, n + 1 => nthL l n
theorem nthL_rep {m : Mem} : ∀ {l : List SV} {n : Nat} {x : SV} {us : List Value}, LRep m ρ l us → nthL l n = some x → ∃ u, us[n]? = some u ∧ SRep m ρ x u
  | x :: l, 0, y, us, hl, h => by
    simp only [nthL, Option.some.injEq] at h; subst h
    obtain ⟨u, r, rfl, h1, _⟩ := hl
    exact ⟨u, rfl, h1⟩
  | x :: l, n + 1, y, us, hl, h => by
    obtain ⟨u, r, rfl, _, h2⟩ := hl
    simpa using nthL_rep h2 (by simpa [nthL] using h)
  | [], _, _, _, _, h => by simp [nthL] at h
def downC : List Chunk → Option (List DC)
  | [] => some []
  | .one (.d x) :: r => match downC r with
    | some s => some (.one x :: s)
    | none => none
  | .ints k n xs :: r => match downC r with
    | some s => some (.ints k n xs :: s)
    | none => none
  | _ => none
theorem downC_rep {m : Mem} : ∀ {cs : List Chunk} {ds : List DC} {vs : List Value}, downC cs = some ds → KRep m ρ cs vs → CRep m ds vs
  | [], ds, vs, h, hk => by simp only [downC, Option.some.injEq] at h; subst h; exact hk
  | .one x :: r, ds, vs, h, hk => by
    cases x <;> simp only [downC, reduceCtorEq] at h
    split at h
    · rename_i s hs
      simp only [Option.some.injEq] at h; subst h
      obtain ⟨v, q, h1, h2, h3, h4⟩ := hk
      exact ⟨v, q, h1, h2, h3, downC_rep hs h4⟩
    · cases h
  | .ints k n xs :: r, ds, vs, h, hk => by
    simp only [downC] at h
    split at h
    · rename_i s hs
      simp only [Option.some.injEq] at h; subst h
      obtain ⟨q, h1, h2, h3⟩ := hk
      exact ⟨q, h1, h2, downC_rep hs h3⟩
    · cases h

def capsOf (G : List (Nat × List DC)) (l : Env) : List Operand → Option (List (Nat × Nat))
  | [] => some []
  | x :: r => match aOf (ev G l x), capsOf G l r with
    | some (.lp k off), some s => some ((k, off) :: s)
    | _, _ => none
theorem capsOf_rep (h : St C F ρ l H a w) (hG : C.G = G) : ∀ {xs : List Operand} {ps : List (Nat × Nat)}, capsOf G l xs = some ps → xs.map a.eval = ps.map fun p => Value.pointer (some ⟨(ρ p.1).b, p.2, none⟩)
  | [], ps, hx => by simp only [capsOf, Option.some.injEq] at hx; subst hx; rfl
  | x :: r, ps, hx => by
    simp only [capsOf] at hx
    split at hx
    · rename_i k off s hk hs
      simp only [Option.some.injEq] at hx; subst hx
      have e1 : a.eval x = _ := aOf_rep h hG hk
      simp only [List.map_cons, e1, capsOf_rep h hG hs]
    · cases hx
def ioOf (G : List (Nat × List DC)) (l : Env) : Option Operand → Option (Option (IntKind × Int))
  | none => some none
  | some x => match intOf (ev G l x) with
    | some p => some (some p)
    | none => none
theorem ioOf_run (h : St C F ρ l H a w) (hG : C.G = G) {x : Option Operand} {p : Option (IntKind × Int)} (hx : ioOf G l x = some p) : x.map a.eval = opnd p := by
  cases x with
  | none => simp only [ioOf, Option.some.injEq] at hx; subst hx; rfl
  | some x =>
    simp only [ioOf] at hx
    split at hx
    · rename_i q hq
      obtain ⟨k, n⟩ := q
      simp only [Option.some.injEq] at hx; subst hx
      simp only [Option.map_some, intOf_run h hG hq, opnd]
    · cases hx
/-- Slices of own rows, told as such. -/
def sliceH (P : Program) (t : TypeId) (H : Heap) (x : AV) (lo hi : Option (IntKind × Int)) : Res :=
  match x with
  | .rw k => match getH H k, P.underlying t with
    | some (.row (.st sz n _) _), some (.slice e) => match szT P e with
      | some s => match Nat.beq s sz with
        | true => some (bndOk n lo hi, S1 (.rs k sz (loN lo) (lenN n lo hi)))
        | false => none
      | none => none
    | _, _ => none
  | x => sliceV P t x lo hi
theorem sliceH_run {t : TypeId} {x : AV} {lo hi : Option (IntKind × Int)} {u : Value} {ps : List Prop} {e : EV} (h : sliceH P t H x lo hi = some (ps, e)) (hp : allP ps) (hH : HOk w F ρ H) (hr : ARep ⟨w, F⟩ ρ x u) :
    ∃ v, (Instr.sliceAt t u (opnd lo) (opnd hi) none).run P w = .ok v w ∧ ERep ⟨w, F⟩ ρ e v := by
  unfold sliceH at h
  split at h
  · rename_i k
    split at h
    · rename_i sz n c ty e' hk hu
      split at h
      · rename_i s hs
        split at h
        · rename_i hb
          have := Nat.eq_of_beq_eq_true hb; subst this
          simp only [Option.some.injEq, Prod.mk.injEq] at h; obtain ⟨rfl, rfl⟩ := h
          obtain ⟨vs, rest, _, _, _, _, hn, hcap⟩ := hH.hp _ _ hk
          have hn : n = (ρ k).n := hn
          have hcap : n ≤ (ρ k).cap := hcap
          obtain rfl : u = _ := hr
          rw [← hn]
          obtain ⟨b1, b2, _⟩ := bnd_spec (P := P) hp
          refine ⟨_, slc_run w hu hs hp hcap, ?_⟩
          show _ = _ ∧ _ ≤ _
          rw [lenN_eq]
          exact ⟨rfl, by omega⟩
        · cases h
      · cases h
    · cases h
  · exact sliceV_run h hp hr w
def vstep (P : Program) (G : List (Nat × List DC)) (l : Env) (H : Heap) (o : Oper) : Res :=
  match o.op with
  | .move x | .assign x => match ev G l x with
    | some e => some ([], e)
    | none => none
  | .nilCheck x => match aOf (ev G l x) with
    | some y => match nilB y with
      | true => some ([], S1 y)
      | false => none
    | none => none
  | .extract x i => match ev G l x with
    | some (.t vs) => oneR (nthL vs i)
    | _ => none
  | .fieldAddr s x f => match aOf (ev G l x) with
    | some y => fieldA P s f y
    | none => none
  | .field s x f => match ev G l x with
    | some y => fieldV P s f (some y)
    | none => none
  | .indexAddr t x ix => match aOf (ev G l x), intOf (ev G l ix) with
    | some y, some (_, X) => idxA P t H y X
    | _, _ => none
  | .index t x ix => match ev G l x, intOf (ev G l ix) with
    | some y, some (_, X) => idxV P t (some y) X
    | _, _ => none
  | .load t x => match aOf (ev G l x) with
    | some y => loadV P t H y
    | none => none
  | .slice t x lo hi none => match aOf (ev G l x), ioOf G l lo, ioOf G l hi with
    | some y, some p, some q => sliceH P t H y p q
    | _, _, _ => none
  | .binOp op t x y _ => match ev G l x, ev G l y with
    | some p, some q => binV P op t (some p) (some q)
    | _, _ => none
  | .unOp op _ x => match ev G l x with
    | some p => unV op (some p)
    | none => none
  | .convert t t' x => match ev G l x with
    | some p => convV P t t' H (some p)
    | none => none
  | .sliceToArrayPointer t x => match ev G l x with
    | some p => arrP P t (some p)
    | none => none
  | .makeFunc (.func f) first caps => match first.toList, capsOf G l caps.toList with
    | [], some ps => some ([], S1 (.fn (.func f) ps))
    | [x], some [] => match ev G l x with
      | some (.s (.agg (.one (.lp k off) :: cs))) => match downC cs with
        | some ds => some ([], S1 (.fb (.func f) k off ds))
        | none => none
      | _ => none
    | _, _ => none
  | .build t parts => match zeroOf P t, evp G l parts.toList, fieldsKnown P t with
    | some zc, some vs, true => match fillC (placeOf P t) zc vs with
      | some r => some ([], .s (.agg r))
      | none => none
    | _, _, _ => none
  | .lookup t x ix c => match aOf (ev G l x), ev G l ix with
    | some p, some (.s y) => lookV P t H p y c
    | _, _ => none
  | .call c => match c.callee, c.args.toList, c.argTypes.toList with
    | .builtin .len, [x], [t] => match ev G l x with
      | some p => lenV P t H (some p)
      | none => none
    | .builtin .max, [x, y], _ => maxV true [ev G l x, ev G l y]
    | .builtin .min, [x, y], _ => maxV false [ev G l x, ev G l y]
    | _, _, _ => none
  | _ => none
theorem vstep_run (h : St C F ρ l H a w) (hG : C.G = G) {o : Oper} {ps : List Prop} {e : EV} (hv : vstep P G l H o = some (ps, e)) (hp : allP ps) : ∃ u, (execOp a.eval o).run P w = .ok (.value u) w ∧ ERep ⟨w, F⟩ ρ e u := by
  have lift : ∀ {s : Sem Value}, (∃ u, s.run P w = .ok u w ∧ ERep ⟨w, F⟩ ρ e u) → ∃ u, (do pure (Next.value (← s)) : Sem Next).run P w = .ok (.value u) w ∧ ERep ⟨w, F⟩ ρ e u := fun ⟨u, h1, h2⟩ => ⟨u, by simp only [Sem.run_bind, h1, Result.andThen_ok, Sem.run_pure], h2⟩
  obtain ⟨dst, op, type, pos, after, guard⟩ := o
  have hv' := hv
  unfold vstep at hv
  split at hv
  case h_1 x hop =>
    simp only at hop; subst hop
    split at hv
    · rename_i e' he
      simp only [Option.some.injEq, Prod.mk.injEq] at hv; obtain ⟨rfl, rfl⟩ := hv
      exact ⟨_, rfl, h.ev hG he⟩
    · cases hv
  case h_2 x hop =>
    simp only at hop; subst hop
    split at hv
    · rename_i e' he
      simp only [Option.some.injEq, Prod.mk.injEq] at hv; obtain ⟨rfl, rfl⟩ := hv
      exact ⟨_, rfl, h.ev hG he⟩
    · cases hv
  case h_3 x hop =>
    split at hv
    · rename_i y hy
      split at hv
      · rename_i hb
        simp only [Option.some.injEq, Prod.mk.injEq] at hv; obtain ⟨rfl, rfl⟩ := hv
        exact ⟨_, nilB_run hop hb (aOf_rep h hG hy) w, aOf_rep h hG hy⟩
      · cases hv
    · cases hv
  case h_4 x i hop =>
    simp only at hop; subst hop
    split at hv
    · rename_i vs hx
      obtain ⟨y, hn, rfl⟩ := oneR_some hv
      obtain ⟨us, hu, hl⟩ := h.ev hG hx
      obtain ⟨u, h1, h2⟩ := nthL_rep hl hn
      refine lift ⟨u, ?_, h2⟩
      simp only [hu, Instr.extract]
      simp [h1]
    · cases hv
  case h_5 s x f hop =>
    simp only at hop; subst hop
    split at hv
    · rename_i y hy
      exact lift (fieldA_run hv (aOf_rep h hG hy) w)
    · cases hv
  case h_6 s x f hop =>
    simp only at hop; subst hop
    split at hv
    · rename_i y hy
      exact lift (fieldV_run hv (h.ev hG hy) w)
    · cases hv
  case h_7 t x ix hop =>
    simp only at hop; subst hop
    split at hv
    · rename_i y k X hy hX
      refine lift ?_
      rw [intOf_run h hG hX]
      exact idxA_run hv hp h.toHOk (aOf_rep h hG hy)
    · cases hv
  case h_8 t x ix hop =>
    simp only at hop; subst hop
    split at hv
    · rename_i y k X hy hX
      refine lift ?_
      rw [intOf_run h hG hX]
      exact idxV_run hv hp (h.ev hG hy) w
    · cases hv
  case h_9 t x hop =>
    simp only at hop; subst hop
    split at hv
    · rename_i y hy
      exact lift (loadV_run hv h.toHOk (aOf_rep h hG hy))
    · cases hv
  case h_10 t x lo hi hop =>
    simp only at hop; subst hop
    split at hv
    · rename_i y p q hy hp' hq
      refine lift ?_
      rw [ioOf_run h hG hp', ioOf_run h hG hq]
      exact sliceH_run hv hp h.toHOk (aOf_rep h hG hy)
    · cases hv
  case h_11 op t x y yt hop =>
    simp only at hop; subst hop
    split at hv
    · rename_i p q hx hy
      exact lift (binV_run hv hp (h.ev hG hx) (h.ev hG hy) w)
    · cases hv
  case h_12 op t x hop =>
    simp only at hop; subst hop
    split at hv
    · rename_i p hx
      refine lift ?_
      have hx' := h.ev hG hx
      unfold unV at hv
      split at hv
      · rename_i b hb
        simp only [Option.some.injEq] at hb; subst hb
        simp only [Option.some.injEq, Prod.mk.injEq] at hv; obtain ⟨rfl, rfl⟩ := hv
        rw [show a.eval x = _ from hx']; exact ⟨_, rfl, rfl⟩
      · rename_i k n hb
        simp only [Option.some.injEq] at hb; subst hb
        simp only [Option.some.injEq, Prod.mk.injEq] at hv; obtain ⟨rfl, rfl⟩ := hv
        rw [show a.eval x = _ from hx']; exact ⟨_, rfl, rfl⟩
      · rename_i k n hb
        simp only [Option.some.injEq] at hb; subst hb
        simp only [Option.some.injEq, Prod.mk.injEq] at hv; obtain ⟨rfl, rfl⟩ := hv
        rw [show a.eval x = _ from hx']; exact ⟨_, rfl, rfl⟩
      · cases hv
    · cases hv
  case h_13 t t' x hop =>
    simp only at hop; subst hop
    split at hv
    · rename_i p hx
      exact lift (convV_run hv h.toHOk (h.ev hG hx))
    · cases hv
  case h_14 t x hop =>
    simp only at hop; subst hop
    split at hv
    · rename_i p hx
      exact lift (arrP_run hv hp (h.ev hG hx) w)
    · cases hv
  case h_15 f first caps hop =>
    simp only at hop; subst hop
    split at hv
    · rename_i ps' hfi hps
      simp only [Option.some.injEq, Prod.mk.injEq] at hv; obtain ⟨rfl, rfl⟩ := hv
      have hf0 : first = #[] := by simpa using hfi
      subst hf0
      have hc := capsOf_rep h hG hps
      have : caps.map a.eval = (ps'.map fun p => Value.pointer (some ⟨(ρ p.1).b, p.2, none⟩)).toArray := by
        apply Array.ext'; simpa using hc
      refine lift ⟨_, ?_, rfl⟩
      simp only [this, show (#[] : Array Operand).map a.eval = #[] from by simp]
      rfl
    · rename_i x hfi hps
      split at hv
      · rename_i k off cs hx
        split at hv
        · rename_i ds hd
          simp only [Option.some.injEq, Prod.mk.injEq] at hv; obtain ⟨rfl, rfl⟩ := hv
          have hf0 : first = #[x] := by cases first; simp_all
          subst hf0
          have hc := capsOf_rep h hG hps
          have hc0 : caps.map a.eval = #[] := by apply Array.ext'; simpa using hc
          obtain ⟨vs, e1, v, r, rfl, e2, e3, e4⟩ := h.ev hG hx
          obtain rfl : v = _ := e3
          refine lift ⟨_, ?_, r, rfl, downC_rep hd e4⟩
          simp only [hc0, show (#[x] : Array Operand).map a.eval = #[a.eval x] from by simp, e1]
          rfl
        · cases hv
      · cases hv
    · cases hv
  case h_16 t parts hop =>
    simp only at hop; subst hop
    split at hv
    · rename_i zc vs hz hvs hk
      split at hv
      · rename_i r hf
        simp only [Option.some.injEq, Prod.mk.injEq] at hv; obtain ⟨rfl, rfl⟩ := hv
        obtain ⟨us, h1, h2⟩ := run_build_chunks (ρ := ρ) hz hk (evp_rep h hG hvs) hf w
        refine lift ⟨_, ?_, us, rfl, h2⟩
        rw [← h1]
        congr 2
        apply Array.ext'
        simp
      · cases hv
    · cases hv
  case h_17 t x ix c hop =>
    simp only at hop; subst hop
    split at hv
    · rename_i p y hx hy
      obtain ⟨r, h1, h2⟩ := lookV_run hv hp h.toHOk (aOf_rep h hG hx) (h.ev hG hy)
      refine lift ⟨r, ?_, h2⟩
      exact h1
    · cases hv
  case h_18 c hop =>
    simp only at hop; subst hop
    obtain ⟨cal, args, argTypes⟩ := c
    simp only at hv
    split at hv
    · rename_i x t ha ht
      obtain rfl : args = #[x] := by cases args; simp_all
      obtain rfl : argTypes = #[t] := by cases argTypes; simp_all
      split at hv
      · rename_i p hx
        obtain ⟨u, h1, h2⟩ := lenV_run hv h.toHOk (h.ev hG hx) type
        refine ⟨u, ?_, h2⟩
        simp [execOp, resolve, invoke, builtin, h1]
      · cases hv
    · rename_i x y ha
      obtain rfl : args = #[x, y] := by cases args; simp_all
      unfold maxV at hv
      split at hv
      · rename_i k p k' q hb
        simp only [List.cons.injEq, and_true] at hb
        simp only [if_true, Option.some.injEq, Prod.mk.injEq] at hv
        obtain ⟨rfl, rfl⟩ := hv
        have e1 : a.eval x = .int k p := h.ev hG hb.1
        have e2 : a.eval y = .int k' q := h.ev hG hb.2
        refine ⟨.int k (if q > p then q else p), ?_, rfl⟩
        simp [execOp, resolve, invoke, builtin, e1, e2, run_max_int2]
      · cases hv
    · rename_i x y ha
      obtain rfl : args = #[x, y] := by cases args; simp_all
      unfold maxV at hv
      split at hv
      · rename_i k p k' q hb
        simp only [List.cons.injEq, and_true] at hb
        simp only [Option.some.injEq, Prod.mk.injEq] at hv
        obtain ⟨rfl, rfl⟩ := hv
        have e1 : a.eval x = .int k p := h.ev hG hb.1
        have e2 : a.eval y = .int k' q := h.ev hG hb.2
        refine ⟨.int k (if q < p then q else p), ?_, rfl⟩
        simp [execOp, resolve, invoke, builtin, e1, e2, run_min_int2]
      · cases hv
    · cases hv
  case h_19 => cases hv
end
end Go.Dx
