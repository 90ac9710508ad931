/- More of the engine: literals of structs and arrays, comparisons of values, a way that parts, a value that is read. -/
import Derived.Test.YtjcghjgennddaaaDoorSxRules
import Derived.Laws.StructEq
import Derived.Deep.LoopGhost
namespace Go.Sx
open Go.RowKit
set_option linter.unusedVariables false
set_option linter.unusedSimpArgs false

section
variable {P : Program} {C : Ctx} {ρ : Nat → Nat} {l : Env} {H : Heap} {a : Act} {w : World} {ops : Array Oper} {Q : Exit → Act → World → Prop} {ks : List Nat}

/-! literals -/

theorem setAll : ∀ (vs : List Value) (n off : Nat) (A M D : List Value), A.length = off + n → M.length = vs.length →
    (vs.zipIdx n).foldl (fun (cs : Array Value) (p : Value × Nat) => cs.setIfInBounds (off + p.2) p.1) (A ++ M ++ D).toArray = (A ++ vs ++ D).toArray
  | [], n, off, A, M, D, hA, hM => by
    have : M = [] := List.eq_nil_of_length_eq_zero (by simpa using hM)
    subst this
    simp
  | v :: vs, n, off, A, [], D, hA, hM => by simp at hM
  | v :: vs, n, off, A, m :: M, D, hA, hM => by
    simp only [List.zipIdx_cons, List.foldl_cons]
    have e : (A ++ (m :: M) ++ D).toArray.setIfInBounds (off + n) v = ((A ++ [v]) ++ M ++ D).toArray := by
      rw [List.setIfInBounds_toArray]
      congr 1
      rw [← hA, List.append_assoc, List.append_assoc, List.set_append_right _ _ (Nat.le_refl _)]
      simp
    rw [e, setAll vs (n + 1) off (A ++ [v]) M D (by simp; omega) (by simpa using hM)]
    simp

def fillC (place : Nat → Option (Nat × Nat)) : List Chunk → List (Nat × SV) → Option (List Chunk)
  | acc, [] => some acc
  | acc, (i, v) :: r => match place i with
    | some (off, size) => match onesOk v.chunks && Nat.beq size (sz v.chunks) with
      | true => match putC acc off v.chunks with
        | some acc' => fillC place acc' r
        | none => none
      | false => none
    | none => none

theorem chunks_ok {v : SV} (h : v.ok) : okCs v.chunks := by
  cases v with
  | a y => intro c hc; simp [SV.chunks] at hc; subst hc; trivial
  | agg cs => exact h

theorem fillC_fill (ρ : Nat → Nat) {place : Nat → Option (Nat × Nat)} : ∀ {parts : List (Nat × SV)} {acc r : List Chunk}, okCs acc → (∀ p ∈ parts, p.2.ok) → fillC place acc parts = some r →
    okCs r ∧ Instr.fill place (flat ρ acc).toArray (parts.map fun p => (p.1, p.2.conc ρ)) = some (flat ρ r).toArray
  | [], acc, r, ha, hp, h => by
    simp only [fillC, Option.some.injEq] at h
    subst h
    exact ⟨ha, rfl⟩
  | (i, v) :: ps, acc, r, ha, hp, h => by
    simp only [fillC] at h
    split at h
    · rename_i off size hpl
      split at h
      · rename_i hc
        rw [Bool.and_eq_true] at hc
        split at h
        · rename_i acc' hput
          have hv : okCs v.chunks := chunks_ok (hp (i, v) (by simp))
          obtain ⟨h1, A, M, D, e1, e2, e3, e4⟩ := putC_flat ρ ha hv hput
          obtain ⟨g1, g2⟩ := fillC_fill ρ h1 (fun p hp' => hp p (by simp [hp'])) h
          refine ⟨g1, ?_⟩
          have hcells := cells_of_chunks ρ hc.1
          have hlen := flat_length ρ hv
          have hsz : size = sz v.chunks := Nat.eq_of_beq_eq_true hc.2
          simp only [List.map_cons, Instr.fill, hpl, hcells, List.size_toArray, hlen]
          rw [if_neg (by rw [e1]; simp; omega)]
          have := setAll (flat ρ v.chunks) 0 off A M D (by omega) (by omega)
          have e5 : (flat ρ v.chunks).toArray.zipIdx.foldl (fun cs (x : Value × Nat) => cs.setIfInBounds (off + x.2) x.1) (flat ρ acc).toArray = (flat ρ acc').toArray := by
            rw [e1, e4, ← Array.foldl_toList]
            simpa using this
          rw [e5]
          exact g2
        · cases h
      · cases h
    · cases h

/-- Where the parts of a literal lie. -/
def placeOf (P : Program) (t : TypeId) (i : Nat) : Option (Nat × Nat) :=
  match P.underlying t with
  | some (.array _ e) => match P.info? e with
    | some ie => some (i * ie.size, ie.size)
    | none => none
  | some (.struct fs) => match fs[i]? with
    | some f => match P.info? f.type with
      | some it => some (f.offset, it.size)
      | none => none
    | none => none
  | _ => none

def fieldsKnown (P : Program) (t : TypeId) : Bool :=
  match P.underlying t with
  | some (.array _ e) => (P.info? e).isSome
  | some (.struct fs) => fs.toList.all fun f => (P.info? f.type).isSome
  | _ => false

theorem places_of {P : Program} : ∀ {fs : List Field}, (fs.all fun f => (P.info? f.type).isSome) = true → ∃ places, fs.mapM (fun f => (P.info? f.type).map fun i => (f.offset, i.size)) = some places ∧
    ∀ i : Nat, places[i]? = match fs[i]? with | some f => (match P.info? f.type with | some it => some (f.offset, it.size) | none => none) | none => none
  | [], _ => ⟨[], rfl, fun i => by simp⟩
  | f :: fs, h => by
    simp only [List.all_cons, Bool.and_eq_true] at h
    obtain ⟨places, h1, h2⟩ := places_of h.2
    obtain ⟨i, hi⟩ := Option.isSome_iff_exists.1 h.1
    refine ⟨(f.offset, i.size) :: places, by simp [List.mapM_cons, hi, h1], fun j => ?_⟩
    cases j with
    | zero => simp [hi]
    | succ j => simpa using h2 j

theorem fill_congr {p q : Nat → Option (Nat × Nat)} (h : ∀ i, p i = q i) : ∀ (parts : List (Nat × Value)) (cells : Array Value), Instr.fill p cells parts = Instr.fill q cells parts := by
  have : p = q := funext h
  subst this
  exact fun _ _ => rfl

theorem run_build_chunks (ρ : Nat → Nat) {t : TypeId} {zc r : List Chunk} {parts : List (Nat × SV)} (hz : (P.info? t).bind (·.zero) = some (SV.conc (fun _ => 0) (.agg zc))) (hzc : okCs zc) (hzf : ∀ ρ, flat ρ zc = flat (fun _ => 0) zc)
    (hk : fieldsKnown P t = true) (hp : ∀ p ∈ parts, p.2.ok) (hf : fillC (placeOf P t) zc parts = some r) (w : World) :
    (Instr.build t (parts.map fun p => (p.1, p.2.conc ρ)).toArray).run P w = .ok (.agg (flat ρ r).toArray) w ∧ okCs r := by
  obtain ⟨h1, h2⟩ := fillC_fill ρ hzc hp hf
  refine ⟨run_build w t _ _ ?_, h1⟩
  cases hi : P.info? t with
  | none => simp [hi] at hz
  | some it =>
    have hz' : it.zero = some (SV.conc (fun _ => 0) (.agg zc)) := by simpa [hi] using hz
    have hzcells : (SV.conc (fun _ => 0) (.agg zc)).cells = (flat ρ zc).toArray := by rw [hzf ρ]; rfl
    unfold fieldsKnown at hk
    cases hu : P.underlying t with
    | none => simp [hu] at hk
    | some d =>
      cases d <;> try (simp [hu] at hk; done)
      case array n e =>
        simp only [hu] at hk
        obtain ⟨ie, hie⟩ := Option.isSome_iff_exists.1 hk
        simp only [Program.built, hi, hu, hz', hie, hzcells]
        rw [fill_congr (q := placeOf P t) (fun i => by simp [placeOf, hu, hie])]
        simpa using h2
      case struct fs =>
        simp only [hu] at hk
        obtain ⟨places, hpl, hpl2⟩ := places_of hk
        simp only [Program.built, hi, hu, hz', hpl, hzcells]
        rw [fill_congr (q := placeOf P t) (fun i => by
          simp only [List.getElem?_toArray, hpl2 i, placeOf, hu]
          simp)]
        simpa using h2

def evp (l : Env) : List (Nat × Operand) → Option (List (Nat × SV))
  | [] => some []
  | (i, x) :: xs => match ev l x, evp l xs with
    | some (.s v), some vs => some ((i, v) :: vs)
    | _, _ => none

theorem evp_conc (h : Sv C ρ l H a w) : ∀ {xs : List (Nat × Operand)} {vs : List (Nat × SV)}, evp l xs = some vs → xs.map (fun p => (p.1, a.eval p.2)) = vs.map (fun p => (p.1, p.2.conc ρ)) ∧ ∀ p ∈ vs, p.2.ok
  | [], vs, hx => by
    simp only [evp, Option.some.injEq] at hx
    subst hx
    exact ⟨rfl, (fun v hv => by cases hv)⟩
  | (i, x) :: xs, vs, hx => by
    simp only [evp] at hx
    split at hx
    · rename_i v vs' hv hvs
      simp only [Option.some.injEq] at hx
      subst hx
      obtain ⟨h1, h2⟩ := evp_conc h hvs
      have := h.ev hv
      refine ⟨by simp only [List.map_cons, h1, this.1, EV.conc], fun u hu => ?_⟩
      cases hu with
      | head => exact this.2
      | tail _ hu => exact h2 u hu
    · cases hx

/-- A literal of a struct or an array. -/
theorem rd_build {o : Oper} {t : TypeId} {parts : Array (Nat × Operand)} {zc : List Chunk} (r : List Chunk) (hop : o.op = .build t parts)
    (hz : (P.info? t).bind (·.zero) = some (SV.conc (fun _ => 0) (.agg zc))) (hzc : okCs zc) (hzf : ∀ ρ, flat ρ zc = flat (fun _ => 0) zc) (hk : fieldsKnown P t = true)
    (hf : (evp l parts.toList).bind (fillC (placeOf P t) zc) = some r) : ∀ ρ a w, Sv C ρ l H a w → (execOp a.eval o).run P w = .ok (.value ((EV.s (.agg r)).conc ρ)) w ∧ (EV.s (.agg r)).ok := by
  intro ρ a w hs
  cases hq : evp l parts.toList with
  | none => simp [hq] at hf
  | some vs =>
    have hf' : fillC (placeOf P t) zc vs = some r := by simpa [hq] using hf
    obtain ⟨e1, e2⟩ := evp_conc hs hq
    obtain ⟨h1, h2⟩ := run_build_chunks (P := P) ρ hz hzc hzf hk e2 hf' w
    refine ⟨?_, h2⟩
    obtain ⟨dst, op, type, pos, after, guard⟩ := o
    simp only at hop
    subst hop
    have ha : (parts.map fun (i, x) => (i, a.eval x)) = (vs.map fun p => (p.1, p.2.conc ρ)).toArray := by
      apply Array.ext'
      simpa using e1
    simp only [execOp, ha, Sem.run_bind, h1, Result.andThen_ok, Sem.run_pure]
    rfl

/-! comparisons -/

def eqF (rec : TypeId → SV → SV → Option Bool) (P : Program) (xs ys : List Chunk) : List Field → Option Bool
  | [] => some true
  | f :: fs => match f.name == "_" with
    | true => eqF rec P xs ys fs
    | false => match ldC P f.type xs f.offset, ldC P f.type ys f.offset with
      | some u, some v => match rec f.type u v, eqF rec P xs ys fs with
        | some b, some c => some (b && c)
        | _, _ => none
      | _, _ => none

/-- Whether two values of a type are the same. -/
def eqV (P : Program) : Nat → TypeId → SV → SV → Option Bool
  | 0, _, _, _ => none
  | d + 1, t, x, y => match P.underlying t, x, y with
    | some .bool, .a (.v (.bool a)), .a (.v (.bool b)) => some (a == b)
    | some (.int _), .a (.v (.int k a)), .a (.v (.int k' b)) => if k = k' then some (a == b) else none
    | some .string, .a (.v (.string a)), .a (.v (.string b)) => some (a.toList == b.toList)
    | some (.struct fs), .agg xs, .agg ys => match P.stoodInHeld t with
      | false => eqF (fun t x y => eqV P d t x y) P xs ys fs.toList
      | true => none
    | some (.array n e), .agg [.ints k m xs], .agg [.ints k' m' ys] => match P.underlying e, P.info? e with
      | some (.int _), some i => match Nat.beq i.size 1 && Nat.beq m n && Nat.beq m' n && Nat.ble 1 d with
        | true => if k = k' then some (xs == ys) else none
        | false => none
      | _, _ => none
    | _, _, _ => none

theorem eqF_run {rec : TypeId → SV → SV → Option Bool} {d : Nat} (hrec : ∀ t x y b, x.ok → y.ok → rec t x y = some b → ∀ w, (Op.equalIn d t (x.conc ρ) (y.conc ρ)).run P w = .ok b w) {xs ys : List Chunk} (hx : okCs xs) (hy : okCs ys) :
    ∀ {fs : List Field} {b : Bool}, eqF rec P xs ys fs = some b → ∀ w, (Op.eqFields d (flat ρ xs).toArray (flat ρ ys).toArray fs).run P w = .ok b w
  | [], b, h, w => by
    simp only [eqF, Option.some.injEq] at h
    subst h
    rfl
  | f :: fs, b, h, w => by
    simp only [eqF] at h
    split at h
    · rename_i hn
      have hn' : ¬ (f.name ≠ "_") := by simpa using hn
      rw [Op.eqFields, if_neg hn']
      exact eqF_run hrec hx hy h w
    · rename_i hn
      have hn' : f.name ≠ "_" := by simpa using hn
      split at h
      · rename_i u v hu hv
        split at h
        · rename_i c e hc he
          simp only [Option.some.injEq] at h
          subst h
          obtain ⟨u1, u2⟩ := part_run (ρ := ρ) hu hx w
          obtain ⟨v1, v2⟩ := part_run (ρ := ρ) hv hy w
          have h2 := hrec f.type u v c u2 v2 hc w
          have h3 := eqF_run hrec hx hy he w
          rw [Op.eqFields, if_pos hn']
          simp only [Sem.run_bind, u1, v1, h2, Result.andThen_ok]
          cases c with
          | true => simpa using h3
          | false => simp
        · cases h
      · cases h

theorem loop_ints {D : Nat} {e : TypeId} {kk : IntKind} (he : P.underlying e = some (.int kk)) (k : IntKind) (w : World) (hq : ∀ a b, (Op.equalIn D e (.int k a) (.int k b)).run P w = .ok (a == b) w) (xs ys : List Int) :
    ∀ (m s : Nat), s + m = xs.length → xs.length = ys.length →
    ((forIn (m := Sem) (List.range' s m) ((none, ()) : Option Bool × Unit) fun i r => do
        let a ← part e (xs.map (Value.int k)).toArray (i * 1)
        let b ← part e (ys.map (Value.int k)).toArray (i * 1)
        let r ← Op.equalIn D e a b
        if (!r) = true then pure (ForInStep.done (some false, ())) else pure (ForInStep.yield (none, ()))) >>= fun r => match r.fst with | none => pure true | some b => pure b).run P w =
      .ok (xs.drop s == ys.drop s) w
  | 0, s, hs, hl => by
    simp only [List.range'_zero, List.forIn_nil, pure_bind, Sem.run_pure]
    rw [List.drop_of_length_le (by omega), List.drop_of_length_le (by omega)]
    rfl
  | m + 1, s, hs, hl => by
    have ih := loop_ints he k w hq xs ys m (s + 1) (by omega) hl
    have hag : (isAgg e).run P w = .ok false w := isAggB_run (by simp [isAggB, he]) w
    have px : ∀ zs : List Int, s < zs.length → (part e (zs.map (Value.int k)).toArray (s * 1)).run P w = .ok (.int k (zs.getD s 0)) w := fun zs hz => by
      simp only [part, Sem.run_bind, hag, Result.andThen_ok, Bool.false_eq_true, if_false, Nat.mul_one, List.getElem?_toArray, List.getElem?_map, List.getElem?_eq_getElem hz, Option.map_some, Sem.run_pure, List.getD, Option.getD_some]
    have hd : ∀ zs : List Int, s < zs.length → zs.drop s = zs.getD s 0 :: zs.drop (s + 1) := fun zs hz => by
      rw [List.drop_eq_getElem_cons hz]; simp [List.getD, List.getElem?_eq_getElem hz]
    rw [hd xs (by omega), hd ys (by omega)]
    simp only [List.range'_succ, List.forIn_cons, bind_assoc, Sem.run_bind, px xs (by omega), px ys (by omega), hq, Result.andThen_ok, Sem.run_ite]
    cases hb : (xs.getD s 0 == ys.getD s 0) with
    | false =>
      simp only [Bool.not_false, if_true, Sem.run_pure, Result.andThen_ok]
      have : (xs.getD s 0 :: xs.drop (s + 1) == ys.getD s 0 :: ys.drop (s + 1)) = false := by
        rw [List.cons_beq_cons, hb]; rfl
      rw [this]
    | true =>
      simp only [Bool.not_true, Bool.false_eq_true, if_false, Sem.run_pure, Result.andThen_ok]
      have : (xs.getD s 0 :: xs.drop (s + 1) == ys.getD s 0 :: ys.drop (s + 1)) = (xs.drop (s + 1) == ys.drop (s + 1)) := by
        rw [List.cons_beq_cons, hb]; rfl
      rw [this, ← ih]
      simp only [Sem.run_bind]

theorem eqV_run : ∀ {n : Nat} {t : TypeId} {x y : SV} {b : Bool}, x.ok → y.ok → eqV P n t x y = some b → ∀ d, n ≤ d → ∀ w, (Op.equalIn d t (x.conc ρ) (y.conc ρ)).run P w = .ok b w
  | 0, _, _, _, _, _, _, h, _, _, _ => by simp [eqV] at h
  | n + 1, t, x, y, b, hx, hy, h, d, hd, w => by
    obtain ⟨d, rfl⟩ : ∃ m, d = m + 1 := ⟨d - 1, by omega⟩
    simp only [eqV] at h
    split at h
    · rename_i hu
      simp only [Option.some.injEq] at h
      subst h
      exact run_equalIn_bool' w d t _ _ hu
    · rename_i hu
      split at h
      · rename_i hk
        subst hk
        simp only [Option.some.injEq] at h
        subst h
        exact run_equalIn_int w d t _ _ _ _ hu
      · cases h
    · rename_i hu
      simp only [Option.some.injEq] at h
      subst h
      exact run_equalIn_string w d t _ _ hu
    · rename_i fs xs ys hu
      split at h
      · rename_i hst
        have hfo : P.fieldsOf t = fs := by simp [Program.fieldsOf, hu]
        simp only [SV.conc]
        rw [run_equalIn_struct (P := P) w d t _ _ (by rw [hfo]; exact hu) hst, hfo]
        exact eqF_run (fun t x y b hx hy h w => eqV_run hx hy h d (by omega) w) hx hy h w
      · cases h
    · rename_i m e k mx xs k' my ys hu
      split at h
      · rename_i kk i hue hie
        split at h
        · rename_i hc
          simp only [Bool.and_eq_true] at hc
          obtain ⟨⟨⟨c1, c2⟩, c3⟩, c4⟩ := hc
          have c5 := Nat.le_of_ble_eq_true c4
          split at h
          · rename_i hk
            subst hk
            simp only [Option.some.injEq] at h
            subst h
            have l1 := hx (.ints k mx xs) (by simp)
            have l2 := hy (.ints k my ys) (by simp)
            simp only [Chunk.ok] at l1 l2
            have e1 := Nat.eq_of_beq_eq_true c1
            have e2 := Nat.eq_of_beq_eq_true c2
            have e3 := Nat.eq_of_beq_eq_true c3
            obtain ⟨d0, rfl⟩ : ∃ m, d = m + 1 := ⟨d - 1, by omega⟩
            have hq : ∀ a b, (Op.equalIn (d0 + 1) e (.int k a) (.int k b)).run P w = .ok (a == b) w := fun a b => run_equalIn_int w d0 e k kk a b hue
            generalize d0 + 1 = D at hq
            have := loop_ints (P := P) hue k w hq xs ys m 0 (by omega) (by omega)
            simp only [List.drop_zero] at this
            rw [← this]
            simp only [SV.conc, flat, List.append_nil]
            rw [Op.equalIn]
            simp only [Sem.run_bind, run_underlying hu, Result.andThen_ok, sizeOf, typeInfo, run_program, hie, Sem.run_pure, e1]
            simp only [Std.Legacy.Range.forIn_eq_forIn_range', Std.Legacy.Range.size, Nat.sub_zero, Nat.add_sub_cancel, Nat.div_one]
            congr 1
            funext r w'
            cases r.fst <;> rfl
          · cases h
        · cases h
      · cases h
    · cases h

/-- '==' or '!=' of two values. -/
theorem rd_eq {o : Oper} {op : BinOp} {t yt : TypeId} {x y : Operand} {cs cs' : List Chunk} {b : Bool} (n : Nat) (r : Bool) (hop : o.op = .binOp op t x y yt)
    (hx : ev l x = some (.s (.agg cs))) (hy : ev l y = some (.s (.agg cs'))) (hm : P.eqGuardType P.depth t = false) (hn : Nat.ble n 10000 = true) (he : eqV P n t (.agg cs) (.agg cs') = some b)
    (hr : (op = .eql ∧ r = b) ∨ (op = .neq ∧ r = !b)) : ∀ ρ a w, Sv C ρ l H a w → (execOp a.eval o).run P w = .ok (.value ((EV.s (.a (.v (.bool r)))).conc ρ)) w ∧ (EV.s (.a (.v (.bool r)))).ok := by
  intro ρ a w hs
  refine ⟨?_, trivial⟩
  obtain ⟨dst, oop, type, pos, after, guard⟩ := o
  simp only at hop
  subst hop
  have hx' := hs.ev hx
  have hy' := hs.ev hy
  have hq := eqV_run (ρ := ρ) (x := .agg cs) (y := .agg cs') hx'.2 hy'.2 he 10000 (Nat.le_of_ble_eq_true hn) w
  have ex : a.eval x = .agg (flat ρ cs).toArray := hx'.1
  have ey : a.eval y = .agg (flat ρ cs').toArray := hy'.1
  simp only [SV.conc] at hq
  rcases hr with ⟨rfl, rfl⟩ | ⟨rfl, rfl⟩
  · simp only [execOp, ex, ey, Sem.run_bind, run_eqGuard_agg (P := P) w .eql t x y _ _ hm, run_eql_struct (P := P) w t, hq, Result.andThen_ok, Sem.run_pure]
    rfl
  · simp only [execOp, ex, ey, Sem.run_bind, run_eqGuard_agg (P := P) w .neq t x y _ _ hm, run_neq_struct (P := P) w t, hq, Result.andThen_ok, Sem.run_pure]
    rfl

/-- A pointer of one's own against nil. -/
theorem rd_nil {o : Oper} {op : BinOp} {t yt e : TypeId} {x y : Operand} {k off : Nat} (hop : o.op = .binOp op t x y yt) (hu : P.underlying t = some (.pointer e))
    (hx : ev l x = some (.s (.a (.lp k off)))) (hy : ev l y = some (.s (.a (.v (.pointer none))))) (r : Bool) (hr : (op = .eql ∧ r = false) ∨ (op = .neq ∧ r = true)) :
    ∀ ρ a w, Sv C ρ l H a w → (execOp a.eval o).run P w = .ok (.value ((EV.s (.a (.v (.bool r)))).conc ρ)) w ∧ (EV.s (.a (.v (.bool r)))).ok := by
  intro ρ a w hs
  refine ⟨?_, trivial⟩
  obtain ⟨dst, oop, type, pos, after, guard⟩ := o
  simp only at hop
  subst hop
  have ex : a.eval x = .pointer (some ⟨ρ k, off, none⟩) := (hs.ev hx).1
  have ey : a.eval y = .pointer none := (hs.ev hy).1
  have hq : (Op.equalIn 10000 t (.pointer (some ⟨ρ k, off, none⟩)) (.pointer none)).run P w = .ok false w := by
    generalize hd : (9999 : Nat) = d
    have : (10000 : Nat) = d + 1 := by omega
    rw [this, Op.equalIn]
    simp only [Sem.run_bind, run_underlying hu, Result.andThen_ok]
    rfl
  rcases hr with ⟨rfl, rfl⟩ | ⟨rfl, rfl⟩
  · have hb : binOp .eql t (.pointer (some ⟨ρ k, off, none⟩)) (.pointer none) = (do pure (.bool (← Op.equalIn 10000 t (.pointer (some ⟨ρ k, off, none⟩)) (.pointer none)))) := rfl
    have hg : (eqGuard .eql t x y (.pointer (some ⟨ρ k, off, none⟩)) (.pointer none)).run P w = .ok () w := rfl
    simp only [execOp, ex, ey, Sem.run_bind, hg, hb, hq, Result.andThen_ok, Sem.run_pure]
    rfl
  · have hb : binOp .neq t (.pointer (some ⟨ρ k, off, none⟩)) (.pointer none) = (do pure (.bool (!(← Op.equalIn 10000 t (.pointer (some ⟨ρ k, off, none⟩)) (.pointer none))))) := rfl
    have hg : (eqGuard .neq t x y (.pointer (some ⟨ρ k, off, none⟩)) (.pointer none)).run P w = .ok () w := rfl
    simp only [execOp, ex, ey, Sem.run_bind, hg, hb, hq, Result.andThen_ok, Sem.run_pure]
    rfl

theorem ot_rd {o : Oper} {e : EV} (hd : dstOk C.N o.dst = true) (hr : ∀ ρ a w, Sv C ρ l H a w → (execOp a.eval o).run P w = .ok (.value (e.conc ρ)) w ∧ e.ok) : OT P Q C o l H (putO l o.dst e) H := by
  intro ρ a w hs K hK
  obtain ⟨h1, h2⟩ := hr ρ a w hs.toSv
  simp only [Oper.wp, h1, Oper.upon]
  exact hK ρ _ w .refl (hs.putO hd h2)

/-! ways that part -/

theorem St.ext (h : St C ρ l H a w) {l' : Env} (he : ∀ t, getE l' t = getE l t) : St C ρ l' H a w :=
  h.weaken (fun t v hv => by rw [← he]; exact hv) (fun _ _ hb => hb)

theorem getE_put_self {t : Nat} {v : EV} (hv : getE l t = some v) (u : Nat) : getE (putE l t v) u = getE l u := by
  by_cases h : t = u
  · subst h; rw [getE_put_same, hv]
  · rw [getE_put_ne l v h]

/-- A slot holds a bool that is not decided: one way for each. -/
theorem wo_bool (t : Nat) {b : Bool} (hb : getE l t = some (.s (.a (.v (.bool b))))) (ht : b = true → WO P ops Q C ks (putE l t (.s (.a (.v (.bool true))))) H) (hf : b = false → WO P ops Q C ks (putE l t (.s (.a (.v (.bool false))))) H) : WO P ops Q C ks l H := by
  intro ρ a w hs
  cases b with
  | true => exact ht rfl ρ a w (hs.ext (getE_put_self hb))
  | false => exact hf rfl ρ a w (hs.ext (getE_put_self hb))

theorem wc_bool {c : Code} (t : Nat) {b : Bool} (hb : getE l t = some (.s (.a (.v (.bool b))))) (ht : b = true → WC P c Q C (putE l t (.s (.a (.v (.bool true))))) H) (hf : b = false → WC P c Q C (putE l t (.s (.a (.v (.bool false))))) H) : WC P c Q C l H := by
  intro ρ a w hs
  cases b with
  | true => exact ht rfl ρ a w (hs.ext (getE_put_self hb))
  | false => exact hf rfl ρ a w (hs.ext (getE_put_self hb))

/-! loops -/

/-- A loop: 'I t' is what is known at a round's head, for some t; 'm' goes down. -/
theorem wc_loop {c : Code} {τ : Type} (J : τ → Prop) (m : τ → Nat) (C' : τ → Ctx) (l' : τ → Env) (H' : τ → Heap) (t0 : τ) (h0 : J t0) (e0 : C' t0 = C) (e1 : l' t0 = l) (e2 : H' t0 = H)
    (round : ∀ t, J t → WC P c (Exit.then (fun a w => ∃ t' ρ, J t' ∧ m t' < m t ∧ St (C' t') ρ (l' t') (H' t') a w) Q) (C' t) (l' t) (H' t)) : WC P (.loop c) Q C l H := by
  subst e0; subst e1; subst e2
  intro ρ a w hs
  refine wp_loop_ghost (fun n a w => ∃ t ρ, J t ∧ m t = n ∧ St (C' t) ρ (l' t) (H' t) a w) (m t0) ⟨t0, ρ, h0, rfl, hs⟩ ?_
  rintro n a w ⟨t, ρ, hj, rfl, hs⟩
  refine Code.wp_mono (fun e a w q => ?_) (round t hj ρ a w hs)
  cases e with
  | normal => obtain ⟨t', ρ', h1, h2, h3⟩ := q; exact ⟨m t', h2, t', ρ', h1, rfl, h3⟩
  | _ => exact q

theorem we_round {τ : Type} {J : τ → Prop} {n : Nat} {m : τ → Nat} {C' : τ → Ctx} {l' : τ → Env} {H' : τ → Heap} (t' : τ) (h1 : J t') (h2 : m t' < n) (e0 : C = C' t') (e1 : ∀ t v, getE (l' t') t = some v → getE l t = some v) (e2 : ∀ k b, getH (H' t') k = some b → getH H k = some b) :
    WE (Exit.then (fun a w => ∃ t' ρ, J t' ∧ m t' < n ∧ St (C' t') ρ (l' t') (H' t') a w) Q) .normal C l H := by
  subst e0
  exact fun ρ a w hs => ⟨t', ρ, h1, h2, hs.weaken e1 e2⟩

/-! regions whose order is drawn -/

def PanicOk (Q : Exit → Act → World → Prop) : Prop := ∀ c a w d v, Q (.panic c) (Act.put a d v) w → Q (.panic c) a w
theorem pk_body {fn : Func} {R : Ending → World → Prop} : PanicOk (bodyPost P fn R) := fun c a w d v h => by
  refine ⟨?_, h.2⟩
  have := h.1
  cases d <;> exact this
theorem pk_then {N : Act → World → Prop} (h : PanicOk Q) : PanicOk (Exit.then N Q) := fun c a w d v => h c a w d v
theorem pk_block {id : Nat} (h : PanicOk Q) : PanicOk (Exit.inBlock id Q) := fun c a w d v => h c a w d v

/-- What stays true all through such a region: the blocks in HS, the snapshot. -/
def SW (C : Ctx) (ρ : Nat → Nat) (HS : Heap) (w : World) : Prop :=
  (∀ k b, getH HS k = some b → w.heap[ρ k]? = some (.cells (flat ρ b.cs).toArray b.ty (0, 0))) ∧ ∀ b, C.X b → b < w.heap.size ∧ w.heap[b]? = C.E.heap[b]?

def subH (HS H : Heap) : Bool :=
  HS.all fun p => match getH H p.1, getH HS p.1 with
    | some _, some _ => true
    | _, _ => false

/-- From every state that is known so, the rest of the region, in whatever order. -/
def WA (P : Program) (ops : Array Oper) (Q : Exit → Act → World → Prop) (C0 : Ctx) (ρ0 : Nat → Nat) (HS : Heap) (C : Ctx) (fuel : Nat) (listed : Array Bool) (l : Env) (H : Heap) : Prop :=
  ∀ ρ a w, CExt C0 C → Agr HS ρ0 ρ → (∀ k b, getH HS k = some b → getH H k = some b) → St C ρ l H a w → wpAnyH P .any ops Q (SW C0 ρ0 HS) fuel listed a w

theorem CExt.refl (C : Ctx) : CExt C C := ⟨rfl, rfl, rfl, fun b hb => ⟨hb, rfl⟩, rfl⟩
theorem CExt.trans {A B D : Ctx} (h : CExt A B) (k : CExt B D) : CExt A D :=
  ⟨k.N.trans h.N, k.w0.trans h.w0, k.S.trans h.S, fun b hb => ⟨(k.X b (h.X b hb).1).1, (k.X b (h.X b hb).1).2.trans (h.X b hb).2⟩, k.r.trans h.r⟩

theorem sw_of {C0 : Ctx} {ρ0 : Nat → Nat} {HS : Heap} (hc : CExt C0 C) (hA : Agr HS ρ0 ρ) (hsub : ∀ k b, getH HS k = some b → getH H k = some b) (hs : St C ρ l H a w) : SW C0 ρ0 HS w := by
  refine ⟨fun k b hb => ?_, fun b hb => ?_⟩
  · have h1 := (hs.hp k b (hsub k b hb)).1
    obtain ⟨e1, e2⟩ := hA k b hb
    rw [e1, e2] at h1
    exact h1
  · obtain ⟨h1, h2⟩ := hc.X b hb
    obtain ⟨h3, h4⟩ := hs.ag b h1
    exact ⟨h3, h4.trans h2⟩

theorem St.drew (h : St C ρ l H a w) : St C ρ l H a { w with drawn := w.drawn + 1 } where
  env := h.env
  hp := h.hp
  ag := h.ag
  defers := h.defers
  size := h.size
  own := h.own
  inj := h.inj
  keep := h.keep.trans ⟨rfl, rfl, rfl, Nat.le_refl _, fun _ _ _ => rfl⟩
  pin := h.pin

theorem wc_draw {id : Nat} {n : Nat} (HS : Heap) (hm : P.follows .mixedOrders = true) (hn : ops.size = n) (hsub : ∀ k b, getH HS k = some b → getH H k = some b)
    (h : ∀ ρ0, WA P ops Q C ρ0 HS C n (Array.replicate n false) l H) : WC P (.region id ops true) Q C l H := by
  subst hn
  exact fun ρ a w hs => wp_region_held hm (h ρ ρ a _ (CExt.refl C) .refl hsub hs.drew)

section
variable {C0 : Ctx} {ρ0 : Nat → Nat} {HS : Heap} {fuel : Nat} {listed : Array Bool}

/-- The side conditions under which number i may be taken first. -/
def takeOk (ops : Array Oper) (listed : Array Bool) (i : Nat) : Bool := Region.noSelect ops && Region.free .any ops listed i && (Region.ready .any ops listed).contains i

theorem wa_take (i : Nat) {o : Oper} {e : EV} (hpk : PanicOk Q) (ho : ops[i]? = some o) (ht : takeOk ops listed i = true) (hg : guardV ops l o = some true) (hd : dstOk C.N o.dst = true)
    (hr : ∀ ρ a w, Sv C0 ρ l HS a w → (execOp a.eval o).run P w = .ok (.value (e.conc ρ)) w ∧ e.ok)
    (h : WA P ops Q C0 ρ0 HS C fuel (listed.setIfInBounds i true) (putO l o.dst e) H) : WA P ops Q C0 ρ0 HS C (fuel + 1) listed l H := by
  intro ρ a w hc hA hsub hs
  simp only [takeOk, Bool.and_eq_true] at ht
  have sv : ∀ w', SW C0 ρ0 HS w' → Sv C0 ρ l HS a w' := fun w' hw' =>
    { env := hs.env
      hp := fun k b hb => by
        obtain ⟨e1, e2⟩ := hA k b hb
        exact ⟨by rw [e1, e2]; exact hw'.1 k b hb, (hs.hp k b (hsub k b hb)).2⟩
      ag := hw'.2 }
  have hS := sw_of hc hA hsub hs
  exact wpAnyH_take ho ht.1.1 ht.1.2 ht.2 (fun c a w => hpk c a w _ _) (.inl ⟨guardV_spec hs.toSv hg, fun w' hw' => (hr ρ a w' (sv w' hw')).1⟩) hS
    (h ρ _ w hc hA hsub (hs.putO hd (hr ρ a w (sv w hS)).2))

theorem wa_skip (i : Nat) {o : Oper} (hpk : PanicOk Q) (ho : ops[i]? = some o) (ht : takeOk ops listed i = true) (hg : guardV ops l o = some false) (hd : dstOk C.N o.dst = true)
    (h : WA P ops Q C0 ρ0 HS C fuel (listed.setIfInBounds i true) (putO l o.dst (.s (.a (.v undef)))) H) : WA P ops Q C0 ρ0 HS C (fuel + 1) listed l H := by
  intro ρ a w hc hA hsub hs
  simp only [takeOk, Bool.and_eq_true] at ht
  exact wpAnyH_take ho ht.1.1 ht.1.2 ht.2 (fun c a w => hpk c a w _ _) (.inr ⟨guardV_spec hs.toSv hg, rfl⟩) (sw_of hc hA hsub hs)
    (h ρ _ w hc hA hsub (hs.putO (e := .s (.a (.v undef))) hd trivial))

/-- A row of simple operations that are taken one behind the other. -/
def takeL (P : Program) (N : Nat) (ops : Array Oper) (HS : Heap) : List Nat → Array Bool → Env → Option (Array Bool × Env)
  | [], listed, l => some (listed, l)
  | i :: is, listed, l => match ops[i]? with
    | none => none
    | some o => match takeOk ops listed i && dstOk N o.dst, guardV ops l o with
      | true, some true => match val1 P l HS o with
        | some e => takeL P N ops HS is (listed.setIfInBounds i true) (putO l o.dst e)
        | none => none
      | true, some false => takeL P N ops HS is (listed.setIfInBounds i true) (putO l o.dst (.s (.a (.v undef))))
      | _, _ => none

theorem wa_takes_all (hpk : PanicOk Q) : ∀ (is : List Nat) {listed : Array Bool} {l : Env} {listed' : Array Bool} {l' : Env}, takeL P C.N ops HS is listed l = some (listed', l') → WA P ops Q C0 ρ0 HS C fuel listed' l' H → WA P ops Q C0 ρ0 HS C (fuel + is.length) listed l H
  | [], listed, l, listed', l', h, hw => by
    simp only [takeL, Option.some.injEq, Prod.mk.injEq] at h
    obtain ⟨rfl, rfl⟩ := h
    exact hw
  | i :: is, listed, l, listed', l', h, hw => by
    simp only [takeL] at h
    split at h
    · cases h
    · rename_i o ho
      split at h
      · rename_i hc hg
        rw [Bool.and_eq_true] at hc
        split at h
        · rename_i e hv
          exact wa_take i hpk ho hc.1 hg hc.2 (fun ρ a w hs => val1_run hs hv) (wa_takes_all hpk is h hw)
        · cases h
      · rename_i hc hg
        rw [Bool.and_eq_true] at hc
        exact wa_skip i hpk ho hc.1 hg hc.2 (wa_takes_all hpk is h hw)
      · cases h

theorem wa_takes (is : List Nat) (ts : List Nat) {f : Nat} {listed' : Array Bool} {l' : Env} (hpk : PanicOk Q) (hf : f = fuel + is.length) (h : (takeL P C.N ops HS is listed l).map (fun x => (x.1, restE x.2 ts)) = some (listed', l')) (hw : WA P ops Q C0 ρ0 HS C fuel listed' l' H) : WA P ops Q C0 ρ0 HS C f listed l H := by
  subst hf
  cases hr : takeL P C.N ops HS is listed l with
  | none => simp [hr] at h
  | some x =>
    obtain ⟨b1, l1⟩ := x
    simp only [hr, Option.map_some, Option.some.injEq, Prod.mk.injEq] at h
    obtain ⟨rfl, rfl⟩ := h
    exact wa_takes_all hpk is hr (fun ρ a w hc hA hsub hs => hw ρ a w hc hA hsub (hs.weaken (fun t v hv => restE_get hv) (fun _ _ hb => hb)))

/-- All have come up. -/
theorem wa_done {f : Nat} (hr : Region.ready .any ops listed = []) (h : WE Q .normal C l H) : WA P ops Q C0 ρ0 HS C f listed l H :=
  fun ρ a w _ _ _ hs => wpAnyH_done hr (h ρ a w hs) f

/-- Whichever comes up now. -/
def WI (P : Program) (ops : Array Oper) (Q : Exit → Act → World → Prop) (C0 : Ctx) (ρ0 : Nat → Nat) (HS : Heap) (C : Ctx) (fuel : Nat) (listed : Array Bool) (l : Env) (H : Heap) (i : Nat) : Prop :=
  ∀ ρ a w, CExt C0 C → Agr HS ρ0 ρ → (∀ k b, getH HS k = some b → getH H k = some b) → St C ρ l H a w → wpOp P ops Q i (fun a' w' => SW C0 ρ0 HS w' ∧ wpAnyH P .any ops Q (SW C0 ρ0 HS) fuel (listed.setIfInBounds i true) a' w') a w

theorem wa_all (rs : List Nat) (hr : Region.ready .any ops listed = rs) (hne : rs.isEmpty = false) (h : ∀ i ∈ rs, WI P ops Q C0 ρ0 HS C fuel listed l H i) : WA P ops Q C0 ρ0 HS C (fuel + 1) listed l H :=
  fun ρ a w hc hA hsub hs => wpAnyH_all hr (fun e => by subst e; cases hne) fun i hi => h i hi ρ a w hc hA hsub hs

theorem wi_op {i : Nat} {o : Oper} {l' : Env} {H' : Heap} (ho : ops[i]? = some o) (hg : guardV ops l o = some true) (ot : OT P Q C o l H l' H') (hsub' : ∀ k b, getH HS k = some b → getH H' k = some b)
    (h : WA P ops Q C0 ρ0 HS C fuel (listed.setIfInBounds i true) l' H') : WI P ops Q C0 ρ0 HS C fuel listed l H i := by
  intro ρ a w hc hA hsub hs
  unfold wpOp
  simp only [ho, guardV_spec hs.toSv hg, if_true]
  refine .inl (ot ρ a w hs _ fun ρ' a' w' hag hs' => ?_)
  have hA' : Agr HS ρ0 ρ' := fun k b hb => by
    obtain ⟨e1, e2⟩ := hA k b hb
    obtain ⟨e3, e4⟩ := hag k b (hsub k b hb)
    exact ⟨e3.trans e1, e4.trans e2⟩
  exact ⟨sw_of hc hA' hsub' hs', h ρ' a' w' hc hA' hsub' hs'⟩

theorem wi_ox {i : Nat} {o : Oper} {τ : Type} {φ : τ → Prop} {C' : τ → Ctx} {l' : τ → Env} {H' : τ → Heap} (ho : ops[i]? = some o) (hg : guardV ops l o = some true) (ot : OX P Q C o l H φ C' l' H') (hsub' : ∀ x k b, getH HS k = some b → getH (H' x) k = some b)
    (h : ∀ x, φ x → CExt C (C' x) → WA P ops Q C0 ρ0 HS (C' x) fuel (listed.setIfInBounds i true) (l' x) (H' x)) : WI P ops Q C0 ρ0 HS C fuel listed l H i := by
  intro ρ a w hc hA hsub hs
  unfold wpOp
  simp only [ho, guardV_spec hs.toSv hg, if_true]
  refine .inl (ot ρ a w hs _ fun x ρ' a' w' hx hcx hag hs' => ?_)
  have hA' : Agr HS ρ0 ρ' := fun k b hb => by
    obtain ⟨e1, e2⟩ := hA k b hb
    obtain ⟨e3, e4⟩ := hag k b (hsub k b hb)
    exact ⟨e3.trans e1, e4.trans e2⟩
  exact ⟨sw_of (hc.trans hcx) hA' (hsub' x) hs', h x hx hcx ρ' a' w' (hc.trans hcx) hA' (hsub' x) hs'⟩

/-- Read as it is: what is known may be written in another order. -/
theorem wa_weaken {f : Nat} {l' : Env} (hl : ∀ t v, getE l' t = some v → getE l t = some v) (h : WA P ops Q C0 ρ0 HS C f listed l' H) : WA P ops Q C0 ρ0 HS C f listed l H :=
  fun ρ a w hc hA hsub hs => h ρ a w hc hA hsub (hs.weaken hl (fun _ _ hb => hb))

theorem wa_bool (t : Nat) {f : Nat} {b : Bool} (hb : getE l t = some (.s (.a (.v (.bool b))))) (ht : b = true → WA P ops Q C0 ρ0 HS C f listed (putE l t (.s (.a (.v (.bool true))))) H)
    (hf : b = false → WA P ops Q C0 ρ0 HS C f listed (putE l t (.s (.a (.v (.bool false))))) H) : WA P ops Q C0 ρ0 HS C f listed l H := by
  intro ρ a w hc hA hsub hs
  cases b with
  | true => exact ht rfl ρ a w hc hA hsub (hs.ext (getE_put_self hb))
  | false => exact hf rfl ρ a w hc hA hsub (hs.ext (getE_put_self hb))
end
end
section
variable {P : Program} {C : Ctx} {l : Env} {H : Heap} {ops : Array Oper} {Q : Exit → Act → World → Prop} {ks : List Nat}
/-- A slot's bool is known after all. -/
theorem wo_is (t : Nat) {b : Bool} (b' : Bool) (hb : getE l t = some (.s (.a (.v (.bool b))))) (h : b = b') (k : WO P ops Q C ks (putE l t (.s (.a (.v (.bool b'))))) H) : WO P ops Q C ks l H := by
  subst h
  exact fun ρ a w hs => k ρ a w (hs.ext (getE_put_self hb))
theorem wc_is {c : Code} (t : Nat) {b : Bool} (b' : Bool) (hb : getE l t = some (.s (.a (.v (.bool b))))) (h : b = b') (k : WC P c Q C (putE l t (.s (.a (.v (.bool b'))))) H) : WC P c Q C l H := by
  subst h
  exact fun ρ a w hs => k ρ a w (hs.ext (getE_put_self hb))
theorem wa_is {C0 : Ctx} {ρ0 : Nat → Nat} {HS : Heap} {f : Nat} {listed : Array Bool} (t : Nat) {b : Bool} (b' : Bool) (hb : getE l t = some (.s (.a (.v (.bool b))))) (h : b = b') (k : WA P ops Q C0 ρ0 HS C f listed (putE l t (.s (.a (.v (.bool b'))))) H) : WA P ops Q C0 ρ0 HS C f listed l H := by
  subst h
  exact fun ρ a w hc hA hsub hs => k ρ a w hc hA hsub (hs.ext (getE_put_self hb))
end

def bAnd (k : IntKind) (x y : Int) : Int := k.wrap (BitVec.ofInt k.bits x &&& BitVec.ofInt k.bits y).toNat
def bOr (k : IntKind) (x y : Int) : Int := k.wrap (BitVec.ofInt k.bits x ||| BitVec.ofInt k.bits y).toNat
def bXor (k : IntKind) (x y : Int) : Int := k.wrap (BitVec.ofInt k.bits x ^^^ BitVec.ofInt k.bits y).toNat
def bAndNot (k : IntKind) (x y : Int) : Int := k.wrap (BitVec.ofInt k.bits x &&& ~~~ BitVec.ofInt k.bits y).toNat

/-! short words -/
abbrev eI (k : IntKind) (x : Int) : EV := .s (.a (.v (.int k x)))
abbrev eB (b : Bool) : EV := .s (.a (.v (.bool b)))
abbrev eV (v : Value) : EV := .s (.a (.v v))
abbrev eL (k off : Nat) : EV := .s (.a (.lp k off))
abbrev eA (cs : List Chunk) : EV := .s (.agg cs)
abbrev eU : EV := .s (.a (.v undef))
abbrev sI (k : IntKind) (x : Int) : SV := .a (.v (.int k x))
abbrev sB (b : Bool) : SV := .a (.v (.bool b))
abbrev sV (v : Value) : SV := .a (.v v)
abbrev sL (k off : Nat) : SV := .a (.lp k off)
abbrev cI (k : IntKind) (x : Int) : Chunk := .one (.v (.int k x))
abbrev cB (b : Bool) : Chunk := .one (.v (.bool b))
abbrev cV (v : Value) : Chunk := .one (.v v)

theorem okc_nil : okCs [] := (fun c hc => by cases hc)
theorem okc_one {a : AV} {r : List Chunk} (t : okCs r) : okCs (.one a :: r) := fun c hc => by
  cases hc with
  | head => trivial
  | tail _ h => exact t c h
theorem okc_vals {vs : List Value} {r : List Chunk} (t : okCs r) : okCs (.vals vs :: r) := fun c hc => by
  cases hc with
  | head => trivial
  | tail _ hc => exact t c hc
theorem okc_ints {k : IntKind} {n : Nat} {xs : List Int} {r : List Chunk} (h : xs.length = n) (t : okCs r) : okCs (.ints k n xs :: r) := fun c hc => by
  cases hc with
  | head => exact h
  | tail _ h => exact t c h
theorem okv_nil : ∀ v ∈ ([] : List SV), v.ok := (fun c hc => by cases hc)
theorem okv_a {x : AV} {r : List SV} (t : ∀ v ∈ r, v.ok) : ∀ v ∈ SV.a x :: r, v.ok := fun c hc => by
  cases hc with
  | head => trivial
  | tail _ h => exact t c h
theorem okv_agg {cs : List Chunk} {r : List SV} (h : okCs cs) (t : ∀ v ∈ r, v.ok) : ∀ v ∈ SV.agg cs :: r, v.ok := fun c hc => by
  cases hc with
  | head => exact h
  | tail _ h => exact t c h
theorem noH {p : Nat → Blk → Prop} : ∀ k b, getH ([] : Heap) k = some b → p k b := fun k b h => by cases h
theorem noH2 {p : Nat → Nat → Blk → Blk → Prop} : ∀ k k' b b', getH ([] : Heap) k = some b → getH ([] : Heap) k' = some b' → p k k' b b' := fun k k' b b' h => by cases h
theorem sub_of {HS H : Heap} (ks : List Nat) (h : restH H ks = HS) : ∀ k b, getH HS k = some b → getH H k = some b := fun k b hb => by
  rw [← h] at hb; exact restH_get hb
theorem sub_ofE {l l' : Env} (ks : List Nat) (h : restE l ks = l') : ∀ k b, getE l' k = some b → getE l k = some b := fun k b hb => by
  rw [← h] at hb; exact restE_get hb
theorem all1 {α : Type} {p : α → Prop} {a : α} (h : p a) : ∀ i ∈ [a], p i := fun i hi => by cases List.mem_singleton.1 hi; exact h
theorem allc {α : Type} {p : α → Prop} {a : α} {r : List α} (h : p a) (t : ∀ i ∈ r, p i) : ∀ i ∈ a :: r, p i := fun i hi => by
  cases hi with
  | head => exact h
  | tail _ h => exact t i h
theorem not_t {b : Bool} (h : (!b) = true) : b = false := by cases b <;> first | rfl | cases h
theorem not_f {b : Bool} (h : (!b) = false) : b = true := by cases b <;> first | rfl | cases h
theorem cut {P : Program} {c : Code} {Q : Exit → Act → World → Prop} {C : Ctx} {l : Env} {H : Heap} (l' : Env) (H' : Heap) (f : WE Q .normal C l' H' → WC P c Q C l H) (k : WE Q .normal C l' H') : WC P c Q C l H := f k
theorem we_rest {Q : Exit → Act → World → Prop} {e : Exit} {C : Ctx} {l l' : Env} {H H' : Heap} (ts hs : List Nat) (h1 : restE l ts = l') (h2 : restH H hs = H') (k : WE Q e C l' H') : WE Q e C l H :=
  fun ρ a w h => k ρ a w (h.weaken (sub_ofE ts h1) (sub_of hs h2))
theorem wc_reg {P : Program} {Q : Exit → Act → World → Prop} {C : Ctx} {l : Env} {H : Heap} {id : Nat} {ops : Array Oper} (ks : List Nat) (hk : List.range ops.size = ks) (h : WO P ops Q C ks l H) : WC P (.region id ops false) Q C l H :=
  wc_region rfl (by rw [hk]; exact h)
/-- The function's own blocks are none at the beginning: 'Keep' is 'Below'. -/
theorem Fin.below {C : Ctx} {ρ : Nat → Nat} {H : Heap} {w : World} (h : Fin C ρ H w) (hS : ∀ i, ¬ C.S i) : Below C.w0.heap.size C.w0 w :=
  ⟨h.keep.os, h.keep.tape, h.keep.output, h.keep.size, fun i hi => h.keep.block i hi (hS i)⟩
theorem noS {ρ : Nat → Nat} (i : Nat) : ¬ ∃ k b, getH ([] : Heap) k = some b ∧ ρ k = i := fun ⟨k, b, h, _⟩ => by cases h
end Go.Sx
