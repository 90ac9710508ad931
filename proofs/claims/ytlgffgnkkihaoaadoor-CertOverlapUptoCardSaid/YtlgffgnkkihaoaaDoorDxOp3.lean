/- Literals, conversions, comparisons, and all value operations together. -/
import Derived.Test.YtlgffgnkkihaoaaDoorDxOp2
namespace Go.Dx
open Go.RowKit
set_option linter.unusedVariables false
set_option linter.unusedSimpArgs false
section
variable {P : Program} {C : Ctx} {F : Nat → Prop} {ρ : Nat → Loc} {l : Env} {H : Heap} {a : Act} {w : World} {G : List (Nat × List DC)}

/-! noughts -/
def emptyOf (P : Program) (t : TypeId) : Option D :=
  match P.underlying t with
  | some (.slice e) => match P.underlying e with
    | some (.int k) => some (.si k [])
    | some (.slice e') => match P.underlying e' with
      | some (.int .u8) => some (.sb [])
      | _ => match szT P e with
        | some n => some (.sl n 0 (fun _ => []))
        | none => none
    | some _ => match szT P e with
      | some n => some (.sl n 0 (fun _ => []))
      | none => none
    | none => none
  | _ => none
mutual
def zeroCk (P : Program) : Nat → TypeId → Option (List Chunk)
  | 0, _ => none
  | d + 1, t => match P.underlying t with
    | some .bool => some [.one (.d (.v (.bool false)))]
    | some (.int k) => some [.one (.d (.v (.int k 0)))]
    | some .string => some [.one (.d (.v (.string ⟨#[]⟩)))]
    | some (.pointer _) => some [.one (.d (.v (.pointer none)))]
    | some (.map _ _) => some [.one (.d (.v (.map none)))]
    | some (.func _ _ _) => some [.one (.d (.v .nilFunc))]
    | some (.slice _) => some [.one (.d (.v (.slice none 0 0)))]
    | some (.struct fs) => zeroFs P d fs.toList
    | some (.array n e) => match P.underlying e with
      | some (.int k) => some [.ints k n (List.replicate n 0)]
      | _ => none
    | _ => none
def zeroFs (P : Program) : Nat → List Field → Option (List Chunk)
  | 0, _ => none
  | _ + 1, [] => some []
  | d + 1, f :: fs => match zeroCk P d f.type, zeroFs P d fs with
    | some a, some b => some (appC a b)
    | _, _ => none
end
def repI (k : IntKind) : List Int → List Value → Option (List Value)
  | [], vs => some vs
  | x :: xs, .int k' y :: vs => match kindB k k', decide (x = y) with
    | true, true => repI k xs vs
    | _, _ => none
  | _, _ => none
def rep1 : AV → Value → Bool
  | .d (.v (.bool a)), .bool b => match a, b with
    | true, true | false, false => true
    | _, _ => false
  | .d (.v (.int k x)), .int k' y => kindB k k' && decide (x = y)
  | .d (.v (.string ⟨⟨[]⟩⟩)), .string ⟨⟨[]⟩⟩ => true
  | .d (.v (.pointer none)), .pointer none => true
  | .d (.v (.map none)), .map none => true
  | .d (.v .nilFunc), .nilFunc => true
  | .d (.v (.slice none 0 0)), .slice none 0 0 => true
  | _, _ => false
/-- Chunks against cells that are written out. -/
def repB : List Chunk → List Value → Bool
  | [], [] => true
  | .one a :: cs, v :: vs => rep1 a v && repB cs vs
  | .ints k n xs :: cs, vs => match repI k xs vs, Nat.beq xs.length n with
    | some r, true => repB cs r
    | _, _ => false
  | _, _ => false
theorem repI_spec {k : IntKind} : ∀ {xs : List Int} {vs r : List Value}, repI k xs vs = some r → vs = xs.map (Value.int k) ++ r
  | [], vs, r, h => by simp only [repI, Option.some.injEq] at h; subst h; rfl
  | x :: xs, .int k' y :: vs, r, h => by
    simp only [repI] at h
    split at h
    · rename_i h1 h2
      have := kind_eq _ _ h1
      have h3 := of_decide_eq_true h2
      subst h3; subst this
      rw [repI_spec h]; rfl
    · cases h
  | x :: xs, [], r, h => by simp [repI] at h
theorem rep1_spec {m : Mem} {x : AV} {v : Value} (h : rep1 x v = true) : ARep m ρ x v ∧ v.oneCell' = true := by
  unfold rep1 at h
  split at h
  · split at h <;> first | exact ⟨rfl, rfl⟩ | cases h
  · simp only [Bool.and_eq_true] at h
    have h1 := kind_eq _ _ h.1
    have h2 := of_decide_eq_true h.2
    subst h1; subst h2; exact ⟨rfl, rfl⟩
  · exact ⟨rfl, rfl⟩
  · exact ⟨rfl, rfl⟩
  · exact ⟨rfl, rfl⟩
  · exact ⟨rfl, rfl⟩
  · exact ⟨rfl, rfl⟩
  · cases h
theorem repB_spec {m : Mem} : ∀ {cs : List Chunk} {vs : List Value}, repB cs vs = true → KRep m ρ cs vs
  | [], [], _ => rfl
  | .one a :: cs, v :: vs, h => by
    simp only [repB, Bool.and_eq_true] at h
    obtain ⟨h1, h2⟩ := rep1_spec (m := m) (ρ := ρ) h.1
    exact ⟨v, vs, rfl, h2, h1, repB_spec h.2⟩
  | .ints k n xs :: cs, vs, h => by
    simp only [repB] at h
    split at h
    · rename_i r h1 h2
      exact ⟨r, repI_spec h1, Nat.eq_of_beq_eq_true h2, repB_spec h⟩
    · cases h
  | [], v :: vs, h => by simp [repB] at h
  | .one a :: cs, [], h => by simp [repB] at h
/-- A type's nought, as chunks. -/
def zeroOf (P : Program) (t : TypeId) : Option (List Chunk) :=
  match (P.info? t).bind (·.zero), zeroCk P 60 t with
  | some z, some cs => match repB cs z.cells.toList with
    | true => some cs
    | false => none
  | _, _ => none
theorem zeroOf_spec {t : TypeId} {cs : List Chunk} (h : zeroOf P t = some cs) : ∃ i z, P.info? t = some i ∧ i.zero = some z ∧ ∀ m, KRep m ρ cs z.cells.toList := by
  unfold zeroOf at h
  split at h
  · rename_i z cs' hz hc
    split at h
    · rename_i hb
      simp only [Option.some.injEq] at h; subst h
      cases hi : P.info? t with
      | none => simp [hi] at hz
      | some i => exact ⟨i, z, rfl, by simpa [hi] using hz, fun m => repB_spec hb⟩
    · cases h
  · cases h

/-! values to cells -/
def oneAV : AV → Bool
  | .d (.v x) => x.oneCell'
  | _ => true
theorem oneAV_spec {m : Mem} {x : AV} {u : Value} (h : oneAV x = true) (hr : ARep m ρ x u) : u.oneCell' = true := by
  cases x with
  | d y =>
    cases y with
    | v z => rw [show u = z from hr]; exact h
    | si k L => obtain ⟨_, _, rfl, _⟩ := hr; rfl
    | sb Ls => obtain ⟨_, _, rfl, _⟩ := hr; rfl
    | sl sz n c => obtain ⟨_, _, rfl, _⟩ := hr; rfl
    | pt cs => obtain ⟨_, _, _, rfl, _⟩ := hr; rfl
  | lx k off n i => rw [hr.1]; rfl
  | ls k off n i len => rw [hr.1]; rfl
  | re k sz i off => rw [hr.1]; rfl
  | rs k sz lo len => rw [hr.1]; rfl
  | fb f k off ds => obtain ⟨_, rfl, _⟩ := hr; rfl
  | _ => rw [show u = _ from hr]; rfl
def chunksV : SV → Option (List Chunk)
  | .a x => match oneAV x with
    | true => some [.one x]
    | false => none
  | .agg cs => some cs
theorem chunksV_spec {m : Mem} {x : SV} {u : Value} {cs : List Chunk} (h : chunksV x = some cs) (hr : SRep m ρ x u) : ∃ vs, u.cells = vs.toArray ∧ KRep m ρ cs vs := by
  cases x with
  | a y =>
    simp only [chunksV] at h
    split at h
    · rename_i ho
      simp only [Option.some.injEq] at h; subst h
      have := oneAV_spec ho hr
      refine ⟨[u], ?_, u, [], rfl, this, hr, rfl⟩
      cases u <;> first | rfl | (simp [Value.oneCell'] at this)
    · cases h
  | agg cs' =>
    simp only [chunksV, Option.some.injEq] at h; subst h
    obtain ⟨vs, rfl, hk⟩ := hr
    exact ⟨vs, rfl, hk⟩
/-- One number into a row of numbers. -/
def put1 : List Chunk → Nat → IntKind → Int → Option (List Chunk)
  | .ints k n xs :: r, off, kd, x => match Nat.ble n off with
    | true => match put1 r (off - n) kd x with
      | some s => some (.ints k n xs :: s)
      | none => none
    | false => match kindB k kd with
      | true => some (.ints k n (xs.set off x) :: r)
      | false => none
  | .one a :: r, off + 1, kd, x => match put1 r off kd x with
    | some s => some (.one a :: s)
    | none => none
  | _, _, _, _ => none
theorem put1_rep {m : Mem} : ∀ {cs : List Chunk} {off : Nat} {kd : IntKind} {x : Int} {r : List Chunk} {vs : List Value}, KRep m ρ cs vs → put1 cs off kd x = some r → off < vs.length ∧ KRep m ρ r (vs.set off (.int kd x))
  | .ints k n xs :: s, off, kd, x, r, vs, hk, h => by
    obtain ⟨q, rfl, h2, h3⟩ := hk
    simp only [put1] at h
    cases hb : Nat.ble n off with
    | true =>
      simp only [hb] at h
      have hm : n ≤ off := Nat.le_of_ble_eq_true hb
      cases hp : put1 s (off - n) kd x with
      | none => simp [hp] at h
      | some t =>
        simp only [hp, Option.some.injEq] at h; subst h
        obtain ⟨h5, h6⟩ := put1_rep h3 hp
        refine ⟨by simp; omega, q.set (off - n) (.int kd x), ?_, h2, h6⟩
        rw [List.set_append_right _ _ (by simp; omega)]; simp [h2]
    | false =>
      simp only [hb] at h
      have hm : off < n := by
        rcases Nat.lt_or_ge off n with h' | h'
        · exact h'
        · rw [Nat.ble_eq_true_of_le h'] at hb; cases hb
      split at h
      · rename_i hkd
        have := kind_eq _ _ hkd; subst this
        simp only [Option.some.injEq] at h; subst h
        refine ⟨by simp; omega, q, ?_, by simp [h2], h3⟩
        rw [List.set_append_left _ _ (by simp; omega), List.map_set]
      · cases h
  | .one a :: s, off + 1, kd, x, r, vs, hk, h => by
    obtain ⟨v, q, rfl, h2, h3, h4⟩ := hk
    simp only [put1] at h
    cases hp : put1 s off kd x with
    | none => simp [hp] at h
    | some t =>
      simp only [hp, Option.some.injEq] at h; subst h
      obtain ⟨h5, h6⟩ := put1_rep h4 hp
      exact ⟨by simp; omega, v, q.set off (.int kd x), by simp, h2, h3, h6⟩
  | [], _, _, _, _, _, _, h => by simp [put1] at h
  | .one _ :: _, 0, _, _, _, _, _, h => by simp [put1] at h
def isInt1 : List Chunk → Option (IntKind × Int)
  | [.one (.d (.v (.int k x)))] => some (k, x)
  | _ => none
/-- Chunks written over others. -/
def putV (cs : List Chunk) (off : Nat) (new : List Chunk) : Option (List Chunk) :=
  match putC cs off new with
  | some r => some r
  | none => match isInt1 new with
    | some (k, x) => put1 cs off k x
    | none => none
theorem putV_rep {m : Mem} {cs new r : List Chunk} {off : Nat} {vs us : List Value} (hk : KRep m ρ cs vs) (hn : KRep m ρ new us) (h : putV cs off new = some r) :
    off + us.length ≤ vs.length ∧ KRep m ρ r (vs.take off ++ us ++ vs.drop (off + us.length)) := by
  unfold putV at h
  split at h
  · rename_i r' hp
    simp only [Option.some.injEq] at h; subst h
    exact putC_rep hk hn hp
  · split at h
    · rename_i k x hi
      unfold isInt1 at hi
      split at hi
      · simp only [Option.some.injEq, Prod.mk.injEq] at hi; obtain ⟨rfl, rfl⟩ := hi
        obtain ⟨v, q, rfl, h2, h3, h4⟩ := hn
        obtain rfl : q = [] := h4
        obtain rfl : v = _ := h3
        obtain ⟨h5, h6⟩ := put1_rep hk h
        refine ⟨by simp; omega, ?_⟩
        rw [List.set_eq_take_append_cons_drop, if_pos h5] at h6
        simpa using h6
      · cases hi
    · cases h

/-! literals of structs and arrays -/
theorem setAll : ∀ (vs : List Value) (n off : Nat) (A M D : List Value), A.length = off + n → M.length = vs.length →
    (vs.zipIdx n).foldl (fun (cs : Array Value) (p : Value × Nat) => cs.setIfInBounds (off + p.2) p.1) (A ++ M ++ D).toArray = (A ++ vs ++ D).toArray
  | [], n, off, A, M, D, hA, hM => by
    have : M = [] := List.eq_nil_of_length_eq_zero (by simpa using hM)
    subst this
    simp
  | v :: vs, n, off, A, [], D, hA, hM => by simp at hM
  | v :: vs, n, off, A, m :: M, D, hA, hM => by
    simp only [List.zipIdx_cons, List.foldl_cons]
    have e : (A ++ (m :: M) ++ D).toArray.setIfInBounds (off + n) v = ((A ++ [v]) ++ M ++ D).toArray := by
      rw [List.setIfInBounds_toArray]
      congr 1
      rw [← hA, List.append_assoc, List.append_assoc, List.set_append_right _ _ (Nat.le_refl _)]
      simp
    rw [e, setAll vs (n + 1) off (A ++ [v]) M D (by simp; omega) (by simpa using hM)]
    simp
def fillC (place : Nat → Option (Nat × Nat)) : List Chunk → List (Nat × SV) → Option (List Chunk)
  | acc, [] => some acc
  | acc, (i, v) :: r => match place i, chunksV v with
    | some (off, size), some cs => match Nat.beq size (szC cs) with
      | true => match putV acc off cs with
        | some acc' => fillC place acc' r
        | none => none
      | false => none
    | _, _ => none
/-- The parts of a literal, and what they are. -/
def PRep (m : Mem) (ρ : Nat → Loc) : List (Nat × SV) → List (Nat × Value) → Prop
  | [], us => us = []
  | (i, x) :: r, us => ∃ u q, us = (i, u) :: q ∧ SRep m ρ x u ∧ PRep m ρ r q
theorem fillC_fill {m : Mem} {place : Nat → Option (Nat × Nat)} : ∀ {parts : List (Nat × SV)} {us : List (Nat × Value)} {acc r : List Chunk} {vs : List Value}, KRep m ρ acc vs → PRep m ρ parts us → fillC place acc parts = some r →
    ∃ ws, KRep m ρ r ws ∧ Instr.fill place vs.toArray us = some ws.toArray
  | [], us, acc, r, vs, ha, hp, h => by
    simp only [fillC, Option.some.injEq] at h
    subst h
    obtain rfl : us = [] := hp
    exact ⟨vs, ha, rfl⟩
  | (i, v) :: ps, us, acc, r, vs, ha, hp, h => by
    obtain ⟨u, q, rfl, hv, hq⟩ := hp
    simp only [fillC] at h
    split at h
    · rename_i off size cs hpl hcs
      split at h
      · rename_i hb
        split at h
        · rename_i acc' hput
          obtain ⟨xs, hc, hk⟩ := chunksV_spec hcs hv
          obtain ⟨h1, h2⟩ := putV_rep ha hk hput
          obtain ⟨ws, h3, h4⟩ := fillC_fill h2 hq h
          refine ⟨ws, h3, ?_⟩
          have hsz : size = xs.length := by rw [hk.sz]; exact Nat.eq_of_beq_eq_true hb
          simp only [Instr.fill, hpl, hc, List.size_toArray]
          rw [if_neg (by simp; omega)]
          have hsplit : vs = vs.take off ++ (vs.drop off).take xs.length ++ vs.drop (off + xs.length) := by
            rw [List.append_assoc, ← List.drop_drop, List.take_append_drop, List.take_append_drop]
          have := setAll xs 0 off (vs.take off) ((vs.drop off).take xs.length) (vs.drop (off + xs.length)) (by simp; omega) (by simp; omega)
          rw [← hsplit] at this
          have e5 : xs.toArray.zipIdx.foldl (fun cs (x : Value × Nat) => cs.setIfInBounds (off + x.2) x.1) vs.toArray = (vs.take off ++ xs ++ vs.drop (off + xs.length)).toArray := by
            rw [← Array.foldl_toList]
            simpa using this
          rw [e5]
          exact h4
        · cases h
      · cases h
    · cases h
/-- Where the parts of a literal lie. -/
def placeOf (P : Program) (t : TypeId) (i : Nat) : Option (Nat × Nat) :=
  match P.underlying t with
  | some (.array _ e) => match P.info? e with
    | some ie => some (i * ie.size, ie.size)
    | none => none
  | some (.struct fs) => match fs[i]? with
    | some f => match P.info? f.type with
      | some it => some (f.offset, it.size)
      | none => none
    | none => none
  | _ => none
def fieldsKnown (P : Program) (t : TypeId) : Bool :=
  match P.underlying t with
  | some (.array _ e) => (P.info? e).isSome
  | some (.struct fs) => fs.toList.all fun f => (P.info? f.type).isSome
  | _ => false
theorem places_of {P : Program} : ∀ {fs : List Field}, (fs.all fun f => (P.info? f.type).isSome) = true →
    ∃ places, fs.mapM (fun f => (P.info? f.type).map fun i => (f.offset, i.size)) = some places ∧
      ∀ i : Nat, places[i]? = match fs[i]? with | some f => (match P.info? f.type with | some it => some (f.offset, it.size) | none => none) | none => none
  | [], _ => ⟨[], rfl, fun i => by simp⟩
  | f :: fs, h => by
    simp only [List.all_cons, Bool.and_eq_true] at h
    obtain ⟨it, hit⟩ := Option.isSome_iff_exists.1 h.1
    obtain ⟨places, h1, h2⟩ := places_of h.2
    refine ⟨(f.offset, it.size) :: places, by simp [List.mapM_cons, hit, h1], fun i => ?_⟩
    cases i with
    | zero => simp [hit]
    | succ i => simpa using h2 i
theorem fill_congr {p q : Nat → Option (Nat × Nat)} (h : ∀ i, p i = q i) : ∀ (parts : List (Nat × Value)) (cells : Array Value), Instr.fill p cells parts = Instr.fill q cells parts := by
  have : p = q := funext h
  subst this
  exact fun _ _ => rfl
theorem run_build_chunks {m : Mem} {t : TypeId} {zc r : List Chunk} {parts : List (Nat × SV)} {us : List (Nat × Value)} (hz : zeroOf P t = some zc)
    (hk : fieldsKnown P t = true) (hp : PRep m ρ parts us) (hf : fillC (placeOf P t) zc parts = some r) (w : World) :
    ∃ vs, (Instr.build t us.toArray).run P w = .ok (.agg vs.toArray) w ∧ KRep m ρ r vs := by
  obtain ⟨it, z, hi, hzz, hzr⟩ := zeroOf_spec (ρ := ρ) hz
  obtain ⟨ws, h1, h2⟩ := fillC_fill (hzr m) hp hf
  refine ⟨ws, run_build w t _ _ ?_, h1⟩
  unfold fieldsKnown at hk
  cases hu : P.underlying t with
  | none => simp [hu] at hk
  | some d =>
    cases d <;> try (simp [hu] at hk; done)
    case array n e =>
      simp only [hu] at hk
      obtain ⟨ie, hie⟩ := Option.isSome_iff_exists.1 hk
      simp only [Program.built, hi, hu, hzz, hie]
      rw [fill_congr (q := placeOf P t) (fun i => by simp [placeOf, hu, hie])]
      simpa using h2
    case struct fs =>
      simp only [hu] at hk
      obtain ⟨places, hpl, hpl2⟩ := places_of hk
      simp only [Program.built, hi, hu, hzz, hpl]
      rw [fill_congr (q := placeOf P t) (fun i => by
        simp only [List.getElem?_toArray, hpl2 i, placeOf, hu]
        simp)]
      simpa using h2
def evp (G : List (Nat × List DC)) (l : Env) : List (Nat × Operand) → Option (List (Nat × SV))
  | [] => some []
  | (i, x) :: xs => match ev G l x, evp G l xs with
    | some (.s v), some vs => some ((i, v) :: vs)
    | _, _ => none
theorem evp_rep (h : St C F ρ l H a w) (hG : C.G = G) : ∀ {xs : List (Nat × Operand)} {vs : List (Nat × SV)}, evp G l xs = some vs → PRep ⟨w, F⟩ ρ vs (xs.map fun p => (p.1, a.eval p.2))
  | [], vs, hx => by
    simp only [evp, Option.some.injEq] at hx
    subst hx
    exact rfl
  | (i, x) :: xs, vs, hx => by
    simp only [evp] at hx
    split at hx
    · rename_i v vs' hv hvs
      simp only [Option.some.injEq] at hx; subst hx
      exact ⟨_, _, rfl, h.ev hG hv, evp_rep h hG hvs⟩
    · cases hx
end
end Go.Dx
