/- The engine's steps: what a run of simple operations makes of the named slots and of the owned blocks, and that the model's operations do just that. -/
import Derived.Test.YtjcghjgennddaaaDoorSxCore
namespace Go.Sx
open Go.RowKit
set_option linter.unusedVariables false
set_option linter.unusedSimpArgs false

/-- What stays as it was since the call began: below B, but for S. -/
structure Keep (B : Nat) (S : Nat → Prop) (w w' : World) : Prop where
  os : w'.os = w.os
  tape : w'.tape = w.tape
  output : w'.output = w.output
  size : w.heap.size ≤ w'.heap.size
  block : ∀ k, k < B → ¬ S k → w'.heap[k]? = w.heap[k]?

theorem Keep.refl (B : Nat) (S : Nat → Prop) (w : World) : Keep B S w w := ⟨rfl, rfl, rfl, Nat.le_refl _, fun _ _ _ => rfl⟩
theorem Keep.trans {B : Nat} {S : Nat → Prop} {a b c : World} (h : Keep B S a b) (k : Keep B S b c) : Keep B S a c :=
  ⟨k.os.trans h.os, k.tape.trans h.tape, k.output.trans h.output, Nat.le_trans h.size k.size, fun i hi hs => (k.block i hi hs).trans (h.block i hi hs)⟩
theorem Keep.of_below {B B' : Nat} {S : Nat → Prop} {a b : World} (h : Below B' a b) (hB : B ≤ B') : Keep B S a b :=
  ⟨h.os, h.tape, h.output, h.size, fun i hi _ => h.block i (Nat.lt_of_lt_of_le hi hB)⟩
theorem Keep.below {B : Nat} {a b : World} (h : Keep B (fun _ => False) a b) : Below B a b :=
  ⟨h.os, h.tape, h.output, h.size, fun i hi => h.block i hi id⟩

structure Ctx where
  N : Nat
  w0 : World
  S : Nat → Prop
  E : World
  X : Nat → Prop
  r : Nat → Nat

/-- What a state shows: the named slots, the owned blocks, the snapshot. -/
structure Sv (C : Ctx) (ρ : Nat → Nat) (l : Env) (H : Heap) (a : Act) (w : World) : Prop where
  env : ∀ t v, getE l t = some v → a.tmps.getD t undef = v.conc ρ ∧ v.ok
  hp : ∀ k b, getH H k = some b → w.heap[ρ k]? = some (.cells (flat ρ b.cs).toArray b.ty (0, 0)) ∧ okCs b.cs
  ag : ∀ b, C.X b → b < w.heap.size ∧ w.heap[b]? = C.E.heap[b]?

structure St (C : Ctx) (ρ : Nat → Nat) (l : Env) (H : Heap) (a : Act) (w : World) : Prop extends Sv C ρ l H a w where
  defers : a.defers = []
  size : a.tmps.size = C.N
  own : ∀ k b, getH H k = some b → ¬ C.X (ρ k) ∧ (C.w0.heap.size ≤ ρ k ∨ C.S (ρ k))
  inj : ∀ k k' b b', getH H k = some b → getH H k' = some b' → ρ k = ρ k' → k = k'
  keep : Keep C.w0.heap.size C.S C.w0 w
  /-- The names of the blocks that were handed over mean what they meant. -/
  pin : ∀ k, C.N ≤ k → ρ k = C.r k

def ev (l : Env) : Operand → Option EV
  | .tmp t => getE l t
  | .const v => some (.s (.a (.v v)))
  | .global g => some (.s (.a (.v (.pointer (some ⟨g, 0, none⟩)))))
  | .func f => some (.s (.a (.v (.func (.func f) #[] #[]))))

theorem Sv.ev {C : Ctx} {ρ : Nat → Nat} {l : Env} {H : Heap} {a : Act} {w : World} (h : Sv C ρ l H a w) {x : Operand} {e : EV} (hx : Sx.ev l x = some e) :
    a.eval x = e.conc ρ ∧ e.ok := by
  cases x with
  | tmp t => exact h.env t e hx
  | const v => simp only [Sx.ev, Option.some.injEq] at hx; subst hx; exact ⟨rfl, trivial⟩
  | global g => simp only [Sx.ev, Option.some.injEq] at hx; subst hx; exact ⟨rfl, trivial⟩
  | func f => simp only [Sx.ev, Option.some.injEq] at hx; subst hx; exact ⟨rfl, trivial⟩

/-! operations that only compute -/

def pureNext (P : Program) : Sem Next → Option Value
  | .pure (.value v) => some v
  | .program k => pureNext P (k P)
  | .mark _ k => pureNext P k
  | _ => none

theorem pureNext_run {P : Program} : ∀ {s : Sem Next} {v : Value}, pureNext P s = some v → ∀ w, s.run P w = .ok (.value v) w
  | .pure n, v, h, w => by
    cases n <;> simp [pureNext] at h
    subst h; rfl
  | .program k, v, h, w => pureNext_run (s := k P) h w
  | .mark m k, v, h, w => pureNext_run (s := k) h w
  | .load .., _, h, _ => by simp [pureNext] at h
  | .store .., _, h, _ => by simp [pureNext] at h
  | .new .., _, h, _ => by simp [pureNext] at h
  | .shape .., _, h, _ => by simp [pureNext] at h
  | .freeze .., _, h, _ => by simp [pureNext] at h
  | .frozen .., _, h, _ => by simp [pureNext] at h
  | .getObj .., _, h, _ => by simp [pureNext] at h
  | .setObj .., _, h, _ => by simp [pureNext] at h
  | .choose .., _, h, _ => by simp [pureNext] at h
  | .sys .., _, h, _ => by simp [pureNext] at h
  | .halt .., _, h, _ => by simp [pureNext] at h

def isV (l : Env) (x : Operand) : Bool :=
  match ev l x with
  | some (.s (.a (.v _))) => true
  | _ => false

def cv (l : Env) (x : Operand) : Value :=
  match ev l x with
  | some (.s (.a (.v y))) => y
  | _ => undef

def noSel : Op → Bool
  | .select .. => false
  | _ => true

def pureO (P : Program) (l : Env) (o : Oper) : Option EV :=
  match o.op.operands.toList.all (isV l) && noSel o.op with
  | true => match pureNext P (execOp (cv l) o) with
    | some v => some (.s (.a (.v v)))
    | none => none
  | false => none

theorem noSel_spec {op : Op} (h : noSel op = true) : ∀ cs b, op ≠ .select cs b := fun cs b e => by subst e; cases h

section
variable {P : Program} {C : Ctx} {ρ : Nat → Nat} {l : Env} {H : Heap} {a : Act} {w : World}

theorem Sv.cv (h : Sv C ρ l H a w) {x : Operand} (hx : isV l x = true) : a.eval x = cv l x := by
  unfold isV at hx
  split at hx
  · rename_i y hy
    have : Sx.cv l x = y := by unfold Sx.cv; rw [hy]
    rw [this]
    exact (h.ev hy).1
  · cases hx

theorem pureO_run (h : Sv C ρ l H a w) {o : Oper} {e : EV} (hp : pureO P l o = some e) (w' : World) : (execOp a.eval o).run P w' = .ok (.value (e.conc ρ)) w' ∧ e.ok := by
  unfold pureO at hp
  split at hp
  · rename_i hb
    rw [Bool.and_eq_true] at hb
    split at hp
    · rename_i v hv
      simp only [Option.some.injEq] at hp
      subst hp
      have : execOp a.eval o = execOp (Sx.cv l) o := execOp_congr o (noSel_spec hb.2) fun x hx => h.cv (List.all_eq_true.1 hb.1 x (by simpa using hx))
      rw [this]
      exact ⟨pureNext_run hv w', trivial⟩
    · cases hp
  · cases hp

def isAggB (P : Program) (t : TypeId) : Option Bool :=
  match P.underlying t with
  | some (.struct _) => some true
  | some (.array _ _) => some true
  | some _ => some false
  | none => none

theorem isAggB_run {t : TypeId} {b : Bool} (h : isAggB P t = some b) (w : World) : (isAgg t).run P w = .ok b w := by
  unfold isAggB at h
  unfold isAgg
  cases hu : P.underlying t with
  | none => simp [hu] at h
  | some d =>
    rw [Sem.run_bind, run_underlying hu w]
    rw [hu] at h
    cases d <;> simp at h <;> subst h <;> rfl

/-- What a load at an address of an owned block gives. -/
def ldC (P : Program) (t : TypeId) (cs : List Chunk) (off : Nat) : Option SV :=
  match isAggB P t with
  | some true => match P.info? t with
    | some i => match dropC cs off with
      | some r => match takeC r i.size with
        | some s => some (.agg s)
        | none => none
      | none => none
    | none => none
  | some false => match atC cs off with
    | some x => some (.a x)
    | none => none
  | none => none

theorem ldC_run {t : TypeId} {cs : List Chunk} {off g : Nat} {x : SV} (hl : ldC P t cs off = some x) (hok : okCs cs) {w : World} {ty : TypeId} {fr : Nat × Nat} (hg : w.heap[g]? = some (.cells (flat ρ cs).toArray ty fr)) :
    (loadVar t ⟨g, off, none⟩).run P w = .ok (x.conc ρ) w ∧ x.ok := by
  unfold ldC at hl
  split at hl
  · rename_i hag
    split at hl
    · rename_i i hi
      split at hl
      · rename_i r hr
        split at hl
        · rename_i s hs
          simp only [Option.some.injEq] at hl
          subst hl
          obtain ⟨h1, pre, h2, h3⟩ := dropC_flat ρ hok hr
          obtain ⟨h4, post, h5, h6⟩ := takeC_flat ρ h1 hs
          refine ⟨?_, h4⟩
          have hlc : (loadCells ⟨g, off, none⟩ (flat ρ s).length).run P w = .ok (flat ρ s).toArray w :=
            run_loadCells_list (P := P) w ⟨g, off, none⟩ (flat ρ s) (fun j v hv => by
              rw [Addr.add_mid, cell_of_row w g (off + j) _ ty fr hg]
              have hj : j < (flat ρ s).length := by
                rcases Nat.lt_or_ge j (flat ρ s).length with h | h
                · exact h
                · rw [List.getElem?_eq_none h] at hv; cases hv
              simp only [List.getElem?_toArray]
              rw [h2, h5, List.getElem?_append_right (by omega), show off + j - pre.length = j by omega, List.getElem?_append_left hj]
              exact hv)
          rw [h6] at hlc
          simp only [loadVar, Sem.run_bind, isAggB_run hag, Result.andThen_ok, if_true]
          simp [sizeOf, typeInfo, hi, hlc, SV.conc]
        · cases hl
      · cases hl
    · cases hl
  · rename_i hag
    split at hl
    · rename_i y hy
      simp only [Option.some.injEq] at hl
      subst hl
      refine ⟨?_, trivial⟩
      have hc := atC_flat ρ hok hy
      have : w.cell? ⟨g, off, none⟩ = some (y.conc ρ) := by
        rw [cell_of_row w g off _ ty fr hg]
        simpa using hc
      simp only [loadVar, Sem.run_bind, isAggB_run hag, Result.andThen_ok, Bool.false_eq_true, if_false]
      simp [this, SV.conc]
    · cases hl
  · cases hl

def val1 (P : Program) (l : Env) (H : Heap) (o : Oper) : Option EV :=
  match o.op with
  | .move x => ev l x
  | .assign x => ev l x
  | .pick c x y => match ev l c with
    | some (.s (.a (.v (.bool true)))) => ev l x
    | some (.s (.a (.v (.bool false)))) => ev l y
    | _ => none
  | .extract x i => match ev l x with
    | some (.t vs) => match vs[i]? with
      | some v => some (.s v)
      | none => none
    | _ => none
  | .nilCheck x => match ev l x with
    | some (.s (.a (.lp k off))) => some (.s (.a (.lp k off)))
    | _ => pureO P l o
  | .fieldAddr s x f => match ev l x with
    | some (.s (.a (.lp k off))) => match P.underlying s with
      | some (.struct fs) => match fs[f]? with
        | some fl => match P.info? fl.type with
          | some i => match Nat.beq i.size 0 with
            | true => none
            | false => some (.s (.a (.lp k (off + fl.offset))))
          | none => none
        | none => none
      | _ => none
    | _ => pureO P l o
  | .indexAddr t x ix => match ev l x, ev l ix with
    | some (.s (.a (.lp k off))), some (.s (.a (.v (.int ik (.ofNat n))))) => match P.underlying t with
      | some (.array len e) => match P.info? e with
        | some i => match Nat.blt n len with
          | true => some (.s (.a (.lp k (off + n * i.size))))
          | false => none
        | none => none
      | _ => none
    | _, _ => pureO P l o
  | .load t x => match ev l x with
    | some (.s (.a (.lp k off))) => match getH H k with
      | some b => match ldC P t b.cs off with
        | some v => some (.s v)
        | none => none
      | none => none
    | _ => none
  | .field t x f => match ev l x with
    | some (.s (.agg cs)) => match P.underlying t with
      | some (.struct fs) => match fs[f]? with
        | some fl => match ldC P fl.type cs fl.offset with
          | some v => some (.s v)
          | none => none
        | none => none
      | _ => none
    | _ => none
  | .makeFunc (.func f) first caps => match first.toList with
    | [] => match caps.toList.mapM (fun x => match ev l x with | some (.s (.a (.lp k off))) => some (k, off) | _ => none) with
      | some ps => some (.s (.a (.fn (.func f) ps)))
      | none => none
    | _ => none
  | _ => pureO P l o

theorem caps_conc (h : Sv C ρ l H a w) : ∀ (xs : List Operand) {ps : List (Nat × Nat)}, xs.mapM (fun x => match ev l x with | some (.s (.a (.lp k off))) => some (k, off) | _ => none) = some ps →
    xs.map a.eval = ps.map fun p => Value.pointer (some ⟨ρ p.1, p.2, none⟩)
  | [], ps, hp => by simp at hp; subst hp; rfl
  | x :: xs, ps, hp => by
    simp only [List.mapM_cons, Option.bind_eq_bind, Option.bind_eq_some_iff, Option.pure_def] at hp
    obtain ⟨p, h1, qs, h2, h3⟩ := hp
    simp only [Option.some.injEq] at h3
    subst h3
    split at h1
    · rename_i k off hk
      simp only [Option.some.injEq] at h1
      subst h1
      simp only [List.map_cons, caps_conc h xs h2, (h.ev hk).1]
      rfl
    · cases h1

theorem part_run {t : TypeId} {cs : List Chunk} {off : Nat} {x : SV} (hl : ldC P t cs off = some x) (hok : okCs cs) (w : World) :
    (part t (flat ρ cs).toArray off).run P w = .ok (x.conc ρ) w ∧ x.ok := by
  unfold ldC at hl
  split at hl
  · rename_i hag
    split at hl
    · rename_i i hi
      split at hl
      · rename_i r hr
        split at hl
        · rename_i s hs
          simp only [Option.some.injEq] at hl
          subst hl
          obtain ⟨h1, pre, h2, h3⟩ := dropC_flat ρ hok hr
          obtain ⟨h4, post, h5, h6⟩ := takeC_flat ρ h1 hs
          refine ⟨?_, h4⟩
          simp only [part, Sem.run_bind, isAggB_run hag, Result.andThen_ok, if_true]
          simp only [sizeOf, typeInfo, Sem.run_bind, run_program, Result.andThen_ok, hi, Sem.run_pure, SV.conc]
          congr 2
          apply Array.ext'
          simp only [List.extract_toArray, List.extract_eq_take_drop]
          rw [h2, h5, List.drop_append_of_le_length (by omega), List.drop_of_length_le (by omega)]
          simp [show off + i.size - off = i.size by omega, ← h6]
        · cases hl
      · cases hl
    · cases hl
  · rename_i hag
    split at hl
    · rename_i y hy
      simp only [Option.some.injEq] at hl
      subst hl
      refine ⟨?_, trivial⟩
      have hc := atC_flat ρ hok hy
      simp only [part, Sem.run_bind, isAggB_run hag, Result.andThen_ok, Bool.false_eq_true, if_false]
      simp [hc, SV.conc]
    · cases hl
  · cases hl

theorem val1_run (h : Sv C ρ l H a w) {o : Oper} {e : EV} (hv : val1 P l H o = some e) : (execOp a.eval o).run P w = .ok (.value (e.conc ρ)) w ∧ e.ok := by
  obtain ⟨dst, op, type, pos, after, guard⟩ := o
  unfold val1 at hv
  split at hv
  case h_1 x hop =>
    simp only at hop; subst hop
    exact ⟨by simp only [execOp, (h.ev hv).1]; rfl, (h.ev hv).2⟩
  case h_2 x hop =>
    simp only at hop; subst hop
    exact ⟨by simp only [execOp, (h.ev hv).1]; rfl, (h.ev hv).2⟩
  case h_3 c x y hop =>
    simp only at hop; subst hop
    split at hv
    · rename_i hc
      refine ⟨?_, (h.ev hv).2⟩
      simp only [execOp, (h.ev hc).1, (h.ev hv).1]
      rfl
    · rename_i hc
      refine ⟨?_, (h.ev hv).2⟩
      simp only [execOp, (h.ev hc).1, (h.ev hv).1]
      rfl
    · cases hv
  case h_4 x i hop =>
    simp only at hop; subst hop
    split at hv
    · rename_i vs hx
      split at hv
      · rename_i v hi
        simp only [Option.some.injEq] at hv
        subst hv
        refine ⟨?_, (h.ev hx).2 v (List.mem_of_getElem? hi)⟩
        simp only [execOp, (h.ev hx).1, EV.conc, Instr.extract]
        simp [hi]
      · cases hv
    · cases hv
  case h_5 x hop =>
    simp only at hop; subst hop
    split at hv
    · rename_i k off hx
      simp only [Option.some.injEq] at hv
      subst hv
      refine ⟨?_, trivial⟩
      simp only [execOp, (h.ev hx).1, EV.conc, SV.conc, AV.conc]
      rfl
    · exact pureO_run h hv w
  case h_6 s x f hop =>
    simp only at hop; subst hop
    split at hv
    · rename_i k off hx
      split at hv
      · rename_i fs hu
        split at hv
        · rename_i fl hf
          split at hv
          · rename_i i hi
            split at hv
            · cases hv
            · rename_i hsz
              simp only [Option.some.injEq] at hv
              subst hv
              refine ⟨?_, trivial⟩
              have hsz' : i.size ≠ 0 := fun e => by rw [e] at hsz; simp at hsz
              simp only [execOp, (h.ev hx).1, EV.conc, SV.conc, AV.conc, Instr.fieldAt, Sem.run_bind, run_underlying hu, Result.andThen_ok, hf, Instr.sureAddr, Sem.run_pure, fieldPlace, sizeOf, typeInfo, run_program, hi, if_neg hsz', Addr.add_mid]
          · cases hv
        · cases hv
      · cases hv
    · exact pureO_run h hv w
  case h_7 t x ix hop =>
    simp only at hop; subst hop
    split at hv
    · rename_i k off ik n hx hix
      split at hv
      · rename_i len el hu
        split at hv
        · rename_i i hi
          split at hv
          · rename_i hlt
            simp only [Option.some.injEq] at hv
            subst hv
            refine ⟨?_, trivial⟩
            have hlt' : n < len := Nat.le_of_ble_eq_true hlt
            simp only [execOp, (h.ev hx).1, (h.ev hix).1, EV.conc, SV.conc, AV.conc, Instr.indexAt, asIntOf, Sem.run_bind, Sem.run_pure, Result.andThen_ok, run_underlying hu, Instr.sureAddr]
            have : (0 ≤ Int.ofNat n ∧ Int.ofNat n < (len : Int)) := ⟨Int.natCast_nonneg n, by simpa using hlt'⟩
            simp only [if_pos this, Sem.run_bind, sizeOf, typeInfo, run_program, Result.andThen_ok, hi, Sem.run_pure, Addr.add_mid]
            rfl
          · cases hv
        · cases hv
      · cases hv
    · exact pureO_run h hv w
  case h_8 t x hop =>
    simp only at hop; subst hop
    split at hv
    · rename_i k off hx
      split at hv
      · rename_i b hb
        split at hv
        · rename_i v hl
          simp only [Option.some.injEq] at hv
          subst hv
          obtain ⟨h1, h2⟩ := h.hp k b hb
          have := ldC_run (ρ := ρ) hl h2 h1
          refine ⟨?_, this.2⟩
          simp only [execOp, (h.ev hx).1, EV.conc, SV.conc, AV.conc, Instr.loadAt, Instr.sureAddr, Sem.run_bind, Sem.run_pure, Result.andThen_ok, this.1]
        · cases hv
      · cases hv
    · cases hv
  case h_9 t x f hop =>
    simp only at hop; subst hop
    split at hv
    · rename_i cs hx
      split at hv
      · rename_i fs hu
        split at hv
        · rename_i fl hf
          split at hv
          · rename_i v hl
            simp only [Option.some.injEq] at hv
            subst hv
            have := part_run (ρ := ρ) hl (h.ev hx).2 w
            refine ⟨?_, this.2⟩
            simp only [execOp, (h.ev hx).1, EV.conc, SV.conc, Instr.field, Sem.run_bind, run_underlying hu, Result.andThen_ok, hf, asAgg, Sem.run_pure, this.1]
          · cases hv
        · cases hv
      · cases hv
    · cases hv
  case h_10 f first caps hop =>
    simp only at hop; subst hop
    split at hv
    · rename_i hfi
      split at hv
      · rename_i ps hps
        simp only [Option.some.injEq] at hv
        subst hv
        refine ⟨?_, trivial⟩
        have hf0 : first = #[] := by simpa using hfi
        subst hf0
        have hc := caps_conc h caps.toList hps
        have : caps.map a.eval = (ps.map fun p => Value.pointer (some ⟨ρ p.1, p.2, none⟩)).toArray := by
          apply Array.ext'; simpa using hc
        simp only [execOp, this, EV.conc, SV.conc, AV.conc, List.map_toArray, List.map_nil]
        rfl
      · cases hv
    · cases hv
  case h_11 => exact pureO_run h hv w
end
end Go.Sx
