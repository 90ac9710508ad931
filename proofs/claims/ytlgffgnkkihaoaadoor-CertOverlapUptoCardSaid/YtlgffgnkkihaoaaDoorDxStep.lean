/- All steps together; rows of operations. -/
import Derived.Test.YtlgffgnkkihaoaaDoorDxCall2
namespace Go.Dx
open Go.RowKit
set_option linter.unusedVariables false
set_option linter.unusedSimpArgs false

/-- What is known at a loop's head. -/
structure Ann where
  τ : Type
  t0 : τ
  J : τ → Prop
  m : τ → Nat
  l : τ → Env
  H : τ → Heap
  unr : Nat := 0
/-- A function's contract: which arguments are handed over, whether what it answers may lie in what it is given. -/
structure Ct where
  ms : List Bool
  al : Bool
  g : Con
  sp : Option ((List SV → Heap → Option Bool) × Con)
structure Cx where
  P : Program
  N : Nat
  G : List (Nat × List DC)
  ct : FuncId → Option Ct
  ann : Nat → List Nat → List Ann
def fnOk (P : Program) (f : FuncId) : Bool :=
  match P.funcs[f]? with
  | some fn => !(fn.name == "runtime.NumGoroutine") && !fn.body.isNone
  | none => false
def CtOk (X : Cx) : Prop := ∀ f c, X.ct f = some c → Valid X.P X.G f c.g ∧ fnOk X.P f = true ∧ ∀ s, c.sp = some s → Valid X.P X.G f s.2
/-- The other half of what is told apart. -/
def Ct.other (c : Ct) : Ct := match c.sp with
  | some s => ⟨c.ms, c.al, s.2, none⟩
  | none => c
def Cx.alt (X : Cx) : Cx := ⟨X.P, X.N, X.G, fun f => (X.ct f).map Ct.other, X.ann⟩
theorem CtOk.alt {X : Cx} (h : CtOk X) : CtOk X.alt := fun f c hc => by
  obtain ⟨c0, h0, rfl⟩ := Option.map_eq_some_iff.1 hc
  obtain ⟨a, b, d⟩ := h f c0 h0
  unfold Ct.other
  split
  · rename_i s hs
    exact ⟨d s hs, b, fun s' h' => by cases h'⟩
  · exact ⟨a, b, d⟩

abbrev SRes := Option (List Prop × Env × Heap × List Nat)
def ofV (l : Env) (H : Heap) (d : Option Nat) (N : Nat) (r : Res) : SRes :=
  match r, dstOk N d with
  | some (ps, e), true => some (ps, putO l d e, H, [])
  | _, _ => none
def ofN (d : Nat) (r : Option (Env × Heap)) : SRes :=
  match r with
  | some (l, H) => some ([], l, H, [d])
  | none => none
def ofP (d : Nat) (r : Option (List Prop × Env × Heap)) : SRes :=
  match r with
  | some (ps, l, H) => some (ps, l, H, [d])
  | none => none
def evs (G : List (Nat × List DC)) (l : Env) : List Operand → Option (List SV)
  | [] => some []
  | x :: xs => match ev G l x, evs G l xs with
    | some (.s v), some vs => some (v :: vs)
    | _, _ => none
/-- A nil slice, as its type has it. -/
def tyA (P : Program) (t : TypeId) (x : AV) : AV :=
  match x with
  | .d (.v (.slice none 0 0)) => match emptyOf P t with
    | some d => .d d
    | none => x
  | x => x
def leavesT (P : Program) : Nat → TypeId → List TypeId
  | 0, _ => []
  | d + 1, t => match P.underlying t with
    | some (.struct fs) => fs.toList.flatMap fun f => leavesT P d f.type
    | _ => [t]
def tyC (P : Program) : List TypeId → List Chunk → List Chunk
  | t :: ts, .one x :: cs => .one (tyA P t x) :: tyC P ts cs
  | _ :: ts, c :: cs => c :: tyC P ts cs
  | _, cs => cs
def tyS (P : Program) (t : TypeId) : SV → SV
  | .a x => .a (tyA P t x)
  | .agg cs => .agg (tyC P (leavesT P 20 t) cs)
def tyL (P : Program) : List TypeId → List SV → List SV
  | t :: ts, x :: r => tyS P t x :: tyL P ts r
  | _, l => l
/-- As their types have them, but for those that are handed over. -/
def tyM (P : Program) : List Bool → List TypeId → List SV → List SV
  | true :: ms, _ :: ts, x :: r => x :: tyM P ms ts r
  | false :: ms, t :: ts, x :: r => tyS P t x :: tyM P ms ts r
  | [], t :: ts, x :: r => tyS P t x :: tyM P [] ts r
  | _, _, l => l
/-- Whether a call's outcome is told apart by a truth value, and by which. -/
def splitO (X : Cx) (l : Env) (H : Heap) (o : Oper) : Option Bool :=
  match o.op with
  | .call c => match c.callee with
    | .value (.func f) => match X.ct f with
      | some ct => match ct.sp with
        | some s => match evs X.G l c.args.toList with
          | some vs => s.1 vs H
          | none => none
        | none => none
      | none => none
    | _ => none
  | _ => none
def brX (X : Cx) (o : Option Bool) (k : Cx → Prop) : Prop :=
  match o with
  | none => k X
  | some b => match b with
    | true => k X
    | false => k X.alt
theorem brX_ok {X : Cx} {o : Option Bool} {k : Cx → Prop} (h : brX X o k) : k X ∨ k X.alt := by
  unfold brX at h
  split at h
  · exact .inl h
  · split at h
    · exact .inl h
    · exact .inr h
def callF (X : Cx) (l : Env) (H : Heap) (dst : Option Nat) (f : FuncId) (ts : List TypeId) (args : List SV) : SRes :=
  match X.ct f, dstOk X.N dst with
  | some c, true => match callV l H (dst.getD 0) c.ms c.g (tyM X.P c.ms ts args) with
    | some (ps, e, H', nn) => some (ps, putO l dst e, H', nn)
    | none => none
  | _, _ => none
def capV : List (Nat × Nat) → List SV
  | [] => []
  | (k, off) :: r => .a (.lp k off) :: capV r
def step (X : Cx) (l : Env) (H : Heap) (o : Oper) : SRes :=
  match o.op, o.dst with
  | .alloc t, some d => ofN d (allocV X.P X.N l H t d)
  | .box t x, some d => ofN d (boxV X.N X.G l H t d x)
  | .store t x y, none => match aOf (ev X.G l x), ev X.G l y with
    | some p, some (.s v) => match storeV X.P t H p v with
      | some H' => some ([], l, H', [])
      | none => none
    | _, _ => none
  | .buildSlice t n parts, some d => ofN d (bslice X.P X.N X.G l H t n d parts.toList)
  | .makeSlice t x y, some d => match intOf (ev X.G l x), intOf (ev X.G l y) with
    | some (_, p), some (_, q) => ofP d (makeV X.P X.N l H t d p q)
    | _, _ => none
  | .makeMap t none, some d => ofN d (newMap X.P X.N l H t d)
  | .mapUpdate t x ix y, none => match aOf (ev X.G l x), ev X.G l ix, ev X.G l y with
    | some p, some (.s q), some (.s r) => match updMap X.P H t p q r with
      | some (ps, H') => some (ps, l, H', [])
      | none => none
    | _, _, _ => none
  | .convert t t' x, d => match aOf (ev X.G l x), dstOk X.N d with
    | some (.d (.v (.string s))), true => match strB X.P t t' with
      | true => some ([], putO l d (S1 (.d (.si .u8 (numsOf s)))), H, [])
      | false => ofV l H d X.N (vstep X.P X.G l H o)
    | some p, true => match litB X.P H t t' p with
      | some (k, L) => some ([0 < L.length], putO l d (S1 (.d (.si .u8 L))), delH H k, [])
      | none => ofV l H d X.N (vstep X.P X.G l H o)
    | _, _ => none
  | .call c, d => match c.callee, c.args.toList, c.argTypes.toList, d with
    | .builtin .append, [s, x], [t, tx], some d => ofP d (appV X.P X.N X.G l H t tx d s x)
    | .builtin .copy, [x, y], [t, t'], d => match aOf (ev X.G l x), aOf (ev X.G l y) with
      | some p, some q => match seesI H q with
        | some (k, L) => match copyV X.P H t t' p k L, dstOk X.N d with
          | some (H', m), true => some ([], putO l d (eI .i64 (m : Nat)), H', [])
          | _, _ => none
        | none => none
      | _, _ => none
    | .value (.func f), args, ts, d => match evs X.G l args with
      | some vs => callF X l H d f ts vs
      | none => none
    | .value (.tmp t), args, ts, d => match getE l t, evs X.G l args with
      | some (.s (.a (.fn (.func f) caps))), some vs => callF X l H d f ts (vs ++ capV caps)
      | some (.s (.a (.fb (.func f) k off ds))), some vs => callF X l H d f ts (.agg (.one (.lp k off) :: upC ds) :: vs)
      | some (.s (.a (.d (.v (.func (.func f) ⟨[]⟩ ⟨[]⟩))))), some vs => callF X l H d f ts vs
      | _, _ => none
    | _, _, _, _ => ofV l H d X.N (vstep X.P X.G l H o)
  | _, d => ofV l H d X.N (vstep X.P X.G l H o)
section
variable {X : Cx} {C : Ctx} {F : Nat → Prop} {ρ : Nat → Loc} {l : Env} {H : Heap} {a : Act} {w : World}

theorem emptyOf_rep {P : Program} {m : Mem} {t : TypeId} {d : D} (h : emptyOf P t = some d) : DRep m d (.slice none 0 0) := by
  have h1 : ∀ k, DRep m (.si k []) (.slice none 0 0) := fun k => ⟨_, _, rfl, Nat.zero_le _, fun h => absurd rfl h⟩
  have h2 : DRep m (.sb []) (.slice none 0 0) := ⟨_, _, rfl, Nat.zero_le _, fun h => absurd rfl h⟩
  have h3 : ∀ sz c, DRep m (.sl sz 0 c) (.slice none 0 0) := fun sz c => ⟨_, _, rfl, Nat.zero_le _, fun h => absurd rfl h⟩
  unfold emptyOf at h
  repeat' (first | (simp only [Option.some.injEq, reduceCtorEq] at h; done) | (simp only [Option.some.injEq] at h; subst h; first | exact h1 _ | exact h2 | exact h3 _ _) | split at h)
theorem tyA_rep {P : Program} {m : Mem} {t : TypeId} {x : AV} {u : Value} (h : ARep m ρ x u) : ARep m ρ (tyA P t x) u := by
  unfold tyA
  split
  · split
    · rename_i d hd
      rw [show u = _ from h]; exact emptyOf_rep hd
    · exact h
  · exact h
theorem tyA_one {P : Program} {t : TypeId} {x : AV} : True := trivial
theorem tyC_rep {P : Program} {m : Mem} : ∀ {ts : List TypeId} {cs : List Chunk} {vs : List Value}, KRep m ρ cs vs → KRep m ρ (tyC P ts cs) vs
  | t :: ts, .one x :: cs, vs, h => by
    obtain ⟨v, r, h1, h2, h3, h4⟩ := h
    exact ⟨v, r, h1, h2, tyA_rep h3, tyC_rep h4⟩
  | t :: ts, .ints k n xs :: cs, vs, h => by
    obtain ⟨r, h1, h2, h3⟩ := h
    exact ⟨r, h1, h2, tyC_rep h3⟩
  | [], cs, vs, h => by cases cs <;> exact h
  | _ :: _, [], vs, h => h
theorem tyS_rep {P : Program} {m : Mem} {t : TypeId} {x : SV} {u : Value} (h : SRep m ρ x u) : SRep m ρ (tyS P t x) u := by
  cases x with
  | a x => exact tyA_rep h
  | agg cs => obtain ⟨vs, e, k⟩ := h; exact ⟨vs, e, tyC_rep k⟩
theorem tyL_rep {P : Program} {m : Mem} : ∀ {ts : List TypeId} {l : List SV} {us : List Value}, LRep m ρ l us → LRep m ρ (tyL P ts l) us
  | t :: ts, x :: r, us, h => by
    obtain ⟨u, q, h1, h2, h3⟩ := h
    exact ⟨u, q, h1, tyS_rep h2, tyL_rep h3⟩
  | [], l, us, h => by cases l <;> exact h
  | _ :: _, [], us, h => h
theorem tyM_rep {P : Program} {m : Mem} : ∀ {ms : List Bool} {ts : List TypeId} {l : List SV} {us : List Value}, LRep m ρ l us → LRep m ρ (tyM P ms ts l) us
  | true :: ms, t :: ts, x :: r, us, h => by
    obtain ⟨u, q, h1, h2, h3⟩ := h
    exact ⟨u, q, h1, h2, tyM_rep h3⟩
  | false :: ms, t :: ts, x :: r, us, h => by
    obtain ⟨u, q, h1, h2, h3⟩ := h
    exact ⟨u, q, h1, tyS_rep h2, tyM_rep h3⟩
  | [], t :: ts, x :: r, us, h => by
    obtain ⟨u, q, h1, h2, h3⟩ := h
    exact ⟨u, q, h1, tyS_rep h2, tyM_rep h3⟩
  | [], [], l, us, h => h
  | true :: _, [], l, us, h => h
  | false :: _, [], l, us, h => h
  | [], _ :: _, [], us, h => h
  | true :: _, _ :: _, [], us, h => h
  | false :: _, _ :: _, [], us, h => h
theorem evs_rep (h : St C F ρ l H a w) (hG : C.G = X.G) : ∀ {xs : List Operand} {vs : List SV}, evs X.G l xs = some vs → LRep ⟨w, F⟩ ρ vs (xs.map a.eval)
  | [], vs, hx => by simp only [evs, Option.some.injEq] at hx; subst hx; exact rfl
  | x :: xs, vs, hx => by
    simp only [evs] at hx
    split at hx
    · rename_i v vs' hv hvs
      simp only [Option.some.injEq] at hx; subst hx
      exact ⟨_, _, rfl, h.ev hG hv, evs_rep h hG hvs⟩
    · cases hx
theorem LRep.app {m : Mem} : ∀ {l l' : List SV} {us us' : List Value}, LRep m ρ l us → LRep m ρ l' us' → LRep m ρ (l ++ l') (us ++ us')
  | [], l', us, us', h, h' => by rw [show us = [] from h]; exact h'
  | x :: l, l', us, us', h, h' => by
    obtain ⟨u, r, rfl, h2, h3⟩ := h
    exact ⟨u, r ++ us', rfl, h2, LRep.app h3 h'⟩
theorem capV_rep {m : Mem} : ∀ (ps : List (Nat × Nat)), LRep m ρ (capV ps) (ps.map fun p => Value.pointer (some ⟨(ρ p.1).b, p.2, none⟩))
  | [] => rfl
  | (k, off) :: r => ⟨_, _, rfl, rfl, capV_rep r⟩
theorem nd_eq {d : Nat} : (fun i => i = d) = fun i => i ∈ [d] := by funext i; simp
theorem nd_no : (fun _ : Nat => False) = fun i => i ∈ ([] : List Nat) := by funext i; simp
theorem ofV_ok {o : Oper} {ps : List Prop} {l' : Env} {H' : Heap} {nn : List Nat} (hN : C.N = X.N) (hG : C.G = X.G) (h : ofV l H o.dst X.N (vstep X.P X.G l H o) = some (ps, l', H', nn)) : StepOk X.P C o l H ps l' H' (fun k => k ∈ nn) := by
  unfold ofV at h
  split at h
  · rename_i ps' e hv hd
    simp only [Option.some.injEq, Prod.mk.injEq] at h; obtain ⟨rfl, rfl, rfl, rfl⟩ := h
    rw [← nd_no]
    exact stepOk_v hG (hN ▸ hd) hv
  · cases h
theorem callF_ok {o : Oper} {ps : List Prop} {l' : Env} {H' : Heap} {nn : List Nat} {f : FuncId} {ts : List TypeId} {args : List SV} (hC : CtOk X) (hN : C.N = X.N) (hG : C.G = X.G)
    (hrun : ∀ F ρ a w, St C F ρ l H a w → ∃ us, LRep ⟨w, F⟩ ρ args us ∧ (execOp a.eval o).run X.P w = (callFunc f us.toArray).run X.P w)
    (h : callF X l H o.dst f ts args = some (ps, l', H', nn)) : StepOk X.P C o l H ps l' H' (fun k => k ∈ nn) := by
  unfold callF at h
  split at h
  · rename_i c hc hd
    obtain ⟨hv, hf, _⟩ := hC f c hc
    unfold fnOk at hf
    split at hf
    · rename_i fn hfn
      simp only [Bool.and_eq_true, Bool.not_eq_true'] at hf
      split at h
      · rename_i ps' e H1 nn' hcv
        simp only [Option.some.injEq, Prod.mk.injEq] at h; obtain ⟨rfl, rfl, rfl, rfl⟩ := h
        refine callV_ok (fn := fn) hG (hN ▸ hd) hv (fun F ρ a w hs => ?_) hcv
        obtain ⟨us, h1, h2⟩ := hrun F ρ a w hs
        exact ⟨us, tyM_rep h1, by rw [h2]; exact call_run hfn hf.1 hf.2 _ _⟩
      · cases h
    · cases hf
  · cases h
theorem step_ok {o : Oper} {ps : List Prop} {l' : Env} {H' : Heap} {nn : List Nat} (hC : CtOk X) (hN : C.N = X.N) (hG : C.G = X.G) (h : step X l H o = some (ps, l', H', nn)) : StepOk X.P C o l H ps l' H' (fun k => k ∈ nn) := by
  unfold step at h
  split at h
  case h_1 t d hop hdst =>
    unfold ofN at h
    split at h
    · rename_i l1 H1 h1
      simp only [Option.some.injEq, Prod.mk.injEq] at h; obtain ⟨rfl, rfl, rfl, rfl⟩ := h
      rw [← nd_eq]
      exact allocV_ok hop hdst (hN ▸ h1)
    · cases h
  case h_2 t x d hop hdst =>
    unfold ofN at h
    split at h
    · rename_i l1 H1 h1
      simp only [Option.some.injEq, Prod.mk.injEq] at h; obtain ⟨rfl, rfl, rfl, rfl⟩ := h
      rw [← nd_eq]
      exact boxV_ok hG hop hdst (hN ▸ h1)
    · cases h
  case h_3 t x y hop hdst =>
    split at h
    · rename_i p v hx hy
      split at h
      · rename_i H1 h1
        simp only [Option.some.injEq, Prod.mk.injEq] at h; obtain ⟨rfl, rfl, rfl, rfl⟩ := h
        rw [← nd_no]
        exact store_ok hG hop hdst hx hy h1
      · cases h
    · cases h
  case h_4 t n parts d hop hdst =>
    unfold ofN at h
    split at h
    · rename_i l1 H1 h1
      simp only [Option.some.injEq, Prod.mk.injEq] at h; obtain ⟨rfl, rfl, rfl, rfl⟩ := h
      rw [← nd_eq]
      exact bslice_ok hG hop hdst (hN ▸ h1)
    · cases h
  case h_5 t x y d hop hdst =>
    split at h
    · rename_i kp p kq q hx hy
      unfold ofP at h
      split at h
      · rename_i ps1 l1 H1 h1
        simp only [Option.some.injEq, Prod.mk.injEq] at h; obtain ⟨rfl, rfl, rfl, rfl⟩ := h
        rw [← nd_eq]
        exact makeV_ok hG hop hdst hx hy (hN ▸ h1)
      · cases h
    · cases h
  case h_6 t d hop hdst =>
    unfold ofN at h
    split at h
    · rename_i l1 H1 h1
      simp only [Option.some.injEq, Prod.mk.injEq] at h; obtain ⟨rfl, rfl, rfl, rfl⟩ := h
      rw [← nd_eq]
      exact newMap_ok hop hdst (hN ▸ h1)
    · cases h
  case h_7 t x ix y hop hdst =>
    split at h
    · rename_i p q r hx hq hr
      split at h
      · rename_i ps1 H1 h1
        simp only [Option.some.injEq, Prod.mk.injEq] at h; obtain ⟨rfl, rfl, rfl, rfl⟩ := h
        rw [← nd_no]
        exact updMap_ok hG hop hdst hx hq hr h1
      · cases h
    · cases h
  case h_8 t t' x d hop =>
    split at h
    · rename_i s hx hd
      split at h
      · rename_i hb
        simp only [Option.some.injEq, Prod.mk.injEq] at h; obtain ⟨rfl, rfl, rfl, rfl⟩ := h
        rw [← nd_no]
        exact strB_ok hG hop (hN ▸ hd) hx hb
      · exact ofV_ok hN hG h
    · rename_i p _ hx hd
      split at h
      · rename_i k L hb
        simp only [Option.some.injEq, Prod.mk.injEq] at h; obtain ⟨rfl, rfl, rfl, rfl⟩ := h
        rw [← nd_no]
        exact litB_ok hG hop (hN ▸ hd) hx hb
      · exact ofV_ok hN hG h
    · cases h
  case h_9 c hop =>
    obtain ⟨cal, args, argTypes⟩ := c
    split at h
    · rename_i s x t tx d' hc ha ht hdst
      obtain rfl : cal = _ := hc
      obtain rfl : args = #[s, x] := by cases args; simp_all
      obtain rfl : argTypes = #[t, tx] := by cases argTypes; simp_all
      unfold ofP at h
      split at h
      · rename_i ps1 l1 H1 h1
        simp only [Option.some.injEq, Prod.mk.injEq] at h; obtain ⟨rfl, rfl, rfl, rfl⟩ := h
        rw [← nd_eq]
        exact appV_ok hG hop hdst (hN ▸ h1)
      · cases h
    · rename_i x y t t' hc ha ht
      obtain rfl : cal = _ := hc
      obtain rfl : args = #[x, y] := by cases args; simp_all
      obtain rfl : argTypes = #[t, t'] := by cases argTypes; simp_all
      split at h
      · rename_i p q hx hy
        split at h
        · rename_i k L hL
          split at h
          · rename_i H1 m h1 hd
            simp only [Option.some.injEq, Prod.mk.injEq] at h; obtain ⟨rfl, rfl, rfl, rfl⟩ := h
            rw [← nd_no]
            exact copyV_ok hG hop (hN ▸ hd) hx hy hL h1
          · cases h
        · cases h
      · cases h
    · rename_i f hc
      obtain rfl : cal = _ := hc
      split at h
      · rename_i vs hvs
        refine callF_ok hC hN hG (fun F ρ a w hs => ⟨_, evs_rep hs hG hvs, ?_⟩) h
        obtain ⟨dst, op, type, pos, after, guard⟩ := o
        simp only at hop; subst hop
        simp only [execOp, resolve, Sem.run_bind]
        have e : (args.toList.map a.eval).toArray = args.map a.eval := by apply Array.ext'; simp
        rw [e]
        simp [Act.eval, Deferred.ofValue, invoke]
      · cases h
    · rename_i t hc
      obtain rfl : cal = _ := hc
      split at h
      · rename_i f caps vs hf hvs
        refine callF_ok hC hN hG (fun F ρ a w hs => ⟨_, (evs_rep hs hG hvs).app (capV_rep caps), ?_⟩) h
        have ef : a.eval (.tmp t) = _ := hs.env t _ hf
        obtain ⟨dst, op, type, pos, after, guard⟩ := o
        simp only at hop; subst hop
        simp only [execOp, resolve, Sem.run_bind, ef]
        have e : ((args.toList.map a.eval) ++ caps.map fun p => Value.pointer (some ⟨(ρ p.1).b, p.2, none⟩)).toArray = args.map a.eval ++ (caps.map fun p => Value.pointer (some ⟨(ρ p.1).b, p.2, none⟩)).toArray := by apply Array.ext'; simp
        rw [e]
        simp [Deferred.ofValue, invoke]
      · rename_i f k off ds vs hf hvs
        refine callF_ok hC hN hG (fun F ρ a w hs => ?_) h
        obtain ⟨cs, ef, hk⟩ : ∃ cs, a.eval (.tmp t) = .func (.func f) #[.agg (Value.pointer (some ⟨(ρ k).b, off, none⟩) :: cs).toArray] #[] ∧ CRep ⟨w, F⟩ ds cs := hs.env t _ hf
        refine ⟨_, ⟨_, _, rfl, ⟨_, rfl, _, _, rfl, rfl, rfl, upC_rep hk⟩, evs_rep hs hG hvs⟩, ?_⟩
        obtain ⟨dst, op, type, pos, after, guard⟩ := o
        simp only at hop; subst hop
        simp only [execOp, resolve, Sem.run_bind, ef]
        have e : (Value.agg (Value.pointer (some ⟨(ρ k).b, off, none⟩) :: cs).toArray :: args.toList.map a.eval).toArray = #[Value.agg (Value.pointer (some ⟨(ρ k).b, off, none⟩) :: cs).toArray] ++ args.map a.eval := by apply Array.ext'; simp
        rw [e]
        simp [Deferred.ofValue, invoke]
      · rename_i f vs hf hvs
        refine callF_ok hC hN hG (fun F ρ a w hs => ⟨_, evs_rep hs hG hvs, ?_⟩) h
        have ef : a.eval (.tmp t) = _ := hs.env t _ hf
        obtain ⟨dst, op, type, pos, after, guard⟩ := o
        simp only at hop; subst hop
        simp only [execOp, resolve, Sem.run_bind, ef]
        have e : (args.toList.map a.eval).toArray = args.map a.eval := by apply Array.ext'; simp
        rw [e]
        simp [Deferred.ofValue, invoke]
      · cases h
    · exact ofV_ok hN hG h
  case h_10 => exact ofV_ok hN hG h
end
end Go.Dx
