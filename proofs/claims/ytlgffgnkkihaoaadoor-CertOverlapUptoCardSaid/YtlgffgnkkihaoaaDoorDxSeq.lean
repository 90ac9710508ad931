/- Rows of operations, one behind the other. -/
import Derived.Test.YtlgffgnkkihaoaaDoorDxMatch
namespace Go.Dx
open Go.RowKit
set_option linter.unusedVariables false
set_option linter.unusedSimpArgs false

/-- Own blocks that an operation wants as data. -/
def refsOfE : Option EV → List Nat
  | some e => e.refs
  | none => []
/-- What is to be data ahead of its going into a literal: not what functions hold. -/
def frA : AV → List Nat
  | .fn _ _ => []
  | .fb _ _ _ _ => []
  | x => x.refs
def frC : List Chunk → List Nat
  | [] => []
  | .one a :: r => frA a ++ frC r
  | _ :: r => frC r
def frOf : Option EV → List Nat
  | some (.s (.a x)) => frA x
  | some (.s (.agg cs)) => frC cs
  | some e => e.refs
  | none => []
def needP (G : List (Nat × List DC)) (l : Env) : List (Nat × Operand) → List Nat
  | [] => []
  | (_, x) :: r => frOf (ev G l x) ++ needP G l r
def needL (G : List (Nat × List DC)) (l : Env) : List Bool → List Operand → List Nat
  | _, [] => []
  | true :: ms, _ :: r => needL G l ms r
  | false :: ms, x :: r => refsOfE (ev G l x) ++ needL G l ms r
  | [], x :: r => refsOfE (ev G l x) ++ needL G l [] r
def need (X : Cx) (l : Env) (o : Oper) : List Nat :=
  match o.op with
  | .buildSlice _ _ parts => needP X.G l parts.toList
  | .slice _ x _ _ _ => match aOf (ev X.G l x) with
    | some (.rw k) => match X.ann 999999 [] with
      | [] => [k]
      | _ :: _ => []
    | _ => []
  | .store _ x y => match aOf (ev X.G l x) with
    | some (.re _ _ _ _) => refsOfE (ev X.G l y)
    | _ => []
  | .call c => match c.callee with
    | .value (.func f) => match X.ct f with
      | some ct => match ct.al with
        | true => needL X.G l ct.ms c.args.toList
        | false => []
      | none => []
    | .value (.tmp t) => match getE l t with
      | some (.s (.a (.fn (.func f) _))) => match X.ct f with
        | some ct => match ct.al with
          | true => needL X.G l ct.ms c.args.toList
          | false => []
        | none => []
      | some (.s (.a (.fb (.func f) _ _ _))) => match X.ct f with
        | some ct => match ct.al with
          | true => needL X.G l (ct.ms.drop 1) c.args.toList
          | false => []
        | none => []
      | _ => []
    | _ => []
  | _ => []
def stepF (X : Cx) (l : Env) (H : Heap) (o : Oper) : SRes :=
  match frzAll (need X l o) l H with
  | some (l1, H1) => step X l1 H1 o
  | none => none
/-- What an operation's guard says. -/
inductive Gd where
  | yes
  | no
  | ask (t : Nat) (b : Bool) (want : Bool)
  | bad
def guardV (ops : Array Oper) (l : Env) (o : Oper) : Gd :=
  match o.guard with
  | none => .yes
  | some (g, want) => match (ops[g]?).bind (·.dst) with
    | some t => match getE l t with
      | some (.s (.a (.d (.v (.bool b))))) => .ask t b want
      | some (.s (.a (.d (.v (.tuple _))))) => .no
      | _ => .bad
    | none => .bad
def eU : EV := S1 (.d (.v undef))
section
variable {X : Cx} {C : Ctx} {F : Nat → Prop} {ρ : Nat → Loc} {l : Env} {H : Heap} {a : Act} {w : World}
theorem stepF_ok {o : Oper} {ps : List Prop} {l' : Env} {H' : Heap} {nn : List Nat} (hC : CtOk X) (hN : C.N = X.N) (hG : C.G = X.G) (h : stepF X l H o = some (ps, l', H', nn)) : StepOk X.P C o l H ps l' H' (fun k => k ∈ nn) := by
  unfold stepF at h
  split at h
  · rename_i l1 H1 h1
    intro hp F ρ a w hs Q K hK
    obtain ⟨F1, s1, fr1⟩ := frzAll_st hs h1
    refine step_ok hC hN hG h hp F1 ρ a w s1 Q K fun F' ρ' u w' s2 fr2 => hK F' ρ' u w' s2 ?_
    have := fr1.trans fr2
    simpa using this
  · cases h
theorem bool_at (hs : St C F ρ l H a w) {t : Nat} {b : Bool} (h : getE l t = some (eB b)) : a.tmps[t]? = some (.bool b) := by
  have : a.tmps.getD t undef = .bool b := hs.env t _ h
  rw [Array.getD_eq_getD_getElem?] at this
  cases hq : a.tmps[t]? with
  | none => simp [hq, undef] at this
  | some z => simp [hq] at this; rw [this]
theorem guard_ask (hs : St C F ρ l H a w) {ops : Array Oper} {o : Oper} {t : Nat} {b want : Bool} (h : guardV ops l o = .ask t b want) : Region.wanted o (yielded ops a.tmps) = (b == want) ∧ getE l t = some (eB b) := by
  unfold guardV at h
  split at h
  · cases h
  · rename_i g want' hn
    split at h
    · rename_i t' ht
      split at h
      · rename_i b' hb
        simp only [Gd.ask.injEq] at h; obtain ⟨rfl, rfl, rfl⟩ := h
        refine ⟨?_, hb⟩
        have := bool_at hs hb
        unfold Region.wanted
        simp only [hn]
        unfold yielded
        simp only [ht, Option.bind_some, this]
        cases b' <;> cases want' <;> rfl
      · cases h
      · cases h
    · cases h
theorem guard_yes (hs : St C F ρ l H a w) {ops : Array Oper} {o : Oper} (h : guardV ops l o = .yes) : Region.wanted o (yielded ops a.tmps) = true := by
  unfold guardV at h
  split at h
  · rename_i hn; unfold Region.wanted; simp only [hn]
  · split at h
    · split at h <;> cases h
    · cases h
theorem guard_no (hs : St C F ρ l H a w) {ops : Array Oper} {o : Oper} (h : guardV ops l o = .no) : Region.wanted o (yielded ops a.tmps) = false := by
  unfold guardV at h
  split at h
  · cases h
  · rename_i g want' hn
    split at h
    · rename_i t' ht
      split at h
      · cases h
      · rename_i vs hb
        have : a.tmps.getD t' undef = .tuple vs := hs.env t' _ hb
        unfold Region.wanted
        simp only [hn]
        unfold yielded
        simp only [ht, Option.bind_some]
        cases hq : a.tmps[t']? with
        | none => rfl
        | some z =>
          rw [Array.getD_eq_getD_getElem?] at this
          simp [hq] at this
          subst this; rfl
      · cases h
    · cases h
/-- A slot's bool, by its value. -/
theorem St.setB (hs : St C F ρ l H a w) {t : Nat} {b : Bool} (h : getE l t = some (eB b)) (b' : Bool) (e : b = b') : St C F ρ (putE l t (eB b')) H a w := by
  subst e
  refine hs.env_map fun t' v' hv' => ?_
  by_cases ht : t = t'
  · subst ht
    rw [getE_put_same] at hv'
    simp only [Option.some.injEq] at hv'; subst hv'
    exact ⟨_, h, fun u hu => hu⟩
  · rw [getE_put_ne _ _ ht] at hv'
    exact ⟨v', hv', fun u hu => hu⟩
/-- One operation that is to be done. -/
def doO (X : Cx) (o : Oper) (K : Env → Heap → Prop) (l : Env) (H : Heap) : Prop :=
  match o.op, dstOk X.N o.dst with
  | .pick c x y, true => match ev X.G l c with
    | some (.s (.a (.d (.v (.bool b))))) => match b with
      | true => match ev X.G l x with
        | some e => K (putO l o.dst e) H
        | none => False
      | false => match ev X.G l y with
        | some e => K (putO l o.dst e) H
        | none => False
    | _ => False
  | _, _ => brX X (splitO X l H o) fun X => match stepF X l H o with
    | some (ps, l', H', _) => andL ps (K l' H')
    | none => Bad o
def skipO (X : Cx) (o : Oper) (K : Env → Heap → Prop) (l : Env) (H : Heap) : Prop :=
  match dstOk X.N o.dst with
  | true => K (putO l o.dst eU) H
  | false => False
def actO (X : Cx) (o : Oper) (K : Env → Heap → Prop) (l : Env) (H : Heap) (b : Bool) : Prop :=
  match b with
  | true => doO X o K l H
  | false => skipO X o K l H
def runO (X : Cx) (ops : Array Oper) : List Nat → (Env → Heap → Prop) → Env → Heap → Prop
  | [], K, l, H => K l H
  | i :: is, K, l, H => match ops[i]? with
    | none => False
    | some o => match guardV ops l o with
      | .yes => doO X o (runO X ops is K) l H
      | .no => skipO X o (runO X ops is K) l H
      | .ask t b want => match b with
        | true => actO X o (runO X ops is K) (putE l t (eB true)) H want
        | false => actO X o (runO X ops is K) (putE l t (eB false)) H (!want)
      | .bad => False
/-- From every state that is known so. -/
def WS (C : Ctx) (l : Env) (H : Heap) (K : Act → World → Prop) : Prop := ∀ F ρ a w, St C F ρ l H a w → K a w
theorem doO_ok {o : Oper} {K : Env → Heap → Prop} (hC : CtOk X) (hN : C.N = X.N) (hG : C.G = X.G) (h : doO X o K l H) {Q : Exit → Act → World → Prop} {R : Act → World → Prop} (hK : ∀ l' H', K l' H' → WS C l' H' R) (hs : St C F ρ l H a w) : o.wp X.P a w R Q := by
  have gen1 : ∀ X' : Cx, X'.P = X.P → X'.N = X.N → X'.G = X.G → CtOk X' → (match stepF X' l H o with | some (ps, l', H', _) => andL ps (K l' H') | none => Bad o) → o.wp X.P a w R Q := fun X' eP eN eG hC' h => by
    split at h
    · rename_i ps l' H' nn hst
      obtain ⟨hp, hk⟩ := andL_iff.1 h
      rw [← eP]
      exact stepF_ok hC' (hN.trans eN.symm) (hG.trans eG.symm) hst hp F ρ a w hs Q R fun F' ρ' u w' s2 _ => hK l' H' hk F' ρ' _ w' s2
    · exact h.elim
  have gen : (brX X (splitO X l H o) fun X => match stepF X l H o with | some (ps, l', H', _) => andL ps (K l' H') | none => Bad o) → o.wp X.P a w R Q := fun h => (brX_ok h).elim (gen1 X rfl rfl rfl hC) (gen1 X.alt rfl rfl rfl hC.alt)
  unfold doO at h
  split at h
  · rename_i c x y hop hd
    split at h
    · rename_i b hc
      have ec : a.eval c = .bool b := hs.ev hG hc
      have fin : ∀ {z : Operand} {e : EV}, (if b then a.eval x else a.eval y) = a.eval z → ev X.G l z = some e → K (putO l o.dst e) H → o.wp X.P a w R Q := fun {z e} hz he hk => by
        have hrun : (execOp a.eval o).run X.P w = .ok (.value (a.eval z)) w := by
          obtain ⟨dst, op, type, pos, after, guard⟩ := o
          simp only at hop; subst hop
          rw [← hz]
          simp only [execOp, ec, asBool]
          rfl
        simp only [Oper.wp, hrun, Oper.upon]
        exact hK _ _ hk F ρ _ w (hs.putO (hN ▸ hd) (hs.ev hG he))
      cases b with
      | true =>
        simp only at h
        split at h
        · rename_i e he; exact fin rfl he h
        · exact h.elim
      | false =>
        simp only at h
        split at h
        · rename_i e he; exact fin rfl he h
        · exact h.elim
    · exact h.elim
  · exact gen h
theorem runO_ok {ops : Array Oper} (hC : CtOk X) (hN : C.N = X.N) (hG : C.G = X.G) {Q : Exit → Act → World → Prop} {K : Env → Heap → Prop} (hK : ∀ l' H', K l' H' → WS C l' H' (Q .normal)) :
    ∀ {is : List Nat} {l : Env} {H : Heap} {F : Nat → Prop} {ρ : Nat → Loc} {a : Act} {w : World}, runO X ops is K l H → St C F ρ l H a w → wpOps X.P ops Q is a w
  | [], l, H, F, ρ, a, w, h, hs => hK l H h F ρ a w hs
  | i :: is, l, H, F, ρ, a, w, h, hs => by
    simp only [runO] at h
    split at h
    · exact h.elim
    · rename_i o ho
      simp only [wpOps, ho]
      have doit : ∀ {l : Env}, doO X o (runO X ops is K) l H → St C F ρ l H a w → Region.wanted o (yielded ops a.tmps) = true → (if Region.wanted o (yielded ops a.tmps) = true then o.wp X.P a w (wpOps X.P ops Q is) Q ∨ (o.asks X.P a w ∧ LetsOut Q) else wpOps X.P ops Q is (a.put o.dst undef) w) := fun {l} h hs hw => by
        rw [if_pos hw]
        exact .inl (doO_ok hC hN hG h (fun l' H' hk F' ρ' a' w' hs' => runO_ok hC hN hG hK hk hs') hs)
      have skip : ∀ {l : Env}, skipO X o (runO X ops is K) l H → St C F ρ l H a w → Region.wanted o (yielded ops a.tmps) = false → (if Region.wanted o (yielded ops a.tmps) = true then o.wp X.P a w (wpOps X.P ops Q is) Q ∨ (o.asks X.P a w ∧ LetsOut Q) else wpOps X.P ops Q is (a.put o.dst undef) w) := fun {l} h hs hw => by
        rw [if_neg (by simp [hw])]
        unfold skipO at h
        split at h
        · rename_i hd
          exact runO_ok hC hN hG hK h (hs.putO (hN ▸ hd) (e := eU) rfl)
        · exact h.elim
      split at h
      · rename_i hg; exact doit h hs (guard_yes hs hg)
      · rename_i hg; exact skip h hs (guard_no hs hg)
      · rename_i t b want hg
        obtain ⟨g1, g2⟩ := guard_ask hs hg
        cases b with
        | true =>
          simp only at h
          have s2 := hs.setB g2 true rfl
          cases want with
          | true => exact doit h s2 (by rw [g1]; rfl)
          | false => exact skip h s2 (by rw [g1]; rfl)
        | false =>
          simp only at h
          have s2 := hs.setB g2 false rfl
          cases want with
          | true => exact skip h s2 (by rw [g1]; rfl)
          | false => exact doit h s2 (by rw [g1]; rfl)
      · exact h.elim
end
end Go.Dx
