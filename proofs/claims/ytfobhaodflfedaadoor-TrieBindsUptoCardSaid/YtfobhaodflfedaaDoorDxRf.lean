/- A range over a function: a round's code out of the engine's walk; a body in three parts. -/
import Derived.Test.YtfobhaodflfedaaDoorDxWp
import Derived.RangeFuncLeaves
import Derived.RangeFuncRecord
import Derived.RangeFuncSeq
import Derived.RangeFuncCalls
import Derived.OrdersIn
import Derived.TacticsIn
namespace Go.Dx
open Go.RowKit
set_option linter.unusedVariables false
set_option linter.unusedSimpArgs false
abbrev RF (r : Nat) : Fence := Fence.wide.inRound r
section
variable {P : Program} {o : Oper} {ops : Array Oper} {a : Act} {w : World} {K : Act → World → Prop} {Q : Exit → Act → World → Prop} {r n : Nat}
theorem upon_in {x : Result Next} (h : o.upon P a K Q x) : o.uponIn (RF r) n P a K Q x := by
  cases x with
  | ok x w' =>
    cases x with
    | value v => exact h
    | skip => exact h
    | defer d => exact h
    | enter f args => exact ⟨fun h => (by cases h), CallsIn.inRound r (callsIn_wide.2 h)⟩
    | row row args => exact ⟨fun h => (by cases h), fun c cs _ => let ⟨v, w', hv, hs⟩ := h c cs; ⟨v, w', hv, stepsIn_wide.2 hs⟩⟩
    | _ => exact h.elim
  | halt x w' =>
    cases x with
    | panic v => exact h
    | _ => exact h.elim
theorem wp_in (hd : ∀ c, o.op ≠ .defer c) (h : o.wp P a w K Q) : o.wpIn (RF r) n P a w K Q :=
  ⟨fun _ _ => trivial, by
    show o.uponIn _ _ _ _ _ _ ((o.semAt (some r) a.eval).run P w)
    rw [Oper.semAt_some r a.eval o hd]; exact upon_in h⟩
def noDefer (ops : Array Oper) : Bool := ops.toList.all fun o => match o.op with
  | .defer _ => false
  | _ => true
theorem noDefer_at (h : noDefer ops = true) {i : Nat} (ho : ops[i]? = some o) : ∀ c, o.op ≠ .defer c := fun c e => by
  have := List.all_eq_true.1 h o (Array.mem_toList_iff.2 (Array.mem_of_getElem? ho))
  rw [e] at this; cases this
theorem wpOp_in (hQ : ¬ LetsOut Q) (hd : noDefer ops = true) {i : Nat} (h : wpOp P ops Q i K a w) : wpOpIn (RF r) n P ops Q i K a w := by
  unfold wpOp at h
  unfold wpOpIn
  cases ho : ops[i]? with
  | none => rw [ho] at h; exact h
  | some o =>
    rw [ho] at h
    dsimp only at h ⊢
    split
    · rename_i hw
      rw [if_pos hw] at h
      exact wp_in (noDefer_at hd ho) (h.elim id fun h => absurd h.2 hQ)
    · rename_i hw
      rw [if_neg hw] at h
      exact ⟨fun _ _ => trivial, h⟩
theorem wpOps_in (hQ : ¬ LetsOut Q) (hd : noDefer ops = true) : ∀ {is : List Nat} {a : Act} {w : World}, wpOps P ops Q is a w → wpOpsIn (RF r) n P ops Q is a w
  | [], a, w, h => h
  | i :: is, a, w, h => by
    rw [wpOps_cons] at h
    rw [wpOpsIn_cons]
    exact wpOpIn_mono (fun a w h => wpOps_in hQ hd h) (wpOp_in hQ hd h)
theorem wpAny_in (hQ : ¬ LetsOut Q) (hd : noDefer ops = true) {md : Region.Mode} : ∀ {fuel : Nat} {b : Array Bool} {a : Act} {w : World}, wpAny P md ops Q fuel b a w → wpAnyIn (RF r) n P md ops Q fuel b a w
  | 0, b, a, w, h => h
  | fuel + 1, b, a, w, h => ⟨h.1, fun i hi => wpOpIn_mono (fun a w h => wpAny_in hQ hd h) (wpOp_in hQ hd (h.2 i hi))⟩
end
/-- Code that goes straight on. -/
def rdB : Code → Bool
  | .skip => true
  | .region _ ops _ => noDefer ops
  | .seq x y => rdB x && rdB y
  | .block _ c => rdB c
  | _ => false
section
variable {X : Cx} {C : Ctx} {F : Nat → Prop} {ρ : Nat → Loc} {l : Env} {H : Heap} {a : Act} {w : World} {r m : Nat}
/-- Straight code, in a round. -/
theorem wpS_in (hC : CtOk X) (hN : C.N = X.N) (hG : C.G = X.G) (hm : X.P.follows .mixedOrders = true) : ∀ (c : Code) {n : Nat} {g : List Nat} {Q : Post} {l : Env} {H : Heap} {R : Exit → Act → World → Prop}, rdB c = true → ¬ LetsOut R →
    wpS X c n g Q l H → (∀ e l' H', Q e l' H' → WS C l' H' (R e.out)) → WS C l H fun a w => c.wpIn (RF r) m X.P R a w
  | .skip, n, g, Q, l, H, R, _, _, h, hQ => fun F ρ a w hs => wpIn_skip (hQ .nrm l H h F ρ a w hs)
  | .region id ops draw, n, g, Q, l, H, R, hb, hR, h, hQ => fun F ρ a w hs => by
    cases draw with
    | true => exact wpIn_region_any hm (wpAny_in hR hb (runD_any hC hN hG (fun l' H' k => hQ .nrm l' H' k) h hs))
    | false => exact wpIn_region (wpOps_in hR hb (runO_ok hC hN hG (fun l' H' k => hQ .nrm l' H' k) h hs))
  | .seq x y, n, g, Q, l, H, R, hb, hR, h, hQ => fun F ρ a w hs => by
    simp only [rdB, Bool.and_eq_true] at hb
    refine wpIn_seq (wpS_in hC hN hG hm x (R := Exit.then (y.wpIn (RF r) m X.P R) R) hb.1 (fun h => hR (by obtain ⟨a, w, h⟩ := h; exact ⟨a, w, h⟩)) h (fun e l' H' he => ?_) F ρ a w hs)
    cases e with
    | nrm => exact wpS_in hC hN hG hm y hb.2 hR he hQ
    | ext i => exact hQ (.ext i) l' H' he
    | ret => exact hQ .ret l' H' he
  | .block id c, n, g, Q, l, H, R, hb, hR, h, hQ => fun F ρ a w hs => by
    refine wpIn_block (wpS_in hC hN hG hm c (R := Exit.inBlock id R) hb (fun h => hR (by obtain ⟨a, w, h⟩ := h; exact ⟨a, w, h⟩)) h (fun e l' H' he => ?_) F ρ a w hs)
    cases e with
    | nrm => exact hQ .nrm l' H' he
    | ret => exact hQ .ret l' H' he
    | ext j =>
      intro F ρ a w hs
      cases hj : Nat.beq j id with
      | true =>
        simp only [inB, hj] at he
        have := Nat.eq_of_beq_eq_true hj; subst this
        simp only [Ek.out, Exit.inBlock, if_true]
        exact hQ .nrm l' H' he F ρ a w hs
      | false =>
        simp only [inB, hj] at he
        have : j ≠ id := fun e => by subst e; rw [Nat.beq_refl] at hj; cases hj
        simp only [Ek.out, Exit.inBlock, if_neg this]
        exact hQ (.ext j) l' H' he F ρ a w hs
  | .label _, _, _, _, _, _, _, hb, _, _, _ => by cases hb
  | .exit _, _, _, _, _, _, _, hb, _, _, _ => by cases hb
  | .ret, _, _, _, _, _, _, hb, _, _, _ => by cases hb
  | .cond _ _ _, _, _, _, _, _, _, hb, _, _, _ => by cases hb
  | .scope _, _, _, _, _, _, _, hb, _, _, _ => by cases hb
  | .loop _, _, _, _, _, _, _, hb, _, _, _ => by cases hb
  | .rangeFunc .., _, _, _, _, _, _, hb, _, _, _ => by cases hb
  | .goto _, _, _, _, _, _, _, hb, _, _, _ => by cases hb
/-- What a state shows, by itself. -/
structure Sq (N : Nat) (G : List (Nat × List DC)) (F : Nat → Prop) (ρ : Nat → Loc) (l : Env) (H : Heap) (a : Act) (w : World) : Prop extends HOk w F ρ H where
  env : ∀ t v, getE l t = some v → ERep ⟨w, F⟩ ρ v (a.tmps.getD t undef)
  gl : GOk G ⟨w, F⟩
  size : a.tmps.size = N
/-- A context that begins here. -/
def ctx0 (N : Nat) (G : List (Nat × List DC)) (F : Nat → Prop) (ρ : Nat → Loc) (H : Heap) (w : World) (df : List Deferred) : Ctx := ⟨N, w, fun i => ∃ k b, getH H k = some b ∧ (ρ k).Z i, F, ρ, G, df⟩
theorem Sq.st {N : Nat} {G : List (Nat × List DC)} (h : Sq N G F ρ l H a w) : St (ctx0 N G F ρ H w a.defers) F ρ l H a w :=
  { toHOk := h.toHOk, env := h.env, gl := h.gl, mine := fun k b hk i hi => .inr ⟨k, b, hk, hi⟩, f0 := fun i hi => hi, f1 := fun i hi => .inl hi, keep := Keep.refl _ _ _, pin := fun k hk => rfl, defers := rfl, size := h.size }
theorem St.sq {N : Nat} {G : List (Nat × List DC)} {df : List Deferred} {F' : Nat → Prop} {ρ' : Nat → Loc} {l' : Env} {H' : Heap} {a' : Act} {w' : World} (h : St (ctx0 N G F ρ H w df) F' ρ' l' H' a' w') :
    Sq N G F' ρ' l' H' a' w' ∧ Fr H H' (fun k => k < 100000) F ρ w F' ρ' w' ∧ a'.defers = df :=
  ⟨{ toHOk := h.toHOk, env := h.env, gl := h.gl, size := h.size },
   ⟨h.keep.os, h.keep.tape, h.keep.output, h.keep.size, fun i hi hz => h.keep.block i hi fun ⟨k, b, hk, hz'⟩ => hz k b hk hz', h.f0, h.f1, fun k hk => h.pin k (by omega), h.mine⟩, h.defers⟩
/-- What other blocks do leaves a state as it is. -/
theorem Sq.grown {N : Nat} {G : List (Nat × List DC)} {w' : World} (h : Sq N G F ρ l H a w) (hsz : w.heap.size ≤ w'.heap.size) (hF : ∀ i, F i → w'.heap[i]? = w.heap[i]?) (hZ : ∀ k b, getH H k = some b → ∀ i, (ρ k).Z i → w'.heap[i]? = w.heap[i]?) : Sq N G F ρ l H a w' := by
  have hle : (⟨w, F⟩ : Mem).le ⟨w', F⟩ := Mem.le_of (fun i h => h) hF
  exact { hp := fun k b hk => (h.hp k b hk).mono hle fun i hi => hZ k b hk i hi, own := fun k b hk i hi => ⟨(h.own k b hk i hi).1, by have := (h.own k b hk i hi).2; omega⟩, dis := h.dis, frz := fun i hi => by have := h.frz i hi; omega,
          env := fun t v hv => (h.env t v hv).mono hle, gl := h.gl.mono hle, size := h.size }
end
section
variable {P : Program} {Q : Exit → Act → World → Prop} {a : Act} {w : World}
def lrec (fn : FuncId) (a : Act) (ps : Array Tmp) (assign body : Code) (w : World) (st : LoopState) : Loop := { state := st, pending := none, fn, tmps := a.tmps, params := ps, assign, body, defers := w.heap.size }
def entered (fn : FuncId) (a : Act) (ps : Array Tmp) (assign body : Code) (w : World) : World := (w.alloc (.deferred (some []))).alloc (.loop (lrec fn a ps assign body w .ready))
/-- A range over a function whose body never leaves it. -/
theorem wp_range {g : Operand} {ps : Array Tmp} {assign body : Code} {gf : Nat} {lb : Array Value} (hg : a.eval g = .func (.func gf) #[] lb) (eg : ∀ args w, (callFunc gf args).run P w = .ok (.enter gf args) w)
    (h : ∀ fn, Calls P gf (#[.func (.yield (w.heap.size + 1)) #[] #[]] ++ lb) (entered fn a ps assign body w) fun e W2 => (∃ v, e = .returned v) ∧ W2.heap[w.heap.size + 1]? = some (.loop (lrec fn a ps assign body w .ready)) ∧
      Q .normal { a with defers := { target := .collected w.heap.size, args := #[] } :: a.defers } (W2.putObj (w.heap.size + 1) (.loop (lrec fn a ps assign body w .exhausted)))) :
    (Code.rangeFunc g ps assign body).wp P Q a w := by
  refine (wpIn_wide (n := 1)).1 (wpIn_rangeFunc (F := Fence.wide) fun fn _ => ?_)
  refine ⟨w.heap.size + 1, [{ target := .collected w.heap.size, args := #[] }], entered fn a ps assign body w, { target := .fn (.func gf) lb, args := #[.func (.yield (w.heap.size + 1)) #[] #[]] }, entered fn a ps assign body w, gf,
    #[.func (.yield (w.heap.size + 1)) #[] #[]] ++ lb, entered fn a ps assign body w, run_enterLoop_outer _ _ _ _ _, ?_, fun _ _ => trivial, ?_, fun _ => Nat.le_refl 1, ?_⟩
  · simp only [resolve, rangeCall, hg]
    simp [go_sem]
  · simp [invoke, go_sem, eg]
  · refine (callsIn_wide.2 (h fn)).mono ?_
    rintro e W2 ⟨⟨v, rfl⟩, hl, hq⟩
    exact ⟨none, _, run_endLoop hl (by simp [lrec]), hq⟩
end
section
variable {X : Cx} {F : Nat → Prop} {ρ : Nat → Loc} {l l1 l2 : Env} {H H2 : Heap} {a : Act} {w : World} {L m : Nat}
/-- A round of a range over a function, out of the engine's walk. -/
theorem round_ok (hC : CtOk X) (hm : X.P.follows .mixedOrders = true) {t : Nat} {assign body : Code} {fn : FuncId} {w0 : World} {v : Value} (ha : rdB assign = true) (hb : rdB body = true)
    (hs : Sq X.N X.G F ρ l1 H { tmps := a.tmps.setIfInBounds t v, defers := [] } w) (hL : w.heap[L]? = some (.loop (lrec fn a #[t] assign body w0 .ready))) (hFL : ¬ F L) (hZL : ∀ k b, getH H k = some b → ¬ (ρ k).Z L)
    {Qm : Env → Heap → Prop} (h1 : wpS X assign 0 [] (fun | .nrm => Qm | _ => fun _ _ => False) l1 H)
    (h2 : ∀ l' H', Qm l' H' → H' = H ∧ wpS X body 0 [] (fun | .nrm => fun l H => matchP X.N l H l2 H2 True | _ => fun _ _ => False) l' H) :
    YieldAt Fence.wide m X.P L #[v] w fun e W' => e = .returned (.bool true) ∧ W'.heap[L]? = some (.loop (lrec fn a #[t] assign body w0 .ready)) ∧
      ∃ F' ρ' a', Sq X.N X.G F' ρ' l2 H2 a' W' ∧ ¬ F' L ∧ (∀ k b, getH H2 k = some b → ¬ (ρ' k).Z L) ∧ Fr H H2 (fun k => k < 100000) F ρ w F' ρ' W' := by
  have hy := run_yield (P := X.P) (args := #[v]) hL rfl
  have hlt : L < w.heap.size := (Array.getElem?_eq_some_iff.1 hL).1
  refine ⟨fn, _, assign, body, hy, roundIn_of_wpIn trivial ?_⟩
  have tm : ((lrec fn a #[t] assign body w0 .ready).params.zip #[v]).foldl (fun tmps (x : Tmp × Value) => tmps.setIfInBounds x.1 x.2) (lrec fn a #[t] assign body w0 .ready).tmps = a.tmps.setIfInBounds t v := by
    simp [lrec]
  rw [tm]
  have s0 := hs.st
  have szp : ∀ (W : World) (o : Obj), (W.putObj L o).heap.size = W.heap.size := fun W o => by simp [World.putObj]
  refine wpS_in (X := X) (C := ctx0 X.N X.G F ρ H w []) (r := L) (m := m) hC rfl rfl hm assign ha (fun h => by obtain ⟨_, _, h⟩ := h; exact h) h1 (fun e l' H' he => ?_) F ρ _ w s0
  cases e with
  | ret => exact he.elim
  | ext i => exact he.elim
  | nrm =>
    intro F1 ρ1 a1 w1 s1
    obtain ⟨q1, f1, d1⟩ := s1.sq
    obtain ⟨rfl, hbd⟩ := h2 l' H' he
    have L1 : w1.heap[L]? = some (.loop (lrec fn a #[t] assign body w0 .ready)) := (f1.blk L hlt hZL).trans hL
    have hlt1 : L < w1.heap.size := (Array.getElem?_eq_some_iff.1 L1).1
    have nF1 : ¬ F1 L := fun h => by
      rcases f1.f1 L h with h | h | ⟨k, b, hk, hz⟩
      · exact hFL h
      · omega
      · exact hZL k b hk hz
    have nZ1 : ∀ k b, getH H' k = some b → ¬ (ρ1 k).Z L := fun k b hk hz => by
      rcases f1.own k b hk L hz with h | ⟨k0, b0, hk0, hz0⟩
      · omega
      · exact hZL k0 b0 hk0 hz0
    let w2 := w1.putObj L (.loop (lrec fn a #[t] assign body w0 .busy))
    have q2 : Sq X.N X.G F1 ρ1 l' H' a1 w2 := q1.grown (by rw [szp]; exact Nat.le_refl _) (fun i hi => World.putObj_heap_other fun e => nF1 (e ▸ hi)) (fun k b hk i hi => World.putObj_heap_other fun e => nZ1 k b hk (e ▸ hi))
    refine ⟨w2, run_beginRound L1 rfl, ?_⟩
    refine wpS_in (X := X) (C := ctx0 X.N X.G F1 ρ1 H' w2 a1.defers) (r := L) (m := m) hC rfl rfl hm body hb (fun h => by obtain ⟨_, _, h⟩ := h; exact h) hbd (fun e l3 H3 he3 => ?_) F1 ρ1 a1 w2 q2.st
    cases e with
    | ret => exact he3.elim
    | ext i => exact he3.elim
    | nrm =>
      intro F2 ρ2 a2 w3 s2
      obtain ⟨_, mm⟩ := matchP_ok (C := ctx0 X.N X.G F1 ρ1 H' w2 a1.defers) he3
      obtain ⟨F3, ρ3, s3⟩ := mm F2 ρ2 a2 w3 s2
      obtain ⟨q3, f3, _⟩ := s3.sq
      have L2 : w2.heap[L]? = some (.loop (lrec fn a #[t] assign body w0 .busy)) := World.putObj_heap_same hlt1
      have L3 : w3.heap[L]? = some (.loop (lrec fn a #[t] assign body w0 .busy)) := (f3.blk L (by rw [szp]; exact hlt1) nZ1).trans L2
      have hlt3 : L < w3.heap.size := (Array.getElem?_eq_some_iff.1 L3).1
      have nF3 : ¬ F3 L := fun h => by
        rcases f3.f1 L h with h | h | ⟨k, b, hk, hz⟩
        · exact nF1 h
        · rw [szp] at h; omega
        · exact nZ1 k b hk hz
      have nZ3 : ∀ k b, getH H2 k = some b → ¬ (ρ3 k).Z L := fun k b hk hz => by
        rcases f3.own k b hk L hz with h | ⟨k0, b0, hk0, hz0⟩
        · rw [szp] at h; omega
        · exact nZ1 k0 b0 hk0 hz0
      refine ⟨.bool true, w3.putObj L (.loop (lrec fn a #[t] assign body w0 .ready)), run_endRound none L3, rfl, World.putObj_heap_same hlt3, F3, ρ3, a2, q3.grown (by rw [szp]; exact Nat.le_refl _) (fun i hi => World.putObj_heap_other fun e => nF3 (e ▸ hi)) (fun k b hk i hi => World.putObj_heap_other fun e => nZ3 k b hk (e ▸ hi)), nF3, nZ3, ?_⟩
      refine ⟨f3.os.trans f1.os, f3.tape.trans f1.tape, f3.output.trans f1.output, ?_, fun i hi hz => ?_, fun i hi => f3.f0 i (f1.f0 i hi), fun i hi => ?_, fun k hk => (f3.rho k hk).trans (f1.rho k hk), fun k b hk i hi => ?_⟩
      · have := f1.size; have h3 := f3.size; rw [szp] at h3 ⊢; omega
      · by_cases e : i = L
        · subst e; rw [World.putObj_heap_same hlt3, hL]
        · rw [World.putObj_heap_other e]
          have hz1 : ∀ k b, getH H' k = some b → ¬ (ρ1 k).Z i := fun k b hk hzi => by
            rcases f1.own k b hk i hzi with h | ⟨k0, b0, hk0, hz0⟩
            · omega
            · exact hz k0 b0 hk0 hz0
          rw [f3.blk i (by rw [szp]; have := f1.size; omega) hz1, World.putObj_heap_other e, f1.blk i hi hz]
      · rcases f3.f1 i hi with h | h | ⟨k, b, hk, hzi⟩
        · exact f1.f1 i h
        · rw [szp] at h; have := f1.size; exact .inr (.inl (by omega))
        · rcases f1.own k b hk i hzi with h | h
          · exact .inr (.inl h)
          · exact .inr (.inr h)
      · rcases f3.own k b hk i hi with h | ⟨k0, b0, hk0, hz0⟩
        · rw [szp] at h; have := f1.size; exact .inl (by omega)
        · exact f1.own k0 b0 hk0 i hz0
end
end Go.Dx
