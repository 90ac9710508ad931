/- Whole bodies: what is left to show. -/
import Derived.Test.YtlgffgnkkihaoaaDoorDxDraw2
import Derived.Deep.LoopGhost
import Derived.Scope
import Derived.LoopN
namespace Go.Dx
open Go.RowKit
set_option linter.unusedVariables false
set_option linter.unusedSimpArgs false

inductive Ek where
  | nrm
  | ext (id : Nat)
  | ret
def Ek.out : Ek → Exit
  | .nrm => .normal
  | .ext i => .exit i
  | .ret => .ret
abbrev Post := Ek → Env → Heap → Prop
def thenE (K : Env → Heap → Prop) (Q : Post) : Post
  | .nrm => K
  | .ext i => Q (.ext i)
  | .ret => Q .ret
def inB (id : Nat) (Q : Post) : Post
  | .ext j => match Nat.beq j id with
    | true => Q .nrm
    | false => Q (.ext j)
  | .nrm => Q .nrm
  | .ret => Q .ret
def litC (c : Operand) (l : Env) (b : Bool) : Env :=
  match c with
  | .tmp t => putE l t (eB b)
  | _ => l
/-- A state that one of several kinds of a loop's head tells; the first that has its form. -/
def matchE (N : Nat) (l : Env) (H : Heap) (k : Nat → Prop) : List Ann → Prop
  | [] => False
  | [A] => ∃ t, matchP N l H (A.l t) (A.H t) (A.J t ∧ k (A.m t))
  | A :: r => match okP N l H (A.l A.t0) (A.H A.t0) with
    | true => ∃ t, matchP N l H (A.l t) (A.H t) (A.J t ∧ k (A.m t))
    | false => matchE N l H k r
def allA (f : (A : Ann) → A.τ → Prop) : List Ann → Prop
  | [] => True
  | [A] => ∀ t, A.J t → f A t
  | A :: r => (∀ t, A.J t → f A t) ∧ allA f r
theorem matchE_mem {N : Nat} {l : Env} {H : Heap} {k : Nat → Prop} : ∀ {ms : List Ann}, matchE N l H k ms → ∃ A ∈ ms, ∃ t, matchP N l H (A.l t) (A.H t) (A.J t ∧ k (A.m t))
  | [A], h => ⟨A, by simp, h⟩
  | A :: B :: r, h => by
    unfold matchE at h
    split at h
    · exact ⟨A, by simp, h⟩
    · obtain ⟨C, h1, h2⟩ := matchE_mem h; exact ⟨C, List.mem_cons_of_mem _ h1, h2⟩
theorem allA_mem {f : (A : Ann) → A.τ → Prop} : ∀ {ms : List Ann}, allA f ms → ∀ A ∈ ms, ∀ t, A.J t → f A t
  | [A], h, B, hB => by rw [List.mem_singleton.1 hB]; exact h
  | A :: B :: r, h, C, hC => by
    rcases List.mem_cons.1 hC with rfl | hC
    · exact h.1
    · exact allA_mem h.2 C hC
/-- How many rounds of a loop are gone through one by one; nought: it has annotations. -/
def unrOf : List Ann → Nat
  | A :: _ => A.unr
  | [] => 0
/-- The slots that live on. -/
def keepE : List Nat → Env → Env
  | [], _ => []
  | k :: r, l => match getE l k with
    | some e => (k, e) :: keepE r l
    | none => keepE r l
def bigN : List Nat → List Nat
  | [] => []
  | k :: r => match Nat.ble 100000 k with
    | true => k :: bigN r
    | false => bigN r
def renEnv (π : List (Nat × Nat)) : Env → Env
  | [] => []
  | (t, e) :: r => (t, e.ren π) :: renEnv π r
def shiftN : List Nat → List (Nat × Nat)
  | [] => []
  | k :: r => match Nat.blt k 100000 with
    | true => (k, k + 2000) :: shiftN r
    | false => shiftN r
/-- What no slot reaches is let go; what stays gets names that no slot has. -/
def cutU (ks : List Nat) (K : Env → Heap → Prop) (l : Env) (H : Heap) : Prop :=
  match ks with
  | [] => K l H
  | _ :: _ => match subHp H (reach H 8 (addAll (refsE (keepE ks l) ++ bigN (keysH H)) [])) with
    | some H' => match pinB (shiftN (keysH H')) && (allN (chkN (shiftN (keysH H'))) (refsE (keepE ks l)) && allN (chkN (shiftN (keysH H'))) (refsH H')) with
      | true => K (renEnv (shiftN (keysH H')) (keepE ks l)) (renH (shiftN (keysH H')) H')
      | false => BadM [800012]
    | none => BadM (800010 :: reach H 8 (addAll (refsE (keepE ks l) ++ bigN (keysH H)) []))
def liveOf : List Ann → List Nat
  | A :: _ => keysE (A.l A.t0)
  | [] => []
def unrS (ks : List Nat) (f : (Env → Heap → Prop) → Env → Heap → Prop) : Nat → Env → Heap → Prop
  | 0 => fun _ _ => BadM [800011]
  | n + 1 => f (cutU ks (unrS ks f n))
theorem keepE_get : ∀ {ks : List Nat} {l : Env} {t : Nat} {v : EV}, getE (keepE ks l) t = some v → getE l t = some v
  | k :: r, l, t, v, h => by
    simp only [keepE] at h
    split at h
    · rename_i e he
      by_cases hk : k = t
      · subst hk; simpa [getE, he] using h
      · simp only [getE, nbeq_false hk] at h; exact keepE_get h
    · exact keepE_get h
theorem renEnv_get {π : List (Nat × Nat)} : ∀ {l : Env} {t : Nat} {v : EV}, getE (renEnv π l) t = some v → ∃ u, getE l t = some u ∧ v = u.ren π
  | (j, e) :: r, t, v, h => by
    simp only [renEnv, getE] at h ⊢
    split at h
    · simp only [Option.some.injEq] at h; exact ⟨e, rfl, h.symm⟩
    · exact renEnv_get h
theorem ren_all {C : Ctx} {F : Nat → Prop} {ρ : Nat → Loc} {l : Env} {H : Heap} {a : Act} {w : World} (hs : St C F ρ l H a w) {π : List (Nat × Nat)} (hpin : pinB π = true) (h1 : allN (chkN π) (refsE l) = true) (h2 : allN (chkN π) (refsH H) = true) :
    ∃ ρ', St C F ρ' (renEnv π l) (renH π H) a w := by
  let ρ' : Nat → Loc := fun k => ρ (look (swapP π) k)
  have hE : ∀ k ∈ refsE l, ρ' (look π k) = ρ k := fun k hk => by show ρ _ = _; rw [Nat.eq_of_beq_eq_true (allN_of h1 k hk)]
  have hH : ∀ k ∈ refsH H, ρ' (look π k) = ρ k := fun k hk => by show ρ _ = _; rw [Nat.eq_of_beq_eq_true (allN_of h2 k hk)]
  refine ⟨ρ', { hs with env := fun t e he => ?_, hp := fun k b hb => ?_, own := fun k b hb i hi => ?_, dis := fun k k' b b' hb hb' hne i hi hi' => ?_, mine := fun k b hb i hi => ?_, pin := fun k hk => ?_ }⟩
  · obtain ⟨j, c, g1, rfl, rfl⟩ := renH_get hb
    rw [hH j (refsH_get g1).1]
    exact ren_B (fun i hi => hH i ((refsH_get g1).2 i hi)) (hs.hp j c g1)
  · obtain ⟨j, c, g1, rfl, rfl⟩ := renH_get hb
    rw [hH j (refsH_get g1).1] at hi
    exact hs.own j c g1 i hi
  · obtain ⟨j, c, g1, rfl, rfl⟩ := renH_get hb
    obtain ⟨j', c', g1', rfl, rfl⟩ := renH_get hb'
    rw [hH j (refsH_get g1).1] at hi
    rw [hH j' (refsH_get g1').1] at hi'
    exact hs.dis j j' c c' g1 g1' (fun e => hne (by rw [e])) i hi hi'
  · obtain ⟨u, g1, rfl⟩ := renEnv_get he
    exact ren_E (fun k hk => hE k (refsE_get g1 k hk)) (hs.env t u g1)
  · obtain ⟨j, c, g1, rfl, rfl⟩ := renH_get hb
    rw [hH j (refsH_get g1).1] at hi
    exact hs.mine j c g1 i hi
  · show ρ (look (swapP π) k) = _
    by_cases hm : k ∈ seconds π
    · have := allN_of hpin k hm
      simp only [Nat.ble_eq_true_of_le hk] at this
      rw [Nat.eq_of_beq_eq_true this]; exact hs.pin k hk
    · rw [look_pin hm]; exact hs.pin k hk
theorem cutU_ok {C : Ctx} {ks : List Nat} {K : Env → Heap → Prop} {R : Act → World → Prop} (hK : ∀ l H, K l H → WS C l H R) : ∀ l H, cutU ks K l H → WS C l H R := fun l H h F ρ a w hs => by
  unfold cutU at h
  cases ks with
  | nil => exact hK _ _ h F ρ a w hs
  | cons k0 ks =>
  dsimp only at h
  split at h
  · rename_i H' hH
    split at h
    · rename_i hc
      simp only [Bool.and_eq_true] at hc
      obtain ⟨ρ1, s2⟩ := ren_all (l := keepE (k0 :: ks) l) ((hs.env_map (l' := keepE (k0 :: ks) l) fun t v hv => ⟨v, keepE_get hv, fun u hu => hu⟩).heap_map (H' := H') fun k b hb => ⟨b, (subHp_get hH hb).1, fun h => h⟩) hc.1 hc.2.1 hc.2.2
      exact hK _ _ h F ρ1 a w s2
    · exact h.elim
  · exact h.elim
/-- The region that a code begins with. -/
def fstR : Code → Option Nat
  | .region id _ _ => some id
  | .seq x _ => fstR x
  | .block _ c => fstR c
  | .scope c => fstR c
  | .loop c => fstR c
  | _ => none
/-- What is known ahead of a code, where that is said. -/
def cutOf (X : Cx) (y : Code) (g : List Nat) : List Ann := match fstR y with
  | some r => X.ann (1000 + r) g
  | none => []
def wpS (X : Cx) : Code → Nat → List Nat → Post → Env → Heap → Prop
  | .skip, _, _, Q, l, H => Q .nrm l H
  | .label _, _, _, Q, l, H => Q .nrm l H
  | .region _ ops draw, _, _, Q, l, H => match draw with
    | true => runD X ops (Q .nrm) l H
    | false => runO X ops (List.range ops.size) (Q .nrm) l H
  | .seq x y, n, g, Q, l, H => match cutOf X y g with
    | [] => wpS X x n g (thenE (fun l H => wpS X y n g Q l H) Q) l H
    | A :: r => wpS X x n g (thenE (fun l H => matchE X.N l H (fun _ => True) (A :: r)) Q) l H ∧ allA (fun A t => wpS X y n g Q (A.l t) (A.H t)) (A :: r)
  | .cond c x y, n, g, Q, l, H => match ev X.G l c with
    | some (.s (.a (.d (.v (.bool b))))) => match b with
      | true => wpS X x n g Q (litC c l true) H
      | false => wpS X y n g Q (litC c l false) H
    | _ => False
  | .block id c, n, g, Q, l, H => wpS X c id g (inB id Q) l H
  | .scope c, n, g, Q, l, H => wpS X c n g Q l H
  | .loop c, n, g, Q, l, H => match unrOf (X.ann n g) with
    | 0 => matchE X.N l H (fun _ => True) (X.ann n g) ∧ allA (fun A t => wpS X c 0 (A.m t :: g) (thenE (fun l' H' => matchE X.N l' H' (fun k => k < A.m t ∧ True) (X.ann n g)) Q) (A.l t) (A.H t)) (X.ann n g)
    | k + 1 => unrS (liveOf (X.ann n g)) (fun K l H => wpS X c 0 g (thenE K Q) l H) (k + 1) l H
  | .exit id, _, _, Q, l, H => Q (.ext id) l H
  | .ret, _, _, Q, l, H => Q .ret l H
  | _, _, _, _, _, _ => False
/-! what is answered -/
def resOf (X : Cx) (l : Env) (H : Heap) : ResultVar → Option (List Prop × SV)
  | .tmp t => match getE l t with
    | some (.s v) => some ([], v)
    | _ => none
  | .cell a t => match aOf (getE l a) with
    | some p => match loadV X.P t H p with
      | some (ps, .s v) => some (ps, v)
      | _ => none
    | none => none
def resL (X : Cx) (l : Env) (H : Heap) : List ResultVar → Option (List Prop × List SV)
  | [] => some ([], [])
  | r :: rs => match resOf X l H r, resL X l H rs with
    | some (ps, v), some (qs, vs) => some (appP ps qs, v :: vs)
    | _, _ => none
def oneT : List SV → EV
  | [v] => .s v
  | vs => .t vs
def argE : List SV → Nat → Env
  | [], _ => []
  | v :: r, i => (i, .s v) :: argE r (i + 1)
def putS : Nat → List SV → Env → Env
  | _, [], l => l
  | i, v :: r, l => putS (i + 1) r (putE l i (.s v))
def endV (X : Cx) (e : EV) (Hout : Heap) (l : Env) (H : Heap) (vs : List SV) : Prop :=
  match e with
  | .s v' => match vs with
    | [v] => matchP X.N (putE l 0 (.s v)) H [(0, .s v')] Hout True
    | _ => False
  | .t es => match Nat.beq vs.length es.length && (Nat.ble vs.length X.N && !Nat.beq vs.length 1) with
    | true => matchP X.N (putS 0 vs l) H (argE es 0) Hout True
    | false => False
  | .dead => False
def endQ (X : Cx) (rs : List ResultVar) (e : EV) (Hout : Heap) : Post
  | .ext _ => fun _ _ => False
  | _ => fun l H => match resL X l H rs with
    | some (ps, vs) => andL ps (endV X e Hout l H vs)
    | none => False
def brP (b : Bool) (p q : Prop) : Prop :=
  match b with
  | true => p
  | false => q
theorem brI {b : Bool} {p q : Prop} (h1 : b = true → p) (h2 : b = false → q) : brP b p q := by cases b with | true => exact h1 rfl | false => exact h2 rfl
section
variable {X : Cx} {C : Ctx} {F : Nat → Prop} {ρ : Nat → Loc} {l : Env} {H : Heap} {a : Act} {w : World}
theorem wpS_ok (hC : CtOk X) (hN : C.N = X.N) (hG : C.G = X.G) (hm : X.P.follows .mixedOrders = true) : ∀ (c : Code) {n : Nat} {g : List Nat} {Q : Post} {l : Env} {H : Heap} {R : Exit → Act → World → Prop},
    wpS X c n g Q l H → (∀ e l' H', Q e l' H' → WS C l' H' (R e.out)) → WS C l H fun a w => c.wp X.P R a w
  | .skip, n, g, Q, l, H, R, h, hQ => fun F ρ a w hs => wp_skip (hQ .nrm l H h F ρ a w hs)
  | .label _, n, g, Q, l, H, R, h, hQ => fun F ρ a w hs => wp_label (hQ .nrm l H h F ρ a w hs)
  | .exit id, n, g, Q, l, H, R, h, hQ => fun F ρ a w hs => wp_exit (hQ (.ext id) l H h F ρ a w hs)
  | .ret, n, g, Q, l, H, R, h, hQ => fun F ρ a w hs => wp_ret (hQ .ret l H h F ρ a w hs)
  | .region id ops draw, n, g, Q, l, H, R, h, hQ => fun F ρ a w hs => by
    cases draw with
    | true => exact runD_ok hC hN hG hm (fun l' H' k => hQ .nrm l' H' k) h hs
    | false => exact wp_region (runO_ok hC hN hG (fun l' H' k => hQ .nrm l' H' k) h hs)
  | .seq x y, n, g, Q, l, H, R, h, hQ => fun F ρ a w hs => by
    simp only [wpS] at h
    cases hc : cutOf X y g with
    | cons A r =>
      rw [hc] at h
      obtain ⟨h0, hr⟩ := h
      refine wp_seq (wpS_ok hC hN hG hm x (R := Exit.then (y.wp X.P R) R) h0 (fun e l' H' he => ?_) F ρ a w hs)
      cases e with
      | nrm =>
        obtain ⟨B, hB, t0, h1⟩ := matchE_mem he
        obtain ⟨⟨hJ0, _⟩, m0⟩ := matchP_ok (C := C) (hN ▸ h1)
        intro F ρ a w hs
        obtain ⟨F1, ρ1, s1⟩ := m0 F ρ a w hs
        exact wpS_ok hC hN hG hm y (allA_mem hr B hB t0 hJ0) hQ F1 ρ1 a w s1
      | ext i => exact hQ (.ext i) l' H' he
      | ret => exact hQ .ret l' H' he
    | nil =>
    rw [hc] at h
    refine wp_seq (wpS_ok hC hN hG hm x (R := Exit.then (y.wp X.P R) R) h (fun e l' H' he => ?_) F ρ a w hs)
    cases e with
    | nrm => exact wpS_ok hC hN hG hm y he hQ
    | ext i => exact hQ (.ext i) l' H' he
    | ret => exact hQ .ret l' H' he
  | .cond c x y, n, g, Q, l, H, R, h, hQ => fun F ρ a w hs => by
    simp only [wpS] at h
    split at h
    · rename_i b hc
      have ec : a.eval c = .bool b := hs.ev hG hc
      have hl : ∀ b', b = b' → St C F ρ (litC c l b') H a w := fun b' e => by
        unfold litC
        split
        · exact hs.setB hc b' e
        · exact hs
      cases b with
      | true => exact wp_cond ec (wpS_ok hC hN hG hm x h hQ F ρ a w (hl true rfl))
      | false => exact wp_cond ec (wpS_ok hC hN hG hm y h hQ F ρ a w (hl false rfl))
    · exact h.elim
  | .block id c, n, g, Q, l, H, R, h, hQ => fun F ρ a w hs => by
    refine wp_block (wpS_ok hC hN hG hm c (R := Exit.inBlock id R) h (fun e l' H' he => ?_) F ρ a w hs)
    cases e with
    | nrm => exact hQ .nrm l' H' he
    | ret => exact hQ .ret l' H' he
    | ext j =>
      intro F ρ a w hs
      cases hj : Nat.beq j id with
      | true =>
        simp only [inB, hj] at he
        have := Nat.eq_of_beq_eq_true hj; subst this
        simp only [Ek.out, Exit.inBlock, if_true]
        exact hQ .nrm l' H' he F ρ a w hs
      | false =>
        simp only [inB, hj] at he
        have : j ≠ id := fun e => by subst e; rw [Nat.beq_refl] at hj; cases hj
        simp only [Ek.out, Exit.inBlock, if_neg this]
        exact hQ (.ext j) l' H' he F ρ a w hs
  | .scope c, n, g, Q, l, H, R, h, hQ => fun F ρ a w hs => by
    refine wp_scope_straight (wpS_ok hC hN hG hm c (R := Exit.noGoto R) h (fun e l' H' he => ?_) F ρ a w hs)
    cases e <;> exact hQ _ l' H' he
  | .loop c, n, g, Q, l, H, R, h, hQ => fun F ρ a w hs => by
    simp only [wpS] at h
    cases hu : unrOf (X.ann n g) with
    | succ k =>
      rw [hu] at h
      have key : ∀ k l H, unrS (liveOf (X.ann n g)) (fun K l H => wpS X c 0 g (thenE K Q) l H) k l H → WS C l H (Code.rounds X.P c R k) := fun k => by
        induction k with
        | zero => intro l H h; exact h.elim
        | succ k ih =>
          intro l H h F ρ a w hs
          refine wpS_ok hC hN hG hm c (R := Exit.then (Code.rounds X.P c R k) R) h (fun e l' H' he => ?_) F ρ a w hs
          cases e with
          | nrm => exact cutU_ok ih l' H' he
          | ext i => exact hQ (.ext i) l' H' he
          | ret => exact hQ .ret l' H' he
      exact wp_loop_rounds _ (key _ l H h F ρ a w hs)
    | zero =>
    rw [hu] at h
    obtain ⟨h0, hr⟩ := h
    obtain ⟨A0, hA0, t0, h0⟩ := matchE_mem h0
    obtain ⟨⟨hJ0, _⟩, m0⟩ := matchP_ok (C := C) (hN ▸ h0)
    obtain ⟨F1, ρ1, s1⟩ := m0 F ρ a w hs
    refine wp_loop_ghost (fun k a w => ∃ A ∈ X.ann n g, ∃ t F ρ, A.J t ∧ k = A.m t ∧ St C F ρ (A.l t) (A.H t) a w) (A0.m t0) ⟨A0, hA0, t0, F1, ρ1, hJ0, rfl, s1⟩ ?_
    rintro k a w ⟨A, hA, t, F, ρ, hJ, rfl, hs⟩
    refine wpS_ok hC hN hG hm c (allA_mem hr A hA t hJ) (fun e l' H' he => ?_) F ρ a w hs
    cases e with
    | ext i => exact hQ (.ext i) l' H' he
    | ret => exact hQ .ret l' H' he
    | nrm =>
      obtain ⟨B, hB, t', h'⟩ := matchE_mem he
      obtain ⟨⟨hJ', hlt, _⟩, m'⟩ := matchP_ok (C := C) (hN ▸ h')
      intro F ρ a w hs
      obtain ⟨F2, ρ2, s2⟩ := m' F ρ a w hs
      exact ⟨B.m t', hlt, B, hB, t', F2, ρ2, hJ', rfl, s2⟩
  | .rangeFunc .., n, g, Q, l, H, R, h, hQ => h.elim
  | .goto _, n, g, Q, l, H, R, h, hQ => h.elim
  | .refuse _, n, g, Q, l, H, R, h, hQ => h.elim
theorem asAddr_of {t : TypeId} {u v : Value} {P : Program} (h : (Instr.loadAt t u).run P w = .ok v w) : ∃ ad, u = .pointer (some ad) ∧ (loadVar t ad).run P w = .ok v w := by
  cases u with
  | pointer o =>
    cases o with
    | none => simp [Instr.loadAt, Instr.sureAddr] at h
    | some ad => exact ⟨ad, rfl, by simpa [Instr.loadAt, Instr.sureAddr] using h⟩
  | _ => simp [Instr.loadAt, Instr.sureAddr] at h
theorem aOf_getE {t : Nat} {x : AV} (h : aOf (getE l t) = some x) : getE l t = some (.s (.a x)) := by
  unfold aOf at h
  split at h
  · rename_i y hy; simp only [Option.some.injEq] at h; subst h; exact hy
  · cases h
def resM (tmps : Array Value) : ResultVar → Sem Value
  | .tmp t => pure (tmps.getD t undef)
  | .cell a t => do loadVar t (← asAddr (tmps.getD a undef))
theorem resOf_run (hs : St C F ρ l H a w) {r : ResultVar} {ps : List Prop} {v : SV} (h : resOf X l H r = some (ps, v)) (hp : allP ps) :
    ∃ u, (resM a.tmps r).run X.P w = .ok u w ∧ SRep ⟨w, F⟩ ρ v u := by
  cases r with
  | tmp t =>
    simp only [resOf] at h
    split at h
    · rename_i v' hv
      simp only [Option.some.injEq, Prod.mk.injEq] at h; obtain ⟨rfl, rfl⟩ := h
      exact ⟨_, rfl, hs.env t _ hv⟩
    · cases h
  | cell ad t =>
    simp only [resOf] at h
    split at h
    · rename_i p hp'
      split at h
      · rename_i qs v' hv
        simp only [Option.some.injEq, Prod.mk.injEq] at h; obtain ⟨rfl, rfl⟩ := h
        obtain ⟨u, h1, h2⟩ := loadV_run (t := t) hv hs.toHOk (hs.env ad _ (aOf_getE hp'))
        obtain ⟨g, h3, h4⟩ := asAddr_of h1
        refine ⟨u, ?_, h2⟩
        simp only [resM, h3, asAddr, Sem.run_bind]
        exact h4
      · cases h
    · cases h
theorem resL_run (hs : St C F ρ l H a w) : ∀ {rs : List ResultVar} {ps : List Prop} {vs : List SV}, resL X l H rs = some (ps, vs) → allP ps →
    ∃ us, (rs.mapM (resM a.tmps)).run X.P w = .ok us w ∧ LRep ⟨w, F⟩ ρ vs us
  | [], ps, vs, h, hp => by
    simp only [resL, Option.some.injEq, Prod.mk.injEq] at h; obtain ⟨rfl, rfl⟩ := h
    exact ⟨[], rfl, rfl⟩
  | r :: rs, ps, vs, h, hp => by
    simp only [resL] at h
    split at h
    · rename_i p1 v p2 vs' h1 h2
      simp only [Option.some.injEq, Prod.mk.injEq] at h; obtain ⟨rfl, rfl⟩ := h
      obtain ⟨q1, q2⟩ := allP_app hp
      obtain ⟨u, k1, k2⟩ := resOf_run hs h1 q1
      obtain ⟨us, k3, k4⟩ := resL_run hs h2 q2
      refine ⟨u :: us, ?_, u, us, rfl, k2, k4⟩
      rw [List.mapM_cons, Sem.run_bind, k1]
      show ((rs.mapM (resM a.tmps)) >>= fun us => pure (u :: us)).run X.P w = _
      rw [Sem.run_bind, k3]
      rfl
    · cases h
theorem results_run (hs : St C F ρ l H a w) {fn : Func} {ps : List Prop} {vs : List SV} (h : resL X l H fn.results.toList = some (ps, vs)) (hp : allP ps) :
    ∃ u, (results fn a.tmps).run X.P w = .ok u w ∧ ERep ⟨w, F⟩ ρ (oneT vs) u := by
  obtain ⟨us, h1, h2⟩ := resL_run hs h hp
  have e : (fn.results.mapM (resM a.tmps)).run X.P w = .ok us.toArray w := by
    rw [Array.mapM_eq_mapM_toList, map_eq_pure_bind, Sem.run_bind, h1]
    rfl
  have e2 : (results fn a.tmps).run X.P w = ((fn.results.mapM (resM a.tmps)).run X.P w).andThen fun vs w' => (pure (if h : vs.size = 1 then vs[0] else .tuple vs) : Sem Value).run X.P w' := by
    unfold results
    rw [Sem.run_bind]
    rfl
  rw [e2, e]
  show ∃ u, (pure (if h : us.toArray.size = 1 then us.toArray[0] else .tuple us.toArray) : Sem Value).run X.P w = .ok u w ∧ _
  match vs, us, h2 with
  | [], us, h => rw [show us = [] from h]; exact ⟨_, rfl, [], rfl, rfl⟩
  | [v], us, h =>
    obtain ⟨u, r, rfl, k1, k2⟩ := h
    rw [show r = [] from k2]
    exact ⟨u, rfl, k1⟩
  | v :: v' :: vs, us, h =>
    obtain ⟨u, r, rfl, k1, u', r', rfl, k2, k3⟩ := h
    refine ⟨.tuple (u :: u' :: r').toArray, ?_, _, rfl, u, _, rfl, k1, u', r', rfl, k2, k3⟩
    simp
theorem argE_lt' : ∀ {es : List SV} {i t : Nat} {v : EV}, getE (argE es i) t = some v → i ≤ t
  | e :: es, i, t, v, h => by
    simp only [argE, getE] at h
    split at h
    · rename_i hk; have := Nat.eq_of_beq_eq_true hk; omega
    · have := argE_lt' h; omega
theorem argE_lt {es : List SV} {i : Nat} {v : EV} (h : getE (argE es (i + 1)) i = some v) : False := by
  have := argE_lt' h; omega
theorem argE_get {m : Mem} : ∀ {vs : List SV} {us : List Value} {i t : Nat} {e : EV}, LRep m ρ vs us → getE (argE vs i) t = some e → ∃ v, e = .s v ∧ i ≤ t ∧ ∃ u, us[t - i]? = some u ∧ SRep m ρ v u
  | v :: vs, us, i, t, e, hL, h => by
    obtain ⟨u, r, rfl, h1, h2⟩ := hL
    simp only [argE, getE] at h
    split at h
    · rename_i hk
      have := Nat.eq_of_beq_eq_true hk; subst this
      simp only [Option.some.injEq] at h; subst h
      exact ⟨v, rfl, Nat.le_refl _, u, by simp, h1⟩
    · obtain ⟨v', h3, h4, u', h5, h6⟩ := argE_get h2 h
      refine ⟨v', h3, by omega, u', ?_, h6⟩
      rw [show t - i = (t - (i + 1)) + 1 from by omega, List.getElem?_cons_succ]
      exact h5
theorem LRep.len {m : Mem} : ∀ {vs : List SV} {us : List Value}, LRep m ρ vs us → us.length = vs.length
  | [], us, h => by rw [show us = [] from h]; rfl
  | v :: vs, us, h => by obtain ⟨u, r, rfl, _, h2⟩ := h; simp [LRep.len h2]
theorem putS_st : ∀ {vs : List SV} {us : List Value} {i : Nat} {l : Env} {a : Act}, St C F ρ l H a w → LRep ⟨w, F⟩ ρ vs us → i + vs.length ≤ C.N → ∃ a', St C F ρ (putS i vs l) H a' w ∧ (∀ j u, us[j]? = some u → a'.tmps.getD (i + j) undef = u) ∧ ∀ j, j < i → a'.tmps.getD j undef = a.tmps.getD j undef
  | [], us, i, l, a, hs, hL, hN => by
    rw [show us = [] from hL]
    exact ⟨a, hs, fun j u h => by simp at h, fun j _ => rfl⟩
  | v :: vs, us, i, l, a, hs, hL, hN => by
    obtain ⟨u, r, rfl, h1, h2⟩ := hL
    simp only [List.length_cons] at hN
    have s1 := hs.put (d := i) (e := .s v) (u := u) (by omega) h1
    obtain ⟨a', s2, k1, k2⟩ := putS_st s1 h2 (i := i + 1) (by omega)
    have hsz : i < a.tmps.size := by rw [hs.size]; omega
    refine ⟨a', s2, fun j x hx => ?_, fun j hj => ?_⟩
    · cases j with
      | zero =>
        simp only [List.getElem?_cons_zero, Option.some.injEq] at hx; subst hx
        rw [Nat.add_zero, k2 i (by omega)]
        simp [Act.put, Array.getD_eq_getD_getElem?, hsz]
      | succ j =>
        simp only [List.getElem?_cons_succ] at hx
        rw [← k1 j x hx]
        congr 1; omega
    · rw [k2 j (by omega)]
      simp only [Act.put, Array.getD_eq_getD_getElem?, Array.getElem?_setIfInBounds, if_neg (show i ≠ j by omega)]
theorem argE_rep {m : Mem} {g : Nat → Value} : ∀ {es : List SV} {us : List Value} {i : Nat}, (∀ t v, getE (argE es i) t = some v → ERep m ρ v (g t)) → us.length = es.length → (∀ j u, us[j]? = some u → g (i + j) = u) → LRep m ρ es us
  | [], us, i, _, hl, _ => List.eq_nil_of_length_eq_zero hl
  | e :: es, us, i, h, hl, hg => by
    match us, hl with
    | u :: us, hl =>
      refine ⟨u, us, rfl, ?_, argE_rep (g := g) (i := i + 1) (fun t v hv => ?_) (by simpa using hl) fun j x hx => ?_⟩
      · have := h i (.s e) (by simp [argE, getE, Nat.beq_refl])
        rw [← hg 0 u (by simp)]; exact this
      · refine h t v ?_
        simp only [argE, getE]
        have : Nat.beq i t = false := by
          refine nbeq_false fun e => ?_
          subst e
          exact argE_lt hv
        rw [this]; exact hv
      · rw [← hg (j + 1) x (by simpa using hx)]; congr 1; omega
theorem endV_ok (h0 : 0 < X.N) (hN : C.N = X.N) {e : EV} {Hout : Heap} {vs : List SV} {u : Value} (hs : St C F ρ l H a w) (h2 : ERep ⟨w, F⟩ ρ (oneT vs) u) (hk : endV X e Hout l H vs) : ∃ F2 ρ2 l3 a', St C F2 ρ2 l3 Hout a' w ∧ ERep ⟨w, F2⟩ ρ2 e u := by
  cases e with
  | dead => exact hk.elim
  | s v' =>
    match vs, h2, hk with
    | [], _, hk => exact hk.elim
    | _ :: _ :: _, _, hk => exact hk.elim
    | [v], h2, hk =>
      have s2 := hs.put (d := 0) (e := .s v) (u := u) (hN ▸ h0) h2
      have hk : matchP X.N (putE l 0 (.s v)) H [(0, .s v')] Hout True := hk
      obtain ⟨_, m⟩ := matchP_ok (C := C) (hN ▸ hk)
      obtain ⟨F2, ρ2, s3⟩ := m _ _ _ _ s2
      have hu := s3.env 0 (.s v') (by simp [getE, Nat.beq_refl])
      have : (a.put (some 0) u).tmps.getD 0 undef = u := by
        have hsz : 0 < a.tmps.size := by rw [hs.size, hN]; exact h0
        simp [Act.put, Array.getD_eq_getD_getElem?, hsz]
      rw [this] at hu
      exact ⟨F2, ρ2, _, _, s3, hu⟩
  | t es =>
    simp only [endV] at hk
    split at hk
    · rename_i hck
      simp only [Bool.and_eq_true, Bool.not_eq_true'] at hck
      obtain ⟨c1, c2, c3⟩ := hck
      have c1 := Nat.eq_of_beq_eq_true c1
      have c2 := Nat.le_of_ble_eq_true c2
      have e1 : oneT vs = .t vs := by
        match vs, c3 with
        | [], _ => rfl
        | [_], c3 => cases c3
        | _ :: _ :: _, _ => rfl
      rw [e1] at h2
      obtain ⟨us', rfl, h3⟩ := h2
      obtain ⟨a', s2, k1, _⟩ := putS_st hs h3 (i := 0) (by rw [Nat.zero_add, hN]; exact c2)
      obtain ⟨_, m⟩ := matchP_ok (C := C) (hN ▸ hk)
      obtain ⟨F2, ρ2, s3⟩ := m _ _ _ _ s2
      have hl : us'.length = es.length := by rw [h3.len, c1]
      exact ⟨F2, ρ2, _, _, s3, us', rfl, argE_rep (g := fun t => a'.tmps.getD t undef) (i := 0) (fun t v hv => s3.env t v hv) hl k1⟩
    · exact hk.elim
/-- A function's body keeps its contract. -/
theorem calls_of_wpS {f : FuncId} {fn : Func} {c : Code} {vs : List SV} {Hin Hout : Heap} {e : EV} (hC : CtOk X) (hm : X.P.follows .mixedOrders = true) (hf : X.P.funcs[f]? = some fn) (hb : fn.body = some c)
    (hN : fn.ntmps = X.N) (hlen : vs.length ≤ X.N) (h0 : 0 < X.N) (h : wpS X c 0 [] (endQ X fn.results.toList e Hout) (argE vs 0) Hin) : CallsOk X.P X.G f vs Hin e Hout := by
  intro w F ρ us hL hO hG
  have hul := hL.len
  let C : Ctx := ⟨X.N, w, fun i => ∃ k b, getH Hin k = some b ∧ (ρ k).Z i, F, ρ, X.G, []⟩
  refine calls_of_wp hf hb (wpS_ok (C := C) (R := bodyPost X.P fn _) hC rfl rfl hm c h (fun ek l' H' he => ?_) F ρ _ w ?_)
  · intro F1 ρ1 a1 w1 s1
    have fin : (match resL X l' H' fn.results.toList with | some (ps, vs) => andL ps (endV X e Hout l' H' vs) | none => False) → a1.defers = [] ∧ ∃ v, (results fn a1.tmps).run X.P w1 = .ok v w1 ∧ (fun r w' => ∃ F' σ u, r = Ending.returned u ∧ ERep ⟨w', F'⟩ σ e u ∧ HOk w' F' σ Hout ∧ Fr Hin Hout (fun k => k < 100000) F ρ w F' σ w') (.returned v) w1 := fun he => by
      split at he
      · rename_i ps rs hr
        obtain ⟨hp, hk⟩ := andL_iff.1 he
        obtain ⟨u, h1, h2⟩ := results_run s1 hr hp
        refine ⟨s1.defers, u, h1, ?_⟩
        have done : ∀ {l3 : Env} {F2 ρ2 a'}, St C F2 ρ2 l3 Hout a' w1 → ERep ⟨w1, F2⟩ ρ2 e u → ∃ F' σ u', Ending.returned u = Ending.returned u' ∧ ERep ⟨w1, F'⟩ σ e u' ∧ HOk w1 F' σ Hout ∧ Fr Hin Hout (fun k => k < 100000) F ρ w F' σ w1 := fun {l3 F2 ρ2 a'} s3 hu =>
          ⟨F2, ρ2, u, rfl, hu, s3.toHOk, ⟨s3.keep.os, s3.keep.tape, s3.keep.output, s3.keep.size, fun i hi hz => s3.keep.block i hi fun ⟨k, b, hk, hz'⟩ => hz k b hk hz', s3.f0, s3.f1, fun k hk => s3.pin k (by omega), s3.mine⟩⟩
        obtain ⟨F2, ρ2, l3, a', s3, hu⟩ := endV_ok (C := C) h0 rfl s1 h2 hk
        exact done s3 hu
      · exact he.elim
    cases ek with
    | nrm => exact fin he
    | ret => exact fin he
    | ext i => exact he.elim
  · exact { toHOk := hO
            env := fun t v hv => by
              obtain ⟨v', rfl, _, u, h1, h2⟩ := argE_get hL hv
              simp only [Nat.sub_zero] at h1
              have hlt : t < us.length := by
                rcases Nat.lt_or_ge t us.length with h | h
                · exact h
                · rw [List.getElem?_eq_none h] at h1; cases h1
              have : (us.toArray ++ Array.replicate (fn.ntmps - us.toArray.size) undef).getD t undef = u := by
                rw [Array.getD_eq_getD_getElem?, Array.getElem?_append_left (by simpa using hlt)]
                simp [h1]
              rw [this]; exact h2
            gl := hG
            mine := fun k b hk i hi => .inr ⟨k, b, hk, hi⟩
            f0 := fun i hi => hi
            f1 := fun i hi => .inl hi
            keep := Keep.refl _ _ _
            pin := fun k hk => rfl
            defers := rfl
            size := by
              show (us.toArray ++ Array.replicate (fn.ntmps - us.toArray.size) undef).size = X.N
              simp [hN, hul]; omega }
theorem of_nf {p q : Prop} (e : p = q) (h : p) : q := e ▸ h
def bodyOf (fn : Func) : Code := fn.body.getD .skip
def bodB (fn : Func) (N n : Nat) : Bool := fn.body.isSome && (Nat.beq fn.ntmps N && (Nat.ble n N && Nat.blt 0 N))
def lookC : List (Nat × Ct) → Nat → Option Ct
  | [], _ => none
  | (k, c) :: r, f => match Nat.beq k f with
    | true => some c
    | false => lookC r f
def CtsOk (P : Program) (G : List (Nat × List DC)) (L : List (Nat × Ct)) : Prop := ∀ p ∈ L, Valid P G p.1 p.2.g ∧ fnOk P p.1 = true ∧ ∀ s, p.2.sp = some s → Valid P G p.1 s.2
theorem CtsOk.nil {P : Program} {G : List (Nat × List DC)} : CtsOk P G [] := fun p hp => by cases hp
theorem CtsOk.cons {P : Program} {G : List (Nat × List DC)} {L : List (Nat × Ct)} {f : Nat} {c : Ct} (h1 : Valid P G f c.g) (h2 : fnOk P f = true) (h : CtsOk P G L) (h3 : ∀ s, c.sp = some s → Valid P G f s.2 := by intro s h; cases h) : CtsOk P G ((f, c) :: L) := fun p hp => by
  rcases List.mem_cons.1 hp with rfl | hp
  · exact ⟨h1, h2, h3⟩
  · exact h p hp
theorem lookC_mem : ∀ {L : List (Nat × Ct)} {f : Nat} {c : Ct}, lookC L f = some c → (f, c) ∈ L
  | (k, c') :: r, f, c, h => by
    simp only [lookC] at h
    split at h
    · rename_i hk
      have := Nat.eq_of_beq_eq_true hk; subst this
      simp only [Option.some.injEq] at h; subst h; simp
    · exact List.mem_cons_of_mem _ (lookC_mem h)
def mkX (P : Program) (G : List (Nat × List DC)) (L : List (Nat × Ct)) (fn : Func) (ann : Nat → List Nat → List Ann) : Cx := ⟨P, fn.ntmps, G, lookC L, ann⟩
theorem ok_of {P : Program} {G : List (Nat × List DC)} {L : List (Nat × Ct)} {ann : Nat → List Nat → List Ann} {f : FuncId} {fn : Func} {vs : List SV} {Hin Hout : Heap} {e : EV} (hC : CtsOk P G L) (hm : P.follows .mixedOrders = true) (hf : P.funcs[f]? = some fn)
    (hb : bodB fn fn.ntmps vs.length = true) (h : wpS (mkX P G L fn ann) (bodyOf fn) 0 [] (endQ (mkX P G L fn ann) fn.results.toList e Hout) (argE vs 0) Hin) : CallsOk P G f vs Hin e Hout := by
  simp only [bodB, Bool.and_eq_true] at hb
  obtain ⟨c, hc⟩ := Option.isSome_iff_exists.1 hb.1
  have e1 : bodyOf fn = c := by simp [bodyOf, hc]
  rw [e1] at h
  exact calls_of_wpS (X := mkX P G L fn ann) (fun f c h => hC _ (lookC_mem h)) hm hf hc rfl (Nat.le_of_ble_eq_true hb.2.2.1) (Nat.le_of_ble_eq_true hb.2.2.2) h
/-! a contract, met in other words -/
def eqHs : Heap → Heap → Option (List Prop)
  | [], [] => some []
  | (k, b) :: r, (k', b') :: s => match Nat.beq k k', eqB b b', eqHs r s with
    | true, some p, some q => some (appP p q)
    | _, _, _ => none
  | _, _ => none
theorem eqHs_get {k : Nat} : ∀ {H H' : Heap} {ps : List Prop}, eqHs H H' = some ps → allP ps → (getH H k = none ∧ getH H' k = none) ∨ ∃ b b' p, getH H k = some b ∧ getH H' k = some b' ∧ eqB b b' = some p ∧ allP p
  | [], [], ps, _, _ => .inl ⟨rfl, rfl⟩
  | (j, b) :: r, (j', b') :: s, ps, h, hp => by
    simp only [eqHs] at h
    split at h
    · rename_i p q h1 h2 h3
      have := Nat.eq_of_beq_eq_true h1; subst this
      simp only [Option.some.injEq] at h; subst h
      obtain ⟨p1, p2⟩ := allP_app hp
      simp only [getH]
      cases hj : Nat.beq j k with
      | true => exact .inr ⟨b, b', p, rfl, rfl, h2, p1⟩
      | false => exact eqHs_get h3 p2
    · cases h
  | [], _ :: _, ps, h, _ => by simp [eqHs] at h
  | _ :: _, [], ps, h, _ => by simp [eqHs] at h
theorem HOk.conv {H' : Heap} {ps : List Prop} (h : eqHs H H' = some ps) (hp : allP ps) (hO : HOk w F ρ H) : HOk w F ρ H' := by
  have key : ∀ {k b'}, getH H' k = some b' → ∃ b p, getH H k = some b ∧ eqB b b' = some p ∧ allP p := fun {k b'} hk => by
    rcases eqHs_get (k := k) h hp with ⟨_, e⟩ | ⟨b, b2, p, e1, e2, e3, e4⟩
    · rw [e] at hk; cases hk
    · rw [e2] at hk; simp only [Option.some.injEq] at hk; subst hk; exact ⟨b, p, e1, e3, e4⟩
  exact ⟨fun k b' hk => let ⟨b, p, e1, e2, e3⟩ := key hk; eqB_rep e2 e3 (hO.hp k b e1),
    fun k b' hk => let ⟨b, p, e1, _⟩ := key hk; hO.own k b e1,
    fun k k' b b' hk hk' => let ⟨c, p, e1, _⟩ := key hk; let ⟨c', p', e1', _⟩ := key hk'; hO.dis k k' c c' e1 e1',
    hO.frz⟩
theorem CallsOk.conv {P : Program} {G : List (Nat × List DC)} {f : FuncId} {args vs : List SV} {H Hin Hout : Heap} {e : EV} {ps qs : List Prop} (h1 : eqL args vs = some ps) (hp : allP ps) (h2 : eqHs H Hin = some qs) (hq : allP qs)
    (h : CallsOk P G f vs Hin e Hout) : CallsOk P G f args H e Hout := by
  intro w F ρ us hL hO hG
  have keys : ∀ {k}, (∃ b, getH Hin k = some b) → ∃ b, getH H k = some b := fun {k} ⟨b, hb⟩ => by
    rcases eqHs_get (k := k) h2 hq with ⟨_, e⟩ | ⟨b, b2, p, e1, e2, e3, e4⟩
    · rw [e] at hb; cases hb
    · exact ⟨b, e1⟩
  have keys' : ∀ {k}, (∃ b, getH H k = some b) → ∃ b, getH Hin k = some b := fun {k} ⟨b, hb⟩ => by
    rcases eqHs_get (k := k) h2 hq with ⟨e, _⟩ | ⟨b, b2, p, e1, e2, e3, e4⟩
    · rw [e] at hb; cases hb
    · exact ⟨b2, e2⟩
  refine (h w F ρ us (eqL_rep h1 hp hL) (hO.conv h2 hq) hG).mono fun r w' hr => ?_
  obtain ⟨F', σ, u, g1, g2, g3, g4⟩ := hr
  refine ⟨F', σ, u, g1, g2, g3, ⟨g4.os, g4.tape, g4.output, g4.size, fun i hi hz => g4.blk i hi fun k b hk => ?_, g4.f0, fun i hi => ?_, g4.rho, fun k b hk i hi => ?_⟩⟩
  · obtain ⟨b', hb'⟩ := keys ⟨b, hk⟩; exact hz k b' hb'
  · rcases g4.f1 i hi with h | h | ⟨k, b, hk, hz⟩
    · exact .inl h
    · exact .inr (.inl h)
    · obtain ⟨b', hb'⟩ := keys ⟨b, hk⟩; exact .inr (.inr ⟨k, b', hb', hz⟩)
  · rcases g4.own k b hk i hi with h | ⟨k0, b0, hk0, hz⟩
    · exact .inl h
    · obtain ⟨b', hb'⟩ := keys ⟨b0, hk0⟩; exact .inr ⟨k0, b', hb', hz⟩
def conC (args : List SV) (H : Heap) (vs : List SV) (Hin : Heap) (r : CRes) : Option CRes :=
  match eqL args vs, eqHs H Hin with
  | some p, some q => some ⟨appP p (appP q r.ps), r.e, r.H⟩
  | _, _ => none
theorem conC_ok {P : Program} {G : List (Nat × List DC)} {f : FuncId} {args vs : List SV} {H Hin : Heap} {r0 r : CRes} (h : conC args H vs Hin r0 = some r) (hp : allP r.ps) (hok : allP r0.ps → CallsOk P G f vs Hin r0.e r0.H) : CallsOk P G f args H r.e r.H := by
  unfold conC at h
  split at h
  · rename_i p q h1 h2
    simp only [Option.some.injEq] at h; subst h
    obtain ⟨p1, p2⟩ := allP_app hp
    obtain ⟨p3, p4⟩ := allP_app p2
    exact (hok p4).conv h1 p1 h2 p3
  · cases h
end
end Go.Dx
