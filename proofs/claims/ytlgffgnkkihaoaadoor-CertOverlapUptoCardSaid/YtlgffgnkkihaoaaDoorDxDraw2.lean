/- Regions whose operations come in any order. -/
import Derived.Test.YtlgffgnkkihaoaaDoorDxDraw
namespace Go.Dx
open Go.RowKit
set_option linter.unusedVariables false
set_option linter.unusedSimpArgs false

def subE (l : Env) : List Nat → Env
  | [] => []
  | t :: r => match getE l t with
    | some v => (t, v) :: subE l r
    | none => subE l r
def subG (H : Heap) : List Nat → Heap
  | [] => []
  | k :: r => match getH H k with
    | some b => (k, b) :: subG H r
    | none => subG H r
theorem subE_get : ∀ {ts : List Nat} {l : Env} {t : Nat} {v : EV}, getE (subE l ts) t = some v → getE l t = some v
  | k :: r, l, t, v, h => by
    simp only [subE] at h
    split at h
    · rename_i e he
      simp only [getE] at h
      split at h
      · rename_i hk; have := Nat.eq_of_beq_eq_true hk; subst this; simp only [Option.some.injEq] at h; subst h; exact he
      · exact subE_get h
    · exact subE_get h
theorem subG_get : ∀ {ts : List Nat} {l : Heap} {t : Nat} {v : Blk}, getH (subG l ts) t = some v → getH l t = some v
  | k :: r, l, t, v, h => by
    simp only [subG] at h
    split at h
    · rename_i e he
      simp only [getH] at h
      split at h
      · rename_i hk; have := Nat.eq_of_beq_eq_true hk; subst this; simp only [Option.some.injEq] at h; subst h; exact he
      · exact subG_get h
    · exact subG_get h
def tmpsO : List Operand → List Nat
  | [] => []
  | .tmp t :: r => t :: tmpsO r
  | _ :: r => tmpsO r
def gslot (ops : Array Oper) (o : Oper) : List Nat :=
  match o.guard with
  | some (g, _) => match (ops[g]?).bind (·.dst) with
    | some t => [t]
    | none => []
  | none => []
def slotsR (ks : List Nat) : Env → List Nat
  | [] => []
  | (t, v) :: r => match v.refs.any fun k => memN k ks with
    | true => t :: slotsR ks r
    | false => slotsR ks r
def isE (X : Cx) (nd : List Nat) (o : Oper) : Bool :=
  match nd with
  | _ :: _ => true
  | [] => match o.op with
    | .alloc _ => true
    | .box _ _ => true
    | .store _ _ _ => true
    | .buildSlice _ _ _ => true
    | .makeSlice _ _ _ => true
    | .convert _ _ _ => true
    | .makeMap _ _ => true
    | .mapUpdate _ _ _ _ => true
    | .call c => match c.callee with
      | .builtin .append => true
      | .builtin .copy => true
      | .builtin _ => false
      | _ => true
    | _ => false
def lookO (nd : List Nat) (lo : Env) (o : Oper) : List Nat :=
  match o.op with
  | .alloc _ => nd
  | .box _ _ => nd
  | .buildSlice _ _ _ => nd
  | .makeSlice _ _ _ => nd
  | .makeMap _ _ => nd
  | .move _ => nd
  | .assign _ => nd
  | .extract _ _ => nd
  | _ => refsE lo
def dstL : Option Nat → List Nat
  | none => []
  | some d => [d]
def allSm (l : List Nat) : Bool := l.all fun k => Nat.blt k 100000
def hasAll (a b : List Nat) : Bool := a.all fun k => memN k b
abbrev RRes := Option (List Prop × Rec)
def recV (i : Nat) (lo : Env) (Ho : Heap) (d : Option Nat) (e : EV) : Rec := ⟨i, lo, Ho, putO [] d e, [], [], []⟩
def optV (i : Nat) (lo : Env) (Ho : Heap) (d : Option Nat) : Option EV → RRes
  | some e => some ([], recV i lo Ho d e)
  | none => none
def actD (X : Cx) (i : Nat) (o : Oper) (nd : List Nat) (lo : Env) (Ho : Heap) : RRes :=
  match isE X nd o, dstOk X.N o.dst with
  | false, true => match o.op with
    | .pick c x y => match ev X.G lo c with
      | some (.s (.a (.d (.v (.bool b))))) => match b with
        | true => optV i lo Ho o.dst (ev X.G lo x)
        | false => optV i lo Ho o.dst (ev X.G lo y)
      | _ => none
    | _ => match vstep X.P X.G lo Ho o with
      | some (ps, e) => some (ps, recV i lo Ho o.dst e)
      | none => none
  | true, true => match stepF X lo Ho o with
    | some (ps, l', H', nn) =>
      match allSm nn && (hasAll (keysH H') (keysH Ho ++ nn) && hasAll (dstL o.dst) (keysE (subE l' (dstL o.dst ++ slotsR nd lo)))) with
      | true => some (ps, ⟨i, lo, Ho, subE l' (dstL o.dst ++ slotsR nd lo), keysH Ho ++ nn, H', nn⟩)
      | false => none
    | none => none
  | _, _ => none
def skipD (X : Cx) (i : Nat) (o : Oper) (lo : Env) : RRes :=
  match dstOk X.N o.dst with
  | true => some ([], recV i lo [] o.dst eU)
  | false => none
def pickD (X : Cx) (i : Nat) (o : Oper) (nd : List Nat) (lo : Env) (Ho : Heap) : Bool → RRes
  | true => actD X i o nd lo Ho
  | false => skipD X i o lo
def recG (X : Cx) (ops : Array Oper) (i : Nat) (o : Oper) (nd : List Nat) (lo : Env) (Ho : Heap) : RRes :=
  match guardV ops lo o with
  | .yes => actD X i o nd lo Ho
  | .no => skipD X i o lo
  | .ask t b want => match b with
    | true => pickD X i o nd lo Ho want
    | false => pickD X i o nd lo Ho (!want)
  | .bad => none
def recD (X : Cx) (ops : Array Oper) (i : Nat) (o : Oper) (l : Env) (H : Heap) : RRes :=
  let ts := gslot ops o ++ tmpsO o.op.operands.toList
  let nd := need X (subE l ts) o
  let lo := subE l (ts ++ slotsR nd l)
  recG X ops i o nd lo (subG H (reach H 20 (lookO nd lo o)))
def askG (ops : Array Oper) (l : Env) (o : Oper) : Option (Nat × Bool) :=
  match guardV ops l o with
  | .ask t b _ => some (t, b)
  | _ => none
def askP (l : Env) (o : Oper) : Option (Nat × Bool) :=
  match o.op with
  | .pick (.tmp t) _ _ => match getE l t with
    | some (.s (.a (.d (.v (.bool b))))) => some (t, b)
    | _ => none
  | _ => none
def litE (q : Option (Nat × Bool)) (l : Env) (k : Env → Prop) : Prop :=
  match q with
  | none => k l
  | some (t, b) => match b with
    | true => k (putE l t (eB true))
    | false => k (putE l t (eB false))
def seqD (X : Cx) (ops : Array Oper) : List Nat → Env → Heap → (List Rec → Env → Heap → Prop) → Prop
  | [], l, H, K => K [] l H
  | i :: is, l, H, K => match ops[i]? with
    | none => False
    | some o => litE (askG ops l o) l fun l => litE (askP l o) l fun l => brX X (splitO X l H o) fun X' => match recD X' ops i o l H with
      | some (ps, r) => andL ps (seqD X ops is (upE r l) (upH r H) fun rs => K (r :: rs))
      | none => Bad o
def disjN (a b : List Nat) : Bool := a.all fun k => !memN k b
def disB (i j : Rec) : Bool := disjN j.nn (refsE i.lw) && disjN j.nn (refsH i.Hw)
def indB (i j : Rec) : Bool :=
  disjN (keysE i.lw) (keysE j.lw) && (disjN (keysE i.lw) (keysE j.lo) && (disjN (keysE j.lw) (keysE i.lo) && (disjN i.W j.W && (disjN i.W (keysH j.Ho) && (disjN j.W (keysH i.Ho) && disB j i)))))
def pairB (ops : Array Oper) (i : Rec) (rs : List Rec) : Bool := rs.all fun j => Nat.blt i.i j.i && (disB i j && (indB i j || befF ops ops.size i.i j.i))
def rowsB (ops : Array Oper) : List Rec → Bool
  | [] => true
  | r :: rs => pairB ops r rs && rowsB ops rs
def freshB (l : Env) (H : Heap) (rs : List Rec) : Bool := rs.all fun r => disjN r.nn (refsE l) && disjN r.nn (refsH H)
def runD (X : Cx) (ops : Array Oper) (K : Env → Heap → Prop) (l : Env) (H : Heap) : Prop :=
  match backB ops with
  | false => False
  | true => seqD X ops (List.range ops.size) l H fun rs lf Hf => match rowsB ops rs && freshB l H rs with
    | true => K lf Hf
    | false => False

section
variable {X : Cx} {C : Ctx} {F : Nat → Prop} {ρ : Nat → Loc} {l : Env} {H : Heap} {a : Act} {w : World} {ops : Array Oper} {Q : Exit → Act → World → Prop}
theorem disjN_of {a b : List Nat} (h : disjN a b = true) : ∀ k ∈ a, k ∉ b := fun k hk hb => by
  unfold disjN at h
  have := (List.all_eq_true.1 h) k hk
  simp [memN_of hb] at this
theorem disB_of {i j : Rec} (h : disB i j = true) : DisR i j := by
  simp only [disB, Bool.and_eq_true] at h
  exact fun k hk => ⟨disjN_of h.1 k hk, disjN_of h.2 k hk⟩
theorem indB_of {i j : Rec} (h : indB i j = true) : Ind i j := by
  simp only [indB, Bool.and_eq_true] at h
  obtain ⟨h1, h2, h3, h4, h5, h6, h7⟩ := h
  exact ⟨disjN_of h1, disjN_of h2, disjN_of h3, disjN_of h4, disjN_of h5, disjN_of h6, disB_of h7⟩
theorem rowsB_of : ∀ {rs : List Rec}, rowsB ops rs = true → rs.Pairwise fun i j => i.i < j.i ∧ DisR i j ∧ (Ind i j ∨ befF ops ops.size i.i j.i = true)
  | [], _ => .nil
  | r :: rs, h => by
    simp only [rowsB, Bool.and_eq_true] at h
    refine .cons (fun j hj => ?_) (rowsB_of h.2)
    have := (List.all_eq_true.1 h.1) j hj
    simp only [Bool.and_eq_true, Bool.or_eq_true] at this
    exact ⟨Nat.le_of_ble_eq_true this.1, disB_of this.2.1, this.2.2.imp indB_of id⟩
theorem sub_st (hs : St C F ρ l H a w) {lo : Env} {Ho : Heap} (hE : ∀ t v, getE lo t = some v → getE l t = some v) (hH : ∀ k b, getH Ho k = some b → getH H k = some b) : St C F ρ lo Ho a w :=
  (hs.env_map fun t v hv => ⟨v, hE t v hv, fun _ h => h⟩).heap_map fun k b hb => ⟨b, hH k b hb, fun h => h⟩
/-- The rest lies as it lay. -/
theorem St.apart (hs : St C F ρ l H a w) {r : Rec} (hp : Pre r l H) (hf : Fresh r l H) {d : Option Nat} {u : Value} {l' : Env} {F' : Nat → Prop} {ρ' : Nat → Loc} {w' : World}
    (s2 : St C F' ρ' l' r.Hw (a.put d u) w') (fr : Fr r.Ho r.Hw (fun k => k ∈ r.nn) F ρ w F' ρ' w') (hlw : ∀ t v, getE r.lw t = some v → getE l' t = some v) (hd : ∀ t, d = some t → t ∈ keysE r.lw)
    (hW : r.W = keysH r.Ho ++ r.nn) (hwf : Wf r) : St C F' ρ' (upE r l) (upH r H) (a.put d u) w' := by
  have hle : Mem.le ⟨w, F⟩ ⟨w', F'⟩ := Mem.le_of fr.f0 fun i hi => fr.blk i (hs.frz i hi) fun k b hk hz => (hs.own k b (hp.2 k b hk) i hz).1 hi
  have hrest : ∀ k b, k ∉ r.W → getH H k = some b → ρ' k = ρ k ∧ (∀ j ∈ b.refs, ρ' j = ρ j) ∧ ∀ i, (ρ k).Z i → ∀ k0 b0, getH r.Ho k0 = some b0 → ¬ (ρ k0).Z i := fun k b hk hb => by
    rw [hW] at hk
    simp only [List.mem_append, not_or] at hk
    refine ⟨fr.rho k hk.2, fun j hj => fr.rho j fun hn => ((hf j hn).2 k b hb).2 hj, fun i hi k0 b0 h0 hi0 => ?_⟩
    exact hs.dis k0 k b0 b (hp.2 k0 b0 h0) hb (fun e => hk.1 (e ▸ getH_mem h0)) i hi0 hi
  have hcase : ∀ k b, getH (upH r H) k = some b → (getH r.Hw k = some b) ∨ (k ∉ r.W ∧ getH H k = some b) := fun k b hb => by
    rw [upH_get hwf] at hb
    split at hb
    · exact .inl hb
    · rename_i h; exact .inr ⟨h, hb⟩
  have hmix : ∀ k k' b b', getH r.Hw k = some b → k' ∉ r.W → getH H k' = some b' → ∀ i, (ρ' k).Z i → ¬ (ρ' k').Z i := fun k k' b b' hk hk' hb' i hi hi' => by
    obtain ⟨e, _, h3⟩ := hrest k' b' hk' hb'
    rw [e] at hi'
    rcases fr.own k b hk i hi with h | ⟨k0, b0, h1, h2⟩
    · have := (hs.own k' b' hb' i hi').2; omega
    · exact h3 i hi' k0 b0 h1 h2
  exact { s2 with
    env := fun t v hv => by
      rw [upE_get] at hv
      split at hv
      · exact s2.env t v (hlw t v hv)
      · rename_i ht
        have h1 := ((hs.env t v hv).mono hle).same (σ := ρ') fun k hk => fr.rho k fun hn => (hf k hn).1 t v hv hk
        have : (a.put d u).tmps.getD t undef = a.tmps.getD t undef := by
          cases d with
          | none => rfl
          | some d =>
            have hne : d ≠ t := fun e => ht (e ▸ hd d rfl)
            simp only [Act.put, Array.getD_eq_getD_getElem?, Array.getElem?_setIfInBounds, if_neg hne]
        rw [this]; exact h1
    hp := fun k b hb => by
      rcases hcase k b hb with h | ⟨h1, h2⟩
      · exact s2.hp k b h
      · obtain ⟨e, h3, h4⟩ := hrest k b h1 h2
        rw [e]
        exact ((hs.hp k b h2).mono hle fun i hi => fr.blk i (hs.own k b h2 i hi).2 fun k0 b0 h0 hz => h4 i hi k0 b0 h0 hz).same h3
    own := fun k b hb i hi => by
      rcases hcase k b hb with h | ⟨h1, h2⟩
      · exact s2.own k b h i hi
      · obtain ⟨e, h3, h4⟩ := hrest k b h1 h2
        rw [e] at hi
        have h5 := hs.own k b h2 i hi
        refine ⟨fun hF => ?_, Nat.lt_of_lt_of_le h5.2 fr.size⟩
        rcases fr.f1 i hF with h6 | h6 | ⟨k0, b0, h6, h7⟩
        · exact h5.1 h6
        · omega
        · exact h4 i hi k0 b0 h6 h7
    dis := fun k k' b b' hb hb' hne i hi hi' => by
      rcases hcase k b hb with h | ⟨h1, h2⟩ <;> rcases hcase k' b' hb' with h' | ⟨h1', h2'⟩
      · exact s2.dis k k' b b' h h' hne i hi hi'
      · exact hmix k k' b b' h h1' h2' i hi hi'
      · exact hmix k' k b' b h' h1 h2 i hi' hi
      · rw [(hrest k b h1 h2).1] at hi; rw [(hrest k' b' h1' h2').1] at hi'
        exact hs.dis k k' b b' h2 h2' hne i hi hi'
    frz := s2.frz
    mine := fun k b hb i hi => by
      rcases hcase k b hb with h | ⟨h1, h2⟩
      · exact s2.mine k b h i hi
      · rw [(hrest k b h1 h2).1] at hi; exact hs.mine k b h2 i hi }
theorem recV_wf {i : Nat} {lo : Env} {Ho : Heap} {d : Option Nat} {e : EV} : Wf (recV i lo Ho d e) := fun k hk => by cases hk
theorem recV_st {i : Nat} {lo : Env} {Ho : Heap} {d : Option Nat} {e : EV} {u : Value} (hs : St C F ρ l H a w) (hd : dstOk C.N d = true) (he : ERep ⟨w, F⟩ ρ e u) : St C F ρ (upE (recV i lo Ho d e) l) (upH (recV i lo Ho d e) H) (a.put d u) w := by
  have := hs.putO hd he
  cases d <;> exact this
theorem skipD_ok {i : Nat} {o : Oper} {lo : Env} {ps : List Prop} {r : Rec} (hN : C.N = X.N) (h : skipD X i o lo = some (ps, r)) :
    r.i = i ∧ Wf r ∧ r.lo = lo ∧ ∀ F ρ a w l H, St C F ρ l H a w → ∀ K : Act → World → Prop, (∀ F' ρ' a' w', St C F' ρ' (upE r l) (upH r H) a' w' → K a' w') → K (a.put o.dst undef) w := by
  unfold skipD at h
  split at h
  · rename_i hd
    simp only [Option.some.injEq, Prod.mk.injEq] at h; obtain ⟨rfl, rfl⟩ := h
    exact ⟨rfl, recV_wf, rfl, fun F ρ a w l H hs K hK => hK _ _ _ _ (recV_st hs (hN ▸ hd) (e := eU) rfl)⟩
  · cases h
theorem actD_ok {i : Nat} {o : Oper} {nd : List Nat} {lo : Env} {Ho : Heap} {ps : List Prop} {r : Rec} (hC : CtOk X) (hN : C.N = X.N) (hG : C.G = X.G) (h : actD X i o nd lo Ho = some (ps, r)) (hp : allP ps) :
    r.i = i ∧ Wf r ∧ r.lo = lo ∧ ∀ F ρ a w l H, Pre r l H → Fresh r l H → St C F ρ l H a w → ∀ (K : Act → World → Prop) (Q : Exit → Act → World → Prop), (∀ F' ρ' a' w', St C F' ρ' (upE r l) (upH r H) a' w' → K a' w') → o.wp X.P a w K Q := by
  unfold actD at h
  split at h
  · rename_i hE hd
    split at h
    · rename_i c x y hop
      split at h
      · rename_i b hc
        have fin : ∀ {z : Operand}, (∀ {a : Act}, a.eval c = .bool b → (if b then a.eval x else a.eval y) = a.eval z) → optV i lo Ho o.dst (ev X.G lo z) = some (ps, r) → r.i = i ∧ Wf r ∧ r.lo = lo ∧ ∀ F ρ a w l H, Pre r l H → Fresh r l H → St C F ρ l H a w → ∀ (K : Act → World → Prop) (Q : Exit → Act → World → Prop), (∀ F' ρ' a' w', St C F' ρ' (upE r l) (upH r H) a' w' → K a' w') → o.wp X.P a w K Q := fun {z} hz h => by
          cases he : ev X.G lo z with
          | none => rw [he] at h; cases h
          | some e =>
            rw [he] at h
            simp only [optV, Option.some.injEq, Prod.mk.injEq] at h; obtain ⟨rfl, rfl⟩ := h
            refine ⟨rfl, recV_wf, rfl, fun F ρ a w l H hpre hf hs K Q hK => ?_⟩
            have s0 := sub_st hs hpre.1 hpre.2
            have ec : a.eval c = .bool b := s0.ev hG hc
            have hrun : (execOp a.eval o).run X.P w = .ok (.value (a.eval z)) w := by
              obtain ⟨dst, op, type, pos, after, guard⟩ := o
              simp only at hop; subst hop
              rw [← hz ec]
              simp only [execOp, ec, asBool]
              rfl
            simp only [Oper.wp, hrun, Oper.upon]
            exact hK _ _ _ _ (recV_st hs (hN ▸ hd) (s0.ev hG he))
        cases b with
        | true => exact fin (fun _ => rfl) h
        | false => exact fin (fun _ => rfl) h
      · cases h
    · split at h
      · rename_i ps' e hv
        simp only [Option.some.injEq, Prod.mk.injEq] at h; obtain ⟨rfl, rfl⟩ := h
        refine ⟨rfl, recV_wf, rfl, fun F ρ a w l H hpre hf hs K Q hK => ?_⟩
        obtain ⟨u, h1, h2⟩ := vstep_run (sub_st hs hpre.1 hpre.2) hG hv hp
        simp only [Oper.wp, h1, Oper.upon]
        exact hK _ _ _ _ (recV_st hs (hN ▸ hd) h2)
      · cases h
  · rename_i hE hd
    split at h
    · rename_i ps' l' H' nn hst
      split at h
      · rename_i hck
        simp only [Option.some.injEq, Prod.mk.injEq] at h; obtain ⟨rfl, rfl⟩ := h
        simp only [Bool.and_eq_true] at hck
        obtain ⟨c1, c2, c3⟩ := hck
        have hwf : Wf ⟨i, lo, Ho, subE l' (dstL o.dst ++ slotsR nd lo), keysH Ho ++ nn, H', nn⟩ := fun k hk => memN_iff ((List.all_eq_true.1 c2) k hk)
        refine ⟨rfl, hwf, rfl, fun F ρ a w l H hpre hf hs K Q hK => ?_⟩
        refine stepF_ok hC hN hG hst hp F ρ a w (sub_st hs hpre.1 hpre.2) Q K fun F' ρ' u w' s2 fr => hK F' ρ' _ w' ?_
        exact hs.apart hpre hf s2 fr (fun t v hv => subE_get hv) (fun t ht => memN_iff ((List.all_eq_true.1 c3) t (by simp [ht, dstL]))) rfl hwf
      · cases h
    · cases h
  · cases h
theorem recG_ok {i : Nat} {o : Oper} {nd : List Nat} {lo : Env} {Ho : Heap} {ps : List Prop} {r : Rec} (hC : CtOk X) (hN : C.N = X.N) (hG : C.G = X.G) (ho : ops[i]? = some o) (h : recG X ops i o nd lo Ho = some (ps, r)) (hp : allP ps) :
    r.i = i ∧ Wf r ∧ RecOk X.P C ops Q r := by
  have act : actD X i o nd lo Ho = some (ps, r) → (∀ F ρ a w, St C F ρ lo [] a w → Region.wanted o (yielded ops a.tmps) = true) → r.i = i ∧ Wf r ∧ RecOk X.P C ops Q r := fun h hw => by
    obtain ⟨h1, h2, h3, h4⟩ := actD_ok hC hN hG h hp
    refine ⟨h1, h2, fun l H hpre hf F ρ a w hs K hK => ?_⟩
    simp only [wpOp, h1, ho]
    rw [if_pos (hw F ρ a w (sub_st hs (h3 ▸ hpre.1) (by simp [getH])))]
    exact .inl (h4 F ρ a w l H hpre hf hs K Q hK)
  have skip : skipD X i o lo = some (ps, r) → (∀ F ρ a w, St C F ρ lo [] a w → Region.wanted o (yielded ops a.tmps) = false) → r.i = i ∧ Wf r ∧ RecOk X.P C ops Q r := fun h hw => by
    obtain ⟨h1, h2, h3, h4⟩ := skipD_ok hN h
    refine ⟨h1, h2, fun l H hpre hf F ρ a w hs K hK => ?_⟩
    simp only [wpOp, h1, ho]
    rw [if_neg (by rw [hw F ρ a w (sub_st hs (h3 ▸ hpre.1) (by simp [getH]))]; simp)]
    exact h4 F ρ a w l H hs K hK
  unfold recG at h
  split at h
  · rename_i hg; exact act h fun F ρ a w hs => guard_yes hs hg
  · rename_i hg; exact skip h fun F ρ a w hs => guard_no hs hg
  · rename_i t b want hg
    have hw : ∀ F ρ a w, St C F ρ lo [] a w → Region.wanted o (yielded ops a.tmps) = (b == want) := fun F ρ a w hs => (guard_ask hs hg).1
    cases b <;> cases want <;> simp only [pickD, Bool.not_true, Bool.not_false] at h
    · exact act h fun F ρ a w hs => hw F ρ a w hs
    · exact skip h fun F ρ a w hs => hw F ρ a w hs
    · exact skip h fun F ρ a w hs => hw F ρ a w hs
    · exact act h fun F ρ a w hs => hw F ρ a w hs
  · cases h
/-! what is looked at -/
theorem lo_of {r : Rec} {ts : List Nat} {l : Env} (h : r.lo = subE l ts) : ∀ t v, getE r.lo t = some v → getE l t = some v := fun t v hv => subE_get (h ▸ hv)
theorem actD_look {i : Nat} {o : Oper} {nd : List Nat} {lo : Env} {Ho : Heap} {ps : List Prop} {r : Rec} (h : actD X i o nd lo Ho = some (ps, r)) : r.lo = lo ∧ r.Ho = Ho := by
  have ov : ∀ {e : Option EV}, optV i lo Ho o.dst e = some (ps, r) → r.lo = lo ∧ r.Ho = Ho := fun {e} h => by
    cases e with
    | none => cases h
    | some e => simp only [optV, Option.some.injEq, Prod.mk.injEq] at h; obtain ⟨rfl, rfl⟩ := h; exact ⟨rfl, rfl⟩
  unfold actD at h
  split at h
  · split at h
    · split at h
      · split at h
        · exact ov h
        · exact ov h
      · cases h
    · split at h
      · simp only [Option.some.injEq, Prod.mk.injEq] at h; obtain ⟨rfl, rfl⟩ := h; exact ⟨rfl, rfl⟩
      · cases h
  · split at h
    · split at h
      · simp only [Option.some.injEq, Prod.mk.injEq] at h; obtain ⟨rfl, rfl⟩ := h; exact ⟨rfl, rfl⟩
      · cases h
    · cases h
  · cases h
theorem skipD_look {i : Nat} {o : Oper} {lo : Env} {ps : List Prop} {r : Rec} (h : skipD X i o lo = some (ps, r)) : r.lo = lo ∧ r.Ho = [] := by
  unfold skipD at h
  split at h
  · simp only [Option.some.injEq, Prod.mk.injEq] at h; obtain ⟨rfl, rfl⟩ := h; exact ⟨rfl, rfl⟩
  · cases h
theorem recG_look {i : Nat} {o : Oper} {nd : List Nat} {lo : Env} {Ho : Heap} {ps : List Prop} {r : Rec} (h : recG X ops i o nd lo Ho = some (ps, r)) : r.lo = lo ∧ (r.Ho = Ho ∨ r.Ho = []) := by
  have A : actD X i o nd lo Ho = some (ps, r) → r.lo = lo ∧ (r.Ho = Ho ∨ r.Ho = []) := fun h => ⟨(actD_look h).1, .inl (actD_look h).2⟩
  have S : skipD X i o lo = some (ps, r) → r.lo = lo ∧ (r.Ho = Ho ∨ r.Ho = []) := fun h => ⟨(skipD_look h).1, .inr (skipD_look h).2⟩
  unfold recG at h
  split at h
  · exact A h
  · exact S h
  · rename_i t b want hg
    cases b <;> cases want <;> simp only [pickD, Bool.not_true, Bool.not_false] at h
    · exact A h
    · exact S h
    · exact S h
    · exact A h
  · cases h
theorem recD_ok {i : Nat} {o : Oper} {ps : List Prop} {r : Rec} (hC : CtOk X) (hN : C.N = X.N) (hG : C.G = X.G) (ho : ops[i]? = some o) (h : recD X ops i o l H = some (ps, r)) (hp : allP ps) :
    r.i = i ∧ Wf r ∧ RecOk X.P C ops Q r ∧ Pre r l H := by
  unfold recD at h
  obtain ⟨h1, h2⟩ := recG_look h
  obtain ⟨k1, k2, k3⟩ := recG_ok (Q := Q) hC hN hG ho h hp
  refine ⟨k1, k2, k3, fun t v hv => subE_get (h1 ▸ hv), fun k b hb => ?_⟩
  rcases h2 with h2 | h2
  · exact subG_get (h2 ▸ hb)
  · rw [h2] at hb; cases hb
/-- From state to state, record by record. -/
def PathR : List Rec → Env → Heap → Env → Heap → Prop
  | [], l, H, lf, Hf => EqS l lf H Hf
  | r :: rs, l, H, lf, Hf => Pre r l H ∧ PathR rs (upE r l) (upH r H) lf Hf
theorem PathR.cong : ∀ {rs : List Rec} {l l' : Env} {H H' : Heap} {lf : Env} {Hf : Heap}, (∀ r ∈ rs, Wf r) → EqS l l' H H' → PathR rs l H lf Hf → PathR rs l' H' lf Hf
  | [], _, _, _, _, _, _, _, e, h => EqS.trans e.symm h
  | r :: rs, _, _, _, _, _, _, hw, e, ⟨h1, h2⟩ => ⟨h1.cong e, PathR.cong (fun q hq => hw q (by simp [hq])) (up_cong r (hw r (by simp)) e) h2⟩
theorem litE_ok {q : Option (Nat × Bool)} {k : Env → Prop} (hq : ∀ t b, q = some (t, b) → getE l t = some (eB b)) (h : litE q l k) : ∃ l', k l' ∧ EqS l' l H H := by
  cases q with
  | none => exact ⟨l, h, EqS.refl l H⟩
  | some p =>
    obtain ⟨t, b⟩ := p
    have hb := hq t b rfl
    have : ∀ c, b = c → EqS (putE l t (eB c)) l H H := fun c e => by
      subst e
      refine ⟨fun k => ?_, fun _ => rfl⟩
      by_cases hk : t = k
      · subst hk; rw [getE_put_same, hb]
      · rw [getE_put_ne _ _ hk]
    cases b with
    | true => exact ⟨_, h, this true rfl⟩
    | false => exact ⟨_, h, this false rfl⟩
theorem askG_get {o : Oper} {t : Nat} {b : Bool} (h : askG ops l o = some (t, b)) : getE l t = some (eB b) := by
  unfold askG at h
  split at h
  · rename_i t' b' want hg
    simp only [Option.some.injEq, Prod.mk.injEq] at h; obtain ⟨rfl, rfl⟩ := h
    unfold guardV at hg
    split at hg
    · cases hg
    · split at hg
      · split at hg
        · rename_i b'' hb
          simp only [Gd.ask.injEq] at hg; obtain ⟨rfl, rfl, rfl⟩ := hg
          exact hb
        · cases hg
        · cases hg
      · cases hg
  · cases h
theorem askP_get {o : Oper} {t : Nat} {b : Bool} (h : askP l o = some (t, b)) : getE l t = some (eB b) := by
  unfold askP at h
  split at h
  · split at h
    · rename_i hb
      simp only [Option.some.injEq, Prod.mk.injEq] at h; obtain ⟨rfl, rfl⟩ := h
      exact hb
    · cases h
  · cases h
theorem seqD_ok (hC : CtOk X) (hN : C.N = X.N) (hG : C.G = X.G) : ∀ {is : List Nat} {l : Env} {H : Heap} {K : List Rec → Env → Heap → Prop}, seqD X ops is l H K →
    ∃ rs lf Hf, K rs lf Hf ∧ (∀ r ∈ rs, Wf r ∧ RecOk X.P C ops Q r) ∧ rs.map (·.i) = is ∧ PathR rs l H lf Hf
  | [], l, H, K, h => ⟨[], l, H, h, by simp, rfl, EqS.refl l H⟩
  | i :: is, l, H, K, h => by
    simp only [seqD] at h
    split at h
    · exact h.elim
    · rename_i o ho
      obtain ⟨l1, h1, e1⟩ := litE_ok (H := H) (fun t b hq => askG_get hq) h
      obtain ⟨l2, h2, e2⟩ := litE_ok (H := H) (fun t b hq => askP_get hq) h1
      obtain ⟨X', hC', eP, eN, eG, h2⟩ : ∃ X' : Cx, CtOk X' ∧ X'.P = X.P ∧ X'.N = X.N ∧ X'.G = X.G ∧ (match recD X' ops i o l2 H with | some (ps, r) => andL ps (seqD X ops is (upE r l2) (upH r H) fun rs => K (r :: rs)) | none => Bad o) := (brX_ok h2).elim (fun h => ⟨X, hC, rfl, rfl, rfl, h⟩) (fun h => ⟨X.alt, hC.alt, rfl, rfl, rfl, h⟩)
      split at h2
      · rename_i ps r hr
        obtain ⟨hp, hk⟩ := andL_iff.1 h2
        obtain ⟨k1, k2, k3, k4⟩ := recD_ok (Q := Q) hC' (hN.trans eN.symm) (hG.trans eG.symm) ho hr hp
        rw [eP] at k3
        obtain ⟨rs, lf, Hf, r1, r2, r3, r4⟩ := seqD_ok hC hN hG hk
        have hw : ∀ q ∈ r :: rs, Wf q := fun q hq => by
          rcases List.mem_cons.1 hq with rfl | hq
          · exact k2
          · exact (r2 q hq).1
        refine ⟨r :: rs, lf, Hf, r1, fun q hq => ?_, by simp [k1, r3], PathR.cong hw (e2.trans e1) ⟨k4, r4⟩⟩
        rcases List.mem_cons.1 hq with rfl | hq
        · exact ⟨k2, k3⟩
        · exact r2 q hq
      · exact h2.elim
theorem OkR.of_path {K : Env → Heap → Prop} (hK : ∀ {l l' : Env} {H H' : Heap}, EqS l l' H H' → K l H → K l' H') : ∀ {rs : List Rec} {l : Env} {H : Heap} {lf : Env} {Hf : Heap}, (∀ r ∈ rs, Wf r) → (∀ r ∈ rs, Fresh r l H) → (rs.Pairwise fun i j => DisR i j) → K lf Hf → PathR rs l H lf Hf → OkR K rs l H
  | [], l, H, lf, Hf, _, _, _, hk, h => hK h.symm hk
  | r :: rs, l, H, lf, Hf, hw, hf, hd, hk, ⟨h1, h2⟩ => by
    obtain ⟨d1, d2⟩ := List.pairwise_cons.1 hd
    exact ⟨h1, hf, OkR.of_path hK (fun q hq => hw q (by simp [hq])) (fun q hq => (hf q (by simp [hq])).up (hw r (by simp)) (d1 q hq)) d2 hk h2⟩
theorem WS.cong {R : Act → World → Prop} {l l' : Env} {H H' : Heap} (h : EqS l l' H H') (k : WS C l H R) : WS C l' H' R := fun F ρ a w hs =>
  k F ρ a w (sub_st hs (fun t v hv => h.1 t ▸ hv) fun t b hb => h.2 t ▸ hb)
theorem refsE_of : ∀ {l : Env} {t : Nat} {v : EV}, getE l t = some v → ∀ k ∈ v.refs, k ∈ refsE l := refsE_get
theorem runD_any (hC : CtOk X) (hN : C.N = X.N) (hG : C.G = X.G) {K : Env → Heap → Prop} (hK : ∀ l' H', K l' H' → WS C l' H' (Q .normal)) (h : runD X ops K l H) (hs : St C F ρ l H a w) : wpAny X.P .any ops Q ops.size (Array.replicate ops.size false) a { w with drawn := w.drawn + 1 } := by
  unfold runD at h
  split at h
  · exact h.elim
  · rename_i hb
    obtain ⟨rs, lf, Hf, r1, r2, r3, r4⟩ := seqD_ok (Q := Q) (C := C) hC hN hG h
    split at r1
    · rename_i hck
      simp only [Bool.and_eq_true] at hck
      have hpw := rowsB_of hck.1
      have hfr : ∀ r ∈ rs, Fresh r l H := fun r hr k hk => by
        have := (List.all_eq_true.1 hck.2) r hr
        simp only [Bool.and_eq_true] at this
        have n1 := disjN_of this.1 k hk
        have n2 := disjN_of this.2 k hk
        exact ⟨fun t v hv hm => n1 (refsE_get hv k hm), fun j b hj => ⟨fun e => n2 (e ▸ (refsH_get hj).1), fun hm => n2 ((refsH_get hj).2 k hm)⟩⟩
      have hok := OkR.of_path (K := fun l H => WS C l H (Q .normal)) (fun e k => k.cong e) (fun r hr => (r2 r hr).1) hfr (hpw.imp fun h => h.2.1) (hK _ _ r1) r4
      have hmem : ∀ i, (∃ r ∈ rs, r.i = i) ↔ i < ops.size := fun i => by
        have : i ∈ rs.map (·.i) ↔ i < ops.size := by rw [r3]; exact List.mem_range
        rw [← this]; simp
      refine any_rows hb (K := fun l H => WS C l H (Q .normal)) (fun e k => k.cong e) (fun _ _ k => k) ops.size _ rs l H F ρ a _ (by simp) (fun i hi => ?_) ?_ (fun r hr => (hmem r.i).1 ⟨r, hr, rfl⟩) (fun j o hj ho e he hbd hlt => ?_) (fun r hr => (r2 r hr).2) ⟨fun r hr => (r2 r hr).1, hpw⟩ hok (hs.grow (Below.refl _ _).drew)
      · rw [hmem]
        simp [hi, Array.getD_eq_getD_getElem?]
      · have := congrArg List.length r3
        simp at this; omega
      · exfalso
        have hjs : j < ops.size := by
          rcases Nat.lt_or_ge j ops.size with h | h
          · exact h
          · rw [Array.getElem?_eq_none h] at ho; cases ho
        have := hj hjs
        simp [hjs, Array.getD_eq_getD_getElem?] at this
    · exact r1.elim
theorem runD_ok (hC : CtOk X) (hN : C.N = X.N) (hG : C.G = X.G) (hm : X.P.follows .mixedOrders = true) {id : Nat} {K : Env → Heap → Prop} (hK : ∀ l' H', K l' H' → WS C l' H' (Q .normal)) (h : runD X ops K l H) (hs : St C F ρ l H a w) : (Code.region id ops true).wp X.P Q a w :=
  wp_region_any hm (runD_any hC hN hG hK h hs)
end
end Go.Dx
