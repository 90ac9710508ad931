/- The engine's rules: runs of simple operations, the forms of code, calls, results. -/
import Derived.Test.YtjcghjgennddaaaDoorSxStep
namespace Go.Sx
open Go.RowKit
set_option linter.unusedVariables false
set_option linter.unusedSimpArgs false

theorem hao (w : World) (o : Obj) {i : Nat} (h : i < w.heap.size) : (w.alloc o).heap[i]? = w.heap[i]? := by
  show (w.heap.push o)[i]? = w.heap[i]?
  rw [Array.getElem?_push, if_neg (Nat.ne_of_lt h)]

theorem mapM_arr {α β : Type} (P : Program) (f : α → Sem β) (xs : Array α) {ys : List β} {w : World} (h : (xs.toList.mapM f).run P w = .ok ys w) : (xs.mapM f).run P w = .ok ys.toArray w := by
  rw [Array.mapM_eq_mapM_toList]
  show ((xs.toList.mapM f).bind (Sem.pure ∘ List.toArray)).run P w = _
  rw [Sem.run_bind', h]
  rfl

def upd (ρ : Nat → Nat) (k n : Nat) : Nat → Nat := fun j => if j = k then n else ρ j

def AV.noRef (k : Nat) : AV → Bool
  | .v _ => true
  | .lp j _ => !(Nat.beq j k)
  | .ls j _ _ _ => !(Nat.beq j k)
  | .fn _ caps => caps.all fun p => !(Nat.beq p.1 k)

def noRefC (k : Nat) : List Chunk → Bool
  | [] => true
  | .one a :: r => a.noRef k && noRefC k r
  | .ints _ _ _ :: r => noRefC k r
  | .vals _ :: r => noRefC k r

def SV.noRef (k : Nat) : SV → Bool
  | .a x => x.noRef k
  | .agg cs => noRefC k cs

def EV.noRef (k : Nat) : EV → Bool
  | .s x => x.noRef k
  | .t l => l.all (SV.noRef k)

def noRefE (k : Nat) : Env → Bool
  | [] => true
  | (_, v) :: r => v.noRef k && noRefE k r

def noRefH (k : Nat) : Heap → Bool
  | [] => true
  | (j, b) :: r => !(Nat.beq j k) && noRefC k b.cs && noRefH k r

section
variable {ρ : Nat → Nat} {k n : Nat}
theorem upd_ne {j : Nat} (h : (!(Nat.beq j k)) = true) : upd ρ k n j = ρ j := by
  unfold upd
  rw [if_neg]
  intro e; subst e; simp at h

theorem AV.conc_upd {x : AV} (h : x.noRef k = true) : x.conc (upd ρ k n) = x.conc ρ := by
  cases x with
  | v x => rfl
  | lp j off => simp only [AV.noRef] at h; simp only [AV.conc, upd_ne h]
  | ls j off len cap => simp only [AV.noRef] at h; simp only [AV.conc, upd_ne h]
  | fn f caps =>
    simp only [AV.noRef] at h
    simp only [AV.conc]
    congr 2
    apply List.map_congr_left
    intro p hp
    rw [upd_ne (List.all_eq_true.1 h p hp)]

theorem flat_upd : ∀ {cs : List Chunk}, noRefC k cs = true → flat (upd ρ k n) cs = flat ρ cs
  | [], _ => rfl
  | .one a :: r, h => by simp only [noRefC, Bool.and_eq_true] at h; simp only [flat, AV.conc_upd h.1, flat_upd h.2]
  | .ints _ _ _ :: r, h => by simp only [noRefC] at h; simp only [flat, flat_upd h]
  | .vals _ :: r, h => by simp only [noRefC] at h; simp only [flat, flat_upd h]

theorem SV.conc_upd {x : SV} (h : x.noRef k = true) : x.conc (upd ρ k n) = x.conc ρ := by
  cases x with
  | a x => exact AV.conc_upd h
  | agg cs => simp only [SV.conc]; rw [flat_upd h]

theorem EV.conc_upd {x : EV} (h : x.noRef k = true) : x.conc (upd ρ k n) = x.conc ρ := by
  cases x with
  | s x => exact SV.conc_upd h
  | t l =>
    simp only [EV.conc]
    congr 2
    apply List.map_congr_left
    intro y hy
    exact SV.conc_upd (List.all_eq_true.1 h y hy)

theorem noRefE_get : ∀ {l : Env} {t : Nat} {v : EV}, noRefE k l = true → getE l t = some v → v.noRef k = true
  | [], _, _, _, h => by simp [getE] at h
  | (j, x) :: r, t, v, hn, h => by
    simp only [noRefE, Bool.and_eq_true] at hn
    simp only [getE] at h
    split at h
    · simp only [Option.some.injEq] at h; subst h; exact hn.1
    · exact noRefE_get hn.2 h

theorem noRefH_get : ∀ {H : Heap} {t : Nat} {b : Blk}, noRefH k H = true → getH H t = some b → t ≠ k ∧ noRefC k b.cs = true
  | [], _, _, _, h => by simp [getH] at h
  | (j, x) :: r, t, v, hn, h => by
    simp only [noRefH, Bool.and_eq_true] at hn
    simp only [getH] at h
    split at h
    · rename_i hj
      have : j = t := Nat.eq_of_beq_eq_true hj
      subst this
      simp only [Option.some.injEq] at h; subst h
      refine ⟨fun e => ?_, hn.1.2⟩
      subst e
      simp at hn
    · exact noRefH_get hn.2 h
end

section
variable {P : Program} {C : Ctx} {ρ : Nat → Nat} {l : Env} {H : Heap} {a : Act} {w : World}

theorem Sv.put (h : Sv C ρ l H a w) (hs : a.tmps.size = C.N) {d : Nat} {e : EV} (hd : d < C.N) (he : e.ok) : Sv C ρ (putE l d e) H (a.put (some d) (e.conc ρ)) w where
  env t v hv := by
    by_cases hdt : d = t
    · subst hdt
      rw [getE_put_same] at hv
      simp only [Option.some.injEq] at hv
      subst hv
      refine ⟨?_, he⟩
      simp [Act.put, Array.getD_eq_getD_getElem?, Array.getElem?_setIfInBounds, hs, hd]
    · rw [getE_put_ne l e hdt] at hv
      have := h.env t v hv
      refine ⟨?_, this.2⟩
      rw [← this.1]
      simp [Act.put, Array.getD_eq_getD_getElem?, Array.getElem?_setIfInBounds, hdt]
  hp := h.hp
  ag := h.ag

theorem St.put (h : St C ρ l H a w) {d : Nat} {e : EV} (hd : d < C.N) (he : e.ok) : St C ρ (putE l d e) H (a.put (some d) (e.conc ρ)) w where
  toSv := h.toSv.put h.size hd he
  defers := h.defers
  size := by simp [Act.put, h.size]
  own := h.own
  inj := h.inj
  keep := h.keep
  pin := h.pin

/-- A smaller list of known slots and blocks. -/
theorem St.weaken (h : St C ρ l H a w) {l' : Env} {H' : Heap} (hl : ∀ t v, getE l' t = some v → getE l t = some v) (hH : ∀ k b, getH H' k = some b → getH H k = some b) : St C ρ l' H' a w where
  env t v hv := h.env t v (hl t v hv)
  hp k b hb := h.hp k b (hH k b hb)
  ag := h.ag
  defers := h.defers
  size := h.size
  own k b hb := h.own k b (hH k b hb)
  inj k k' b b' hb hb' := h.inj k k' b b' (hH _ _ hb) (hH _ _ hb')
  keep := h.keep
  pin := h.pin

theorem St.lt (h : St C ρ l H a w) {k : Nat} {b : Blk} (hb : getH H k = some b) : ρ k < w.heap.size := (Array.getElem?_eq_some_iff.1 (h.hp k b hb).1).1

theorem getH_cons_ne {k t : Nat} {b : Blk} (h : k ≠ t) : getH ((k, b) :: H) t = getH H t := by
  simp [getH, nbeq_false h]

theorem getH_cons_same {k : Nat} {b : Blk} : getH ((k, b) :: H) k = some b := by simp [getH]

/-- A new block of the call's own. -/
theorem St.alloc (h : St C ρ l H a w) {k : Nat} {cs : List Chunk} {t : Nat} (hE : noRefE k l = true) (hH : noRefH k H = true) (hC : noRefC k cs = true) (hok : okCs cs) (hk : k < C.N) :
    St C (upd ρ k w.heap.size) l ((k, ⟨cs, t⟩) :: H) a (w.alloc (.cells (flat ρ cs).toArray t)) where
  defers := h.defers
  size := h.size
  own j b hb := by
    by_cases hkj : k = j
    · subst hkj
      have e0 : upd ρ k w.heap.size k = w.heap.size := if_pos rfl
      rw [e0]
      exact ⟨fun hx => absurd (h.ag _ hx).1 (Nat.lt_irrefl _), Or.inl h.keep.size⟩
    · rw [getH_cons_ne hkj] at hb
      have e : upd ρ k w.heap.size j = ρ j := by simp [upd, Ne.symm hkj]
      rw [e]
      exact h.own j b hb
  env t v hv := by
    have := h.env t v hv
    refine ⟨?_, this.2⟩
    rw [EV.conc_upd (noRefE_get hE hv), this.1]
  hp j b hb := by
    by_cases hkj : k = j
    · subst hkj
      rw [getH_cons_same] at hb
      simp only [Option.some.injEq] at hb
      subst hb
      have e0 : upd ρ k w.heap.size k = w.heap.size := if_pos rfl
      rw [e0]
      refine ⟨?_, hok⟩
      rw [heap_alloc_new, flat_upd hC]
    · rw [getH_cons_ne hkj] at hb
      obtain ⟨h1, h2⟩ := h.hp j b hb
      obtain ⟨hne, hnr⟩ := noRefH_get hH hb
      have e : upd ρ k w.heap.size j = ρ j := by simp [upd, Ne.symm hkj]
      rw [e]
      refine ⟨?_, h2⟩
      rw [hao _ _ (h.lt hb), h1, flat_upd hnr]
  inj j j' b b' hb hb' he := by
    by_cases hkj : k = j <;> by_cases hkj' : k = j'
    · rw [← hkj, ← hkj']
    · subst hkj
      rw [getH_cons_ne hkj'] at hb'
      have : upd ρ k w.heap.size j' = ρ j' := by simp [upd, Ne.symm hkj']
      rw [this] at he
      simp only [upd, if_true] at he
      have := h.lt hb'
      omega
    · subst hkj'
      rw [getH_cons_ne hkj] at hb
      have : upd ρ k w.heap.size j = ρ j := by simp [upd, Ne.symm hkj]
      rw [this] at he
      simp only [upd, if_true] at he
      have := h.lt hb
      omega
    · rw [getH_cons_ne hkj] at hb
      rw [getH_cons_ne hkj'] at hb'
      have e1 : upd ρ k w.heap.size j = ρ j := by simp [upd, Ne.symm hkj]
      have e2 : upd ρ k w.heap.size j' = ρ j' := by simp [upd, Ne.symm hkj']
      rw [e1, e2] at he
      exact h.inj j j' b b' hb hb' he
  ag b hx := by
    obtain ⟨h1, h2⟩ := h.ag b hx
    exact ⟨by simp; omega, by rw [hao _ _ h1]; exact h2⟩
  keep := h.keep.trans ⟨rfl, rfl, rfl, by simp, fun i hi hs => hao _ _ (Nat.lt_of_lt_of_le hi h.keep.size)⟩
  pin j hj := by
    have : ¬ j = k := by omega
    simp only [upd, if_neg this]
    exact h.pin j hj

theorem setCells_row (g : Nat) (t : TypeId) (fr : Nat × Nat) : ∀ (vs : List Value) (o : Nat) (cur : List Value) (w : World), w.heap[g]? = some (.cells cur.toArray t fr) → o + vs.length ≤ cur.length →
    w.setCells g o vs = w.setRow g (cur.take o ++ vs ++ cur.drop (o + vs.length)).toArray
  | [], o, cur, w, hg, hl => by
    have e : (cur.take o ++ [] ++ cur.drop (o + ([] : List Value).length)).toArray = cur.toArray := by simp
    rw [e]
    have hlt : g < w.heap.size := (Array.getElem?_eq_some_iff.1 hg).1
    have hv : w.heap[g] = .cells cur.toArray t fr := (Array.getElem?_eq_some_iff.1 hg).2
    unfold World.setCells World.setRow
    cases w with
    | mk heap tape drawn os output =>
      congr 1
      apply Array.ext
      · simp
      · intro k h1 h2
        simp only [Array.getElem_modify]
        split
        · rename_i hk; subst hk; simp at hv; simp [hv]
        · rfl
  | v :: r, o, cur, w, hg, hl => by
    simp only [List.length_cons] at hl
    rw [World.setCells, setCell_eq_setRow w g o cur.toArray t fr v hg]
    have hs : cur.toArray.setIfInBounds o v = (cur.set o v).toArray := by simp
    rw [hs, setCells_row g t fr r (o + 1) (cur.set o v) _ (setRow_heap w g _ _ t fr hg) (by simp; omega), setRow_setRow]
    congr 2
    have e1 : (cur.set o v).take (o + 1) = cur.take o ++ [v] := by
      rw [List.take_succ_eq_append_getElem (by simp; omega)]
      simp [List.take_set_of_le]
    have e2 : (cur.set o v).drop (o + 1 + r.length) = cur.drop (o + (r.length + 1)) := by
      rw [List.drop_set_of_lt (by omega), show o + 1 + r.length = o + (r.length + 1) by omega]
    simp [e1, e2]

/-- A store into a block of the call's own. -/
theorem St.store (h : St C ρ l H a w) {k off : Nat} {b : Blk} {x : SV} {cs' : List Chunk} {t : TypeId} (hb : getH H k = some b) (hx : x.ok) (ho : onesOk x.chunks = true)
    (hp : putC b.cs off x.chunks = some cs') (hs : (P.info? t).map (·.size) = some (sz x.chunks)) :
    ∃ w', (storeVar t ⟨ρ k, off, none⟩ (x.conc ρ)).run P w = .ok () w' ∧ St C ρ l (setH H k ⟨cs', b.ty⟩) a w' := by
  have hxo : okCs x.chunks := by
    cases x with
    | a y => intro c hc; simp [SV.chunks] at hc; subst hc; trivial
    | agg cs => exact hx
  obtain ⟨h1, h2⟩ := h.hp k b hb
  obtain ⟨h3, h4⟩ := h.own k b hb
  obtain ⟨hok', A, M, D, e1, e2, e3, e4⟩ := putC_flat ρ h2 hxo hp
  have hcells := cells_of_chunks ρ ho
  have hlen := flat_length ρ hxo
  have hones := onesOk_cell ρ ho
  refine ⟨w.setCells (ρ k) off (flat ρ x.chunks), ?_, ?_⟩
  · have hst := run_storeCells_cells (P := P) (ρ k) off (flat ρ x.chunks) 0 w
      (fun j hj => by
        simp only [Nat.add_zero]
        rw [cell_of_row w (ρ k) (off + j) _ b.ty (0, 0) h1]
        simp only [List.getElem?_toArray]
        rw [e1, List.getElem?_append_left (by simp; omega)]
        rw [List.getElem?_append_right (by omega)]
        rw [List.getElem?_eq_getElem (by omega)]
        rfl)
      (fun j hj => frozen_of_row w (ρ k) _ _ b.ty h1) hones
    cases hq : P.info? t with
    | none => simp [hq] at hs
    | some i =>
      have hsz : i.size = sz x.chunks := by simpa [hq] using hs
      simp only [storeVar, sizeOf, typeInfo, Sem.run_bind, run_program, Result.andThen_ok, hq, Sem.run_pure, hcells, List.size_toArray]
      rw [if_neg (by simp [hlen, hsz])]
      simpa using hst
  · have hw : w.setCells (ρ k) off (flat ρ x.chunks) = w.setRow (ρ k) (flat ρ cs').toArray := by
      rw [setCells_row (ρ k) b.ty (0, 0) (flat ρ x.chunks) off (flat ρ b.cs) w h1 (by rw [e1]; simp; omega)]
      congr 2
      rw [e4, e1]
      have t1 : (A ++ M ++ D).take off = A := by rw [List.append_assoc, List.take_append_of_le_length (by omega), List.take_of_length_le (by omega)]
      have t2 : (A ++ M ++ D).drop (off + (flat ρ x.chunks).length) = D := by
        rw [List.drop_append_of_le_length (by simp; omega), List.drop_of_length_le (by simp; omega)]; rfl
      rw [t1, t2]
    rw [hw]
    have key : ∀ {j : Nat} {c : Blk}, getH (setH H k ⟨cs', b.ty⟩) j = some c → ∃ c0, getH H j = some c0 := by
      intro j c hc
      rw [getH_set] at hc
      split at hc
      · rename_i hj; subst hj; exact ⟨b, hb⟩
      · exact ⟨c, hc⟩
    refine { defers := h.defers, size := h.size, env := h.env, pin := h.pin, hp := fun j b' hb' => ?_, own := fun j c hc => ?_, inj := fun j j' c c' hc hc' he => ?_, ag := fun i hi => ?_, keep := ?_ }
    · rw [getH_set] at hb'
      split at hb'
      · rename_i hj
        subst hj
        rw [hb] at hb'
        simp only [Option.map_some, Option.some.injEq] at hb'
        subst hb'
        exact ⟨setRow_heap w _ _ _ b.ty (0, 0) h1, hok'⟩
      · rename_i hj
        obtain ⟨g1, g2⟩ := h.hp j b' hb'
        refine ⟨?_, g2⟩
        rw [setRow_other _ _ _ _ (fun e => hj (h.inj j k b' b hb' hb e))]
        exact g1
    · obtain ⟨g1, g2⟩ := h.ag i hi
      refine ⟨by simpa using g1, ?_⟩
      rw [setRow_other _ _ _ _ (fun e => h3 (by rw [← e]; exact hi))]
      exact g2
    · obtain ⟨c0, hc0⟩ := key hc
      exact h.own j c0 hc0
    · obtain ⟨c0, hc0⟩ := key hc
      obtain ⟨c1, hc1⟩ := key hc'
      exact h.inj j j' c0 c1 hc0 hc1 he
    · refine h.keep.trans ⟨rfl, rfl, rfl, by simp, fun i hi hs => setRow_other _ _ _ _ (fun e => ?_)⟩
      subst e
      rcases h4 with h4 | h4
      · omega
      · exact hs h4

/-- Operations with an effect on what the call owns: a variable that is boxed, a store. -/
def eff1 (P : Program) (N : Nat) (l : Env) (H : Heap) (o : Oper) : Option (Env × Heap) :=
  match o.op, o.dst with
  | .box t x, some d => match ev l x with
    | some (.s v) => match onesOk v.chunks && noRefE d l && noRefH d H && noRefC d v.chunks && Nat.blt d N with
      | true => some (putE l d (.s (.a (.lp d 0))), (d, ⟨v.chunks, t⟩) :: H)
      | false => none
    | _ => none
  | .store t x y, none => match ev l x, ev l y with
    | some (.s (.a (.lp k off))), some (.s v) => match getH H k with
      | some b => match putC b.cs off v.chunks with
        | some cs' => match P.info? t with
          | some i => match onesOk v.chunks && Nat.beq i.size (sz v.chunks) with
            | true => some (l, setH H k ⟨cs', b.ty⟩)
            | false => none
          | none => none
        | none => none
      | none => none
    | _, _ => none
  | _, _ => none

def guardV (ops : Array Oper) (l : Env) (o : Oper) : Option Bool :=
  match o.guard with
  | none => some true
  | some (g, want) => match (ops[g]?).bind (·.dst) with
    | some t => match getE l t with
      | some (.s (.a (.v (.bool b)))) => some (some b == some want)
      | some (.s (.a (.v (.tuple _)))) => some false
      | _ => none
    | none => none

theorem guardV_spec (h : Sv C ρ l H a w) {ops : Array Oper} {o : Oper} {b : Bool} (hg : guardV ops l o = some b) : Region.wanted o (yielded ops a.tmps) = b := by
  unfold guardV at hg
  unfold Region.wanted
  split at hg
  · rename_i hn
    simp only [hn]
    simpa using hg
  · rename_i g want hn
    simp only [hn]
    split at hg
    · rename_i t ht
      unfold yielded
      simp only [ht, Option.bind_some]
      split at hg
      · rename_i y hy
        have := (h.env t _ hy).1
        simp only [EV.conc, SV.conc, AV.conc] at this
        have ht : a.tmps[t]? = some (.bool y) := by
          rw [Array.getD_eq_getD_getElem?] at this
          cases hq : a.tmps[t]? with
          | none => simp [hq, undef] at this
          | some z => simp [hq] at this; rw [this]
        simpa [ht] using hg
      · rename_i y hy
        have := (h.env t _ hy).1
        simp only [EV.conc, SV.conc, AV.conc] at this
        simp only [Option.some.injEq] at hg
        subst hg
        cases hq : a.tmps[t]? with
        | none => rfl
        | some z =>
          rw [Array.getD_eq_getD_getElem?] at this
          simp [hq] at this
          subst this
          rfl
      · cases hg
    · cases hg

def putO (l : Env) (d : Option Nat) (v : EV) : Env :=
  match d with
  | some d => putE l d v
  | none => l

def dstOk (N : Nat) (d : Option Nat) : Bool :=
  match d with
  | some d => Nat.blt d N
  | none => true

def step1 (P : Program) (N : Nat) (ops : Array Oper) (k : Nat) (l : Env) (H : Heap) : Option (Env × Heap) :=
  match ops[k]? with
  | none => none
  | some o => match dstOk N o.dst, guardV ops l o with
    | true, some false => some (putO l o.dst (.s (.a (.v undef))), H)
    | true, some true => match o.op with
      | .box _ _ => eff1 P N l H o
      | .store _ _ _ => eff1 P N l H o
      | _ => match val1 P l H o with
        | some e => some (putO l o.dst e, H)
        | none => none
    | _, _ => none

def runL (P : Program) (N : Nat) (ops : Array Oper) : List Nat → Env → Heap → Option (Env × Heap)
  | [], l, H => some (l, H)
  | k :: ks, l, H => match step1 P N ops k l H with
    | some (l', H') => runL P N ops ks l' H'
    | none => none

def restE (l : Env) : List Nat → Env
  | [] => []
  | t :: ts => match getE l t with
    | some v => (t, v) :: restE l ts
    | none => restE l ts

def restH (H : Heap) : List Nat → Heap
  | [] => []
  | t :: ts => match getH H t with
    | some v => (t, v) :: restH H ts
    | none => restH H ts

theorem restE_get : ∀ {ts : List Nat} {t : Nat} {v : EV}, getE (restE l ts) t = some v → getE l t = some v
  | [], _, _, h => by simp [restE, getE] at h
  | u :: ts, t, v, h => by
    simp only [restE] at h
    split at h
    · rename_i x hx
      simp only [getE] at h
      split at h
      · rename_i hu
        have : u = t := Nat.eq_of_beq_eq_true hu
        subst this
        rw [hx]; exact h
      · exact restE_get h
    · exact restE_get h

theorem restH_get : ∀ {ts : List Nat} {t : Nat} {v : Blk}, getH (restH H ts) t = some v → getH H t = some v
  | [], _, _, h => by simp [restH, getH] at h
  | u :: ts, t, v, h => by
    simp only [restH] at h
    split at h
    · rename_i x hx
      simp only [getH] at h
      split at h
      · rename_i hu
        have : u = t := Nat.eq_of_beq_eq_true hu
        subst this
        rw [hx]; exact h
      · exact restH_get h
    · exact restH_get h

/-- From every state that is known so, the rest of the region runs. -/
def WO (P : Program) (ops : Array Oper) (Q : Exit → Act → World → Prop) (C : Ctx) (ks : List Nat) (l : Env) (H : Heap) : Prop :=
  ∀ ρ a w, St C ρ l H a w → wpOps P ops Q ks a w
/-- Likewise a code. -/
def WC (P : Program) (c : Code) (Q : Exit → Act → World → Prop) (C : Ctx) (l : Env) (H : Heap) : Prop :=
  ∀ ρ a w, St C ρ l H a w → c.wp P Q a w
/-- Likewise an end. -/
def WE (Q : Exit → Act → World → Prop) (e : Exit) (C : Ctx) (l : Env) (H : Heap) : Prop :=
  ∀ ρ a w, St C ρ l H a w → Q e a w

theorem St.putO (h : St C ρ l H a w) {d : Option Nat} {e : EV} (hd : dstOk C.N d = true) (he : e.ok) : St C ρ (putO l d e) H (a.put d (e.conc ρ)) w := by
  cases d with
  | none => exact h
  | some d => exact h.put (Nat.le_of_ble_eq_true hd) he

/-- The names of the owned blocks, and what lies in them, are as they were. -/
def Agr (H : Heap) (ρ ρ' : Nat → Nat) : Prop := ∀ k b, getH H k = some b → ρ' k = ρ k ∧ flat ρ' b.cs = flat ρ b.cs

theorem Agr.refl : Agr H ρ ρ := fun _ _ _ => ⟨rfl, rfl⟩

/-- One operation: from every state that is known so, to one that is known so. -/
def OT (P : Program) (Q : Exit → Act → World → Prop) (C : Ctx) (o : Oper) (l : Env) (H : Heap) (l' : Env) (H' : Heap) : Prop :=
  ∀ ρ a w, St C ρ l H a w → ∀ K : Act → World → Prop, (∀ ρ' a' w', Agr H ρ ρ' → St C ρ' l' H' a' w' → K a' w') → o.wp P a w K Q

/-- Of two contexts the second knows what the first knows. -/
structure CExt (C C' : Ctx) : Prop where
  N : C'.N = C.N
  w0 : C'.w0 = C.w0
  S : C'.S = C.S
  X : ∀ b, C.X b → C'.X b ∧ C'.E.heap[b]? = C.E.heap[b]?
  r : C'.r = C.r

/-- One operation whose outcome is one of many. -/
def OX (P : Program) (Q : Exit → Act → World → Prop) (C : Ctx) (o : Oper) (l : Env) (H : Heap) {τ : Type} (φ : τ → Prop) (C' : τ → Ctx) (l' : τ → Env) (H' : τ → Heap) : Prop :=
  ∀ ρ a w, St C ρ l H a w → ∀ K : Act → World → Prop, (∀ x ρ' a' w', φ x → CExt C (C' x) → Agr H ρ ρ' → St (C' x) ρ' (l' x) (H' x) a' w' → K a' w') → o.wp P a w K Q

section
variable {ops : Array Oper} {Q : Exit → Act → World → Prop} {ks : List Nat}

theorem wo_op {k : Nat} {o : Oper} {l' : Env} {H' : Heap} (ho : ops[k]? = some o) (hg : guardV ops l o = some true) (ot : OT P Q C o l H l' H') (h : WO P ops Q C ks l' H') : WO P ops Q C (k :: ks) l H := by
  intro ρ a w hs
  simp only [wpOps, ho, guardV_spec hs.toSv hg, if_true]
  exact .inl (ot ρ a w hs _ fun ρ' a' w' _ hs' => h ρ' a' w' hs')

theorem wo_ox {k : Nat} {o : Oper} {τ : Type} {φ : τ → Prop} {C' : τ → Ctx} {l' : τ → Env} {H' : τ → Heap} (ho : ops[k]? = some o) (hg : guardV ops l o = some true) (ot : OX P Q C o l H φ C' l' H')
    (h : ∀ x, φ x → CExt C (C' x) → WO P ops Q (C' x) ks (l' x) (H' x)) : WO P ops Q C (k :: ks) l H := by
  intro ρ a w hs
  simp only [wpOps, ho, guardV_spec hs.toSv hg, if_true]
  exact .inl (ot ρ a w hs _ fun x ρ' a' w' hx hc _ hs' => h x hx hc ρ' a' w' hs')

theorem wo_skip {k : Nat} {o : Oper} (ho : ops[k]? = some o) (hg : guardV ops l o = some false) (hd : dstOk C.N o.dst = true)
    (h : WO P ops Q C ks (putO l o.dst (.s (.a (.v undef)))) H) : WO P ops Q C (k :: ks) l H := by
  intro ρ a w hs
  simp only [wpOps, ho, guardV_spec hs.toSv hg]
  exact h ρ _ w (hs.putO (e := .s (.a (.v undef))) hd trivial)

theorem ot_value {o : Oper} (e : EV) (hd : dstOk C.N o.dst = true) (he : e.ok) (hr : ∀ ρ a w, Sv C ρ l H a w → (execOp a.eval o).run P w = .ok (.value (e.conc ρ)) w) : OT P Q C o l H (putO l o.dst e) H := by
  intro ρ a w hs K hK
  simp only [Oper.wp, hr ρ a w hs.toSv, Oper.upon]
  exact hK ρ _ w .refl (hs.putO hd he)

theorem ot_val1 {o : Oper} {e : EV} (hd : dstOk C.N o.dst = true) (hv : val1 P l H o = some e) : OT P Q C o l H (putO l o.dst e) H := by
  intro ρ a w hs K hK
  simp only [Oper.wp, (val1_run hs.toSv hv).1, Oper.upon]
  exact hK ρ _ w .refl (hs.putO hd (val1_run hs.toSv hv).2)

theorem agr_upd {k n : Nat} (hH : noRefH k H = true) : Agr H ρ (upd ρ k n) := fun j b hb => by
  obtain ⟨hne, hnr⟩ := noRefH_get hH hb
  exact ⟨by simp [upd, hne], flat_upd hnr⟩

theorem ot_eff {o : Oper} {l' : Env} {H' : Heap} (he : eff1 P C.N l H o = some (l', H')) : OT P Q C o l H l' H' := by
  intro ρ a w hs K hK
  obtain ⟨dst, op, type, pos, after, guard⟩ := o
  unfold eff1 at he
  split at he
  · rename_i t x d hop hdd
    simp only at hop hdd
    subst hop; subst hdd
    split at he
    · rename_i v hx
      split at he
      · rename_i hc
        simp only [Bool.and_eq_true] at hc
        obtain ⟨⟨⟨⟨c1, c2⟩, c3⟩, c4⟩, c5⟩ := hc
        simp only [Option.some.injEq, Prod.mk.injEq] at he
        obtain ⟨rfl, rfl⟩ := he
        have hxo := hs.ev hx
        have hok : okCs v.chunks := by
          cases v with
          | a y => intro c hc; simp [SV.chunks] at hc; subst hc; trivial
          | agg cs => exact hxo.2
        have hb : (execOp a.eval { dst := some d, op := .box t x, type := type, pos := pos, after := after, guard := guard }).run P w =
            .ok (.value (.pointer (some ⟨w.heap.size, 0, none⟩))) (w.alloc (.cells (flat ρ v.chunks).toArray t)) := by
          simp only [execOp, hxo.1, EV.conc, Instr.box, newVar, newRow, cells_of_chunks ρ c1]
          rfl
        simp only [Oper.wp, hb, Oper.upon]
        have hs' := (hs.alloc (t := t) c2 c3 c4 hok (Nat.le_of_ble_eq_true c5)).put (d := d) (e := .s (.a (.lp d 0))) (Nat.le_of_ble_eq_true c5) trivial
        have e0 : (EV.s (.a (.lp d 0))).conc (upd ρ d w.heap.size) = .pointer (some ⟨w.heap.size, 0, none⟩) := by simp [EV.conc, SV.conc, AV.conc, upd]
        rw [e0] at hs'
        exact hK _ _ _ (agr_upd c3) hs'
      · cases he
    · cases he
  · rename_i t x y hop hdd
    simp only at hop hdd
    subst hop; subst hdd
    split at he
    · rename_i kk off v hx hy
      split at he
      · rename_i b hb
        split at he
        · rename_i cs' hp
          split at he
          · rename_i i hi
            split at he
            · rename_i hc
              simp only [Bool.and_eq_true] at hc
              simp only [Option.some.injEq, Prod.mk.injEq] at he
              obtain ⟨rfl, rfl⟩ := he
              have hxo := hs.ev hx
              have hyo := hs.ev hy
              obtain ⟨w', hw, hs'⟩ := hs.store (P := P) (t := t) hb hyo.2 hc.1 hp (by simp [hi, Nat.eq_of_beq_eq_true hc.2])
              have hb : (execOp a.eval { dst := none, op := .store t x y, type := type, pos := pos, after := after, guard := guard }).run P w = .ok .skip w' := by
                have e1 : a.eval y = v.conc ρ := hyo.1
                have e2 : a.eval x = .pointer (some ⟨ρ kk, off, none⟩) := hxo.1
                simp only [execOp, e1, e2, Instr.storeAt, Instr.sureAddr, Sem.run_bind, Sem.run_pure, Result.andThen_ok, hw]
              simp only [Oper.wp, hb, Oper.upon]
              exact hK _ _ _ .refl hs'
            · cases he
          · cases he
        · cases he
      · cases he
    · cases he
  · cases he

theorem wo_step {k : Nat} {l' : Env} {H' : Heap} (h1 : step1 P C.N ops k l H = some (l', H')) (h : WO P ops Q C ks l' H') : WO P ops Q C (k :: ks) l H := by
  unfold step1 at h1
  split at h1
  · cases h1
  · rename_i o ho
    split at h1
    · rename_i hd hg
      simp only [Option.some.injEq, Prod.mk.injEq] at h1
      obtain ⟨rfl, rfl⟩ := h1
      exact wo_skip ho hg hd h
    · rename_i hd hg
      split at h1
      · exact wo_op ho hg (ot_eff h1) h
      · exact wo_op ho hg (ot_eff h1) h
      · split at h1
        · rename_i e hv
          simp only [Option.some.injEq, Prod.mk.injEq] at h1
          obtain ⟨rfl, rfl⟩ := h1
          exact wo_op ho hg (ot_val1 hd hv) h
        · cases h1
    · cases h1

theorem wo_run_all : ∀ {ks1 : List Nat} {l : Env} {H : Heap} {l' : Env} {H' : Heap}, runL P C.N ops ks1 l H = some (l', H') → WO P ops Q C ks l' H' → WO P ops Q C (ks1 ++ ks) l H
  | [], l, H, l', H', h, hw => by
    simp only [runL, Option.some.injEq, Prod.mk.injEq] at h
    obtain ⟨rfl, rfl⟩ := h
    exact hw
  | k :: r, l, H, l', H', h, hw => by
    simp only [runL] at h
    split at h
    · rename_i l1 H1 h1
      exact wo_step h1 (wo_run_all h hw)
    · cases h

theorem WO.weaken {l' : Env} {H' : Heap} (h : WO P ops Q C ks l' H') (hl : ∀ t v, getE l' t = some v → getE l t = some v) (hH : ∀ k b, getH H' k = some b → getH H k = some b) : WO P ops Q C ks l H :=
  fun ρ a w hs => h ρ a w (hs.weaken hl hH)

/-- A run of simple operations, and what is still wanted of the slots and blocks behind it. -/
theorem wo_run (ks1 : List Nat) (ts hs : List Nat) {l' : Env} {H' : Heap} (h : (runL P C.N ops ks1 l H).map (fun x => (restE x.1 ts, restH x.2 hs)) = some (l', H')) (hw : WO P ops Q C ks l' H') : WO P ops Q C (ks1 ++ ks) l H := by
  cases hr : runL P C.N ops ks1 l H with
  | none => simp [hr] at h
  | some x =>
    obtain ⟨l1, H1⟩ := x
    simp only [hr, Option.map_some, Option.some.injEq, Prod.mk.injEq] at h
    obtain ⟨rfl, rfl⟩ := h
    exact wo_run_all hr (hw.weaken (fun t v hv => restE_get hv) (fun k b hb => restH_get hb))

theorem wo_nil (h : WE Q .normal C l H) : WO P ops Q C [] l H := h

/-- A variable's zero. -/
theorem ot_alloc {o : Oper} {t d : Nat} {cs : List Chunk} (hop : o.op = .alloc t) (hdst : o.dst = some d)
    (hz : (P.info? t).bind (·.zero) = some (SV.conc (fun _ => 0) (.agg cs)) ∨ ∃ v, (P.info? t).bind (·.zero) = some v ∧ cs = [.one (.v v)] ∧ v.oneCell' = true)
    (hc : (noRefE d l && noRefH d H && noRefC d cs && Nat.blt d C.N) = true) (hok : okCs cs) (hflat : ∀ ρ, flat ρ cs = flat (fun _ => 0) cs) :
    OT P Q C o l H (putE l d (.s (.a (.lp d 0)))) ((d, ⟨cs, t⟩) :: H) := by
  intro ρ a w hs K hK
  simp only [Bool.and_eq_true] at hc
  obtain ⟨⟨⟨c2, c3⟩, c4⟩, c5⟩ := hc
  have hz' : ∃ v, (P.info? t).bind (·.zero) = some v ∧ v.cells = (flat ρ cs).toArray := by
    rcases hz with hz | ⟨v, hz, rfl, h1⟩
    · exact ⟨_, hz, by rw [hflat ρ]; rfl⟩
    · refine ⟨v, hz, ?_⟩
      simp only [flat, AV.conc]
      cases v <;> first | rfl | (simp [Value.oneCell'] at h1)
  obtain ⟨v, hz1, hz2⟩ := hz'
  have hb : (execOp a.eval o).run P w = .ok (.value (.pointer (some ⟨w.heap.size, 0, none⟩))) (w.alloc (.cells (flat ρ cs).toArray t)) := by
    obtain ⟨dst, op, type, pos, after, guard⟩ := o
    simp only at hop
    subst hop
    cases hq : P.info? t with
    | none => simp [hq] at hz1
    | some i =>
      have hz3 : i.zero = some v := by simpa [hq] using hz1
      simp only [execOp, Instr.alloc, zeroValue, typeInfo, Sem.run_bind, run_program, Result.andThen_ok, hq, Sem.run_pure, hz3, newVar, newRow, hz2]
      rfl
  simp only [Oper.wp, hb, Oper.upon, hdst]
  have hs' := (hs.alloc (t := t) c2 c3 c4 hok (Nat.le_of_ble_eq_true c5)).put (d := d) (e := .s (.a (.lp d 0))) (Nat.le_of_ble_eq_true c5) trivial
  have e0 : (EV.s (.a (.lp d 0))).conc (upd ρ d w.heap.size) = .pointer (some ⟨w.heap.size, 0, none⟩) := by simp [EV.conc, SV.conc, AV.conc, upd]
  rw [e0] at hs'
  exact hK _ _ _ (agr_upd c3) hs'
end

/-! the forms of code -/
section
variable {Q : Exit → Act → World → Prop} {l' : Env} {H' : Heap}

theorem wc_region {id : Nat} {ops : Array Oper} {n : Nat} (hn : ops.size = n) (h : WO P ops Q C (List.range n) l H) : WC P (.region id ops false) Q C l H :=
  fun ρ a w hs => wp_region (by rw [hn]; exact h ρ a w hs)

theorem wc_seq {x y : Code} (h : WC P x (Exit.then (y.wp P Q) Q) C l H) : WC P (.seq x y) Q C l H := fun ρ a w hs => wp_seq (h ρ a w hs)
theorem wc_skip (h : WE Q .normal C l H) : WC P .skip Q C l H := fun ρ a w hs => wp_skip (h ρ a w hs)
theorem wc_ret (h : WE Q .ret C l H) : WC P .ret Q C l H := fun ρ a w hs => wp_ret (h ρ a w hs)
theorem wc_exit {id : Nat} (h : WE Q (.exit id) C l H) : WC P (.exit id) Q C l H := fun ρ a w hs => wp_exit (h ρ a w hs)
theorem wc_block {id : Nat} {c : Code} (h : WC P c (Exit.inBlock id Q) C l H) : WC P (.block id c) Q C l H := fun ρ a w hs => wp_block (h ρ a w hs)

theorem wc_true {c : Operand} {x y : Code} (hc : ev l c = some (.s (.a (.v (.bool true))))) (h : WC P x Q C l H) : WC P (.cond c x y) Q C l H :=
  fun ρ a w hs => wp_cond_true (hs.ev hc).1 (h ρ a w hs)
theorem wc_false {c : Operand} {x y : Code} (hc : ev l c = some (.s (.a (.v (.bool false))))) (h : WC P y Q C l H) : WC P (.cond c x y) Q C l H :=
  fun ρ a w hs => wp_cond_false (hs.ev hc).1 (h ρ a w hs)
theorem wc_cond {c : Operand} {x y : Code} {b : Bool} (hc : ev l c = some (.s (.a (.v (.bool b))))) (ht : b = true → WC P x Q C l H) (hf : b = false → WC P y Q C l H) : WC P (.cond c x y) Q C l H :=
  fun ρ a w hs => wp_cond_split (hs.ev hc).1 (fun hb => ht hb ρ a w hs) (fun hb => hf hb ρ a w hs)

theorem WC.weaken {c : Code} (h : WC P c Q C l' H') (hl : ∀ t v, getE l' t = some v → getE l t = some v) (hH : ∀ k b, getH H' k = some b → getH H k = some b) : WC P c Q C l H :=
  fun ρ a w hs => h ρ a w (hs.weaken hl hH)

theorem wc_rest {c : Code} (ts hs : List Nat) (e : (restE l ts, restH H hs) = (l', H')) (h : WC P c Q C l' H') : WC P c Q C l H := by
  simp only [Prod.mk.injEq] at e
  obtain ⟨rfl, rfl⟩ := e
  exact h.weaken (fun t v hv => restE_get hv) (fun k b hb => restH_get hb)

theorem we_then {y : Code} (h : WC P y Q C l H) : WE (Exit.then (y.wp P Q) Q) .normal C l H := h
theorem we_then_ret {N : Act → World → Prop} (h : WE Q .ret C l H) : WE (Exit.then N Q) .ret C l H := h
theorem we_then_exit {N : Act → World → Prop} {id : Nat} (h : WE Q (.exit id) C l H) : WE (Exit.then N Q) (.exit id) C l H := h
theorem we_block {id : Nat} (h : WE Q .normal C l H) : WE (Exit.inBlock id Q) .normal C l H := h
theorem we_block_ret {id : Nat} (h : WE Q .ret C l H) : WE (Exit.inBlock id Q) .ret C l H := h
theorem we_block_exit {id : Nat} (h : WE Q .normal C l H) : WE (Exit.inBlock id Q) (.exit id) C l H := fun ρ a w hs => by
  simp only [Exit.inBlock, if_true]; exact h ρ a w hs
theorem we_block_other {id id' : Nat} (hne : id' ≠ id) (h : WE Q (.exit id') C l H) : WE (Exit.inBlock id Q) (.exit id') C l H := fun ρ a w hs => by
  simp only [Exit.inBlock, if_neg hne]; exact h ρ a w hs
end

/-! a function's end -/

def resv1 (P : Program) (l : Env) (H : Heap) : ResultVar → Option SV
  | .tmp t => match getE l t with
    | some (.s v) => some v
    | _ => none
  | .cell p ty => match getE l p with
    | some (.s (.a (.lp k off))) => match getH H k with
      | some b => ldC P ty b.cs off
      | none => none
    | _ => none

def resv (P : Program) (l : Env) (H : Heap) : List ResultVar → Option (List SV)
  | [] => some []
  | r :: rs => match resv1 P l H r, resv P l H rs with
    | some v, some vs => some (v :: vs)
    | _, _ => none

def resE : List SV → EV
  | [v] => .s v
  | vs => .t vs

theorem resv1_run (h : Sv C ρ l H a w) {r : ResultVar} {v : SV} (hr : resv1 P l H r = some v) :
    (match r with | .tmp t => (pure (a.tmps.getD t undef) : Sem Value) | .cell p t => do loadVar t (← asAddr (a.tmps.getD p undef))).run P w = .ok (v.conc ρ) w := by
  cases r with
  | tmp t =>
    simp only [resv1] at hr
    split at hr
    · rename_i x hx
      simp only [Option.some.injEq] at hr
      subst hr
      simp only [Sem.run_pure, (h.env t _ hx).1, EV.conc]
    · cases hr
  | cell p ty =>
    simp only [resv1] at hr
    split at hr
    · rename_i k off hx
      split at hr
      · rename_i b hb
        obtain ⟨h1, h2⟩ := h.hp k b hb
        have := ldC_run (ρ := ρ) hr h2 h1
        simp only [(h.env p _ hx).1, EV.conc, SV.conc, AV.conc, asAddr, Sem.run_bind, Sem.run_pure, Result.andThen_ok, this.1]
      · cases hr
    · cases hr

theorem resv_run (h : Sv C ρ l H a w) : ∀ {rs : List ResultVar} {vs : List SV}, resv P l H rs = some vs →
    (rs.mapM (m := Sem) fun | .tmp t => pure (a.tmps.getD t undef) | .cell p t => do loadVar t (← asAddr (a.tmps.getD p undef))).run P w = .ok (vs.map (SV.conc ρ)) w
  | [], vs, hr => by
    simp only [resv, Option.some.injEq] at hr
    subst hr
    rfl
  | r :: rs, vs, hr => by
    simp only [resv] at hr
    split at hr
    · rename_i v vs' hv hvs
      simp only [Option.some.injEq] at hr
      subst hr
      have h1 := resv1_run (P := P) h hv
      have h2 := resv_run h hvs
      simp only [List.mapM_cons, Sem.run_bind, h1, Result.andThen_ok, h2, Sem.run_pure, List.map_cons]
    · cases hr

theorem results_run (h : Sv C ρ l H a w) {fn : Func} {vs : List SV} (hr : resv P l H fn.results.toList = some vs) :
    (results fn a.tmps).run P w = .ok ((resE vs).conc ρ) w := by
  have h1 := resv_run (P := P) h hr
  have h2 : (fn.results.mapM (m := Sem) fun | .tmp t => pure (a.tmps.getD t undef) | .cell p t => do loadVar t (← asAddr (a.tmps.getD p undef))).run P w = .ok (vs.map (SV.conc ρ)).toArray w := mapM_arr P _ _ h1
  have h3 : (results fn a.tmps).run P w = (Result.ok (vs.map (SV.conc ρ)).toArray w).andThen fun vs w' => (pure (if h : vs.size = 1 then vs[0] else .tuple vs) : Sem Value).run P w' := by
    unfold results
    rw [Sem.run_bind]
    exact congrArg (fun r => Result.andThen r _) h2
  rw [h3]
  simp only [Result.andThen_ok, Sem.run_pure]
  congr 1
  match vs with
  | [] => rfl
  | [v] => rfl
  | v :: u :: r => simp [resE, EV.conc]

/-- What is known at a function's end. -/
structure Fin (C : Ctx) (ρ : Nat → Nat) (H : Heap) (w : World) : Prop where
  hp : ∀ k b, getH H k = some b → w.heap[ρ k]? = some (.cells (flat ρ b.cs).toArray b.ty (0, 0)) ∧ ¬ C.X (ρ k) ∧ (C.w0.heap.size ≤ ρ k ∨ C.S (ρ k))
  ag : ∀ b, C.X b → b < w.heap.size ∧ w.heap[b]? = C.E.heap[b]?
  keep : Keep C.w0.heap.size C.S C.w0 w
  ok : ∀ k b, getH H k = some b → okCs b.cs
  inj : ∀ k k' b b', getH H k = some b → getH H k' = some b' → ρ k = ρ k' → k = k'
  pin : ∀ k, C.N ≤ k → ρ k = C.r k

theorem we_ret {fn : Func} {R : Ending → World → Prop} {e : Exit} (he : e = .ret ∨ e = .normal) {v : EV} (hr : (resv P l H fn.results.toList).map resE = some v)
    (h : ∀ ρ w, Fin C ρ H w → R (.returned (v.conc ρ)) w) : WE (bodyPost P fn R) e C l H := by
  intro ρ a w hs
  cases hq : resv P l H fn.results.toList with
  | none => simp [hq] at hr
  | some vs =>
    have hv : resE vs = v := by simpa [hq] using hr
    have := results_run (P := P) hs.toSv hq
    rw [hv] at this
    have hf := h ρ w ⟨fun k b hb => ⟨(hs.hp k b hb).1, (hs.own k b hb).1, (hs.own k b hb).2⟩, hs.ag, hs.keep, fun k b hb => (hs.hp k b hb).2, hs.inj, hs.pin⟩
    rcases he with rfl | rfl
    · exact ⟨hs.defers, _, this, hf⟩
    · exact ⟨hs.defers, _, this, hf⟩

/-! a function's begin -/

def argE : List SV → Nat → Env
  | [], _ => []
  | v :: r, t => (t, .s v) :: argE r (t + 1)

theorem argE_get : ∀ {vs : List SV} {t0 t : Nat} {v : EV}, getE (argE vs t0) t = some v → ∃ i x, vs[i]? = some x ∧ v = .s x ∧ t = t0 + i
  | [], _, _, _, h => by simp [argE, getE] at h
  | x :: r, t0, t, v, h => by
    simp only [argE, getE] at h
    split at h
    · rename_i hb
      have : t0 = t := Nat.eq_of_beq_eq_true hb
      subst this
      simp only [Option.some.injEq] at h
      exact ⟨0, x, rfl, h.symm, rfl⟩
    · obtain ⟨i, y, h1, h2, h3⟩ := argE_get h
      exact ⟨i + 1, y, by simpa using h1, h2, by omega⟩

/-- A function is entered: some blocks are handed over with what lies in them, all else is a snapshot. -/
theorem calls_enter {f : FuncId} {fn : Func} {c : Code} {vs : List SV} {R : Ending → World → Prop} {N : Nat} (H : Heap) (ρ : Nat → Nat) (hf : P.funcs[f]? = some fn) (hb : fn.body = some c) (hN : fn.ntmps = N) (hlen : vs.length ≤ N)
    (hok : ∀ v ∈ vs, v.ok) (hH : ∀ k b, getH H k = some b → w.heap[ρ k]? = some (.cells (flat ρ b.cs).toArray b.ty (0, 0)) ∧ okCs b.cs) (hinj : ∀ k k' b b', getH H k = some b → getH H k' = some b' → ρ k = ρ k' → k = k')
    (h : WC P c (bodyPost P fn R) ⟨N, w, fun i => ∃ k b, getH H k = some b ∧ ρ k = i, w, fun i => i < w.heap.size ∧ ¬ ∃ k b, getH H k = some b ∧ ρ k = i, ρ⟩ (argE vs 0) H) (args : Array Value) (hargs : args = (vs.map (SV.conc ρ)).toArray) :
    Calls P f args w R := by
  subst hargs
  refine calls_of_wp hf hb (h ρ _ w { env := ?_, hp := hH, defers := rfl, size := (by simp [hN]; omega), own := fun k b hb => ⟨fun hx => hx.2 ⟨k, b, hb, rfl⟩, Or.inr ⟨k, b, hb, rfl⟩⟩, inj := hinj, ag := fun b hb => ⟨hb.1, rfl⟩, keep := Keep.refl _ _ _, pin := fun _ _ => rfl })
  · intro t v hv
    obtain ⟨i, x, h1, rfl, h3⟩ := argE_get hv
    simp only [Nat.zero_add] at h3
    subst h3
    have hi : t < vs.length := by
      rcases Nat.lt_or_ge t vs.length with h | h
      · exact h
      · rw [List.getElem?_eq_none h] at h1; cases h1
    have hx : vs[t] = x := by rw [List.getElem?_eq_getElem hi] at h1; simpa using h1
    refine ⟨?_, hok x (List.mem_of_getElem? h1)⟩
    rw [Array.getD_eq_getD_getElem?, Array.getElem?_append_left (by simpa using hi)]
    simp [h1, EV.conc]

/-! calls -/

def evs (l : Env) : List Operand → Option (List SV)
  | [] => some []
  | x :: xs => match ev l x, evs l xs with
    | some (.s v), some vs => some (v :: vs)
    | _, _ => none

theorem evs_conc (h : Sv C ρ l H a w) : ∀ {xs : List Operand} {vs : List SV}, evs l xs = some vs → xs.map a.eval = vs.map (SV.conc ρ) ∧ ∀ v ∈ vs, v.ok
  | [], vs, hx => by
    simp only [evs, Option.some.injEq] at hx
    subst hx
    exact ⟨rfl, (fun v hv => by cases hv)⟩
  | x :: xs, vs, hx => by
    simp only [evs] at hx
    split at hx
    · rename_i v vs' hv hvs
      simp only [Option.some.injEq] at hx
      subst hx
      obtain ⟨h1, h2⟩ := evs_conc h hvs
      have := h.ev hv
      refine ⟨by simp only [List.map_cons, h1, this.1, EV.conc], fun u hu => ?_⟩
      cases hu with
      | head => exact this.2
      | tail _ hu => exact h2 u hu
    · cases hx

/-- The world at hand, as a contract sees it. -/
structure At (C : Ctx) (ρ : Nat → Nat) (H : Heap) (w : World) : Prop where
  hp : ∀ k b, getH H k = some b → w.heap[ρ k]? = some (.cells (flat ρ b.cs).toArray b.ty (0, 0))
  ag : ∀ b, C.X b → b < w.heap.size ∧ w.heap[b]? = C.E.heap[b]?
  ok : ∀ k b, getH H k = some b → okCs b.cs
  inj : ∀ k k' b b', getH H k = some b → getH H k' = some b' → ρ k = ρ k' → k = k'
  own : ∀ k b, getH H k = some b → ¬ C.X (ρ k)

theorem callFunc_run {f : FuncId} {fn : Func} (hf : P.funcs[f]? = some fn) (hn : (fn.name == "runtime.NumGoroutine") = false) (hb : fn.body.isNone = false) (args : Array Value) (w : World) :
    (callFunc f args).run P w = .ok (.enter f args) w := by
  simp only [callFunc, Sem.run_bind, run_program, Result.andThen_ok, hf, hn, hb, Bool.false_eq_true, if_false, Sem.run_pure]

theorem call_run {f : FuncId} {fn : Func} (hf : P.funcs[f]? = some fn) (hn : (fn.name == "runtime.NumGoroutine") = false) (hb : fn.body.isNone = false)
    {dst : Option Nat} {c : Call} {type : TypeId} {pos : String} {after : Array Edge} {guard : Option (Nat × Bool)} (hc : c.callee = .value (.func f)) {args : Array Value} (ha : c.args.map a.eval = args) (w : World) :
    (execOp a.eval { dst := dst, op := .call c, type := type, pos := pos, after := after, guard := guard }).run P w = .ok (.enter f args) w := by
  have h := callFunc_run (P := P) hf hn hb args w
  simp only [execOp, resolve, hc, ha, Act.eval, Deferred.ofValue, Sem.run_bind, Sem.run_pure, Result.andThen_ok, invoke]
  simpa using h

section
variable {ops : Array Oper} {Q : Exit → Act → World → Prop} {ks : List Nat}

theorem St.grow (h : St C ρ l H a w) {w' : World} (hb : Below w.heap.size w w') : St C ρ l H a w' where
  defers := h.defers
  size := h.size
  env := h.env
  hp k b hk := by
    obtain ⟨h1, h2⟩ := h.hp k b hk
    exact ⟨by rw [hb.block _ (h.lt hk)]; exact h1, h2⟩
  own := h.own
  inj := h.inj
  ag b hx := by
    obtain ⟨h1, h2⟩ := h.ag b hx
    exact ⟨Nat.lt_of_lt_of_le h1 hb.size, by rw [hb.block _ h1]; exact h2⟩
  keep := h.keep.trans (Keep.of_below hb h.keep.size)
  pin := h.pin

theorem St.at (h : St C ρ l H a w) : At C ρ H w := ⟨fun k b hk => (h.hp k b hk).1, h.ag, fun k b hk => (h.hp k b hk).2, h.inj, fun k b hk => (h.own k b hk).1⟩

/-- A call whose result is a value known outright; it changes nothing that there is. -/
theorem ot_call {o : Oper} {c : Call} {f : FuncId} {fn : Func} {vs : List SV} (hop : o.op = .call c) (hd : dstOk C.N o.dst = true)
    (hc : c.callee = .value (.func f)) (hf : P.funcs[f]? = some fn) (hn : (fn.name == "runtime.NumGoroutine") = false) (hb : fn.body.isNone = false) (hvs : evs l c.args.toList = some vs) (e : EV) (he : e.ok)
    (hcall : ∀ ρ w, At C ρ H w → Calls P f (vs.map (SV.conc ρ)).toArray w fun r w' => r = .returned (e.conc ρ) ∧ Below w.heap.size w w') : OT P Q C o l H (putO l o.dst e) H := by
  intro ρ a w hs K hK
  obtain ⟨dst, op, type, pos, after, guard⟩ := o
  simp only at hop
  subst hop
  have ha : c.args.map a.eval = (vs.map (SV.conc ρ)).toArray := by
    apply Array.ext'
    simpa using (evs_conc hs.toSv hvs).1
  simp only [Oper.wp, call_run hf hn hb hc ha w, Oper.upon]
  refine (hcall ρ w hs.at).mono ?_
  rintro r w' ⟨rfl, hbw⟩
  exact hK ρ _ w' .refl ((hs.grow hbw).putO hd he)
end
end
end Go.Sx
