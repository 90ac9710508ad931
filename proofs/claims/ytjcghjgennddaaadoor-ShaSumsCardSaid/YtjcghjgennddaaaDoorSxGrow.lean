/- Rows that grow: append onto a row of the call's own; rows of structs, at an index that is not written out. -/
import Derived.Test.YtjcghjgennddaaaDoorSxOps
import Derived.ArgAppend
namespace Go.Sx
open Go.RowKit
set_option linter.unusedVariables false
set_option linter.unusedSimpArgs false

theorem flat_vals (ρ : Nat → Nat) (vs : List Value) : flat ρ [.vals vs] = vs := by simp [flat]
theorem okCs_vals (vs : List Value) : okCs [.vals vs] := okc_vals okc_nil

section
variable {P : Program} {C : Ctx} {ρ : Nat → Nat} {l : Env} {H : Heap} {a : Act} {w : World} {Q : Exit → Act → World → Prop}

/-- A block that is there gets a name. -/
theorem St.add (h : St C ρ l H a w) {d g : Nat} {cs : List Chunk} {t : TypeId} (hg : w.heap[g]? = some (.cells (flat ρ cs).toArray t (0, 0))) (hX : ¬ C.X g) (hne : ∀ j b, getH H j = some b → ρ j ≠ g) (hw : C.w0.heap.size ≤ g ∨ C.S g)
    (hE : noRefE d l = true) (hH : noRefH d H = true) (hC : noRefC d cs = true) (hok : okCs cs) (hd : d < C.N) : St C (upd ρ d g) l ((d, ⟨cs, t⟩) :: H) a w where
  defers := h.defers
  size := h.size
  env t v hv := by
    have := h.env t v hv
    refine ⟨?_, this.2⟩
    rw [EV.conc_upd (noRefE_get hE hv), this.1]
  hp j b hb := by
    by_cases hkj : d = j
    · subst hkj
      rw [getH_cons_same] at hb
      simp only [Option.some.injEq] at hb
      subst hb
      have e0 : upd ρ d g d = g := if_pos rfl
      rw [e0]
      refine ⟨?_, hok⟩
      rw [hg, flat_upd hC]
    · rw [getH_cons_ne hkj] at hb
      obtain ⟨h1, h2⟩ := h.hp j b hb
      have e : upd ρ d g j = ρ j := by simp [upd, Ne.symm hkj]
      rw [e]
      refine ⟨?_, h2⟩
      rw [h1, flat_upd (noRefH_get hH hb).2]
  ag := h.ag
  own j b hb := by
    by_cases hkj : d = j
    · subst hkj
      have e0 : upd ρ d g d = g := if_pos rfl
      rw [e0]
      exact ⟨hX, hw⟩
    · rw [getH_cons_ne hkj] at hb
      have e : upd ρ d g j = ρ j := by simp [upd, Ne.symm hkj]
      rw [e]
      exact h.own j b hb
  inj j j' b b' hb hb' he := by
    by_cases hkj : d = j <;> by_cases hkj' : d = j'
    · rw [← hkj, ← hkj']
    · subst hkj
      rw [getH_cons_ne hkj'] at hb'
      have : upd ρ d g j' = ρ j' := by simp [upd, Ne.symm hkj']
      rw [this] at he
      simp only [upd, if_true] at he
      exact absurd he.symm (hne j' b' hb')
    · subst hkj'
      rw [getH_cons_ne hkj] at hb
      have : upd ρ d g j = ρ j := by simp [upd, Ne.symm hkj]
      rw [this] at he
      simp only [upd, if_true] at he
      exact absurd he (hne j b hb)
    · rw [getH_cons_ne hkj] at hb
      rw [getH_cons_ne hkj'] at hb'
      have e1 : upd ρ d g j = ρ j := by simp [upd, Ne.symm hkj]
      have e2 : upd ρ d g j' = ρ j' := by simp [upd, Ne.symm hkj']
      rw [e1, e2] at he
      exact h.inj j j' b b' hb hb' he
  keep := h.keep
  pin j hj := by
    have : ¬ j = d := by omega
    simp only [upd, if_neg this]
    exact h.pin j hj

/-- A whole row is written anew. -/
theorem St.setRow (h : St C ρ l H a w) {k : Nat} {b : Blk} {cs' : List Chunk} (hb : getH H k = some b) (hok' : okCs cs') : St C ρ l (setH H k ⟨cs', b.ty⟩) a (w.setRow (ρ k) (flat ρ cs').toArray) := by
  obtain ⟨h1, h2⟩ := h.hp k b hb
  obtain ⟨h3, h4⟩ := h.own k b hb
  have key : ∀ {j : Nat} {c : Blk}, getH (setH H k ⟨cs', b.ty⟩) j = some c → ∃ c0, getH H j = some c0 := by
    intro j c hc
    rw [getH_set] at hc
    split at hc
    · rename_i hj; subst hj; exact ⟨b, hb⟩
    · exact ⟨c, hc⟩
  refine { defers := h.defers, size := h.size, env := h.env, pin := h.pin, hp := fun j b' hb' => ?_, own := fun j c hc => ?_, inj := fun j j' c c' hc hc' he => ?_, ag := fun i hi => ?_, keep := ?_ }
  · rw [getH_set] at hb'
    split at hb'
    · rename_i hj
      subst hj
      rw [hb] at hb'
      simp only [Option.map_some, Option.some.injEq] at hb'
      subst hb'
      exact ⟨setRow_heap w _ _ _ b.ty (0, 0) h1, hok'⟩
    · rename_i hj
      obtain ⟨g1, g2⟩ := h.hp j b' hb'
      refine ⟨?_, g2⟩
      rw [setRow_other _ _ _ _ (fun e => hj (h.inj j k b' b hb' hb e))]
      exact g1
  · obtain ⟨g1, g2⟩ := h.ag i hi
    refine ⟨by simpa using g1, ?_⟩
    rw [setRow_other _ _ _ _ (fun e => h3 (by rw [← e]; exact hi))]
    exact g2
  · obtain ⟨c0, hc0⟩ := key hc
    exact h.own j c0 hc0
  · obtain ⟨c0, hc0⟩ := key hc
    obtain ⟨c1, hc1⟩ := key hc'
    exact h.inj j j' c0 c1 hc0 hc1 he
  · refine h.keep.trans ⟨rfl, rfl, rfl, by simp, fun i hi hs => setRow_other _ _ _ _ (fun e => ?_)⟩
    subst e
    rcases h4 with h4 | h4
    · omega
    · exact hs h4

theorem getH_setH_same {k : Nat} {b c : Blk} (hb : getH H k = some b) : getH (setH H k c) k = some c := by
  rw [getH_set, if_pos rfl, hb]; rfl

theorem getH_restH_ne {k : Nat} {c : Blk} {ks : List Nat} (hk : k ∉ ks) {j : Nat} {b : Blk} (h : getH (restH H ks) j = some b) : j ≠ k ∧ getH (setH H k c) j = some b := by
  have h1 := getH_restH h
  have h2 := restH_get h
  have : j ≠ k := fun e => by subst e; exact hk h1
  refine ⟨this, ?_⟩
  rw [getH_set, if_neg this]; exact h2

/-- What an append leaves of a row of the call's own: in place, or in a new row. 'rest': what lies behind the length. -/
theorem ox_append {o : Oper} {s x : Operand} {t e : TypeId} {size bytes m : Nat} (d k n cap : Nat) (vsL vsN rest : List Value) (ks : List Nat)
    (hop : o.op = .call { callee := .builtin .append, args := #[s, x], argTypes := #[t, t] }) (hdst : o.dst = some d)
    (h1 : P.underlying t = some (.slice e)) (hi : (P.info? e).map (fun i => (i.size, i.bytes)) = some (size, bytes)) (hz : ((P.info? e).bind (·.zero)).map (·.cells.size) = some size) (hpos : 0 < size)
    (hs : ev l s = some (.s (.a (.ls k 0 n cap)))) (hk : getH H k = some ⟨[.vals (vsL ++ rest)], e⟩)
    (lenL : vsL.length = n * size) (hr : rest.length = (cap - n) * size) (hnc : n ≤ cap) (hcap : cap ≤ maxLen)
    (lenN : vsN.length = m * size) (hN1 : ∀ u ∈ vsN, u.oneCell' = true)
    (hnews : ∀ ρ a w, Sv C ρ l H a w → ∃ ad c, a.eval x = .slice (some ad) m c ∧ ∀ j u, vsN[j]? = some u → w.cell? (ad.add j) = some u)
    (b1 : n + m ≤ maxLen) (b2 : (n + m) * bytes ≤ 140737488355328)
    (hchk : (noRefE d l && noRefH d H && Nat.blt d C.N && ks.all (fun j => !(Nat.beq j k))) = true) :
    OX P Q C o l H (fun x : Nat × List Value => n + m ≤ x.1 ∧ x.1 ≤ maxLen ∧ x.2.length = (x.1 - (n + m)) * size) (fun _ => C)
      (fun x => putE l d (.s (.a (.ls d 0 (n + m) x.1)))) (fun x => (d, ⟨[.vals (vsL ++ vsN ++ x.2)], e⟩) :: restH H ks) := by
  intro ρ a w hst K hK
  simp only [Bool.and_eq_true] at hchk
  obtain ⟨⟨⟨c1, c2⟩, c3⟩, c4⟩ := hchk
  have hd : d < C.N := Nat.le_of_ble_eq_true c3
  have hkk : k ∉ ks := fun hm => by
    have := List.all_eq_true.1 c4 k hm
    simp at this
  have hfresh : noRefH d (restH H ks) = true := by
    have : ∀ L : List Nat, noRefH d (restH H L) = true := by
      intro L
      induction L with
      | nil => rfl
      | cons j r ih =>
        simp only [restH]
        split
        · rename_i v hv
          obtain ⟨q1, q2⟩ := noRefH_get c2 hv
          simp only [noRefH, Bool.and_eq_true, Bool.not_eq_true']
          exact ⟨⟨nbeq_false q1, q2⟩, ih⟩
        · exact ih
    exact this ks
  obtain ⟨dst, op, type, pos, after, guard⟩ := o
  simp only at hop hdst
  subst hop; subst hdst
  cases hq : P.info? e with
  | none => simp [hq] at hi
  | some i =>
    have hsb : i.size = size ∧ i.bytes = bytes := by simpa [hq] using hi
    obtain ⟨hsz, hby⟩ := hsb
    cases hzz : i.zero with
    | none => simp [hq, hzz] at hz
    | some z =>
      have hzs : z.cells.size = size := by simpa [hq, hzz] using hz
      obtain ⟨p1, p2⟩ := hst.hp k _ hk
      obtain ⟨o1, o2⟩ := hst.own k _ hk
      obtain ⟨ad, c, hx, hcell⟩ := hnews ρ a w hst.toSv
      have es : a.eval s = .slice (some ⟨ρ k, 0, none⟩) n cap := (hst.ev hs).1
      simp only at p1
      rw [flat_vals] at p1
      have hrun0 : ∀ {v : Value} {w' : World}, (Builtin.append_ #[t, t] type #[.slice (some ⟨ρ k, 0, none⟩) n cap, .slice (some ad) m c]).run P w = .ok v w' →
          (execOp a.eval { dst := some d, op := .call { callee := .builtin .append, args := #[s, x], argTypes := #[t, t] }, type := type, pos := pos, after := after, guard := guard }).run P w = .ok (.value v) w' := by
        intro v w' hrun
        simp [execOp, resolve, invoke, builtin, es, hx, hrun, Result.andThen]
      by_cases hroom : n + m ≤ cap
      · have hmr : m * size ≤ rest.length := by rw [hr]; exact Nat.mul_le_mul_right _ (by omega)
        have hrun := run_append_room_cells (P := P) w t type e i h1 hq (ρ k) 0 n cap ad m c vsN (by rw [lenN, hsz]) hcell hN1 hroom
          (fun j hj => by
            rw [hsz, cell_of_row w (ρ k) _ _ e (0, 0) p1]
            simp only [List.getElem?_toArray, Option.isSome_iff_exists]
            refine ⟨_, List.getElem?_eq_getElem (by rw [List.length_append, lenL]; omega)⟩)
          (fun j hj => frozen_of_row w (ρ k) _ _ e p1)
        have hw : w.setCells (ρ k) (0 + n * size) vsN = w.setRow (ρ k) (flat ρ [.vals (vsL ++ vsN ++ rest.drop (m * size))]).toArray := by
          rw [setCells_row (ρ k) e (0, 0) vsN (0 + n * size) (vsL ++ rest) w p1 (by rw [List.length_append, lenL, lenN]; omega)]
          congr 2
          rw [flat_vals]
          congr 1
          · congr 1
            rw [Nat.zero_add, ← lenL, List.take_left]
          · rw [Nat.zero_add, lenN, ← lenL, List.drop_append]
            rw [List.drop_of_length_le (by omega), List.nil_append]
            congr 1
            omega
        rw [hsz, hw] at hrun
        simp only [Oper.wp, hrun0 hrun, Oper.upon]
        have s1 := hst.setRow hk (cs' := [.vals (vsL ++ vsN ++ rest.drop (m * size))]) (okCs_vals _)
        have s2 : St C ρ l (restH H ks) a (w.setRow (ρ k) (flat ρ [.vals (vsL ++ vsN ++ rest.drop (m * size))]).toArray) := s1.weaken (fun _ _ h => h) (fun j b hb => (getH_restH_ne hkk hb).2)
        have hkeep := (s1.hp k _ (getH_setH_same hk)).1
        have s3 := s2.add (d := d) (g := ρ k) hkeep o1 (fun j b hb he => by
            obtain ⟨q1, q2⟩ := getH_restH_ne (c := ⟨[.vals (vsL ++ vsN ++ rest.drop (m * size))], e⟩) hkk hb
            exact q1 (hst.inj j k b _ (restH_get hb) hk he)) o2 c1 hfresh rfl (okCs_vals _) hd
        have s4 := s3.put (d := d) (e := .s (.a (.ls d 0 (n + m) cap))) hd trivial
        have e0 : (EV.s (.a (.ls d 0 (n + m) cap))).conc (upd ρ d (ρ k)) = .slice (some ⟨ρ k, 0, none⟩) (n + m) cap := by simp [EV.conc, SV.conc, AV.conc, upd]
        rw [e0] at s4
        refine hK (cap, rest.drop (m * size)) _ _ _ ⟨hroom, hcap, ?_⟩ (CExt.refl C) (agr_upd c2) s4
        simp only [List.length_drop, hr]
        rw [← Nat.sub_mul]
        congr 1
        omega
      · obtain ⟨v', w', hrun, own, grown⟩ := run_append_arg_grows (P := P) w t type e i z size bytes h1 hq hzz hsz hby hzs hpos ⟨ρ k, 0, none⟩ n cap vsL lenL
          (fun j u hj => by
            have : (⟨ρ k, 0, none⟩ : Addr).add j = ⟨ρ k, 0 + j, none⟩ := Addr.add_mid ..
            rw [this, cell_of_row w (ρ k) _ _ e (0, 0) p1]
            simp only [List.getElem?_toArray, Nat.zero_add]
            have hj' : j < vsL.length := by
              rcases Nat.lt_or_ge j vsL.length with h | h
              · exact h
              · rw [List.getElem?_eq_none h] at hj; cases hj
            rw [List.getElem?_append_left hj', hj])
          ad m c vsN lenN hcell (by omega) b1 b2
        obtain ⟨hlen, hv | ⟨g, cap', cur, rfl, hbg, hg, hle, hcm, hcs, htake⟩⟩ := own
        · omega
        simp only [Oper.wp, hrun0 hrun, Oper.upon]
        have hcur : cur = (flat ρ [.vals (vsL ++ vsN ++ cur.toList.drop ((n + m) * size))]).toArray := by
          apply Array.ext'
          rw [flat_vals, ← htake]
          simp
        have hbel : Below w.heap.size w w' := ⟨grown.os, grown.tape, grown.output, grown.size, fun j hj => grown.block j hj (by simp)⟩
        have s2 : St C ρ l (restH H ks) a w' := (hst.grow hbel).weaken (fun _ _ h => h) (fun j b hb => restH_get hb)
        have s3 := s2.add (d := d) (g := g) (cs := [.vals (vsL ++ vsN ++ cur.toList.drop ((n + m) * size))]) (t := e) (by rw [← hcur]; exact hg) (fun hX => absurd (hst.ag _ hX).1 (by omega))
          (fun j b hb e => by have := hst.lt (restH_get hb); omega) (.inl (Nat.le_trans hst.keep.size hbg)) c1 hfresh rfl (okCs_vals _) hd
        have s4 := s3.put (d := d) (e := .s (.a (.ls d 0 (n + m) cap'))) hd trivial
        have e0 : (EV.s (.a (.ls d 0 (n + m) cap'))).conc (upd ρ d g) = .slice (some ⟨g, 0, none⟩) (n + m) cap' := by simp [EV.conc, SV.conc, AV.conc, upd]
        rw [e0] at s4
        refine hK (cap', cur.toList.drop ((n + m) * size)) _ _ _ ⟨hle, hcm, ?_⟩ (CExt.refl C) (agr_upd c2) s4
        simp only [List.length_drop, Array.length_toList, hcs]
        rw [← Nat.sub_mul]

/-! rows of structs, and places that are not written out -/

/-- A row of structs as values. -/
def rowV {α : Type} (g : α → List Value) (L : List α) : List Value := L.flatMap g
theorem rowV_length {α : Type} {g : α → List Value} {size : Nat} (h : ∀ a, (g a).length = size) : ∀ L : List α, (rowV g L).length = L.length * size
  | [] => by simp [rowV]
  | a :: r => by
    have := rowV_length h r
    simp only [rowV, List.flatMap_cons, List.length_append, List.length_cons] at this ⊢
    rw [h, this, Nat.succ_mul]; omega
theorem rowV_app {α : Type} (g : α → List Value) (A B : List α) : rowV g (A ++ B) = rowV g A ++ rowV g B := by simp [rowV]

theorem row_split {α β : Type} {g : α → List β} {size : Nat} (hg : ∀ a, (g a).length = size) : ∀ {L : List α} {i : Nat} {a : α}, L[i]? = some a →
    ∃ A D, L.flatMap g = A ++ g a ++ D ∧ A.length = i * size ∧ ∀ a', (L.set i a').flatMap g = A ++ g a' ++ D
  | [], i, a, h => by simp at h
  | x :: r, 0, a, h => by
    simp only [List.getElem?_cons_zero, Option.some.injEq] at h
    subst h
    exact ⟨[], r.flatMap g, by simp, by simp, fun a' => by simp⟩
  | x :: r, i + 1, a, h => by
    simp only [List.getElem?_cons_succ] at h
    obtain ⟨A, D, h1, h2, h3⟩ := row_split hg h
    refine ⟨g x ++ A, D, by simp [h1], by simp [h2, hg, Nat.succ_mul]; omega, fun a' => by simp [h3]⟩

/-- What stands in a row of structs. -/
theorem row_get {α : Type} {g : α → List Value} {size : Nat} (hg : ∀ a, (g a).length = size) {L : List α} {R : List Value} {i j off : Nat} {a : α} (hi : L[i]? = some a) (hj : j < size) (ho : off = i * size + j) :
    (rowV g L ++ R)[off]? = (g a)[j]? := by
  subst ho
  obtain ⟨A, D, h1, h2, _⟩ := row_split hg hi
  unfold rowV
  rw [h1]
  have hl := hg a
  rw [List.append_assoc, List.append_assoc, List.getElem?_append_right (by omega), show i * size + j - A.length = j by omega, List.getElem?_append_left (by omega)]

/-- What stands there behind a store. -/
theorem row_put {α : Type} {g : α → List Value} {size : Nat} (hg : ∀ a, (g a).length = size) {L : List α} {R new : List Value} {i j off : Nat} {a a' : α} (hi : L[i]? = some a) (ho : off = i * size + j) (hm : j + new.length ≤ size)
    (hp : g a' = (g a).take j ++ new ++ (g a).drop (j + new.length)) :
    rowV g (L.set i a') ++ R = (rowV g L ++ R).take off ++ new ++ (rowV g L ++ R).drop (off + new.length) := by
  subst ho
  obtain ⟨A, D, h1, h2, h3⟩ := row_split hg hi
  have hl := hg a
  unfold rowV
  rw [h1, h3 a', hp]
  have e1 : (A ++ g a ++ D ++ R).take (i * size + j) = A ++ (g a).take j := by
    rw [List.append_assoc, List.append_assoc, List.take_append, List.take_of_length_le (by omega), show i * size + j - A.length = j by omega, List.take_append_of_le_length (by omega)]
  have e2 : (A ++ g a ++ D ++ R).drop (i * size + j + new.length) = (g a).drop (j + new.length) ++ (D ++ R) := by
    rw [List.append_assoc, List.append_assoc, List.drop_append, List.drop_of_length_le (by omega), List.nil_append, show i * size + j + new.length - A.length = j + new.length by omega, List.drop_append_of_le_length (by omega)]
  rw [e1, e2]
  simp only [List.append_assoc]

/-- A load of one cell. -/
theorem rd_cellS {o : Oper} {t : TypeId} {x : Operand} {k off : Nat} {b : Blk} (v : AV) (hop : o.op = .load t x) (hx : ev l x = some (.s (.a (.lp k off)))) (hk : getH H k = some b) (hag : isAggB P t = some false) (hv : ∀ ρ, (flat ρ b.cs)[off]? = some (v.conc ρ)) :
    ∀ ρ a w, Sv C ρ l H a w → (execOp a.eval o).run P w = .ok (.value ((EV.s (.a v)).conc ρ)) w ∧ (EV.s (.a v)).ok := by
  intro ρ a w hs
  refine ⟨?_, trivial⟩
  obtain ⟨dst, oop, type, pos, after, guard⟩ := o
  simp only at hop
  subst hop
  have ex : a.eval x = .pointer (some ⟨ρ k, off, none⟩) := (hs.ev hx).1
  have hp := (hs.hp k b hk).1
  have hc : w.cell? ⟨ρ k, off, none⟩ = some (v.conc ρ) := by
    rw [cell_of_row w (ρ k) _ _ b.ty (0, 0) hp]
    simpa using hv ρ
  have key : (loadVar t ⟨ρ k, off, none⟩).run P w = .ok (v.conc ρ) w := by
    simp only [loadVar, Sem.run_bind, isAggB_run hag, Result.andThen_ok, Bool.false_eq_true, if_false]
    simp [hc]
  simp only [execOp, ex, Instr.loadAt, Instr.sureAddr, Sem.run_bind, Sem.run_pure, Result.andThen_ok, key]
  rfl

/-- A load of a struct or an array. -/
theorem rd_aggS {o : Oper} {t : TypeId} {x : Operand} {k off size : Nat} {b : Blk} (r : List Chunk) (hop : o.op = .load t x) (hx : ev l x = some (.s (.a (.lp k off)))) (hk : getH H k = some b) (hag : isAggB P t = some true)
    (hi : (P.info? t).map (·.size) = some size) (hr : okCs r) (hsz : sz r = size) (hv : ∀ ρ j u, (flat ρ r)[j]? = some u → (flat ρ b.cs)[off + j]? = some u) :
    ∀ ρ a w, Sv C ρ l H a w → (execOp a.eval o).run P w = .ok (.value ((EV.s (.agg r)).conc ρ)) w ∧ (EV.s (.agg r)).ok := by
  intro ρ a w hs
  refine ⟨?_, hr⟩
  obtain ⟨dst, oop, type, pos, after, guard⟩ := o
  simp only at hop
  subst hop
  have ex : a.eval x = .pointer (some ⟨ρ k, off, none⟩) := (hs.ev hx).1
  have hp := (hs.hp k b hk).1
  cases hq : P.info? t with
  | none => simp [hq] at hi
  | some i =>
    have hsi : i.size = size := by simpa [hq] using hi
    have hlen : (flat ρ r).length = size := by rw [flat_length ρ hr, hsz]
    have hlc : (loadCells ⟨ρ k, off, none⟩ (flat ρ r).length).run P w = .ok (flat ρ r).toArray w :=
      run_loadCells_list (P := P) w ⟨ρ k, off, none⟩ (flat ρ r) (fun j u hu => by
        rw [Addr.add_mid, cell_of_row w (ρ k) _ _ b.ty (0, 0) hp]
        simpa using hv ρ j u hu)
    rw [hlen] at hlc
    have key : (loadVar t ⟨ρ k, off, none⟩).run P w = .ok (.agg (flat ρ r).toArray) w := by
      simp only [loadVar, Sem.run_bind, isAggB_run hag, Result.andThen_ok, if_true]
      simp [sizeOf, typeInfo, hq, hsi, hlc]
    simp only [execOp, ex, Instr.loadAt, Instr.sureAddr, Sem.run_bind, Sem.run_pure, Result.andThen_ok, key]
    rfl

/-- A store at a place that is not written out. -/
theorem ot_storeS {o : Oper} {t : TypeId} {x y : Operand} {k off : Nat} {b : Blk} {v : SV} (cs' : List Chunk) (hop : o.op = .store t x y) (hdst : o.dst = none) (hx : ev l x = some (.s (.a (.lp k off)))) (hy : ev l y = some (.s v)) (hk : getH H k = some b)
    (ho : onesOk v.chunks = true) (hi : (P.info? t).map (·.size) = some (sz v.chunks)) (hok' : okCs cs') (hlt : ∀ ρ, off + sz v.chunks ≤ (flat ρ b.cs).length)
    (hcs : ∀ ρ, flat ρ cs' = (flat ρ b.cs).take off ++ flat ρ v.chunks ++ (flat ρ b.cs).drop (off + sz v.chunks)) : OT P Q C o l H l (setH H k ⟨cs', b.ty⟩) := by
  intro ρ a w hs K hK
  obtain ⟨dst, oop, type, pos, after, guard⟩ := o
  simp only at hop hdst
  subst hop; subst hdst
  have ex : a.eval x = .pointer (some ⟨ρ k, off, none⟩) := (hs.ev hx).1
  have ey : a.eval y = v.conc ρ := (hs.ev hy).1
  have hvo : okCs v.chunks := by
    cases v with
    | a z => intro c hc; simp [SV.chunks] at hc; subst hc; trivial
    | agg cs => exact (hs.ev hy).2
  obtain ⟨p1, p2⟩ := hs.hp k b hk
  have hlen := flat_length ρ hvo
  have hcells := cells_of_chunks ρ ho
  have hlt' := hlt ρ
  have hst := run_storeCells_cells (P := P) (ρ k) off (flat ρ v.chunks) 0 w
    (fun j hj => by
      simp only [Nat.add_zero]
      rw [cell_of_row w (ρ k) (off + j) _ b.ty (0, 0) p1]
      simp only [List.getElem?_toArray]
      rw [List.getElem?_eq_getElem (by omega)]
      rfl)
    (fun j hj => frozen_of_row w (ρ k) _ _ b.ty p1) (onesOk_cell ρ ho)
  simp only [Nat.add_zero] at hst
  have hw : w.setCells (ρ k) off (flat ρ v.chunks) = w.setRow (ρ k) (flat ρ cs').toArray := by
    rw [setCells_row (ρ k) b.ty (0, 0) (flat ρ v.chunks) off (flat ρ b.cs) w p1 (by omega), hcs ρ, hlen]
  cases hq : P.info? t with
  | none => simp [hq] at hi
  | some i =>
    have hsz : i.size = sz v.chunks := by simpa [hq] using hi
    have hrun : (storeVar t ⟨ρ k, off, none⟩ (v.conc ρ)).run P w = .ok () (w.setRow (ρ k) (flat ρ cs').toArray) := by
      simp only [storeVar, sizeOf, typeInfo, Sem.run_bind, run_program, Result.andThen_ok, hq, Sem.run_pure, hcells, List.size_toArray]
      rw [if_neg (by simp [hlen, hsz])]
      rw [← hw]
      simpa using hst
    have hb : (execOp a.eval { dst := none, op := .store t x y, type := type, pos := pos, after := after, guard := guard }).run P w = .ok .skip (w.setRow (ρ k) (flat ρ cs').toArray) := by
      simp only [execOp, ex, ey, Instr.storeAt, Instr.sureAddr, Sem.run_bind, Sem.run_pure, Result.andThen_ok, hrun]
    simp only [Oper.wp, hb, Oper.upon]
    exact hK _ _ _ .refl (hs.setRow hk hok')

/-- The address of an element of an own row. -/
theorem rd_indexL {o : Oper} {t e : TypeId} {x ix : Operand} {b off len cap : Nat} {ik : IntKind} (size i : Nat) (X : Int) (hop : o.op = .indexAddr t x ix) (hu : P.underlying t = some (.slice e)) (hi : (P.info? e).map (·.size) = some size)
    (hx : ev l x = some (.s (.a (.ls b off len cap)))) (hix : ev l ix = some (.s (.a (.v (.int ik X))))) (hX : X = (i : Nat)) (hk : i < len) :
    ∀ ρ a w, Sv C ρ l H a w → (execOp a.eval o).run P w = .ok (.value ((eL b (off + i * size)).conc ρ)) w ∧ (eL b (off + i * size)).ok := by
  intro ρ a w hs
  refine ⟨?_, trivial⟩
  subst hX
  obtain ⟨dst, oop, type, pos, after, guard⟩ := o
  simp only at hop
  subst hop
  have ex : a.eval x = .slice (some ⟨ρ b, off, none⟩) len cap := (hs.ev hx).1
  have ei : a.eval ix = .int ik i := (hs.ev hix).1
  cases hq : P.info? e with
  | none => simp [hq] at hi
  | some it =>
    have hsz : it.size = size := by simpa [hq] using hi
    have hb : (0 ≤ (i : Int) ∧ (i : Int) < (len : Int)) := ⟨Int.natCast_nonneg i, by omega⟩
    simp only [execOp, ex, ei, Instr.indexAt, asIntOf, Sem.run_bind, Sem.run_pure, Result.andThen_ok, run_underlying hu, if_pos hb, sizeOf, typeInfo, run_program, hq, hsz, Int.toNat_natCast, Addr.add_mid]
    rfl

/-- The address of an element of an own array. -/
theorem rd_indexA {o : Oper} {t e : TypeId} {x ix : Operand} {b off n : Nat} {ik : IntKind} (size i : Nat) (X : Int) (hop : o.op = .indexAddr t x ix) (hu : P.underlying t = some (.array n e)) (hi : (P.info? e).map (·.size) = some size)
    (hx : ev l x = some (.s (.a (.lp b off)))) (hix : ev l ix = some (.s (.a (.v (.int ik X))))) (hX : X = (i : Nat)) (hk : i < n) :
    ∀ ρ a w, Sv C ρ l H a w → (execOp a.eval o).run P w = .ok (.value ((eL b (off + i * size)).conc ρ)) w ∧ (eL b (off + i * size)).ok := by
  intro ρ a w hs
  refine ⟨?_, trivial⟩
  subst hX
  obtain ⟨dst, oop, type, pos, after, guard⟩ := o
  simp only at hop
  subst hop
  have ex : a.eval x = .pointer (some ⟨ρ b, off, none⟩) := (hs.ev hx).1
  have ei : a.eval ix = .int ik i := (hs.ev hix).1
  cases hq : P.info? e with
  | none => simp [hq] at hi
  | some it =>
    have hsz : it.size = size := by simpa [hq] using hi
    have hb : (0 ≤ (i : Int) ∧ (i : Int) < (n : Int)) := ⟨Int.natCast_nonneg i, by omega⟩
    simp only [execOp, ex, ei, Instr.indexAt, Instr.sureAddr, asIntOf, Sem.run_bind, Sem.run_pure, Result.andThen_ok, run_underlying hu, if_pos hb, sizeOf, typeInfo, run_program, hq, hsz, Int.toNat_natCast, Addr.add_mid]
    rfl

/-- A value by another name. -/
theorem rd_recast {o : Oper} {e : EV} (e' : EV) (hv : val1 P l H o = some e) (he : e = e') : ∀ ρ a w, Sv C ρ l H a w → (execOp a.eval o).run P w = .ok (.value (e'.conc ρ)) w ∧ e'.ok := by
  subst he
  exact fun ρ a w hs => val1_run hs hv

/-- The new cells of an append that come from a literal of the call's own. -/
theorem news_own {x : Operand} {m : Nat} (k : Nat) {cs : List Chunk} {ty : Nat} (vs : List Value) (hx : ev l x = some (.s (.a (.ls k 0 m m)))) (hk : getH H k = some ⟨cs, ty⟩) (hf : ∀ ρ, flat ρ cs = vs) :
    ∀ ρ a w, Sv C ρ l H a w → ∃ ad c, a.eval x = .slice (some ad) m c ∧ ∀ j u, vs[j]? = some u → w.cell? (ad.add j) = some u := by
  intro ρ a w hs
  refine ⟨⟨ρ k, 0, none⟩, m, (hs.ev hx).1, fun j u hj => ?_⟩
  have hp := (hs.hp k _ hk).1
  have : (⟨ρ k, 0, none⟩ : Addr).add j = ⟨ρ k, 0 + j, none⟩ := Addr.add_mid ..
  rw [this, cell_of_row w (ρ k) _ _ ty (0, 0) hp, Nat.zero_add]
  simpa [hf ρ] using hj

/-! blocks by other names -/

def renE (π : List (Nat × Nat)) : Env → Env
  | [] => []
  | (t, v) :: r => (t, v.ren π) :: renE π r
def amongE (π : List (Nat × Nat)) : Env → Bool
  | [] => true
  | (_, v) :: r => v.among π && amongE π r
theorem getE_ren {π : List (Nat × Nat)} {t : Nat} {v : EV} : ∀ {l : Env}, amongE π l = true → getE (renE π l) t = some v → ∃ u, getE l t = some u ∧ v = u.ren π ∧ u.among π = true
  | [], _, h => by simp [renE, getE] at h
  | (k, x) :: r, ha, h => by
    simp only [amongE, Bool.and_eq_true] at ha
    simp only [renE, getE] at h ⊢
    split at h
    · simp only [Option.some.injEq] at h
      exact ⟨x, rfl, h.symm, ha.1⟩
    · exact getE_ren ha.2 h

def renOk (N : Nat) (l : Env) (H : Heap) (π : List (Nat × Nat)) : Bool :=
  sepB π && amongE π l && amongH π H && π.all (fun p => (Nat.blt p.1 N && Nat.blt p.2 N) || (Nat.ble N p.1 && Nat.beq p.1 p.2))

theorem St.ren (hs : St C ρ l H a w) {π : List (Nat × Nat)} (hc : renOk C.N l H π = true) : ∃ ρ', St C ρ' (renE π l) (renH π H) a w := by
  simp only [renOk, Bool.and_eq_true] at hc
  obtain ⟨⟨⟨c1, c2⟩, c3⟩, c4⟩ := hc
  have hk : ∀ k j, (k, j) ∈ π → updL ρ ρ π (look π k) = ρ k := fun k j h => by rw [look_mem c1 h]; exact updL_hit c1 h
  have back : ∀ j b, getH (renH π H) j = some b → ∃ k bx, getH H k = some bx ∧ look π k = j ∧ b = ⟨renC π bx.cs, bx.ty⟩ ∧ updL ρ ρ π j = ρ k ∧ (k, j) ∈ π := fun j b hb => by
    obtain ⟨k, bx, e1, e2, e3⟩ := getH_ren hb
    obtain ⟨j', hj'⟩ := memB_ex (amongH_get c3 e1).1
    refine ⟨k, bx, e1, e2, e3, by rw [← e2]; exact hk k j' hj', ?_⟩
    rw [← e2, look_mem c1 hj']; exact hj'
  refine ⟨updL ρ ρ π, ?_⟩
  exact
    { env := fun t v hv => by
        obtain ⟨u, h1, rfl, h3⟩ := getE_ren c2 hv
        obtain ⟨e1, e2⟩ := hs.env t u h1
        exact ⟨by rw [e1, EV.conc_ren hk h3], EV.ok_ren e2⟩
      hp := fun j b hb => by
        obtain ⟨k, bx, e1, e2, rfl, e4, e5⟩ := back j b hb
        obtain ⟨g1, g2⟩ := hs.hp k bx e1
        refine ⟨?_, okCs_ren g2⟩
        rw [e4, g1, flat_ren hk (amongH_get c3 e1).2]
      ag := hs.ag
      defers := hs.defers
      size := hs.size
      own := fun j b hb => by
        obtain ⟨k, bx, e1, e2, rfl, e4, e5⟩ := back j b hb
        rw [e4]; exact hs.own k bx e1
      inj := fun j j' b b' hb hb' he => by
        obtain ⟨k, bx, e1, e2, rfl, e4, e5⟩ := back j b hb
        obtain ⟨k', bx', e1', e2', rfl, e4', e5'⟩ := back j' b' hb'
        rw [e4, e4'] at he
        have := hs.inj k k' bx bx' e1 e1' he
        rw [← e2, ← e2', this]
      keep := hs.keep
      pin := fun j hj => by
        by_cases hm : memV j π = true
        · have : ∀ {L : List (Nat × Nat)}, memV j L = true → ∃ i, (i, j) ∈ L := by
            intro L hL
            induction L with
            | nil => simp [memV] at hL
            | cons p r ih =>
              obtain ⟨x, y⟩ := p
              simp only [memV, Bool.or_eq_true] at hL
              rcases hL with hL | hL
              · have := Nat.eq_of_beq_eq_true hL; subst this; exact ⟨x, .head _⟩
              · obtain ⟨i, hi⟩ := ih hL; exact ⟨i, .tail _ hi⟩
          obtain ⟨i, hi⟩ := this hm
          have h4 := List.all_eq_true.1 c4 (i, j) hi
          simp only [Bool.or_eq_true, Bool.and_eq_true] at h4
          rcases h4 with ⟨_, h5⟩ | ⟨_, h5⟩
          · have : j < C.N := Nat.le_of_ble_eq_true h5
            omega
          · have : i = j := Nat.eq_of_beq_eq_true h5
            subst this
            rw [updL_hit c1 hi]
            exact hs.pin i hj
        · rw [updL_miss (by simpa using hm)]
          exact hs.pin j hj }

theorem we_ren {e : Exit} {l' : Env} {H' : Heap} (π : List (Nat × Nat)) (hc : renOk C.N l H π = true) (h1 : renE π l = l') (h2 : renH π H = H') (h : WE Q e C l' H') : WE Q e C l H := by
  subst h1; subst h2
  exact fun ρ a w hs => by
    obtain ⟨ρ', h'⟩ := hs.ren hc
    exact h ρ' a w h'

/-- The same cells, written otherwise. -/
theorem St.flat (h : St C ρ l H a w) {k : Nat} {b : Blk} {cs' : List Chunk} (hk : getH H k = some b) (hf : ∀ ρ, Sx.flat ρ cs' = Sx.flat ρ b.cs) (hok : okCs cs') : St C ρ l (setH H k ⟨cs', b.ty⟩) a w := by
  have key : ∀ {j : Nat} {c : Blk}, getH (setH H k ⟨cs', b.ty⟩) j = some c → ∃ c0, getH H j = some c0 := by
    intro j c hc
    rw [getH_set] at hc
    split at hc
    · rename_i hj; subst hj; exact ⟨b, hk⟩
    · exact ⟨c, hc⟩
  refine { defers := h.defers, size := h.size, env := h.env, pin := h.pin, hp := fun j b' hb' => ?_, ag := h.ag, own := fun j c hc => ?_, inj := fun j j' c c' hc hc' he => ?_, keep := h.keep }
  · rw [getH_set] at hb'
    split at hb'
    · rename_i hj
      subst hj
      rw [hk] at hb'
      simp only [Option.map_some, Option.some.injEq] at hb'
      subst hb'
      refine ⟨?_, hok⟩
      rw [hf ρ]
      exact (h.hp _ b hk).1
    · exact h.hp j b' hb'
  · obtain ⟨c0, hc0⟩ := key hc
    exact h.own j c0 hc0
  · obtain ⟨c0, hc0⟩ := key hc
    obtain ⟨c1, hc1⟩ := key hc'
    exact h.inj j j' c0 c1 hc0 hc1 he

theorem we_flat {e : Exit} (k : Nat) {b : Blk} (cs' : List Chunk) (hk : getH H k = some b) (hf : ∀ ρ, Sx.flat ρ cs' = Sx.flat ρ b.cs) (hok : okCs cs') (h : WE Q e C l (setH H k ⟨cs', b.ty⟩)) : WE Q e C l H :=
  fun ρ a w hs => h ρ a w (hs.flat hk hf hok)
theorem wc_flat {c : Code} (k : Nat) {b : Blk} (cs' : List Chunk) (hk : getH H k = some b) (hf : ∀ ρ, Sx.flat ρ cs' = Sx.flat ρ b.cs) (hok : okCs cs') (h : WC P c Q C l (setH H k ⟨cs', b.ty⟩)) : WC P c Q C l H :=
  fun ρ a w hs => h ρ a w (hs.flat hk hf hok)
end
end Go.Sx
