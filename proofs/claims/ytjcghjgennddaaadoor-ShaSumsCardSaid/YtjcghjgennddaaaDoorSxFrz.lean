/- Blocks that from now on are only read; strings. -/
import Derived.Test.YtjcghjgennddaaaDoorSxDeep
import Derived.Laws.BytesArg
import Derived.Laws.StructEq
namespace Go.Sx
open Go.RowKit
set_option linter.unusedVariables false
set_option linter.unusedSimpArgs false
section
variable {P : Program} {Q : Exit → Act → World → Prop} {C C' : Ctx} {ρ : Nat → Nat} {l : Env} {H : Heap} {a : Act} {w : World}
theorem CExt.lt (h : CExt C C') {b : Nat} (hb : C.X b) (hlt : b < C.E.heap.size) : b < C'.E.heap.size := by
  have := (h.X b hb).2
  rw [Array.getElem?_eq_getElem hlt] at this
  exact (Array.getElem?_eq_some_iff.1 this).1
theorem BAt.ext (h : CExt C C') {Y Y' : Nat → Prop} {ad : Option Addr} {len cap b off : Nat} {L : List Int} (hY : ∀ i, Y i → C.X i) (hY' : ∀ i, Y i → C'.X i → Y' i) (hb : BAt C.E Y ad len cap b off L) : BAt C'.E Y' ad len cap b off L := by
  obtain ⟨h1, h2, h3, h4, h5⟩ := hb
  refine ⟨h1, h2, h3, fun h0 => ?_, fun i x hi => ?_⟩
  · obtain ⟨p1, p2, p3⟩ := h4 h0
    exact ⟨p1, hY' _ p2 (h.X _ (hY _ p2)).1, h.lt (hY _ p2) p3⟩
  · have hl : i < len := by
      rw [← h1]
      rcases Nat.lt_or_ge i L.length with h | h
      · exact h
      · rw [List.getElem?_eq_none h] at hi; cases hi
    obtain ⟨p1, p2, p3⟩ := h4 (by omega)
    have := h5 i x hi
    unfold World.cell? at this ⊢
    rw [show C'.E.heap[b]? = C.E.heap[b]? from (h.X _ (hY _ p2)).2]
    exact this
theorem St.freeze (hs : St C ρ l H a w) {X' : Nat → Prop} (hX : ∀ b, C.X b → X' b) (hnew : ∀ b, X' b → b < w.heap.size) (hown : ∀ k b, getH H k = some b → ¬ X' (ρ k)) : St { C with E := w, X := X' } ρ l H a w :=
  { env := hs.env, hp := hs.hp, ag := fun b hb => ⟨hnew b hb, rfl⟩, defers := hs.defers, size := hs.size, own := fun k b hb => ⟨hown k b hb, (hs.own k b hb).2⟩, inj := hs.inj, keep := hs.keep, pin := hs.pin }
theorem St.frozen (hs : St C ρ l H a w) {X' : Nat → Prop} (hX : ∀ b, C.X b → X' b) : CExt C { C with E := w, X := X' } := ⟨rfl, rfl, rfl, fun b hb => ⟨hX b hb, (hs.ag b hb).2⟩, rfl⟩
/-- A call whose results lie in new memory that is only read from then on. -/
theorem ox_callF {o : Oper} {c : Call} {f : FuncId} {fn : Func} {τ : Type} {vs : List SV} (Φ : τ → World → (Nat → Prop) → Prop) (e : τ → EV) (hop : o.op = .call c) (hd : dstOk C.N o.dst = true)
    (hc : c.callee = .value (.func f)) (hf : P.funcs[f]? = some fn) (hn : (fn.name == "runtime.NumGoroutine") = false) (hb : fn.body.isNone = false) (hvs : evs l c.args.toList = some vs) (heo : ∀ x, (e x).ok)
    (hmono : ∀ x w X Y, (∀ i, X i → i < w.heap.size → Y i) → Φ x w X → Φ x w Y)
    (hcall : ∀ ρ w, At C ρ H w → Calls P f (vs.map (SV.conc ρ)).toArray w fun r w' => ∃ x, Φ x w' (fun i => w.heap.size ≤ i) ∧ r = .returned ((e x).conc ρ) ∧ Below w.heap.size w w') :
    OX P Q C o l H (fun y : World × (Nat → Prop) × τ => Φ y.2.2 y.1 y.2.1) (fun y => { C with E := y.1, X := y.2.1 }) (fun y => putO l o.dst (e y.2.2)) (fun _ => H) := by
  intro ρ a w hs K hK
  obtain ⟨dst, op, type, pos, after, guard⟩ := o
  simp only at hop
  subst hop
  have ha : c.args.map a.eval = (vs.map (SV.conc ρ)).toArray := by
    apply Array.ext'
    have := (evs_conc hs.toSv hvs).1
    simpa using this
  simp only [Oper.wp, call_run hf hn hb hc ha w, Oper.upon]
  refine (hcall ρ w hs.at).mono ?_
  rintro r w' ⟨x, hφ, rfl, hbel⟩
  have hsz : w.heap.size ≤ w'.heap.size := hbel.size
  have hs' := hs.grow hbel
  have hX : ∀ b, C.X b → (fun i => C.X i ∨ (w.heap.size ≤ i ∧ i < w'.heap.size)) b := fun b hb => .inl hb
  have hs2 := hs'.freeze (X' := fun i => C.X i ∨ (w.heap.size ≤ i ∧ i < w'.heap.size)) hX (fun b hb => by
      rcases hb with hb | hb
      · exact (hs'.ag b hb).1
      · exact hb.2) (fun k b hb => by
      rintro (h1 | h1)
      · exact (hs.own k b hb).1 h1
      · have := hs.lt hb; omega)
  exact hK (w', _, x) ρ _ w' (hmono x w' _ _ (fun i h1 h2 => .inr ⟨h1, h2⟩) hφ) (hs'.frozen hX) Agr.refl (hs2.putO (C := { C with E := w', X := fun i => C.X i ∨ (w.heap.size ≤ i ∧ i < w'.heap.size) }) hd (heo x))
/-- append to nil, of bytes: a copy that is only read from then on. -/
theorem ox_cloneF {o : Oper} {s x : Operand} {t tx e : TypeId} {m : Nat} {L : List Int} (d : Nat)
    (hop : o.op = .call { callee := .builtin .append, args := #[s, x], argTypes := #[t, tx] }) (hdst : o.dst = some d)
    (h1 : P.underlying t = some (.slice e)) (hi : (P.info? e).map (fun i => (i.size, i.bytes)) = some (1, 1)) (hz : ((P.info? e).bind (·.zero)).map (·.cells.size) = some 1)
    (hs : ev l s = some (.s (.a (.v (.slice none 0 0))))) (hsrc : SrcOf P C l H 1 tx x m (L.map (Value.int .u8))) (hL : L.length = m)
    (b1 : m ≤ maxLen) (b2 : m ≤ 140737488355328) (hd : Nat.blt d C.N = true) :
    OX P Q C o l H (fun y : World × (Nat → Prop) × SD => BAt y.1 (fun i => y.2.1 i ∧ C.w0.heap.size ≤ i) y.2.2.a y.2.2.len y.2.2.cap y.2.2.b y.2.2.off L ∧ y.2.2.len = m) (fun y => { C with E := y.1, X := y.2.1 })
      (fun y => putE l d (eV (.slice y.2.2.a y.2.2.len y.2.2.cap))) (fun _ => H) := by
  intro ρ a w hst K hK
  have hd' : d < C.N := Nat.le_of_ble_eq_true hd
  obtain ⟨dst, op, type, pos, after, guard⟩ := o
  simp only at hop hdst
  subst hop; subst hdst
  cases hq : P.info? e with
  | none => simp [hq] at hi
  | some i =>
    have hsb : i.size = 1 ∧ i.bytes = 1 := by simpa [hq] using hi
    obtain ⟨hs1, hs2⟩ := hsb
    cases hzz : i.zero with
    | none => simp [hq, hzz] at hz
    | some z =>
      have hzs : z.cells.size = 1 := by simpa [hq, hzz] using hz
      have hS := hsrc ρ a w hst.toSv
      have es : a.eval s = .slice none 0 0 := (hst.ev hs).1
      rcases Nat.eq_zero_or_pos m with h0 | h0
      · subst h0
        obtain rfl : L = [] := List.eq_nil_of_length_eq_zero hL
        have hS' : Src P i.size tx (a.eval x) 0 [] w := by rw [hs1]; exact hS
        have hrun := run_append_nothing (P := P) w t tx type e i h1 hq none 0 0 (Nat.le_refl _) (a.eval x) hS'
        have hrun0 : (execOp a.eval { dst := some d, op := .call { callee := .builtin .append, args := #[s, x], argTypes := #[t, tx] }, type := type, pos := pos, after := after, guard := guard }).run P w = .ok (.value (.slice none 0 0)) w := by
          simp [execOp, resolve, invoke, builtin, es, hrun, Result.andThen]
        simp only [Oper.wp, hrun0, Oper.upon]
        exact hK (C.E, C.X, sd0) ρ _ w ⟨BAt.nil _ _, rfl⟩ (CExt.refl C) Agr.refl (hst.put (d := d) (e := eV (.slice none 0 0)) hd' trivial)
      · have hrun := run_append_grow_src (P := P) w t tx type e i z h1 hq hzz none 0 0 [] (run_firstCells_none w.drew i.size 0 0 0) (a.eval x) m (L.map (Value.int .u8)) (by rw [hs1]; exact hS) (by omega) (by simp only [maxLen] at b1; omega) (growslice_fits (by omega) (by rw [hs2]; omega))
        have hge := grownCap_ge w (0 + m) 0 e
        have hcm := grownCap_le_maxLen w (0 + m) 0 e (by omega)
        have hrun0 : (execOp a.eval { dst := some d, op := .call { callee := .builtin .append, args := #[s, x], argTypes := #[t, tx] }, type := type, pos := pos, after := after, guard := guard }).run P w =
            .ok (.value (.slice (some ⟨w.heap.size, 0, none⟩) (0 + m) (grownCap w (0 + m) 0 e))) (w.drew.alloc (.cells (([] ++ L.map (Value.int .u8)).toArray ++ Builtin.zeroCells z.cells (grownCap w (0 + m) 0 e - (0 + m))) e)) := by
          simp [execOp, resolve, invoke, builtin, es, hrun, Result.andThen]
        simp only [Oper.wp, hrun0, Oper.upon]
        rw [Nat.zero_add]
        rw [Nat.zero_add] at hge hcm
        generalize hW : w.drew.alloc (.cells (([] ++ L.map (Value.int .u8)).toArray ++ Builtin.zeroCells z.cells (grownCap w m 0 e - m)) e) = W
        have hbel : Below w.heap.size w W := by subst hW; exact ⟨rfl, rfl, rfl, by simp, fun j hj => Below.heap_alloc w.drew _ j hj⟩
        have hnew : W.heap[w.heap.size]? = some (.cells (([] ++ L.map (Value.int .u8)).toArray ++ Builtin.zeroCells z.cells (grownCap w m 0 e - m)) e (0, 0)) := by subst hW; exact heap_alloc_new w.drew _
        have hsz : W.heap.size = w.heap.size + 1 := by subst hW; simp
        have hs' := hst.grow hbel
        have hX : ∀ b, C.X b → (fun i => C.X i ∨ i = w.heap.size) b := fun b hb => .inl hb
        have hs2' := hs'.freeze (X' := fun i => C.X i ∨ i = w.heap.size) hX (fun b hb => by
            rcases hb with hb | hb
            · exact (hs'.ag b hb).1
            · omega) (fun k b hb => by
            rintro (g1 | g1)
            · exact (hst.own k b hb).1 g1
            · have := hst.lt hb; omega)
        refine hK (W, _, ⟨some ⟨w.heap.size, 0, none⟩, m, grownCap w m 0 e, w.heap.size, 0⟩) ρ _ W ⟨?_, rfl⟩ (hs'.frozen hX) Agr.refl (hs2'.put (C := { C with E := W, X := fun i => C.X i ∨ i = w.heap.size }) (d := d) (e := eV (.slice (some ⟨w.heap.size, 0, none⟩) m (grownCap w m 0 e))) hd' trivial)
        refine ⟨hL, hge, hcm, fun _ => ⟨rfl, ⟨.inr rfl, hst.keep.size⟩, by show w.heap.size < W.heap.size; omega⟩, fun j y hj => ?_⟩
        show W.cell? _ = _
        rw [cell_of_row W w.heap.size _ _ _ (0, 0) hnew]
        have hjl : j < L.length := by
          rcases Nat.lt_or_ge j L.length with h | h
          · exact h
          · rw [List.getElem?_eq_none h] at hj; cases hj
        rw [Nat.zero_add, Array.getElem?_append_left (by simpa using hjl)]
        simp [hj]
/-- Bytes that are only read, as a string. -/
theorem rd_str {o : Oper} {t t' e : TypeId} {x : Operand} {ad : Option Addr} {len cap b off : Nat} {L : List Int} (hop : o.op = .convert t t' x) (hu : P.underlying t = some (.slice e)) (he : P.underlying e = some (.int .u8)) (hd : P.underlying t' = some .string)
    (hx : ev l x = some (.s (.a (.v (.slice ad len cap))))) (hb : BAt C.E C.X ad len cap b off L) : ∀ ρ a w, Sv C ρ l H a w → (execOp a.eval o).run P w = .ok (.value ((eV (.string (strOfNums L))).conc ρ)) w ∧ (eV (.string (strOfNums L))).ok := by
  intro ρ a w hs
  refine ⟨?_, trivial⟩
  obtain ⟨dst, op, type, pos, after, guard⟩ := o
  simp only at hop
  subst hop
  have ex := (hs.ev hx).1
  have hr : (convert t t' (.slice ad len cap)).run P w = .ok (.string (strOfNums L)) w := by
    rcases Nat.eq_zero_or_pos len with h0 | h0
    · subst h0
      obtain rfl : L = [] := List.eq_nil_of_length_eq_zero hb.ln
      cases ad with
      | none => exact run_convert_bytes_nil w t e hu he 0 cap t' hd
      | some p =>
        obtain ⟨pb, po, ps⟩ := p
        rw [run_convert_bytes_string w t t' e _ 0 cap hu he hd, run_bytesToString w _ 0 cap [] (run_loadCells_list w _ [] (fun j v hj => by simp at hj))]
        rfl
    · obtain ⟨rfl, p2, p3⟩ := hb.ptr h0
      refine run_convert_bytes_arg w t e hu he b off len cap L hb.ln (fun i hi => ?_) t' hd
      rw [cell_of_ag hs.ag p2]
      exact hb.at hi
  simp only [execOp, ex]
  simp [EV.conc, SV.conc, AV.conc, hr, Result.andThen]
/-- Bytes of an own row, as a string. -/
theorem rd_strL {o : Oper} {t t' e : TypeId} {x : Operand} {k len cap : Nat} {b : Blk} {L : List Int} (hop : o.op = .convert t t' x) (hu : P.underlying t = some (.slice e)) (he : P.underlying e = some (.int .u8)) (hd : P.underlying t' = some .string)
    (hx : ev l x = some (.s (.a (.ls k 0 len cap)))) (hk : getH H k = some b) (hL : L.length = len) (hc : ∀ ρ i x, L[i]? = some x → (flat ρ b.cs)[0 + i]? = some (.int .u8 x)) : ∀ ρ a w, Sv C ρ l H a w → (execOp a.eval o).run P w = .ok (.value ((eV (.string (strOfNums L))).conc ρ)) w ∧ (eV (.string (strOfNums L))).ok := by
  intro ρ a w hs
  refine ⟨?_, trivial⟩
  obtain ⟨dst, op, type, pos, after, guard⟩ := o
  simp only at hop
  subst hop
  have ex := (hs.ev hx).1
  have hp := (hs.hp k b hk).1
  have hr : (convert t t' (.slice (some ⟨ρ k, 0, none⟩) len cap)).run P w = .ok (.string (strOfNums L)) w := by
    refine run_convert_bytes_arg w t e hu he (ρ k) 0 len cap L hL (fun i hi => ?_) t' hd
    rw [cell_of_row w (ρ k) _ _ _ (0, 0) hp]
    have hil : i < L.length := by omega
    have := hc ρ i (L.getD i 0) (by simp [hil])
    simpa using this
  simp only [execOp, ex]
  simp [EV.conc, SV.conc, AV.conc, hr, Result.andThen]
theorem rd_eqS {o : Oper} {op : BinOp} {t yt : TypeId} {x y : Operand} {s r : ByteArray} (v : Bool) (hop : o.op = .binOp op t x y yt) (hx : ev l x = some (.s (.a (.v (.string s))))) (hy : ev l y = some (.s (.a (.v (.string r)))))
    (hr : (op = .eql ∧ v = (s.toList == r.toList)) ∨ (op = .neq ∧ v = (s.toList != r.toList))) : ∀ ρ a w, Sv C ρ l H a w → (execOp a.eval o).run P w = .ok (.value ((eB v).conc ρ)) w ∧ (eB v).ok := by
  intro ρ a w hs
  refine ⟨?_, trivial⟩
  obtain ⟨dst, oop, type, pos, after, guard⟩ := o
  simp only at hop
  subst hop
  have ex : a.eval x = .string s := (hs.ev hx).1
  have ey : a.eval y = .string r := (hs.ev hy).1
  rcases hr with ⟨rfl, rfl⟩ | ⟨rfl, rfl⟩
  · have hg : (eqGuard .eql t x y (.string s) (.string r)).run P w = .ok () w := rfl
    simp only [execOp, ex, ey, Sem.run_bind, hg, binOp_string_eql, Result.andThen_ok, Sem.run_pure]
    rfl
  · have hg : (eqGuard .neq t x y (.string s) (.string r)).run P w = .ok () w := rfl
    simp only [execOp, ex, ey, Sem.run_bind, hg, binOp_string_neq, Result.andThen_ok, Sem.run_pure]
    rfl
theorem freeze_heap (w : World) (g o : Nat) (cs : Array Value) (ty : TypeId) (hg : w.heap[g]? = some (.cells cs ty (0, 0))) : (w.freeze ⟨g, o, none⟩ 1).heap.size = w.heap.size ∧ (∀ i, i ≠ g → (w.freeze ⟨g, o, none⟩ 1).heap[i]? = w.heap[i]?) ∧ (w.freeze ⟨g, o, none⟩ 1).heap[g]? = some (.cells cs ty (o, o + 1)) := by
  unfold World.freeze
  rw [if_neg (by decide)]
  refine ⟨by simp, fun i hi => ?_, ?_⟩
  · simp only [Array.getElem?_modify]
    rw [if_neg (Ne.symm hi)]
  · simp only [Array.getElem?_modify, if_true, hg, Option.map_some]
    rfl
/-- '[]byte("..")': a literal, which is only read from then on. -/
theorem ox_bytesC {o : Oper} {t e : TypeId} {x : Operand} {k n cap : Nat} {b : Blk} {L : List Int} (ks : List Nat) (hop : o.op = .convert t t x) (hd : dstOk C.N o.dst = true) (hu : P.underlying t = some (.slice e)) (he : P.underlying e = some (.int .u8))
    (hx : ev l x = some (.s (.a (.ls k 0 n cap)))) (hk : getH H k = some b) (hL : L.length = n) (hnc : n ≤ cap) (hcm : cap ≤ maxLen) (hc : ∀ ρ i x, L[i]? = some x → (flat ρ b.cs)[0 + i]? = some (.int .u8 x)) (hks : ks.all (fun j => !(Nat.beq j k)) = true) :
    OX P Q C o l H (fun y : World × (Nat → Prop) × Nat => BAt y.1 y.2.1 (some ⟨y.2.2, 0, none⟩) n cap y.2.2 0 L) (fun y => { C with E := y.1, X := y.2.1 }) (fun y => putO l o.dst (eV (.slice (some ⟨y.2.2, 0, none⟩) n cap))) (fun _ => restH H ks) := by
  intro ρ a w hs K hK
  obtain ⟨dst, op, type, pos, after, guard⟩ := o
  simp only at hop hd
  subst hop
  have ex := (hs.ev hx).1
  obtain ⟨g1, g2⟩ := hs.hp k b hk
  obtain ⟨o1, o2⟩ := hs.own k b hk
  have hkk : k ∉ ks := fun hm => by
    have := List.all_eq_true.1 hks k hm
    simp at this
  have hsh : w.shape? (ρ k) = some (b.ty, (flat ρ b.cs).toArray.size) := by unfold World.shape?; rw [g1]
  obtain ⟨f1, f2, f3⟩ := freeze_heap w (ρ k) (flat ρ b.cs).toArray.size _ _ g1
  have hr : (convert t t (.slice (some ⟨ρ k, 0, none⟩) n cap)).run P w = .ok (.slice (some ⟨ρ k, 0, none⟩) n cap) (w.freeze ⟨ρ k, (flat ρ b.cs).toArray.size, none⟩ 1) := by
    simp [convert, run_underlying hu, run_underlying he, markStringish, hsh]
  have hrun0 : (execOp a.eval { dst := dst, op := .convert t t x, type := type, pos := pos, after := after, guard := guard }).run P w = .ok (.value (.slice (some ⟨ρ k, 0, none⟩) n cap)) (w.freeze ⟨ρ k, (flat ρ b.cs).toArray.size, none⟩ 1) := by
    simp only [EV.conc, SV.conc, AV.conc] at ex
    simp only [execOp, ex]
    simp [hr, Result.andThen]
  simp only [Oper.wp, hrun0, Oper.upon]
  generalize hW : w.freeze ⟨ρ k, (flat ρ b.cs).toArray.size, none⟩ 1 = W at *
  have hos : W.os = w.os ∧ W.tape = w.tape ∧ W.output = w.output := by
    subst hW; unfold World.freeze; rw [if_neg (by decide)]; exact ⟨rfl, rfl, rfl⟩
  have hother : ∀ j c, getH (restH H ks) j = some c → ρ j ≠ ρ k := fun j c hj e' => by
    have := hs.inj j k c b (restH_get hj) hk e'
    subst this
    exact hkk (getH_restH hj)
  have s : St { C with E := W, X := fun i => C.X i ∨ i = ρ k } ρ l (restH H ks) a W :=
    { env := hs.env, defers := hs.defers, size := hs.size, pin := hs.pin
      hp := fun j c hj => by
        obtain ⟨q1, q2⟩ := hs.hp j c (restH_get hj)
        rw [f2 _ (hother j c hj)]; exact ⟨q1, q2⟩
      ag := fun i hi => by
        refine ⟨?_, rfl⟩
        rw [f1]
        rcases hi with hi | rfl
        · exact (hs.ag i hi).1
        · exact hs.lt hk
      own := fun j c hj => ⟨fun hX => by
        rcases hX with hX | hX
        · exact (hs.own j c (restH_get hj)).1 hX
        · exact hother j c hj hX, (hs.own j c (restH_get hj)).2⟩
      inj := fun j j' c c' hj hj' => hs.inj j j' c c' (restH_get hj) (restH_get hj')
      keep := hs.keep.trans ⟨hos.1, hos.2.1, hos.2.2, by rw [f1]; exact Nat.le_refl _, fun i hi hn => f2 i (fun e' => by
        subst e'
        rcases o2 with o2 | o2
        · omega
        · exact hn o2)⟩ }
  have hext : CExt C { C with E := W, X := fun i => C.X i ∨ i = ρ k } := ⟨rfl, rfl, rfl, fun i hi => ⟨.inl hi, by
    rw [show W.heap[i]? = w.heap[i]? from f2 i (fun e' => o1 (e' ▸ hi))]
    exact (hs.ag i hi).2⟩, rfl⟩
  refine hK (W, _, ρ k) ρ _ W ⟨hL, hnc, hcm, fun _ => ⟨rfl, .inr rfl, by show ρ k < W.heap.size; rw [f1]; exact hs.lt hk⟩, fun i x hi => ?_⟩ hext Agr.refl (s.putO (C := { C with E := W, X := fun i => C.X i ∨ i = ρ k }) hd (e := eV (.slice (some ⟨ρ k, 0, none⟩) n cap)) trivial)
  show W.cell? _ = _
  rw [cell_of_row W (ρ k) _ _ _ _ f3]
  simpa using hc ρ i x hi
theorem BBAt.ext (h : CExt C C') {ad : Option Addr} {len cap b off : Nat} {V : Nat → SD} {Ls : List (List Int)} (hb : BBAt C.E C.X ad len cap b off V Ls) : BBAt C'.E C'.X ad len cap b off V Ls := by
  refine ⟨hb.ln, hb.lc, hb.cm, fun h0 => ?_, fun i hi => ?_, fun i hi => (hb.el i hi).ext h (fun _ p => p) (fun _ _ p => p)⟩
  · obtain ⟨p1, p2, p3⟩ := hb.ptr h0
    exact ⟨p1, (h.X _ p2).1, h.lt p2 p3⟩
  · obtain ⟨p1, p2, p3⟩ := hb.ptr (by omega)
    have := hb.cell i hi
    unfold World.cell? at this ⊢
    rw [show C'.E.heap[b]? = C.E.heap[b]? from (h.X _ p2).2]
    exact this
end
end Go.Sx
