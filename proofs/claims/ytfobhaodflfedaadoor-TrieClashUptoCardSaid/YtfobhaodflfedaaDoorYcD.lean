/- Tries: what a proof says, the whole of it: a range over a function. -/
import Derived.Test.YtfobhaodflfedaaDoorYcC
namespace Go.Proofs.YtfobhaodflfedaaDoor
open Go.Dx Go.RowKit
set_option linter.unusedVariables false
set_option linter.unusedSimpArgs false
set_option maxRecDepth 100000
attribute [local irreducible] wpS sumB joinB
/-- What a call may have done, all in all, where nothing is handed over. -/
structure Gr (w : World) (F : Nat → Prop) (w' : World) (F' : Nat → Prop) : Prop where
  os : w'.os = w.os
  tape : w'.tape = w.tape
  output : w'.output = w.output
  size : w.heap.size ≤ w'.heap.size
  blk : ∀ i, i < w.heap.size → w'.heap[i]? = w.heap[i]?
  f0 : ∀ i, F i → F' i
  f1 : ∀ i, F' i → F i ∨ w.heap.size ≤ i
theorem Gr.fr {w w1 w2 : World} {F F1 F2 : Nat → Prop} {H1 H2 : Heap} {nd : Nat → Prop} {ρ1 ρ2 : Nat → Dx.Loc} (g : Gr w F w1 F1) (hz : ∀ k b, getH H1 k = some b → ∀ i, (ρ1 k).Z i → w.heap.size ≤ i) (h : Fr H1 H2 nd F1 ρ1 w1 F2 ρ2 w2) :
    Gr w F w2 F2 ∧ ∀ k b, getH H2 k = some b → ∀ i, (ρ2 k).Z i → w.heap.size ≤ i := by
  have hs := g.size
  refine ⟨⟨h.os.trans g.os, h.tape.trans g.tape, h.output.trans g.output, Nat.le_trans hs h.size, fun i hi => ?_, fun i hi => h.f0 i (g.f0 i hi), fun i hi => ?_⟩, fun k b hk i hi => ?_⟩
  · rw [h.blk i (by omega) fun k b hk hzi => by have := hz k b hk i hzi; omega]; exact g.blk i hi
  · rcases h.f1 i hi with h1 | h1 | ⟨k, b, hk, hzi⟩
    · exact g.f1 i h1
    · exact .inr (by omega)
    · exact .inr (hz k b hk i hzi)
  · rcases h.own k b hk i hi with h1 | ⟨k0, b0, hk0, hzi⟩
    · omega
    · exact hz k0 b0 hk0 i hzi
theorem Gr.same {w w1 w2 : World} {F F1 : Nat → Prop} (g : Gr w F w1 F1) (ho : w2.os = w1.os) (ht : w2.tape = w1.tape) (hu : w2.output = w1.output) (hs : w1.heap.size ≤ w2.heap.size) (hb : ∀ i, i < w.heap.size → w2.heap[i]? = w1.heap[i]?) : Gr w F w2 F1 :=
  ⟨ho.trans g.os, ht.trans g.tape, hu.trans g.output, Nat.le_trans g.size hs, fun i hi => (hb i hi).trans (g.blk i hi), g.f0, g.f1⟩
theorem fr_le {H H' : Heap} {nd : Nat → Prop} {F F' : Nat → Prop} {ρ ρ' : Nat → Dx.Loc} {w w' : World} (hO : HOk w F ρ H) (h : Fr H H' nd F ρ w F' ρ' w') : (⟨w, F⟩ : Mem).le ⟨w', F'⟩ :=
  Mem.le_of h.f0 fun i hi => h.blk i (hO.frz i hi) fun k b hk hz => (hO.own k b hk i hz).1 hi
theorem hCt : CtOk XR := fun f c h => ctok_slicesChunkbytebyte _ (lookC_mem h)
/-- What is answered, out of the last state. -/
theorem fin_ok {x : List Int} {C : Ctx} {F : Nat → Prop} {ρ : Nat → Dx.Loc} {l : Env} {H : Heap} {a : Act} {w : World} (hN : C.N = XR.N) (hs : St C F ρ l H a w) (he : eQ x l H) :
    ∃ u, (results Tryd.f33 a.tmps).run Tryd.prog w = .ok u w ∧ ∃ F2 ρ2 l3 a', St C F2 ρ2 l3 [] a' w ∧ ERep ⟨w, F2⟩ ρ2 (eR x) u := by
  unfold eQ endQ at he
  dsimp only at he
  split at he
  · rename_i ps rs hr
    obtain ⟨hp, hk⟩ := andL_iff.1 he
    obtain ⟨u, h1, h2⟩ := results_run (X := XR) hs hr hp
    obtain ⟨F2, ρ2, l3, a', s3, hu⟩ := endV_ok (X := XR) (C := C) (of_decide_eq_true (by kernel_rfl)) hN hs h2 hk
    exact ⟨u, h1, F2, ρ2, l3, a', s3, hu⟩
  · exact he.elim
theorem getE_in : ∀ {l : Env} {t : Nat} {v : EV}, getE l t = some v → (t, v) ∈ l
  | [], t, v, h => by cases h
  | (k, u) :: r, t, v, h => by
    simp only [getE] at h
    split at h
    · rename_i hk
      have := Nat.eq_of_beq_eq_true hk; subst this
      simp only [Option.some.injEq] at h; subst h; simp
    · exact List.mem_cons_of_mem _ (getE_in h)
theorem getH_in : ∀ {l : Heap} {t : Nat} {v : Blk}, getH l t = some v → (t, v) ∈ l
  | [], t, v, h => by cases h
  | (k, u) :: r, t, v, h => by
    simp only [getH] at h
    split at h
    · rename_i hk
      have := Nat.eq_of_beq_eq_true hk; subst this
      simp only [Option.some.injEq] at h; subst h; simp
    · exact List.mem_cons_of_mem _ (getH_in h)
def rX (ρ : Nat → Dx.Loc) : Nat → Dx.Loc := updL (updL (updL ρ 100002 (ρ 202)) 100010 (ρ 210)) 100011 (ρ 211)
theorem rX_2 (ρ : Nat → Dx.Loc) : rX ρ 100002 = ρ 202 := by simp [rX, updL]
theorem rX_10 (ρ : Nat → Dx.Loc) : rX ρ 100010 = ρ 210 := by simp [rX, updL]
theorem rX_11 (ρ : Nat → Dx.Loc) : rX ρ 100011 = ρ 211 := by simp [rX, updL]
theorem rX_77 (ρ : Nat → Dx.Loc) : rX ρ 77 = ρ 77 := by simp [rX, updL]
theorem HX_in {x : List Int} {t k : Nat} {b : Blk} (h : getH (HX x t) k = some b) : k = 100002 ∨ k = 77 ∨ k = 100010 ∨ k = 100011 := by
  have := getH_in h
  simp only [HX, List.mem_cons, List.not_mem_nil, or_false, Prod.mk.injEq] at this
  rcases this with ⟨h, _⟩ | ⟨h, _⟩ | ⟨h, _⟩ | ⟨h, _⟩ <;> simp [h]
/-- The blocks, by other names. -/
theorem ren_ok {x : List Int} {C : Ctx} {F : Nat → Prop} {ρ : Nat → Dx.Loc} {a : Act} {w : World} (hN : C.N = XR.N) (hG : C.G = Gs) (hs : St C F ρ (lY x) (HY x) a w) : Sq XR.N Gs F (rX ρ) (lX x) (HX x 0) a w := by
  have z : ∀ {k b}, getH (HX x 0) k = some b → ∃ j c, getH (HY x) j = some c ∧ rX ρ k = ρ j ∧ (k = 100002 ∧ j = 202 ∨ k = 77 ∧ j = 77 ∨ k = 100010 ∧ j = 210 ∨ k = 100011 ∧ j = 211) := fun {k b} hk => by
    rcases HX_in hk with rfl | rfl | rfl | rfl
    · exact ⟨202, _, rfl, rX_2 ρ, by simp⟩
    · exact ⟨77, _, rfl, rX_77 ρ, by simp⟩
    · exact ⟨210, _, rfl, rX_10 ρ, by simp⟩
    · exact ⟨211, _, rfl, rX_11 ρ, by simp⟩
  refine { hp := fun k b hk => ?_, own := fun k b hk i hi => ?_, dis := fun k k' b b' hk hk' hne i hi hi' => ?_, frz := hs.frz, env := fun t v hv => ?_, gl := hG ▸ hs.gl, size := hs.size.trans hN }
  · have := getH_in hk
    simp only [HX, List.mem_cons, List.not_mem_nil, or_false, Prod.mk.injEq] at this
    rcases this with ⟨rfl, rfl⟩ | ⟨rfl, rfl⟩ | ⟨rfl, rfl⟩ | ⟨rfl, rfl⟩
    · obtain ⟨vs, h1, v, r, h2, h3, h4, h5⟩ := hs.hp 202 _ rfl
      rw [rX_2]
      exact ⟨vs, h1, v, r, h2, h3, by show v = _; rw [rX_77]; exact h4, h5⟩
    · rw [rX_77]; exact hs.hp 77 _ rfl
    · rw [rX_10]; exact hs.hp 210 _ rfl
    · rw [rX_11]; exact hs.hp 211 _ rfl
  · obtain ⟨j, c, hj, e, _⟩ := z hk
    rw [e] at hi
    exact hs.own j c hj i hi
  · obtain ⟨j, c, hj, e, q⟩ := z hk
    obtain ⟨j', c', hj', e', q'⟩ := z hk'
    rw [e] at hi
    rw [e'] at hi'
    exact hs.dis j j' c c' hj hj' (by omega) i hi hi'
  · have := getE_in hv
    simp only [lX, List.mem_cons, List.not_mem_nil, or_false, Prod.mk.injEq] at this
    rcases this with ⟨rfl, rfl⟩ | ⟨rfl, rfl⟩ | ⟨rfl, rfl⟩
    · have h : _ = _ := hs.env 2 _ rfl
      show _ = _
      rw [h]
      simp only [rX_2]
    · exact hs.env 5 _ rfl
    · have h : _ = _ := hs.env 38 _ rfl
      show _ = _
      rw [h]
      simp only [List.map_cons, List.map_nil, rX_10, rX_11]
/-- What the rounds keep. -/
def IX (x : List Int) (w : World) (F : Nat → Prop) (r : Nat → Dx.Loc) (a : Act) (L D : Nat) (rec : Loop) (t : Nat) (W : World) : Prop := ∃ F' ρ', Sq XR.N Gs F' ρ' (lX x) (HX x t) a W ∧ W.heap[L]? = some (.loop rec) ∧ W.heap[D]? = some (.deferred (some [])) ∧ ¬ F' L ∧ ¬ F' D ∧
  (∀ k b, getH (HX x t) k = some b → ¬ (ρ' k).Z L ∧ ¬ (ρ' k).Z D) ∧ (∀ k, 100000 ≤ k → ρ' k = r k) ∧ Gr w F W F' ∧ ∀ k b, getH (HX x t) k = some b → ∀ i, (ρ' k).Z i → w.heap.size ≤ i
theorem IX.drew {x : List Int} {w : World} {F : Nat → Prop} {r : Nat → Dx.Loc} {a : Act} {L D : Nat} {rec : Loop} {t : Nat} {W : World} (h : IX x w F r a L D rec t W) : IX x w F r a L D rec t W.drew := by
  obtain ⟨F', ρ', s, h1, h2, h3, h4, h5, h6, h7, h8⟩ := h
  exact ⟨F', ρ', s.grown (Nat.le_refl _) (fun _ _ => rfl) (fun _ _ _ _ _ => rfl), h1, h2, h3, h4, h5, h6, h7.same rfl rfl rfl (Nat.le_refl _) (fun _ _ => rfl), h8⟩
theorem envX {x : List Int} {F F' : Nat → Prop} {ρ ρ' r : Nat → Dx.Loc} {W W' : World} {a : Act} {t : Nat} (hs : Sq XR.N Gs F ρ (lX x) (HX x t) a W) (hle : (⟨W, F⟩ : Mem).le ⟨W', F'⟩) (h1 : ∀ k, 100000 ≤ k → ρ k = r k) (h2 : ∀ k, 100000 ≤ k → ρ' k = r k) :
    ∀ t v, getE (lX x) t = some v → ERep ⟨W', F'⟩ ρ' v (a.tmps.getD t undef) := fun j v hv => by
  have e : ∀ k, 100000 ≤ k → ρ' k = ρ k := fun k hk => (h2 k hk).trans (h1 k hk).symm
  have := getE_in hv
  simp only [lX, List.mem_cons, List.not_mem_nil, or_false, Prod.mk.injEq] at this
  rcases this with ⟨rfl, rfl⟩ | ⟨rfl, rfl⟩ | ⟨rfl, rfl⟩
  · have h : _ = _ := hs.env 2 _ rfl
    show _ = _
    rw [h, e 100002 (by decide)]
  · exact (hs.env 5 _ rfl).mono hle
  · have h : _ = _ := hs.env 38 _ rfl
    show _ = _
    rw [h]
    simp only [List.map_cons, List.map_nil, e 100010 (by decide), e 100011 (by decide)]
theorem cell_at {W : World} {loc : Dx.Loc} {F : Nat → Prop} {v : Value} {ty : Nat} (h : Blk1 ⟨W, F⟩ loc [v] ty) : W.cell? ⟨loc.b, 0, none⟩ = some v := by
  obtain ⟨h, _⟩ := h
  have h : W.heap[loc.b]? = some (.cells [v].toArray ty (0, 0)) := h
  simp [World.cell?, h]
theorem cell_sq {x : List Int} {F : Nat → Prop} {ρ : Nat → Dx.Loc} {W : World} {a : Act} {t : Nat} (s : Sq XR.N Gs F ρ (lX x) (HX x t) a W) :
    ∃ u, W.cell? ⟨(ρ 100010).b, 0, none⟩ = some u ∧ IRep ⟨W, F⟩ .u8 (cA x) u ∧ W.cell? ⟨(ρ 100011).b, 0, none⟩ = some (.int .i64 32) := by
  obtain ⟨vs, h1, v, r, rfl, _, h4, rfl⟩ := s.hp 100010 _ rfl
  obtain ⟨vs', g1, v', r', rfl, _, g4, rfl⟩ := s.hp 100011 _ rfl
  obtain rfl : v' = _ := g4
  exact ⟨v, cell_at h1, h4, cell_at g1⟩
theorem only_eq (K : Env → Heap → Prop) : (fun | .nrm => K | _ => fun _ _ => False : Post) = only K := by
  funext e; cases e <;> rfl
theorem round_X {x : List Int} (hx : okH x) {w w0 : World} {F : Nat → Prop} {r : Nat → Dx.Loc} {a : Act} {L D : Nat} {fn : FuncId} {t m : Nat} {W : World} (h : IX x w F r a L D (lrec fn a #[39] rRa rRb w0 .ready) t W) (ht : t < (cA x).length / 32)
    {b off cap : Nat} (hu : W.cell? ⟨(r 100010).b, 0, none⟩ = some (.slice (some ⟨b, off, none⟩) (cA x).length cap)) :
    YieldAt Fence.wide m Tryd.prog L #[.slice (some ⟨b, off + 32 * t, none⟩) 32 32] W fun e W' => e = .returned (.bool true) ∧ IX x w F r a L D (lrec fn a #[39] rRa rRb w0 .ready) (t + 1) W' := by
  obtain ⟨F', ρ', s, h1, h2, h3, h4, h5, h6, h7, h8⟩ := h
  obtain ⟨u, c1, c2, _⟩ := cell_sq s
  rw [h6 100010 (by decide), hu] at c1
  simp only [Option.some.injEq] at c1; subst c1
  obtain ⟨_, _, e, hcap, hc⟩ := c2
  simp only [Value.slice.injEq] at e
  obtain ⟨rfl, _, rfl⟩ := e
  have hne : cA x ≠ [] := fun e => by rw [e] at ht; simp at ht
  obtain ⟨b', off', cells, e, hz, hi⟩ := hc hne
  simp only [Option.some.injEq, Addr.mk.injEq, and_true] at e
  obtain ⟨rfl, rfl⟩ := e
  have hch : IRep ⟨W, F'⟩ .u8 (((cA x).drop (32 * t)).take 32) (.slice (some ⟨b, off + 32 * t, none⟩) 32 32) := by
    have hl : (((cA x).drop (32 * t)).take 32).length = 32 := by rw [List.length_take, List.length_drop]; omega
    refine ⟨_, 32, by rw [hl], by rw [hl]; exact Nat.le_refl _, fun _ => ⟨b, off + 32 * t, cells, rfl, hz, fun i y hy => ?_⟩⟩
    rw [List.getElem?_take] at hy
    split at hy
    · rw [List.getElem?_drop] at hy
      rw [Nat.add_assoc]; exact hi _ _ hy
    · cases hy
  have q0 := (s.st.put (d := 39) (e := .s (.a (.d (.si .u8 (((cA x).drop (32 * t)).take 32))))) (u := .slice (some ⟨b, off + 32 * t, none⟩) 32 32) (of_decide_eq_true (by kernel_rfl)) hch).sq.1
  have q1 : Sq XR.N Gs F' ρ' (putE (lX x) 39 (.s (.a (.d (.si .u8 (((cA x).drop (32 * t)).take 32)))))) (HX x t) { tmps := a.tmps.setIfInBounds 39 (.slice (some ⟨b, off + 32 * t, none⟩) 32 32), defers := [] } W :=
    { toHOk := q0.toHOk, env := q0.env, gl := q0.gl, size := q0.size }
  have pa := read_pa x t
  have pb := read_pb x t ⟨ht, hx.2.2.2, trivial⟩
  rw [← only_eq] at pa pb
  have hlD : D < W.heap.size := (Array.getElem?_eq_some_iff.1 h2).1
  obtain ⟨fn', tm', as', bd', e1, e2⟩ := round_ok (X := XR) (L := L) (m := m) (fn := fn) (w0 := w0) (a := a) (H2 := HX x (t + 1)) (l2 := lX x) hCt mixed (assign := rRa) (body := rRb) (by kernel_rfl) (by kernel_rfl) q1 h1 h3 (fun k b hk => (h5 k b hk).1) pa (fun l' H' he => by
    obtain ⟨rfl, rfl⟩ := he
    exact ⟨rfl, pb⟩)
  refine ⟨fn', tm', as', bd', e1, e2.mono ?_⟩
  rintro e W' ⟨he, hl', F2, ρ2, a2, q2, n1, n2, fr⟩
  refine ⟨he, F2, ρ2, ?_, hl', ?_, n1, fun hD => ?_, fun k b hk => ⟨n2 k b hk, fun hD => ?_⟩, fun k hk => (fr.rho k (by omega)).trans (h6 k hk), (h7.fr h8 fr).1, (h7.fr h8 fr).2⟩
  · exact { toHOk := q2.toHOk, env := envX s (fr_le s.toHOk fr) h6 (fun k hk => (fr.rho k (by omega)).trans (h6 k hk)), gl := q2.gl, size := s.size }
  · rw [fr.blk D hlD fun k b hk => (h5 k b hk).2]; exact h2
  · rcases fr.f1 D hD with h | h | ⟨k, b, hk, hz⟩
    · exact h4 h
    · omega
    · exact (h5 k b hk).2 hz
  · rcases fr.own k b hk D hD with h | ⟨k0, b0, hk0, hz0⟩
    · omega
    · exact (h5 k0 b0 hk0).2 hz0
theorem Gr.refl (w : World) (F : Nat → Prop) : Gr w F w F := ⟨rfl, rfl, rfl, Nat.le_refl _, fun _ _ => rfl, fun _ h => h, fun _ h => .inl h⟩
theorem no_blk {ρ : Nat → Dx.Loc} {n : Nat} : ∀ k b, getH ([] : Heap) k = some b → ∀ i, (ρ k).Z i → n ≤ i := fun k b h => by cases h
theorem nilHOk {w : World} {F : Nat → Prop} {ρ : Nat → Dx.Loc} (h : ∀ i, F i → i < w.heap.size) : HOk w F ρ [] :=
  { hp := fun k b h => (by cases h), own := fun k b h => (by cases h), dis := fun k k' b b' h => (by cases h), frz := h }
theorem Gr.toFr {w w' : World} {F F' : Nat → Prop} {ρ : Nat → Dx.Loc} (g : Gr w F w' F') : Fr [] [] (fun k => k < 100000) F ρ w F' ρ w' :=
  ⟨g.os, g.tape, g.output, g.size, fun i hi _ => g.blk i hi, g.f0, fun i hi => (g.f1 i hi).imp id .inl, fun _ _ => rfl, fun k b h => (by cases h)⟩
/-- The answer is data. -/
theorem eR_any {x : List Int} {m : Mem} {ρ ρ' : Nat → Dx.Loc} {u : Value} (h : ERep m ρ (eR x) u) : ERep m ρ' (eR x) u := h
theorem body_eq : Tryd.f33.body = some (.seq rR0 (.seq rR1 (.seq rR2 (.seq (.seq rR4 rRf) rRr)))) := by kernel_rfl
theorem rf_eq : rRf = .block 0 (.rangeFunc (.tmp 38) #[39] rRa rRb) := by kernel_rfl
theorem eg_ck (args : Array Value) (w : World) : (callFunc 69 args).run Tryd.prog w = .ok (.enter 69 args) w := call_run Tryd.func69 (by kernel_rfl) (by kernel_rfl) args w
theorem ent_old {fn : FuncId} {a : Act} {ps : Array Tmp} {asg bd : Code} {w : World} {i : Nat} (h : i < w.heap.size) : (entered fn a ps asg bd w).heap[i]? = w.heap[i]? := by
  show ((w.alloc _).alloc _).heap[i]? = _
  rw [Below.heap_alloc _ _ _ (by rw [World.size_alloc]; omega), Below.heap_alloc _ _ _ h]
theorem ent_size {fn : FuncId} {a : Act} {ps : Array Tmp} {asg bd : Code} {w : World} : (entered fn a ps asg bd w).heap.size = w.heap.size + 2 := by
  show ((w.alloc _).alloc _).heap.size = _
  rw [World.size_alloc, World.size_alloc]
theorem ent_loop {fn : FuncId} {a : Act} {ps : Array Tmp} {asg bd : Code} {w : World} : (entered fn a ps asg bd w).heap[w.heap.size + 1]? = some (.loop (lrec fn a ps asg bd w .ready)) := by
  have := World.alloc_heap_new (w.alloc (.deferred (some []))) (.loop (lrec fn a ps asg bd w .ready))
  rw [World.size_alloc] at this; exact this
theorem ent_mark {fn : FuncId} {a : Act} {ps : Array Tmp} {asg bd : Code} {w : World} : (entered fn a ps asg bd w).heap[w.heap.size]? = some (.deferred (some [])) := by
  show ((w.alloc _).alloc _).heap[w.heap.size]? = _
  rw [Below.heap_alloc _ _ _ (by rw [World.size_alloc]; omega)]
  exact World.alloc_heap_new w _
/-- The loop, all rounds. -/
theorem loop_X {x : List Int} (hx : okH x) {w w1 : World} {F F1 : Nat → Prop} {ρ1 : Nat → Dx.Loc} {C : Ctx} {a1 : Act} (hN : C.N = XR.N) (hG : C.G = Gs) (s1 : St C F1 ρ1 (lY x) (HY x) a1 w1) (g : Gr w F w1 F1)
    (hz : ∀ k b, getH (HY x) k = some b → ∀ i, (ρ1 k).Z i → w.heap.size ≤ i) (fn : FuncId) :
    Calls Tryd.prog 69 (#[.func (.yield (w1.heap.size + 1)) #[] #[]] ++ #[.pointer (some ⟨(ρ1 210).b, 0, none⟩), .pointer (some ⟨(ρ1 211).b, 0, none⟩)]) (entered fn a1 #[39] rRa rRb w1) fun e W2 =>
      (∃ v, e = .returned v) ∧ IX x w F (rX ρ1) a1 (w1.heap.size + 1) w1.heap.size (lrec fn a1 #[39] rRa rRb w1 .ready) ((cA x).length / 32) W2 := by
  refine (callsIn_wide (n := 1)).1 (chunk_walk 1 (w1.heap.size + 1) (ρ1 210).b (ρ1 211).b (cA x) (by have := hx.2.2.2; omega) hx.2.2.1 (IX x w F (rX ρ1) a1 (w1.heap.size + 1) w1.heap.size (lrec fn a1 #[39] rRa rRb w1 .ready)) (Nat.le_refl 1)
    (fun t W h => h.drew) (fun t W h => ?_) _ ?_)
  · have h' := h
    obtain ⟨F', ρ', s, h1, h2, h3, h4, h5, h6, h7, h8⟩ := h'
    obtain ⟨u, c1, c2, c3⟩ := cell_sq s
    rw [h6 100010 (by decide)] at c1
    rw [h6 100011 (by decide), rX_11] at c3
    obtain ⟨ad, cap, rfl, hcap, hc⟩ := c2
    refine ⟨ad, cap, by rw [rX_10] at c1; exact c1, hcap, c3, fun ht => ?_⟩
    have hne : cA x ≠ [] := fun e => by rw [e] at ht; simp at ht
    obtain ⟨b, off, cells, rfl, _, _⟩ := hc hne
    exact ⟨b, off, rfl, round_X hx h ht c1⟩
  · have sX := ren_ok hN hG s1
    have szE : (entered fn a1 #[39] rRa rRb w1).heap.size = w1.heap.size + 2 := ent_size
    have lo : ∀ k b, getH (HX x 0) k = some b → ∀ i, (rX ρ1 k).Z i → i < w1.heap.size := fun k b hk i hi => (sX.own k b hk i hi).2
    refine ⟨F1, rX ρ1, sX.grown (by rw [szE]; omega) (fun i hi => ent_old (sX.frz i hi)) (fun k b hk i hi => ent_old (lo k b hk i hi)), ?_, ?_, fun h => ?_, fun h => ?_, fun k b hk => ⟨fun h => ?_, fun h => ?_⟩, fun _ _ => rfl,
      g.same rfl rfl rfl (by rw [szE]; omega) (fun i hi => ent_old (by have := g.size; omega)), fun k b hk i hi => ?_⟩
    · exact ent_loop
    · exact ent_mark
    · have := sX.frz _ h; omega
    · have := sX.frz _ h; omega
    · have := lo k b hk _ h; omega
    · have := lo k b hk _ h; omega
    · rcases HX_in hk with rfl | rfl | rfl | rfl
      · rw [rX_2] at hi; exact hz 202 _ rfl i hi
      · rw [rX_77] at hi; exact hz 77 _ rfl i hi
      · rw [rX_10] at hi; exact hz 210 _ rfl i hi
      · rw [rX_11] at hi; exact hz 211 _ rfl i hi
theorem okread (x : List Int) (hp : allP [OkB x, x.length + 300 ≤ lim]) : CallsOk Tryd.prog Gs 33 [.a (.d (.si .u8 x))] [] (eR x) [] := by
  intro w F ρ us hL hO hG
  have hul := hL.len
  have s0 : Sq XR.N Gs F ρ (argE [.a (.d (.si .u8 x))] 0) [] { tmps := us.toArray ++ Array.replicate (Tryd.f33.ntmps - us.toArray.size) undef, defers := [] } w :=
    { toHOk := hO
      env := fun t v hv => by
        obtain ⟨v', rfl, _, u, h1, h2⟩ := argE_get hL hv
        simp only [Nat.sub_zero] at h1
        have hlt : t < us.length := by
          rcases Nat.lt_or_ge t us.length with h | h
          · exact h
          · rw [List.getElem?_eq_none h] at h1; cases h1
        have : (us.toArray ++ Array.replicate (Tryd.f33.ntmps - us.toArray.size) undef).getD t undef = u := by
          rw [Array.getD_eq_getD_getElem?, Array.getElem?_append_left (by simpa using hlt)]
          simp [h1]
        rw [this]; exact h2
      gl := hG
      size := by
        have e : us.toArray.size = 1 := by simpa using hul
        have e2 : XR.N = Tryd.f33.ntmps := rfl
        have e3 : 1 ≤ Tryd.f33.ntmps := of_decide_eq_true (by kernel_rfl)
        rw [e2]
        simp only [Array.size_append, Array.size_replicate, e]; omega }
  refine (callsIn_wide (n := 1)).1 (callsIn_of_wp_marks (F := Fence.wide) (n := 1) Tryd.func33 body_eq trivial (wpIn_wide.2 ?_) rfl)
  generalize hRR : bodyPostM Fence.wide 1 Tryd.prog Tryd.f33 (fun r w' => ∃ F' σ u, r = Ending.returned u ∧ ERep ⟨w', F'⟩ σ (eR x) u ∧ HOk w' F' σ [] ∧ Fr [] [] (fun k => k < 100000) F ρ w F' σ w') = RR
  have leave0 : ∀ {l : Env} {H : Heap} {F1 : Nat → Prop} {ρ1 : Nat → Dx.Loc} {a1 : Act} {w1 : World}, eQ x l H → St (ctx0 XR.N Gs F ρ [] w []) F1 ρ1 l H a1 w1 → RR .ret a1 w1 ∧ RR .normal a1 w1 := fun {l H F1 ρ1 a1 w1} he s1 => by
    obtain ⟨u, hr, F2, ρ2, l3, a', s3, hu⟩ := fin_ok rfl s1 he
    have g := ((Gr.refl w F).fr no_blk s3.sq.2.1).1
    have hd : a1.defers = [] := s1.defers
    have key : LeavesInM Fence.wide 1 Tryd.prog Tryd.f33 a1.tmps (fun r w' => ∃ F' σ u, r = Ending.returned u ∧ ERep ⟨w', F'⟩ σ (eR x) u ∧ HOk w' F' σ [] ∧ Fr [] [] (fun k => k < 100000) F ρ w F' σ w') a1.defers .returning w1 := by
      rw [hd]
      exact ⟨u, hr, F2, ρ, u, rfl, eR_any hu, nilHOk s3.frz, g.toFr⟩
    rw [← hRR]
    exact ⟨key, key⟩
  refine wp_seq (wpS_ok (C := ctx0 XR.N Gs F ρ [] w []) hCt rfl rfl mixed rR0 (R := Exit.then (Code.wp Tryd.prog (.seq rR1 (.seq rR2 (.seq (.seq rR4 rRf) rRr))) RR) RR) (read_p1 x hp) (fun e l H he => ?_) F ρ _ w s0.st)
  cases e with
  | ext i => exact he.elim
  | ret => exact he.elim
  | nrm =>
  intro F1 ρ1 a1 w1 s1
  refine wp_seq (wpS_ok (C := ctx0 XR.N Gs F ρ [] w []) hCt rfl rfl mixed rR1 (R := Exit.then (Code.wp Tryd.prog (.seq rR2 (.seq (.seq rR4 rRf) rRr)) RR) RR) he (fun e l H he => ?_) F1 ρ1 a1 w1 s1)
  cases e with
  | ext i => exact he.elim
  | ret => exact he.elim
  | nrm =>
  clear s1 F1 ρ1 a1 w1
  intro F1 ρ1 a1 w1 s1
  refine wp_seq (wpS_ok (C := ctx0 XR.N Gs F ρ [] w []) hCt rfl rfl mixed rR2 (R := Exit.then (Code.wp Tryd.prog (.seq (.seq rR4 rRf) rRr) RR) RR) he (fun e l H he => ?_) F1 ρ1 a1 w1 s1)
  cases e with
  | ext i => exact he.elim
  | ret => exact fun F1 ρ1 a1 w1 s1 => (leave0 he s1).1
  | nrm =>
  clear s1 F1 ρ1 a1 w1
  intro F1 ρ1 a1 w1 s1
  refine wp_seq (wp_seq (wpS_ok (C := ctx0 XR.N Gs F ρ [] w []) hCt rfl rfl mixed rR4 (R := Exit.then (Code.wp Tryd.prog rRf (Exit.then (Code.wp Tryd.prog rRr RR) RR)) (Exit.then (Code.wp Tryd.prog rRr RR) RR)) he (fun e l H he => ?_) F1 ρ1 a1 w1 s1))
  cases e with
  | ext i => exact he.elim
  | ret => exact he.elim
  | nrm =>
  clear s1 F1 ρ1 a1 w1
  intro F1 ρ1 a1 w1 s1
  obtain ⟨hok, mm⟩ := matchP_ok (C := ctx0 XR.N Gs F ρ [] w []) he
  obtain ⟨F2, ρ2, s2⟩ := mm F1 ρ1 a1 w1 s1
  obtain ⟨g, hz⟩ := (Gr.refl w F).fr no_blk s2.sq.2.1
  have hd1 : a1.defers = [] := s2.defers
  show Code.wp Tryd.prog rRf _ a1 w1
  rw [rf_eq]
  have h38 : a1.eval (.tmp 38) = .func (.func 69) #[] #[.pointer (some ⟨(ρ2 210).b, 0, none⟩), .pointer (some ⟨(ρ2 211).b, 0, none⟩)] := s2.env 38 _ rfl
  refine wp_block (wp_range h38 eg_ck fun fn => ?_)
  refine (loop_X hok rfl rfl s2 g hz fn).mono ?_
  rintro e W2 ⟨hv, F', ρ', s, h1, h2, h3, h4, h5, h6, h7, h8⟩
  refine ⟨hv, h1, ?_⟩
  show Code.wp Tryd.prog rRr RR _ _
  have szp : ∀ (W : World) (i : Nat) (o : Obj), (W.putObj i o).heap.size = W.heap.size := fun W i o => by simp [World.putObj]
  have hLD : ¬ w1.heap.size = w1.heap.size + 1 := by omega
  let W4 := W2.putObj (w1.heap.size + 1) (.loop (lrec fn a1 #[39] rRa rRb w1 .exhausted))
  let a2 : Act := { a1 with defers := { target := .collected w1.heap.size, args := #[] } :: a1.defers }
  have q4 : Sq XR.N Gs F' ρ' (lX x) (HX x ((cA x).length / 32)) a1 W4 := s.grown (by rw [szp]; exact Nat.le_refl _) (fun i hi => World.putObj_heap_other fun e => h3 (e ▸ hi)) (fun k b hk i hi => World.putObj_heap_other fun e => (h5 k b hk).1 (e ▸ hi))
  have s4 : Sq XR.N Gs F' ρ' (lX x) (HX x ((cA x).length / 32)) a2 W4 := { toHOk := q4.toHOk, env := q4.env, gl := q4.gl, size := q4.size }
  have g4 : Gr w F W4 F' := h7.same rfl rfl rfl (by rw [szp]; exact Nat.le_refl _) (fun i hi => World.putObj_heap_other (by have := g.size; omega))
  have hD4 : W4.heap[w1.heap.size]? = some (.deferred (some [])) := (World.putObj_heap_other hLD).trans h2
  have hDlt : w1.heap.size < W4.heap.size := (Array.getElem?_eq_some_iff.1 hD4).1
  have leave1 : ∀ {l : Env} {H : Heap} {F3 : Nat → Prop} {ρ3 : Nat → Dx.Loc} {a3 : Act} {w3 : World}, eQ x l H → St (ctx0 XR.N Gs F' ρ' (HX x ((cA x).length / 32)) W4 a2.defers) F3 ρ3 l H a3 w3 → RR .ret a3 w3 ∧ RR .normal a3 w3 := fun {l H F3 ρ3 a3 w3} he s3 => by
    obtain ⟨q3, f3, _⟩ := s3.sq
    obtain ⟨g3, z3⟩ := g4.fr h8 f3
    have hD3 : w3.heap[w1.heap.size]? = some (.deferred (some [])) := (f3.blk _ hDlt fun k b hk => (h5 k b hk).2).trans hD4
    have nF3 : ¬ F3 w1.heap.size := fun h => by
      rcases f3.f1 _ h with h | h | ⟨k, b, hk, hz⟩
      · exact h4 h
      · omega
      · exact (h5 k b hk).2 hz
    have nZ3 : ∀ k b, getH H k = some b → ¬ (ρ3 k).Z w1.heap.size := fun k b hk hz => by
      rcases f3.own k b hk _ hz with h | ⟨k0, b0, hk0, hz0⟩
      · omega
      · exact (h5 k0 b0 hk0).2 hz0
    have q5 : Sq XR.N Gs F3 ρ3 l H a3 (w3.putObj w1.heap.size (.deferred none)) := q3.grown (by rw [szp]; exact Nat.le_refl _) (fun i hi => World.putObj_heap_other fun e => nF3 (e ▸ hi)) (fun k b hk i hi => World.putObj_heap_other fun e => nZ3 k b hk (e ▸ hi))
    obtain ⟨u, hr, F6, ρ6, l6, a6, s6, hu⟩ := fin_ok rfl q5.st he
    have g5 : Gr w F (w3.putObj w1.heap.size (.deferred none)) F3 := g3.same rfl rfl rfl (by rw [szp]; exact Nat.le_refl _) (fun i hi => World.putObj_heap_other (by have := g.size; omega))
    have g6 := (g5.fr z3 s6.sq.2.1).1
    have hd : a3.defers = [{ target := .collected w1.heap.size, args := #[] }] := by
      have h9 : a3.defers = a2.defers := s3.defers
      rw [h9]; show _ :: a1.defers = _; rw [hd1]
    have key : LeavesInM Fence.wide 1 Tryd.prog Tryd.f33 a3.tmps (fun r w' => ∃ F' σ u, r = Ending.returned u ∧ ERep ⟨w', F'⟩ σ (eR x) u ∧ HOk w' F' σ [] ∧ Fr [] [] (fun k => k < 100000) F ρ w F' σ w') a3.defers .returning w3 := by
      rw [hd]
      exact ⟨by simp, .inl ⟨_, _, rfl, run_takeDeferred hD3, u, hr, F6, ρ, u, rfl, eR_any hu, nilHOk s6.frz, g6.toFr⟩⟩
    rw [← hRR]
    exact ⟨key, key⟩
  refine wpS_ok (C := ctx0 XR.N Gs F' ρ' (HX x ((cA x).length / 32)) W4 a2.defers) hCt rfl rfl mixed rRr (R := RR) (read_p3 x ⟨hp.1, hp.2.1, hok, trivial⟩) (fun e l H he => ?_) F' ρ' a2 W4 s4.st
  cases e with
  | ext i => exact he.elim
  | ret => exact fun F3 ρ3 a3 w3 s3 => (leave1 he s3).1
  | nrm => exact fun F3 ρ3 a3 w3 s3 => (leave1 he s3).2
noncomputable def gread : Con := fun args H => match args, H with
  | [.a (.d (.si .u8 x))], [] => some ⟨[OkB x, x.length + 300 ≤ lim], .t [.a (.d (.sl 32 (rdS x).length (lC dE [] (rdS x)))), .a (.d (.sl 33 (rdE x).length (lC tE tZ (rdE x)))), .a (.d (.v (.bool (rdO x))))], []⟩
  | _, _ => none
theorem vread : Valid Tryd.prog Gs 33 gread := by
  intro args H r h hp
  unfold gread at h
  split at h
  · simp only [Option.some.injEq] at h; subst h; exact okread _ hp
  · cases h
noncomputable def ct_read : List (Nat × Ct) := (33, ⟨[], true, gread, none⟩) :: ct_slicesChunkbytebyte
theorem ctok_read : CtsOk Tryd.prog Gs ct_read := CtsOk.cons vread (by kernel_rfl) ctok_slicesChunkbytebyte
end Go.Proofs.YtfobhaodflfedaaDoor
