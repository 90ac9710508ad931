/- A call, met by its contract. -/
import Derived.Test.YtlgffgnkkihaoaaDoorDxCall
namespace Go.Dx
open Go.RowKit
set_option linter.unusedVariables false
set_option linter.unusedSimpArgs false
section
variable {P : Program} {C : Ctx} {F F' : Nat → Prop} {ρ ρ' : Nat → Loc} {l : Env} {H : Heap} {a : Act} {w w' : World} {G : List (Nat × List DC)}

/-- What is not touched stays known. -/
theorem St.framed (hs : St C F ρ l H a w) {H1 : Heap} {Z : Nat → Prop} (hsub : ∀ k b, getH H1 k = some b → getH H k = some b)
    (hos : w'.os = w.os) (htape : w'.tape = w.tape) (hout : w'.output = w.output) (hsz : w.heap.size ≤ w'.heap.size) (hblk : ∀ i, i < w.heap.size → ¬ Z i → w'.heap[i]? = w.heap[i]?)
    (hZ : ∀ i, Z i → ¬ F i ∧ (C.w0.heap.size ≤ i ∨ C.S i) ∧ ∀ k b, getH H1 k = some b → ¬ (ρ k).Z i)
    (hF : ∀ i, F i → F' i) (hF' : ∀ i, F' i → F i ∨ w.heap.size ≤ i ∨ Z i) (hlt : ∀ i, F' i → i < w'.heap.size)
    (hE : ∀ k ∈ refsE l, ρ' k = ρ k) (hR : ∀ k ∈ refsH H1, ρ' k = ρ k) (hpin : ∀ k, 100000 ≤ k → ρ' k = C.r k) : St C F' ρ' l H1 a w' := by
  have hle : Mem.le ⟨w, F⟩ ⟨w', F'⟩ := Mem.le_of hF fun i hi => hblk i (hs.frz i hi) fun hz => (hZ i hz).1 hi
  have hk : ∀ k b, getH H1 k = some b → ρ' k = ρ k := fun k b h => hR k (refsH_get h).1
  exact { env := fun t v hv => ((hs.env t v hv).mono hle).same fun k hk => hE k (refsE_get hv k hk)
          hp := fun k b h => by
            rw [hk k b h]
            exact ((hs.hp k b (hsub k b h)).mono hle fun i hi => hblk i (hs.own k b (hsub k b h) i hi).2 fun hz => (hZ i hz).2.2 k b h hi).same fun j hj => hR j ((refsH_get h).2 j hj)
          own := fun k b h i hi => by
            rw [hk k b h] at hi
            have h1 := hs.own k b (hsub k b h) i hi
            refine ⟨fun hF => ?_, Nat.lt_of_lt_of_le h1.2 hsz⟩
            rcases hF' i hF with h2 | h2 | h2
            · exact h1.1 h2
            · omega
            · exact (hZ i h2).2.2 k b h hi
          dis := fun k k' b b' h h' hne i hi hi' => by
            rw [hk k b h] at hi; rw [hk k' b' h'] at hi'
            exact hs.dis k k' b b' (hsub k b h) (hsub k' b' h') hne i hi hi'
          frz := hlt
          gl := hs.gl.mono hle
          mine := fun k b h i hi => by rw [hk k b h] at hi; exact hs.mine k b (hsub k b h) i hi
          f0 := fun i hi => hF i (hs.f0 i hi)
          f1 := fun i hi => by
            rcases hF' i hi with h | h | h
            · exact hs.f1 i h
            · exact .inr (.inl (Nat.le_trans hs.keep.size h))
            · exact .inr (hZ i h).2.1
          keep := hs.keep.trans ⟨hos, htape, hout, hsz, fun i hi hS => hblk i (Nat.lt_of_lt_of_le hi hs.keep.size) fun hz => by
            rcases (hZ i hz).2.1 with h | h
            · omega
            · exact hS h⟩
          pin := hpin
          defers := hs.defers
          size := hs.size }
theorem getH_app {A B : Heap} {j : Nat} {b : Blk} : getH (A ++ B) j = some b → getH A j = some b ∨ (getH A j = none ∧ getH B j = some b) := by
  induction A with
  | nil => intro h; exact .inr ⟨rfl, h⟩
  | cons p r ih =>
    obtain ⟨k, c⟩ := p
    intro h
    simp only [List.cons_append, getH] at h ⊢
    split at h
    · exact .inl h
    · exact ih h
/-- More own blocks. -/
theorem St.join (hs : St C F ρ l H a w) {H2 : Heap} (h2 : HOk w F ρ H2) (hm : ∀ k b, getH H2 k = some b → ∀ i, (ρ k).Z i → C.w0.heap.size ≤ i ∨ C.S i)
    (hd : ∀ k k' b b', getH H2 k = some b → getH H k' = some b' → ∀ i, (ρ k).Z i → ¬ (ρ k').Z i) : St C F ρ l (H2 ++ H) a w :=
  { hs with
    hp := fun k b h => (getH_app h).elim (h2.hp k b) fun h => hs.hp k b h.2
    own := fun k b h => (getH_app h).elim (h2.own k b) fun h => hs.own k b h.2
    dis := fun k k' b b' h h' hne i hi hi' => by
      rcases getH_app h with h | ⟨_, h⟩ <;> rcases getH_app h' with h' | ⟨_, h'⟩
      · exact h2.dis k k' b b' h h' hne i hi hi'
      · exact hd k k' b b' h h' i hi hi'
      · exact hd k' k b' b h' h i hi' hi
      · exact hs.dis k k' b b' h h' hne i hi hi'
    mine := fun k b h => (getH_app h).elim (hm k b) fun h => hs.mine k b h.2 }

def addN (k : Nat) (l : List Nat) : List Nat := match memN k l with
  | true => l
  | false => k :: l
def addAll : List Nat → List Nat → List Nat
  | [], l => l
  | k :: r, l => addAll r (addN k l)
/-- The names that can be reached. -/
def reach (H : Heap) : Nat → List Nat → List Nat
  | 0, l => l
  | n + 1, l => reach H n (l.foldl (fun acc k => match getH H k with
    | some b => addAll b.refs acc
    | none => acc) l)
def subHp (H : Heap) : List Nat → Option Heap
  | [] => some []
  | k :: r => match getH H k, subHp H r with
    | some b, some s => some ((k, b) :: s)
    | _, _ => none
theorem subHp_get : ∀ {ks : List Nat} {H1 : Heap} {k : Nat} {b : Blk}, subHp H ks = some H1 → getH H1 k = some b → getH H k = some b ∧ k ∈ ks
  | [], H1, k, b, h, hg => by simp only [subHp, Option.some.injEq] at h; subst h; simp [getH] at hg
  | j :: r, H1, k, b, h, hg => by
    simp only [subHp] at h
    split at h
    · rename_i c s hc hs
      simp only [Option.some.injEq] at h; subst h
      simp only [getH] at hg
      split at hg
      · rename_i hj
        have := Nat.eq_of_beq_eq_true hj; subst this
        simp only [Option.some.injEq] at hg; subst hg
        exact ⟨hc, by simp⟩
      · obtain ⟨h1, h2⟩ := subHp_get hs hg
        exact ⟨h1, by simp [h2]⟩
    · cases h
theorem subHp_all : ∀ {ks : List Nat} {H1 : Heap} {k : Nat}, subHp H ks = some H1 → k ∈ ks → ∃ b, getH H k = some b ∧ getH H1 k = some b
  | j :: r, H1, k, h, hk => by
    simp only [subHp] at h
    split at h
    · rename_i c s hc hs
      simp only [Option.some.injEq] at h; subst h
      by_cases e : j = k
      · subst e; exact ⟨c, hc, by simp [getH]⟩
      · obtain ⟨b, h1, h2⟩ := subHp_all hs (by rcases List.mem_cons.1 hk with h | h; exact absurd h.symm e; exact h)
        exact ⟨b, h1, by simp [getH, nbeq_false e, h2]⟩
    · cases h
def delAll : List Nat → Heap → Heap
  | [], H => H
  | k :: r, H => delAll r (delH H k)
theorem delAll_get : ∀ {ks : List Nat} {H : Heap} {k : Nat} {b : Blk}, getH (delAll ks H) k = some b → getH H k = some b ∧ k ∉ ks
  | [], H, k, b, h => ⟨h, by simp⟩
  | j :: r, H, k, b, h => by
    obtain ⟨h1, h2⟩ := delAll_get (ks := r) h
    obtain ⟨h3, h4⟩ := getH_del_some h1
    exact ⟨h4, by simp [h2, h3]⟩
def number : Nat → List Nat → List (Nat × Nat)
  | _, [] => []
  | i, k :: r => (k, i) :: number (i + 1) r
def swapP : List (Nat × Nat) → List (Nat × Nat)
  | [] => []
  | (i, j) :: r => (j, i) :: swapP r
def keysH : Heap → List Nat
  | [] => []
  | (k, _) :: r => k :: keysH r
def smallN : List Nat → List Nat
  | [] => []
  | k :: r => match Nat.blt k 100000 with
    | true => k :: smallN r
    | false => smallN r
def newsOf (d : Nat) : List Nat → List (Nat × Nat)
  | [] => []
  | j :: r => (j, 1000 * (j + 1) + d) :: newsOf d r
def seconds : List (Nat × Nat) → List Nat
  | [] => []
  | (_, j) :: r => j :: seconds r
def allN (p : Nat → Bool) : List Nat → Bool
  | [] => true
  | k :: r => p k && allN p r
theorem allN_of {p : Nat → Bool} : ∀ {l : List Nat}, allN p l = true → ∀ k ∈ l, p k = true
  | j :: r, h, k, hk => by
    simp only [allN, Bool.and_eq_true] at h
    rcases List.mem_cons.1 hk with rfl | hk
    · exact h.1
    · exact allN_of h.2 k hk
theorem memN_iff {k : Nat} : ∀ {l : List Nat}, memN k l = true → k ∈ l
  | j :: r, h => by
    simp only [memN, Bool.or_eq_true] at h
    rcases h with h | h
    · rw [Nat.eq_of_beq_eq_true h]; simp
    · exact List.mem_cons_of_mem _ (memN_iff h)
/-- π: the handed names, by the callee's; N: the new ones, by the caller's. -/
def backOk (π N : List (Nat × Nat)) (k : Nat) : Bool :=
  match Nat.ble 100000 k with
  | true => Nat.beq (look (N ++ swapP π) k) (look (swapP π) k) && !memN (look (swapP π) k) (seconds N)
  | false => memN (look (N ++ swapP π) k) (seconds N) && Nat.beq (look (swapP N) (look (N ++ swapP π) k)) k
def callV (l : Env) (H : Heap) (d : Nat) (ms : List Bool) (g : Con) (args : List SV) : Option (List Prop × EV × Heap × List Nat) :=
  match vwL H ms args with
  | some (avs, B) =>
    let T := reach H 3 (addAll (refsL avs) [])
    let π := number 100000 T
    match subHp H T with
    | some Hin =>
      match g (renL π avs) (renH π Hin) with
      | some r =>
        let N := newsOf d (smallN (keysH r.H))
        match allN (fun k => Nat.beq (look (swapP π) (look π k)) k && (Nat.ble 100000 (look π k) && !memN k B)) T && (allN (fun k => memN k T) (refsL avs ++ refsH Hin) && (allN (fun k => (getH H k).isSome) B
            && (allN (backOk π N) (r.e.refs ++ refsH r.H) && (allN (fun k => Nat.blt k 100000 && (!memN k (refsE l) && !memN k (refsH H))) (seconds N) && (B.isEmpty || (r.e.pure && pureH r.H)))))) with
        | true => some ((match B with | [] => r.ps | _ :: _ => appP r.ps (pureHP r.H)), r.e.ren (N ++ swapP π), renH (N ++ swapP π) r.H ++ delAll T H, seconds N)
        | false => none
      | none => none
    | none => none
  | none => none
theorem call_run {f : FuncId} {fn : Func} (hf : P.funcs[f]? = some fn) (hn : (fn.name == "runtime.NumGoroutine") = false) (hb : fn.body.isNone = false) (args : Array Value) (w : World) : (callFunc f args).run P w = .ok (.enter f args) w := by
  unfold callFunc
  simp only [Sem.run_bind, run_program, Result.andThen_ok, hf]
  rw [if_neg (by simp [hn]), if_neg (by simp [hb])]
  rfl
theorem callV_ok {o : Oper} {f : FuncId} {fn : Func} {ms : List Bool} {g : Con} {args : List SV} {d : Nat} {ps : List Prop} {e : EV} {H' : Heap} {nn : List Nat} (hG : C.G = G) (hd : dstOk C.N o.dst = true) (hv : Valid P G f g)
    (hrun : ∀ F ρ a w, St C F ρ l H a w → ∃ us, LRep ⟨w, F⟩ ρ args us ∧ (execOp a.eval o).run P w = .ok (.enter f us.toArray) w)
    (h : callV l H d ms g args = some (ps, e, H', nn)) : StepOk P C o l H ps (putO l o.dst e) H' (fun k => k ∈ nn) := by
  intro hp F ρ a w hs Q K hK
  obtain ⟨us, hus, hr⟩ := hrun F ρ a w hs
  unfold callV at h
  split at h
  · rename_i avs B hvw
    simp only at h
    generalize hT : reach H 3 (addAll (refsL avs) []) = T at h
    generalize hπ : number 100000 T = π at h
    split at h
    · rename_i Hin hin
      split at h
      · rename_i r hg
        generalize hN : newsOf d (smallN (keysH r.H)) = N at h
        split at h
        · rename_i hc
          simp only [Bool.and_eq_true] at hc
          obtain ⟨c1, c2, c3, c4, c5, c6⟩ := hc
          simp only [Option.some.injEq, Prod.mk.injEq] at h
          obtain ⟨rfl, rfl, rfl, rfl⟩ := h
          have hp0 : allP r.ps ∧ (B.isEmpty = false → allP (pureHP r.H)) := by
            cases B with
            | nil => exact ⟨hp, fun h => by cases h⟩
            | cons b0 bs => exact ⟨(allP_app hp).1, fun _ => (allP_app hp).2⟩
          have k1 : ∀ k ∈ T, look (swapP π) (look π k) = k ∧ 100000 ≤ look π k ∧ k ∉ B := fun k hk => by
            have := allN_of c1 k hk
            simp only [Bool.and_eq_true, Bool.not_eq_true'] at this
            exact ⟨Nat.eq_of_beq_eq_true this.1, Nat.le_of_ble_eq_true this.2.1, not_memN this.2.2⟩
          have k2 : ∀ k ∈ refsL avs ++ refsH Hin, k ∈ T := fun k hk => memN_iff (allN_of c2 k hk)
          have k5 : ∀ k ∈ seconds N, k < 100000 ∧ k ∉ refsE l ∧ k ∉ refsH H := fun k hk => by
            have := allN_of c5 k hk
            simp only [Bool.and_eq_true, Bool.not_eq_true'] at this
            exact ⟨Nat.le_of_ble_eq_true this.1, not_memN this.2.1, not_memN this.2.2⟩
          let ZB : Nat → Prop := fun i => ∃ k ∈ B, (ρ k).Z i
          let Fc : Nat → Prop := fun i => F i ∨ ZB i
          let ρc : Nat → Loc := fun k => ρ (look (swapP π) k)
          let ZT : Nat → Prop := fun i => ∃ k b, getH Hin k = some b ∧ (ρ k).Z i
          have hB : ∀ k ∈ B, ∃ b, getH H k = some b := fun k hk => Option.isSome_iff_exists.1 (allN_of c3 k hk)
          have hlec : Mem.le ⟨w, F⟩ ⟨w, Fc⟩ := Mem.le_of (fun _ h => .inl h) fun _ _ => rfl
          have hρc : ∀ k ∈ T, ρc (look π k) = ρ k := fun k hk => by show ρ _ = _; rw [(k1 k hk).1]
          have a1 : LRep ⟨w, Fc⟩ ρ avs us := vwL_rep hs.toHOk (fun _ h => .inl h) hvw (fun k hk i hi => .inr ⟨k, hk, hi⟩) hus
          have a2 : LRep ⟨w, Fc⟩ ρc (renL π avs) us := ren_L (fun k hk => hρc k (k2 k (by simp [hk]))) a1
          have hZT : ∀ i, ZT i → ¬ F i ∧ i < w.heap.size ∧ (C.w0.heap.size ≤ i ∨ C.S i) ∧ ¬ ZB i := fun i ⟨k, b, hk, hi⟩ => by
            obtain ⟨g1, g2⟩ := subHp_get hin hk
            refine ⟨(hs.own k b g1 i hi).1, (hs.own k b g1 i hi).2, hs.mine k b g1 i hi, fun ⟨j, hj, hz⟩ => ?_⟩
            obtain ⟨b', hb'⟩ := hB j hj
            exact hs.dis k j b b' g1 hb' (fun e => (k1 k g2).2.2 (e ▸ hj)) i hi hz
          have a3 : HOk w Fc ρc (renH π Hin) := by
            have key : ∀ j b', getH (renH π Hin) j = some b' → ∃ k b, getH Hin k = some b ∧ getH H k = some b ∧ k ∈ T ∧ look π k = j ∧ b' = b.ren π ∧ ρc j = ρ k := fun j b' hj => by
              obtain ⟨k, b, h1, h2, h3⟩ := renH_get hj
              obtain ⟨g1, g2⟩ := subHp_get hin h1
              exact ⟨k, b, h1, g1, g2, h2, h3, by rw [← h2]; exact hρc k g2⟩
            refine ⟨fun j b' hj => ?_, fun j b' hj i hi => ?_, fun j j' b b' hj hj' hne i hi hi' => ?_, fun i hi => ?_⟩
            · obtain ⟨k, b, h1, h2, h3, h4, h5, h6⟩ := key j b' hj
              rw [h6, h5]
              exact ren_B (fun q hq => hρc q (k2 q (by simp [(refsH_get h1).2 q hq]))) ((hs.hp k b h2).mono hlec fun _ _ => rfl)
            · obtain ⟨k, b, h1, h2, h3, h4, h5, h6⟩ := key j b' hj
              rw [h6] at hi
              have := hZT i ⟨k, b, h1, hi⟩
              exact ⟨fun hF => hF.elim this.1 this.2.2.2, this.2.1⟩
            · obtain ⟨k, b1, h1, h2, h3, h4, h5, h6⟩ := key j b hj
              obtain ⟨k', b1', h1', h2', h3', h4', h5', h6'⟩ := key j' b' hj'
              rw [h6] at hi; rw [h6'] at hi'
              exact hs.dis k k' b1 b1' h2 h2' (fun e => hne (by rw [← h4, ← h4', e])) i hi hi'
            · rcases hi with hi | ⟨k, hk, hi⟩
              · exact hs.frz i hi
              · obtain ⟨b, hb⟩ := hB k hk; exact (hs.own k b hb i hi).2
          have a4 : GOk G ⟨w, Fc⟩ := hG ▸ hs.gl.mono hlec
          have hcall := hv _ _ _ hg hp0.1 w Fc ρc us a2 a3 a4
          simp only [Oper.wp, hr, Oper.upon]
          refine hcall.mono fun en w' hen => ?_
          obtain ⟨F', σ, u, rfl, hu, hO, hF⟩ := hen
          simp only
          let F2 : Nat → Prop := fun i => F' i ∧ ¬ ZB i
          let ρ2 : Nat → Loc := fun k => match memN k (seconds N) with
            | true => σ (look (swapP N) k)
            | false => ρ k
          have hρ2 : ∀ k, k ∉ seconds N → ρ2 k = ρ k := fun k hk => by
            show (match memN k (seconds N) with | true => _ | false => _) = _
            cases hm : memN k (seconds N) with
            | true => exact absurd (memN_iff hm) hk
            | false => rfl
          have hback : ∀ k ∈ r.e.refs ++ refsH r.H, ρ2 (look (N ++ swapP π) k) = σ k := fun k hk => by
            have := allN_of c4 k hk
            unfold backOk at this
            cases hb : Nat.ble 100000 k with
            | true =>
              rw [hb] at this
              simp only [Bool.and_eq_true, Bool.not_eq_true'] at this
              have e1 := Nat.eq_of_beq_eq_true this.1
              rw [e1, hρ2 _ (not_memN this.2), hF.rho k (by have := Nat.le_of_ble_eq_true hb; omega)]
            | false =>
              rw [hb] at this
              simp only [Bool.and_eq_true] at this
              have e1 := Nat.eq_of_beq_eq_true this.2
              show (match memN (look (N ++ swapP π) k) (seconds N) with | true => _ | false => _) = _
              rw [this.1]; simp only [e1]
          have memF : ∀ {e : EV} {u : Value}, (B.isEmpty || (e.pure && pureH r.H)) = true → ERep ⟨w', F'⟩ σ e u → ERep ⟨w', F2⟩ σ e u := fun {e u} hb he => by
            cases hBe : B.isEmpty with
            | true =>
              have hB0 : B = [] := List.isEmpty_iff.1 hBe
              refine he.mono (Mem.le_of (m := ⟨w', F'⟩) (m' := ⟨w', F2⟩) (fun i hi => ⟨hi, fun ⟨k, hk, _⟩ => ?_⟩) fun _ _ => rfl)
              rw [hB0] at hk; cases hk
            | false =>
              rw [hBe] at hb
              simp only [Bool.false_or, Bool.and_eq_true] at hb
              exact pure_E hb.1 he
          have memH : HOk w' F2 σ r.H := by
            refine ⟨fun k b hk => ?_, fun k b hk i hi => ⟨fun h => (hO.own k b hk i hi).1 h.1, (hO.own k b hk i hi).2⟩, hO.dis, fun i hi => hO.frz i hi.1⟩
            cases hBe : B.isEmpty with
            | true =>
              have hB0 : B = [] := List.isEmpty_iff.1 hBe
              refine (hO.hp k b hk).mono (Mem.le_of (m := ⟨w', F'⟩) (m' := ⟨w', F2⟩) (fun i hi => ⟨hi, fun ⟨k, hk, _⟩ => ?_⟩) fun _ _ => rfl) fun _ _ => rfl
              rw [hB0] at hk; cases hk
            | false =>
              rw [hBe] at c6
              simp only [Bool.false_or, Bool.and_eq_true] at c6
              exact pure_B (m := ⟨w', F'⟩) rfl (pureH_get c6.2 hk) (pureHP_get (hp0.2 hBe) hk) (hO.hp k b hk)
          have hZin : ∀ i, (∃ k b, getH (renH π Hin) k = some b ∧ (ρc k).Z i) → ZT i := fun i ⟨j, b', hj, hi⟩ => by
            obtain ⟨k, b, h1, h2, h3⟩ := renH_get hj
            obtain ⟨g1, g2⟩ := subHp_get hin h1
            have : ρc j = ρ k := by rw [← h2]; exact hρc k g2
            rw [this] at hi
            exact ⟨k, b, h1, hi⟩
          have f1 : St C F2 ρ2 l (delAll T H) a w' := by
            refine hs.framed (Z := ZT) (fun k b h => (delAll_get h).1) hF.os hF.tape hF.output hF.size (fun i hi hz => hF.blk i hi fun k b hk hkz => hz (hZin i ⟨k, b, hk, hkz⟩))
              (fun i hi => ⟨(hZT i hi).1, (hZT i hi).2.2.1, fun k b hk hkz => ?_⟩) (fun i hi => ⟨hF.f0 i (.inl hi), fun ⟨k, hk, hz⟩ => ?_⟩) (fun i ⟨hi, hz⟩ => ?_) (fun i hi => hO.frz i hi.1)
              (fun k hk => hρ2 k fun e => (k5 k e).2.1 hk) (fun k hk => hρ2 k fun e => (k5 k e).2.2 ?_) (fun k hk => ?_)
            · obtain ⟨j, bj, hj, hjz⟩ := hi
              obtain ⟨g1, g2⟩ := subHp_get hin hj
              obtain ⟨g3, g4⟩ := delAll_get hk
              exact hs.dis j k bj b g1 g3 (fun e => g4 (e ▸ g2)) i hjz hkz
            · obtain ⟨b, hb⟩ := hB k hk; exact (hs.own k b hb i hz).1 hi
            · rcases hF.f1 i hi with h | h | h
              · exact .inl (h.resolve_right hz)
              · exact .inr (.inl h)
              · exact .inr (.inr (hZin i h))
            · -- a name within what is left is one of the whole
              have sub : ∀ {ks : List Nat} {H : Heap}, k ∈ refsH (delAll ks H) → k ∈ refsH H := by
                have sub1 : ∀ {j : Nat} {H : Heap}, k ∈ refsH (delH H j) → k ∈ refsH H := by
                  intro j H
                  induction H with
                  | nil => exact fun h => h
                  | cons p r ih =>
                    obtain ⟨q, c⟩ := p
                    intro h
                    simp only [delH] at h
                    split at h
                    · simp only [refsH, List.mem_cons, List.mem_append]; exact .inr (.inr (ih h))
                    · simp only [refsH, List.mem_cons, List.mem_append] at h ⊢
                      rcases h with h | h | h
                      · exact .inl h
                      · exact .inr (.inl h)
                      · exact .inr (.inr (ih h))
                intro ks
                induction ks with
                | nil => exact fun h => h
                | cons j r ih => exact fun h => sub1 (ih h)
              exact sub hk
            · rw [hρ2 k fun e => by have := (k5 k e).1; omega]; exact hs.pin k hk
          have keyH : ∀ j b', getH (renH (N ++ swapP π) r.H) j = some b' → ∃ k b, getH r.H k = some b ∧ look (N ++ swapP π) k = j ∧ b' = b.ren (N ++ swapP π) ∧ ρ2 j = σ k := fun j b' hj => by
            obtain ⟨k, b, h1, h2, h3⟩ := renH_get hj
            exact ⟨k, b, h1, h2, h3, by rw [← h2]; exact hback k (by simp [(refsH_get h1).1])⟩
          have ownH : ∀ j b', getH (renH (N ++ swapP π) r.H) j = some b' → ∀ i, (ρ2 j).Z i → w.heap.size ≤ i ∨ ZT i := fun j b' hj i hi => by
            obtain ⟨k, b, h1, h2, h3, h4⟩ := keyH j b' hj
            rw [h4] at hi
            rcases hF.own k b h1 i hi with h | h
            · exact .inl h
            · exact .inr (hZin i h)
          have f2 : St C F2 ρ2 l (renH (N ++ swapP π) r.H ++ delAll T H) a w' := by
            refine f1.join ⟨fun j b' hj => ?_, fun j b' hj i hi => ?_, fun j j' b b' hj hj' hne i hi hi' => ?_, fun i hi => hO.frz i hi.1⟩ (fun j b' hj i hi => ?_) (fun j k' b' b'' hj hk' i hi hi' => ?_)
            · obtain ⟨k, b, h1, h2, h3, h4⟩ := keyH j b' hj
              rw [h4, h3]
              exact ren_B (fun q hq => hback q (by simp [(refsH_get h1).2 q hq])) (memH.hp k b h1)
            · obtain ⟨k, b, h1, h2, h3, h4⟩ := keyH j b' hj
              rw [h4] at hi; exact memH.own k b h1 i hi
            · obtain ⟨k, b1, h1, h2, h3, h4⟩ := keyH j b hj
              obtain ⟨k', b1', h1', h2', h3', h4'⟩ := keyH j' b' hj'
              rw [h4] at hi; rw [h4'] at hi'
              exact memH.dis k k' b1 b1' h1 h1' (fun e => hne (by rw [← h2, ← h2', e])) i hi hi'
            · rcases ownH j b' hj i hi with h | h
              · exact .inl (Nat.le_trans hs.keep.size h)
              · exact (hZT i h).2.2.1
            · obtain ⟨g3, g4⟩ := delAll_get hk'
              have g5 : ρ2 k' = ρ k' := hρ2 k' fun e => (k5 k' e).2.2 (refsH_get g3).1
              rw [g5] at hi'
              rcases ownH j b' hj i hi with h | ⟨q, bq, hq, hqz⟩
              · have := (hs.own k' b'' g3 i hi').2; omega
              · obtain ⟨q1, q2⟩ := subHp_get hin hq
                exact hs.dis q k' bq b'' q1 g3 (fun e => g4 (e ▸ q2)) i hqz hi'
          have hu2 : ERep ⟨w', F2⟩ ρ2 (r.e.ren (N ++ swapP π)) u := ren_E (fun k hk => hback k (by simp [hk])) (memF c6 hu)
          refine hK F2 ρ2 u w' (f2.putO hd hu2) ⟨hF.os, hF.tape, hF.output, hF.size, fun i hi hz => hF.blk i hi fun k b hk hkz => ?_, fun i hi => ⟨hF.f0 i (.inl hi), fun ⟨k, hk, hz⟩ => ?_⟩, fun i ⟨hi, hz⟩ => ?_, fun k hk => hρ2 k hk, fun j b hj i hi => ?_⟩
          · obtain ⟨q, bq, hq, hqz⟩ := hZin i ⟨k, b, hk, hkz⟩
            exact hz q bq (subHp_get hin hq).1 hqz
          · obtain ⟨b, hb⟩ := hB k hk; exact (hs.own k b hb i hz).1 hi
          · rcases hF.f1 i hi with h | h | h
            · exact .inl (h.resolve_right hz)
            · exact .inr (.inl h)
            · obtain ⟨q, bq, hq, hqz⟩ := hZin i h
              exact .inr (.inr ⟨q, bq, (subHp_get hin hq).1, hqz⟩)
          · rcases getH_app hj with hj | ⟨_, hj⟩
            · rcases ownH j b hj i hi with h | ⟨q, bq, hq, hqz⟩
              · exact .inl h
              · exact .inr ⟨q, bq, (subHp_get hin hq).1, hqz⟩
            · obtain ⟨g3, g4⟩ := delAll_get hj
              rw [hρ2 j fun e => (k5 j e).2.2 (refsH_get g3).1] at hi
              exact .inr ⟨j, b, g3, hi⟩
        · cases h
      · cases h
    · cases h
  · cases h
end
end Go.Dx
