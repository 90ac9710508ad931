/- Calls: what a function does, told by a contract, and how a caller meets it. -/
import Derived.Test.YtlgffgnkkihaoaaDoorDxEff5
namespace Go.Dx
open Go.RowKit
set_option linter.unusedVariables false
set_option linter.unusedSimpArgs false

structure CRes where
  ps : List Prop
  e : EV
  H : Heap
/-- What a contract makes of arguments and of the blocks that are handed over. -/
abbrev Con := List SV → Heap → Option CRes
def CallsOk (P : Program) (G : List (Nat × List DC)) (f : FuncId) (args : List SV) (Hin : Heap) (e : EV) (Hout : Heap) : Prop :=
  ∀ w F ρ us, LRep ⟨w, F⟩ ρ args us → HOk w F ρ Hin → GOk G ⟨w, F⟩ → Calls P f us.toArray w fun r w' =>
    ∃ F' σ u, r = .returned u ∧ ERep ⟨w', F'⟩ σ e u ∧ HOk w' F' σ Hout ∧ Fr Hin Hout (fun k => k < 100000) F ρ w F' σ w'
def Valid (P : Program) (G : List (Nat × List DC)) (f : FuncId) (g : Con) : Prop := ∀ args H r, g args H = some r → allP r.ps → CallsOk P G f args H r.e r.H

/-! other names -/
def look : List (Nat × Nat) → Nat → Nat
  | [], k => k
  | (i, j) :: r, k => match Nat.beq i k with
    | true => j
    | false => look r k
def AV.ren (π : List (Nat × Nat)) : AV → AV
  | .d x => .d x
  | .lp k off => .lp (look π k) off
  | .lx k off n i => .lx (look π k) off n i
  | .ls k off n i len => .ls (look π k) off n i len
  | .rw k => .rw (look π k)
  | .re k sz i off => .re (look π k) sz i off
  | .fn f caps => .fn f (caps.map fun p => (look π p.1, p.2))
  | .mp k => .mp (look π k)
  | .rs k sz lo len => .rs (look π k) sz lo len
  | .fb f k off ds => .fb f (look π k) off ds
def renC (π : List (Nat × Nat)) : List Chunk → List Chunk
  | [] => []
  | .one a :: r => .one (a.ren π) :: renC π r
  | .ints k n xs :: r => .ints k n xs :: renC π r
def SV.ren (π : List (Nat × Nat)) : SV → SV
  | .a x => .a (x.ren π)
  | .agg cs => .agg (renC π cs)
def renL (π : List (Nat × Nat)) : List SV → List SV
  | [] => []
  | x :: r => x.ren π :: renL π r
def EV.ren (π : List (Nat × Nat)) : EV → EV
  | .s x => .s (x.ren π)
  | .t l => .t (renL π l)
  | .dead => .dead
def Blk.ren (π : List (Nat × Nat)) : Blk → Blk
  | .cells cs ty => .cells (renC π cs) ty
  | .row c ty => .row c ty
  | .abs A => .abs A
  | .mp mt ag qs has v rf gh => match rf with
    | [] => .mp mt ag qs has v [] gh
    | _ :: _ => .mp mt ag qs has (fun kk => (v kk).ren π) (rf.map (look π)) gh
def renH (π : List (Nat × Nat)) : Heap → Heap
  | [] => []
  | (k, b) :: r => (look π k, b.ren π) :: renH π r
section
variable {m : Mem} {ρ σ : Nat → Loc} {π : List (Nat × Nat)}
theorem ren_A {x : AV} {u : Value} (h : ∀ k ∈ x.refs, σ (look π k) = ρ k) (hr : ARep m ρ x u) : ARep m σ (x.ren π) u := by
  cases x with
  | d x => exact hr
  | fn f caps =>
    have : ((caps.map fun p => (look π p.1, p.2)).map fun p => Value.pointer (some ⟨(σ p.1).b, p.2, none⟩)) = caps.map fun p => Value.pointer (some ⟨(ρ p.1).b, p.2, none⟩) := by
      rw [List.map_map]
      exact List.map_congr_left fun p hp => by simp only [Function.comp]; rw [h p.1 (List.mem_map.2 ⟨p, hp, rfl⟩)]
    simp only [ARep, AV.ren] at hr ⊢; rw [hr, this]
  | _ => simp only [ARep, AV.ren] at hr ⊢; rw [h _ (by simp [AV.refs])]; exact hr
theorem ren_C : ∀ {cs : List Chunk} {vs : List Value}, (∀ k ∈ refsC cs, σ (look π k) = ρ k) → KRep m ρ cs vs → KRep m σ (renC π cs) vs
  | [], _, _, hr => hr
  | .one a :: cs, vs, h, hr => by
    obtain ⟨v, r, h1, h2, h3, h4⟩ := hr
    exact ⟨v, r, h1, h2, ren_A (fun k hk => h k (by simp [refsC, hk])) h3, ren_C (fun k hk => h k (by simp [refsC, hk])) h4⟩
  | .ints k n xs :: cs, vs, h, hr => by
    obtain ⟨r, h1, h2, h3⟩ := hr
    exact ⟨r, h1, h2, ren_C (fun k hk => h k (by simp [refsC, hk])) h3⟩
theorem ren_S {x : SV} {u : Value} (h : ∀ k ∈ x.refs, σ (look π k) = ρ k) (hr : SRep m ρ x u) : SRep m σ (x.ren π) u := by
  cases x with
  | a x => exact ren_A h hr
  | agg cs => obtain ⟨vs, e, k⟩ := hr; exact ⟨vs, e, ren_C h k⟩
theorem ren_L : ∀ {l : List SV} {us : List Value}, (∀ k ∈ refsL l, σ (look π k) = ρ k) → LRep m ρ l us → LRep m σ (renL π l) us
  | [], _, _, hr => hr
  | x :: l, us, h, hr => by
    obtain ⟨u, r, h1, h2, h3⟩ := hr
    exact ⟨u, r, h1, ren_S (fun k hk => h k (by simp [refsL, hk])) h2, ren_L (fun k hk => h k (by simp [refsL, hk])) h3⟩
theorem ren_E {e : EV} {u : Value} (h : ∀ k ∈ e.refs, σ (look π k) = ρ k) (hr : ERep m ρ e u) : ERep m σ (e.ren π) u := by
  cases e with
  | s x => exact ren_S h hr
  | t l => obtain ⟨us, e, k⟩ := hr; exact ⟨us, e, ren_L h k⟩
  | dead => trivial
theorem refs_ren (x : AV) : (x.ren π).refs = x.refs.map (look π) := by
  cases x <;> simp [AV.ren, AV.refs]
theorem ren_B {b : Blk} {loc : Loc} (h : ∀ k ∈ b.refs, σ (look π k) = ρ k) (hr : BRep m ρ loc b) : BRep m σ loc (b.ren π) := by
  cases b with
  | cells cs ty => obtain ⟨vs, h1, h2⟩ := hr; exact ⟨vs, h1, ren_C h h2⟩
  | mp mt ag qs has v rf gh =>
    cases rf with
    | nil => exact BRep.same (ρ := ρ) (σ := σ) (fun k hk => by cases hk) hr
    | cons r0 rs =>
      obtain ⟨es, clock, h1, h2, h3, h4, h5, h6⟩ := hr
      refine ⟨es, clock, h1, h2, fun e he => let ⟨kk, a, b, c, d⟩ := h3 e he; ⟨kk, a, b, c, ren_A (fun k hk => h k (h6 kk k hk)) d⟩, h4, h5, fun kk k hk => ?_⟩
      rw [refs_ren] at hk
      obtain ⟨j, hj, rfl⟩ := List.mem_map.1 hk
      exact List.mem_map.2 ⟨j, h6 kk j hj, rfl⟩
  | _ => exact hr
theorem renH_get {j : Nat} {b' : Blk} : ∀ {H : Heap}, getH (renH π H) j = some b' → ∃ k b, getH H k = some b ∧ look π k = j ∧ b' = b.ren π
  | (k, b) :: r, h => by
    simp only [renH, getH] at h
    split at h
    · rename_i hk
      simp only [Option.some.injEq] at h; subst h
      exact ⟨k, b, by simp [getH], Nat.eq_of_beq_eq_true hk, rfl⟩
    · rename_i hk
      obtain ⟨k', c, h1, h2, h3⟩ := renH_get h
      refine ⟨k', c, ?_, h2, h3⟩
      have hne : k ≠ k' := fun e => by subst e; rw [h2] at hk; simp at hk
      simp only [getH, nbeq_false hne]; exact h1
end

/-! what refers to nothing that is only read -/
def AV.pure : AV → Bool
  | .d (.v _) => true
  | .d _ => false
  | .fb _ _ _ _ => false
  | _ => true
def pureC : List Chunk → Bool
  | [] => true
  | .one a :: r => a.pure && pureC r
  | .ints _ _ _ :: r => pureC r
def SV.pure : SV → Bool
  | .a x => x.pure
  | .agg cs => pureC cs
def pureL : List SV → Bool
  | [] => true
  | x :: r => x.pure && pureL r
def EV.pure : EV → Bool
  | .s x => x.pure
  | .t l => pureL l
  | .dead => true
def pureDs : List DC → Bool
  | [] => true
  | .one (.v _) :: r => pureDs r
  | .ints _ _ _ :: r => pureDs r
  | _ => false
def Blk.pure : Blk → Bool
  | .cells cs _ => pureC cs
  | .row (.ints _ _) _ => true
  | .row (.st _ _ _) _ => true
  | .mp _ _ _ _ _ _ _ => true
  | _ => false
/-- What is to be shown of that. -/
def Blk.pureP : Blk → List Prop
  | .row (.st _ n c) _ => [∀ i, i < n → pureDs (c i) = true]
  | .mp _ _ _ _ v _ _ => [∀ kk, (v kk).pure = true]
  | _ => []
def pureHP : Heap → List Prop
  | [] => []
  | (_, b) :: r => appP b.pureP (pureHP r)
def pureH : Heap → Bool
  | [] => true
  | (_, b) :: r => b.pure && pureH r
section
variable {m m' : Mem} {ρ : Nat → Loc}
theorem pure_A {x : AV} {u : Value} (h : x.pure = true) (hr : ARep m ρ x u) : ARep m' ρ x u := by
  cases x with
  | d y => cases y <;> first | exact hr | cases h
  | fb f k off ds => cases h
  | _ => exact hr
theorem pure_C : ∀ {cs : List Chunk} {vs : List Value}, pureC cs = true → KRep m ρ cs vs → KRep m' ρ cs vs
  | [], _, _, hr => hr
  | .one a :: cs, vs, h, hr => by
    simp only [pureC, Bool.and_eq_true] at h
    obtain ⟨v, r, h1, h2, h3, h4⟩ := hr
    exact ⟨v, r, h1, h2, pure_A h.1 h3, pure_C h.2 h4⟩
  | .ints k n xs :: cs, vs, h, hr => by
    obtain ⟨r, h1, h2, h3⟩ := hr
    exact ⟨r, h1, h2, pure_C h h3⟩
theorem pure_S {x : SV} {u : Value} (h : x.pure = true) (hr : SRep m ρ x u) : SRep m' ρ x u := by
  cases x with
  | a x => exact pure_A h hr
  | agg cs => obtain ⟨vs, e, k⟩ := hr; exact ⟨vs, e, pure_C h k⟩
theorem pure_L : ∀ {l : List SV} {us : List Value}, pureL l = true → LRep m ρ l us → LRep m' ρ l us
  | [], _, _, hr => hr
  | x :: l, us, h, hr => by
    simp only [pureL, Bool.and_eq_true] at h
    obtain ⟨u, r, h1, h2, h3⟩ := hr
    exact ⟨u, r, h1, pure_S h.1 h2, pure_L h.2 h3⟩
theorem pure_E {e : EV} {u : Value} (h : e.pure = true) (hr : ERep m ρ e u) : ERep m' ρ e u := by
  cases e with
  | s x => exact pure_S h hr
  | t l => obtain ⟨us, e, k⟩ := hr; exact ⟨us, e, pure_L h k⟩
  | dead => trivial
theorem pure_D : ∀ {cs : List DC} {vs : List Value}, pureDs cs = true → CRep m cs vs → CRep m' cs vs
  | [], _, _, hr => hr
  | .one (.v x) :: cs, vs, h, hr => by
    obtain ⟨v, r, h1, h2, h3, h4⟩ := hr
    exact ⟨v, r, h1, h2, h3, pure_D (by simpa [pureDs] using h) h4⟩
  | .ints k n xs :: cs, vs, h, hr => by
    obtain ⟨r, h1, h2, h3⟩ := hr
    exact ⟨r, h1, h2, pure_D (by simpa [pureDs] using h) h3⟩
  | .one (.si _ _) :: _, _, h, _ => by cases h
  | .one (.sb _) :: _, _, h, _ => by cases h
  | .one (.sl _ _ _) :: _, _, h, _ => by cases h
  | .one (.pt _) :: _, _, h, _ => by cases h
theorem pure_B {b : Blk} {loc : Loc} (hw : m'.w = m.w) (h : b.pure = true) (hq : allP b.pureP) (hr : BRep m ρ loc b) : BRep m' ρ loc b := by
  have hB : ∀ {vs ty}, Blk1 m loc vs ty → Blk1 m' loc vs ty := fun ⟨h1, h2⟩ => ⟨by rw [hw]; exact h1, h2⟩
  cases b with
  | cells cs ty => obtain ⟨vs, h1, h2⟩ := hr; exact ⟨vs, hB h1, pure_C h h2⟩
  | row c ty =>
    cases c with
    | ints k L => obtain ⟨vs, rest, h1, h2, h3⟩ := hr; exact ⟨vs, rest, h1.imp (fun ⟨a, b⟩ => ⟨hB a, b⟩) id, h2, h3⟩
    | bts Ls => cases h
    | st sz n c =>
      obtain ⟨vs, rest, h1, ⟨g1, g2, g3⟩, h3⟩ := hr
      exact ⟨vs, rest, h1.imp (fun ⟨a, b⟩ => ⟨hB a, b⟩) id, ⟨g1, g2, fun i hi => pure_D (hq.1 i hi) (g3 i hi)⟩, h3⟩
  | abs A => cases h
  | mp mt ag qs has v rf gh =>
    obtain ⟨es, clock, h1, h2, h3, h4⟩ := hr
    exact ⟨es, clock, by rw [hw]; exact h1, h2, fun e he => let ⟨kk, a, b, c, d⟩ := h3 e he; ⟨kk, a, b, c, pure_A (hq.1 kk) d⟩, h4⟩
theorem pureHP_get : ∀ {H : Heap} {k : Nat} {b : Blk}, allP (pureHP H) → getH H k = some b → allP b.pureP
  | (j, c) :: r, k, b, h, hg => by
    obtain ⟨h1, h2⟩ := allP_app h
    simp only [getH] at hg
    split at hg
    · simp only [Option.some.injEq] at hg; subst hg; exact h1
    · exact pureHP_get h2 hg
theorem pureH_get : ∀ {H : Heap} {k : Nat} {b : Blk}, pureH H = true → getH H k = some b → b.pure = true
  | (j, c) :: r, k, b, h, hg => by
    simp only [pureH, Bool.and_eq_true] at h
    simp only [getH] at hg
    split at hg
    · simp only [Option.some.injEq] at hg; subst hg; exact h.1
    · exact pureH_get h.2 hg
end

/-! own values, seen as data -/
def vwA (H : Heap) (x : AV) : Option (AV × List Nat) :=
  match x with
  | .d y => some (.d y, [])
  | .rw k | .lp k _ | .ls k _ _ _ _ | .rs k _ _ _ => match getH H k with
    | some b => match viewAV b x with
      | some d => some (.d d, [k])
      | none => none
    | none => none
  | _ => none
def vwC (H : Heap) : List Chunk → Option (List Chunk × List Nat)
  | [] => some ([], [])
  | .one a :: r => match vwA H a, vwC H r with
    | some (y, s), some (t, q) => some (.one y :: t, s ++ q)
    | _, _ => none
  | .ints k n xs :: r => match vwC H r with
    | some (t, q) => some (.ints k n xs :: t, q)
    | none => none
def vwS (H : Heap) : SV → Option (SV × List Nat)
  | .a x => match vwA H x with
    | some (y, s) => some (.a y, s)
    | none => none
  | .agg cs => match vwC H cs with
    | some (t, q) => some (.agg t, q)
    | none => none
/-- The arguments: handed over as they are, or seen as data. -/
def vwL (H : Heap) : List Bool → List SV → Option (List SV × List Nat)
  | _, [] => some ([], [])
  | true :: ms, x :: r => match vwL H ms r with
    | some (t, q) => some (x :: t, q)
    | none => none
  | false :: ms, x :: r => match vwS H x, vwL H ms r with
    | some (y, s), some (t, q) => some (y :: t, s ++ q)
    | _, _ => none
  | [], x :: r => match vwS H x, vwL H [] r with
    | some (y, s), some (t, q) => some (y :: t, s ++ q)
    | _, _ => none
section
variable {P : Program} {C : Ctx} {F F' : Nat → Prop} {ρ : Nat → Loc} {l : Env} {H : Heap} {a : Act} {w : World} {G : List (Nat × List DC)}
theorem vwA_rep (hH : HOk w F ρ H) {x y : AV} {s : List Nat} {u : Value} (h : vwA H x = some (y, s)) (hF : ∀ i, F i → F' i) (hZ : ∀ k ∈ s, ∀ i, (ρ k).Z i → F' i) (hr : ARep ⟨w, F⟩ ρ x u) : ARep ⟨w, F'⟩ ρ y u := by
  have hle : Mem.le ⟨w, F⟩ ⟨w, F'⟩ := Mem.le_of hF fun _ _ => rfl
  unfold vwA at h
  split at h
  · simp only [Option.some.injEq, Prod.mk.injEq] at h; obtain ⟨rfl, rfl⟩ := h; exact ARep.mono (m := ⟨w, F⟩) hle hr
  all_goals first
    | (split at h
       · rename_i b hb
         split at h
         · rename_i d hd
           simp only [Option.some.injEq, Prod.mk.injEq] at h; obtain ⟨rfl, rfl⟩ := h
           exact viewAV_rep hd rfl (hH.hp _ _ hb) hF (hZ _ (by simp)) hr
         · cases h
       · cases h)
    | cases h
theorem vwC_rep (hH : HOk w F ρ H) (hF : ∀ i, F i → F' i) : ∀ {x y : List Chunk} {s : List Nat} {u : List Value}, vwC H x = some (y, s) → (∀ k ∈ s, ∀ i, (ρ k).Z i → F' i) → KRep ⟨w, F⟩ ρ x u → KRep ⟨w, F'⟩ ρ y u
  | [], y, s, u, h, _, hr => by simp only [vwC, Option.some.injEq, Prod.mk.injEq] at h; obtain ⟨rfl, rfl⟩ := h; exact hr
  | .one a :: r, y, s, u, h, hZ, hr => by
    simp only [vwC] at h
    split at h
    · rename_i y' s' t q h1 h2
      simp only [Option.some.injEq, Prod.mk.injEq] at h; obtain ⟨rfl, rfl⟩ := h
      obtain ⟨v, r, e1, e2, e3, e4⟩ := hr
      exact ⟨v, r, e1, e2, vwA_rep hH h1 hF (fun k hk => hZ k (by simp [hk])) e3, vwC_rep hH hF h2 (fun k hk => hZ k (by simp [hk])) e4⟩
    · cases h
  | .ints k n xs :: r, y, s, u, h, hZ, hr => by
    simp only [vwC] at h
    split at h
    · rename_i t q h2
      simp only [Option.some.injEq, Prod.mk.injEq] at h; obtain ⟨rfl, rfl⟩ := h
      obtain ⟨r, e1, e2, e3⟩ := hr
      exact ⟨r, e1, e2, vwC_rep hH hF h2 hZ e3⟩
    · cases h
theorem vwS_rep (hH : HOk w F ρ H) (hF : ∀ i, F i → F' i) {x y : SV} {s : List Nat} {u : Value} (h : vwS H x = some (y, s)) (hZ : ∀ k ∈ s, ∀ i, (ρ k).Z i → F' i) (hr : SRep ⟨w, F⟩ ρ x u) : SRep ⟨w, F'⟩ ρ y u := by
  cases x with
  | a x =>
    simp only [vwS] at h
    split at h
    · rename_i y' s' h1
      simp only [Option.some.injEq, Prod.mk.injEq] at h; obtain ⟨rfl, rfl⟩ := h
      exact vwA_rep hH h1 hF hZ hr
    · cases h
  | agg cs =>
    simp only [vwS] at h
    split at h
    · rename_i t q h1
      simp only [Option.some.injEq, Prod.mk.injEq] at h; obtain ⟨rfl, rfl⟩ := h
      obtain ⟨vs, e, k⟩ := hr
      exact ⟨vs, e, vwC_rep hH hF h1 hZ k⟩
    · cases h
theorem vwL_rep (hH : HOk w F ρ H) (hF : ∀ i, F i → F' i) : ∀ {ms : List Bool} {x y : List SV} {s : List Nat} {u : List Value}, vwL H ms x = some (y, s) → (∀ k ∈ s, ∀ i, (ρ k).Z i → F' i) → LRep ⟨w, F⟩ ρ x u → LRep ⟨w, F'⟩ ρ y u
  | [], [], y, s, u, h, _, hr => by simp only [vwL, Option.some.injEq, Prod.mk.injEq] at h; obtain ⟨rfl, rfl⟩ := h; exact hr
  | _ :: _, [], y, s, u, h, _, hr => by simp only [vwL, Option.some.injEq, Prod.mk.injEq] at h; obtain ⟨rfl, rfl⟩ := h; exact hr
  | true :: ms, x :: r, y, s, u, h, hZ, hr => by
    obtain ⟨v, q, e1, e2, e3⟩ := hr
    simp only [vwL] at h
    split at h
    · rename_i t q' h2
      simp only [Option.some.injEq, Prod.mk.injEq] at h; obtain ⟨rfl, rfl⟩ := h
      exact ⟨v, q, e1, e2.mono (m' := ⟨w, F'⟩) (Mem.le_of (m := ⟨w, F⟩) hF fun _ _ => rfl), vwL_rep hH hF h2 hZ e3⟩
    · cases h
  | false :: ms, x :: r, y, s, u, h, hZ, hr => by
    obtain ⟨v, q, e1, e2, e3⟩ := hr
    simp only [vwL] at h
    split at h
    · rename_i y' s' t q' h1 h2
      simp only [Option.some.injEq, Prod.mk.injEq] at h; obtain ⟨rfl, rfl⟩ := h
      exact ⟨v, q, e1, vwS_rep hH hF h1 (fun k hk => hZ k (by simp [hk])) e2, vwL_rep hH hF h2 (fun k hk => hZ k (by simp [hk])) e3⟩
    · cases h
  | [], x :: r, y, s, u, h, hZ, hr => by
    obtain ⟨v, q, e1, e2, e3⟩ := hr
    simp only [vwL] at h
    split at h
    · rename_i y' s' t q' h1 h2
      simp only [Option.some.injEq, Prod.mk.injEq] at h; obtain ⟨rfl, rfl⟩ := h
      exact ⟨v, q, e1, vwS_rep hH hF h1 (fun k hk => hZ k (by simp [hk])) e2, vwL_rep hH hF h2 (fun k hk => hZ k (by simp [hk])) e3⟩
    · cases h
end
end Go.Dx
