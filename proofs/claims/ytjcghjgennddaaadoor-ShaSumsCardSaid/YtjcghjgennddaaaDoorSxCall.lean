/- Calls that are handed blocks of the caller's own, and may change them, make new ones, hand back pointers to these. -/
import Derived.Test.YtjcghjgennddaaaDoorSxRow
namespace Go.Sx
open Go.RowKit
set_option linter.unusedVariables false
set_option linter.unusedSimpArgs false

/-! names of blocks, renamed -/

def look : List (Nat × Nat) → Nat → Nat
  | [], k => k
  | (i, j) :: r, k => match Nat.beq i k with
    | true => j
    | false => look r k

def AV.ren (π : List (Nat × Nat)) : AV → AV
  | .v x => .v x
  | .lp k off => .lp (look π k) off
  | .ls k off len cap => .ls (look π k) off len cap
  | .fn f caps => .fn f (caps.map fun p => (look π p.1, p.2))

def renC (π : List (Nat × Nat)) : List Chunk → List Chunk
  | [] => []
  | .one a :: r => .one (a.ren π) :: renC π r
  | .ints k n xs :: r => .ints k n xs :: renC π r
  | .vals vs :: r => .vals vs :: renC π r

def SV.ren (π : List (Nat × Nat)) : SV → SV
  | .a x => .a (x.ren π)
  | .agg cs => .agg (renC π cs)

def EV.ren (π : List (Nat × Nat)) : EV → EV
  | .s x => .s (x.ren π)
  | .t l => .t (l.map (SV.ren π))

def renH (π : List (Nat × Nat)) : Heap → Heap
  | [] => []
  | (k, b) :: r => (look π k, ⟨renC π b.cs, b.ty⟩) :: renH π r

def memB (k : Nat) : List (Nat × Nat) → Bool
  | [] => false
  | (i, _) :: r => Nat.beq i k || memB k r
def memV (k : Nat) : List (Nat × Nat) → Bool
  | [] => false
  | (_, j) :: r => Nat.beq j k || memV k r

def AV.among (π : List (Nat × Nat)) : AV → Bool
  | .v _ => true
  | .lp k _ => memB k π
  | .ls k _ _ _ => memB k π
  | .fn _ caps => caps.all fun p => memB p.1 π

def amongC (π : List (Nat × Nat)) : List Chunk → Bool
  | [] => true
  | .one a :: r => a.among π && amongC π r
  | .ints _ _ _ :: r => amongC π r
  | .vals _ :: r => amongC π r

def SV.among (π : List (Nat × Nat)) : SV → Bool
  | .a x => x.among π
  | .agg cs => amongC π cs

def EV.among (π : List (Nat × Nat)) : EV → Bool
  | .s x => x.among π
  | .t l => l.all (SV.among π)

def amongH (π : List (Nat × Nat)) : Heap → Bool
  | [] => true
  | (k, b) :: r => memB k π && amongC π b.cs && amongH π r

/-- Keys and values are all different. -/
def sepB : List (Nat × Nat) → Bool
  | [] => true
  | (k, j) :: r => !(memB k r) && !(memV j r) && sepB r

section
variable {π : List (Nat × Nat)} {ρ σ : Nat → Nat}

theorem memB_of {k j : Nat} : ∀ {π : List (Nat × Nat)}, (k, j) ∈ π → memB k π = true
  | (i, v) :: r, h => by
    cases h with
    | head => simp [memB]
    | tail _ h => simp [memB, memB_of h]
theorem memV_of {k j : Nat} : ∀ {π : List (Nat × Nat)}, (k, j) ∈ π → memV j π = true
  | (i, v) :: r, h => by
    cases h with
    | head => simp [memV]
    | tail _ h => simp [memV, memV_of h]
theorem memB_ex {k : Nat} : ∀ {π : List (Nat × Nat)}, memB k π = true → ∃ j, (k, j) ∈ π
  | [], h => by simp [memB] at h
  | (i, v) :: r, h => by
    simp only [memB, Bool.or_eq_true] at h
    rcases h with h | h
    · have := Nat.eq_of_beq_eq_true h; subst this; exact ⟨v, .head _⟩
    · obtain ⟨j, hj⟩ := memB_ex h; exact ⟨j, .tail _ hj⟩

theorem look_mem {k j : Nat} : ∀ {π : List (Nat × Nat)}, sepB π = true → (k, j) ∈ π → look π k = j
  | (i, v) :: r, hs, h => by
    simp only [sepB, Bool.and_eq_true, Bool.not_eq_true'] at hs
    cases h with
    | head => simp [look]
    | tail _ h =>
      have : Nat.beq i k = false := by
        refine nbeq_false fun e => ?_
        subst e
        rw [memB_of h] at hs
        exact absurd hs.1.1 (by simp)
      simp only [look, this]
      exact look_mem hs.2 h

theorem AV.conc_ren {x : AV} (h : x.among π = true) (hk : ∀ k j, (k, j) ∈ π → ρ (look π k) = σ k) : (x.ren π).conc ρ = x.conc σ := by
  have hm : ∀ {k}, memB k π = true → ρ (look π k) = σ k := fun h => by obtain ⟨j, hj⟩ := memB_ex h; exact hk _ j hj
  cases x with
  | v x => rfl
  | lp k off => simp only [AV.among] at h; simp only [AV.ren, AV.conc, hm h]
  | ls k off len cap => simp only [AV.among] at h; simp only [AV.ren, AV.conc, hm h]
  | fn f caps =>
    simp only [AV.among, List.all_eq_true] at h
    simp only [AV.ren, AV.conc, List.map_map, Value.func.injEq, true_and]
    congr 1
    apply List.map_congr_left
    intro p hp
    simp only [Function.comp, hm (h p hp)]

theorem flat_ren (hk : ∀ k j, (k, j) ∈ π → ρ (look π k) = σ k) : ∀ {cs : List Chunk}, amongC π cs = true → flat ρ (renC π cs) = flat σ cs
  | [], _ => rfl
  | .one a :: r, h => by
    simp only [amongC, Bool.and_eq_true] at h
    simp only [renC, flat, AV.conc_ren h.1 hk, flat_ren hk h.2]
  | .ints k n xs :: r, h => by
    simp only [amongC] at h
    simp only [renC, flat, flat_ren hk h]
  | .vals vs :: r, h => by
    simp only [amongC] at h
    simp only [renC, flat, flat_ren hk h]

theorem SV.conc_ren (hk : ∀ k j, (k, j) ∈ π → ρ (look π k) = σ k) {x : SV} (h : x.among π = true) : (x.ren π).conc ρ = x.conc σ := by
  cases x with
  | a x => exact AV.conc_ren h hk
  | agg cs => simp only [SV.ren, SV.conc, flat_ren hk h]

theorem EV.conc_ren (hk : ∀ k j, (k, j) ∈ π → ρ (look π k) = σ k) {x : EV} (h : x.among π = true) : (x.ren π).conc ρ = x.conc σ := by
  cases x with
  | s x => exact SV.conc_ren hk h
  | t l =>
    simp only [EV.among, List.all_eq_true] at h
    simp only [EV.ren, EV.conc, List.map_map]
    congr 2
    apply List.map_congr_left
    intro p hp
    exact SV.conc_ren hk (h p hp)

theorem okCs_ren : ∀ {cs : List Chunk}, okCs cs → okCs (renC π cs)
  | [], _ => fun c h => by cases h
  | .one a :: r, h => fun c hc => by
    cases hc with
    | head => trivial
    | tail _ hc => exact okCs_ren (fun c hc => h c (.tail _ hc)) c hc
  | .ints k n xs :: r, h => fun c hc => by
    cases hc with
    | head => exact h (.ints k n xs) (.head _)
    | tail _ hc => exact okCs_ren (fun c hc => h c (.tail _ hc)) c hc
  | .vals vs :: r, h => fun c hc => by
    cases hc with
    | head => trivial
    | tail _ hc => exact okCs_ren (fun c hc => h c (.tail _ hc)) c hc

theorem SV.ok_ren {x : SV} (h : x.ok) : (x.ren π).ok := by
  cases x with
  | a x => trivial
  | agg cs => exact okCs_ren h
theorem EV.ok_ren {x : EV} (h : x.ok) : (x.ren π).ok := by
  cases x with
  | s x => exact SV.ok_ren h
  | t l =>
    intro y hy
    obtain ⟨z, hz, rfl⟩ := List.mem_map.1 hy
    exact SV.ok_ren (h z hz)

theorem getH_ren {j : Nat} {b' : Blk} : ∀ {H : Heap}, getH (renH π H) j = some b' → ∃ k b, getH H k = some b ∧ look π k = j ∧ b' = ⟨renC π b.cs, b.ty⟩
  | [], h => by simp [renH, getH] at h
  | (k0, b0) :: r, h => by
    simp only [renH, getH] at h
    split at h
    · rename_i hb
      simp only [Option.some.injEq] at h
      exact ⟨k0, b0, by simp [getH], Nat.eq_of_beq_eq_true hb, h.symm⟩
    · rename_i hb
      obtain ⟨k, b, h1, h2, h3⟩ := getH_ren h
      refine ⟨k, b, ?_, h2, h3⟩
      have : Nat.beq k0 k = false := nbeq_false fun e => by
        subst e; rw [h2] at hb; simp at hb
      simp [getH, this, h1]

theorem getH_app {A B : Heap} {j : Nat} {b : Blk} : getH (A ++ B) j = some b → getH A j = some b ∨ getH B j = some b := by
  induction A with
  | nil => exact .inr
  | cons p r ih =>
    obtain ⟨k, v⟩ := p
    simp only [List.cons_append, getH]
    split
    · exact .inl
    · exact ih

theorem amongH_get {k : Nat} {b : Blk} : ∀ {H : Heap}, amongH π H = true → getH H k = some b → memB k π = true ∧ amongC π b.cs = true
  | [], _, h => by simp [getH] at h
  | (j, v) :: r, hn, h => by
    simp only [amongH, Bool.and_eq_true] at hn
    simp only [getH] at h
    split at h
    · rename_i hj
      have : j = k := Nat.eq_of_beq_eq_true hj
      subst this
      simp only [Option.some.injEq] at h; subst h
      exact hn.1
    · exact amongH_get hn.2 h

/-- New names, each with the index that the callee's has. -/
def updL (ρ σ : Nat → Nat) : List (Nat × Nat) → Nat → Nat
  | [] => ρ
  | (k, j) :: r => upd (updL ρ σ r) j (σ k)

theorem updL_miss {j : Nat} : ∀ {ns : List (Nat × Nat)}, memV j ns = false → updL ρ σ ns j = ρ j
  | [], _ => rfl
  | (k, i) :: r, h => by
    simp only [memV, Bool.or_eq_false_iff] at h
    have : ¬ j = i := fun e => by subst e; simp at h
    simp only [updL, upd, if_neg this]
    exact updL_miss h.2

theorem updL_hit {k j : Nat} : ∀ {ns : List (Nat × Nat)}, sepB ns = true → (k, j) ∈ ns → updL ρ σ ns j = σ k
  | (i, v) :: r, hs, h => by
    simp only [sepB, Bool.and_eq_true, Bool.not_eq_true'] at hs
    cases h with
    | head => simp [updL, upd]
    | tail _ h =>
      have : ¬ j = v := fun e => by
        subst e
        rw [memV_of h] at hs
        exact absurd hs.1.2 (by simp)
      simp only [updL, upd, if_neg this]
      exact updL_hit hs.2 h

theorem EV.conc_updL {x : EV} : ∀ {ns : List (Nat × Nat)}, (∀ k j, (k, j) ∈ ns → x.noRef j = true) → x.conc (updL ρ σ ns) = x.conc ρ
  | [], _ => rfl
  | (k, j) :: r, h => by
    simp only [updL]
    rw [EV.conc_upd (h k j (.head _)), EV.conc_updL (fun k j hk => h k j (.tail _ hk))]

theorem flat_updL {cs : List Chunk} : ∀ {ns : List (Nat × Nat)}, (∀ k j, (k, j) ∈ ns → noRefC j cs = true) → flat (updL ρ σ ns) cs = flat ρ cs
  | [], _ => rfl
  | (k, j) :: r, h => by
    simp only [updL]
    rw [flat_upd (h k j (.head _)), flat_updL (fun k j hk => h k j (.tail _ hk))]

theorem sepB_left : ∀ {A B : List (Nat × Nat)}, sepB (A ++ B) = true → sepB A = true
  | [], _, _ => rfl
  | (k, j) :: r, B, h => by
    have mb : ∀ {k : Nat} {A B : List (Nat × Nat)}, memB k A = true → memB k (A ++ B) = true := fun h => by
      obtain ⟨j, hj⟩ := memB_ex h; exact memB_of (List.mem_append_left _ hj)
    have mv : ∀ {k : Nat} {A B : List (Nat × Nat)}, memV k A = true → memV k (A ++ B) = true := by
      intro k A B h
      induction A with
      | nil => simp [memV] at h
      | cons p r ih =>
        simp only [List.cons_append, memV, Bool.or_eq_true] at h ⊢
        exact h.imp id ih
    simp only [List.cons_append, sepB, Bool.and_eq_true, Bool.not_eq_true'] at h ⊢
    refine ⟨⟨?_, ?_⟩, sepB_left h.2⟩
    · cases hb : memB k r
      · rfl
      · rw [mb hb] at h; exact absurd h.1.1 (by simp)
    · cases hb : memV j r
      · rfl
      · rw [mv hb] at h; exact absurd h.1.2 (by simp)

theorem sepB_cross {k j k' j' : Nat} : ∀ {A B : List (Nat × Nat)}, sepB (A ++ B) = true → (k, j) ∈ A → (k', j') ∈ B → j ≠ j'
  | (i, v) :: r, B, h, h1, h2 => by
    simp only [List.cons_append, sepB, Bool.and_eq_true, Bool.not_eq_true'] at h
    cases h1 with
    | head =>
      intro e; subst e
      rw [memV_of (List.mem_append_right r h2)] at h
      exact absurd h.1.2 (by simp)
    | tail _ h1 => exact sepB_cross h.2 h1 h2

theorem sepB_inj {k k' j : Nat} : ∀ {A : List (Nat × Nat)}, sepB A = true → (k, j) ∈ A → (k', j) ∈ A → k = k'
  | (i, v) :: r, h, h1, h2 => by
    simp only [sepB, Bool.and_eq_true, Bool.not_eq_true'] at h
    cases h1 with
    | head =>
      cases h2 with
      | head => rfl
      | tail _ h2 => rw [memV_of h2] at h; exact absurd h.1.2 (by simp)
    | tail _ h1 =>
      cases h2 with
      | head => rw [memV_of h1] at h; exact absurd h.1.2 (by simp)
      | tail _ h2 => exact sepB_inj h.2 h1 h2
end

/-! what such a call does -/

/-- The blocks that are handed over, as they lie. -/
structure HeapAt (ρ : Nat → Nat) (Hc : Heap) (w : World) : Prop where
  hp : ∀ k b, getH Hc k = some b → w.heap[ρ k]? = some (.cells (flat ρ b.cs).toArray b.ty (0, 0)) ∧ okCs b.cs
  inj : ∀ k k' b b', getH Hc k = some b → getH Hc k' = some b' → ρ k = ρ k' → k = k'

/-- What a call has done: of what there was it has changed the blocks in Hc alone; behind it the blocks in Hx lie as told, under σ's names. -/
structure Ran (ρ : Nat → Nat) (Hc Hx : Heap) (w w' : World) (σ : Nat → Nat) : Prop where
  keep : Keep w.heap.size (fun i => ∃ k b, getH Hc k = some b ∧ ρ k = i) w w'
  hp : ∀ k b, getH Hx k = some b → w'.heap[σ k]? = some (.cells (flat σ b.cs).toArray b.ty (0, 0)) ∧ okCs b.cs ∧ (w.heap.size ≤ σ k ∨ ∃ k' b', getH Hc k' = some b' ∧ ρ k' = σ k)
  inj : ∀ k k' b b', getH Hx k = some b → getH Hx k' = some b' → σ k = σ k' → k = k'
  pin : ∀ k, 100000 ≤ k → σ k = ρ k

theorem Fin.ran {C : Ctx} {σ : Nat → Nat} {H Hc : Heap} {w' : World} (h : Fin C σ H w') (hN : Nat.ble C.N 100000 = true) (hS : C.S = fun i => ∃ k b, getH Hc k = some b ∧ C.r k = i) : Ran C.r Hc H C.w0 w' σ where
  keep := by rw [← hS]; exact h.keep
  hp k b hb := by
    obtain ⟨h1, h2, h3⟩ := h.hp k b hb
    refine ⟨h1, h.ok k b hb, h3.imp id fun h => ?_⟩
    rw [hS] at h
    exact h
  inj := h.inj
  pin k hk := h.pin k (Nat.le_trans (Nat.le_of_ble_eq_true hN) hk)

/-- The handed blocks, as the caller has them. -/
def Handed (H : Heap) (π : List (Nat × Nat)) : Heap → Prop
  | [] => True
  | (k, b) :: r => (memB k π = true ∧ amongC π b.cs = true ∧ getH H (look π k) = some ⟨renC π b.cs, b.ty⟩) ∧ Handed H π r

theorem Handed.get {H : Heap} {π : List (Nat × Nat)} {k : Nat} {b : Blk} : ∀ {Hc : Heap}, Handed H π Hc → getH Hc k = some b → memB k π = true ∧ amongC π b.cs = true ∧ getH H (look π k) = some ⟨renC π b.cs, b.ty⟩
  | [], _, h => by simp [getH] at h
  | (j, v) :: r, hn, h => by
    simp only [getH] at h
    split at h
    · rename_i hj
      have : j = k := Nat.eq_of_beq_eq_true hj
      subst this
      simp only [Option.some.injEq] at h; subst h
      exact hn.1
    · exact Handed.get hn.2 h

/-- The checks on names. -/
def callOk (N : Nat) (l : Env) (H : Heap) (π ns : List (Nat × Nat)) (ks : List Nat) : Bool :=
  ns.all (fun p => noRefE p.2 l && noRefH p.2 H && Nat.blt p.2 N && Nat.blt p.1 100000) && π.all (fun p => Nat.ble 100000 p.1) && sepB (ns ++ π) && ks.all (fun k => !(memV k (ns ++ π)))

section
variable {P : Program} {C : Ctx} {ρ : Nat → Nat} {l : Env} {H : Heap} {a : Act} {w : World} {Q : Exit → Act → World → Prop}

theorem getH_restH {H : Heap} {k : Nat} {b : Blk} : ∀ {ks : List Nat}, getH (restH H ks) k = some b → k ∈ ks
  | [], h => by simp [restH, getH] at h
  | t :: ts, h => by
    simp only [restH] at h
    split at h
    · simp only [getH] at h
      split at h
      · rename_i ht; rw [← Nat.eq_of_beq_eq_true ht]; exact .head _
      · exact .tail _ (getH_restH h)
    · exact .tail _ (getH_restH h)

theorem St.called (hs : St C ρ l H a w) {π ns : List (Nat × Nat)} {ks : List Nat} {Hc Hx : Heap} {w' : World} {σ : Nat → Nat} (hc : callOk C.N l H π ns ks = true) (hH : Handed H π Hc) (hx : amongH (ns ++ π) Hx = true)
    (hr : Ran (fun k => ρ (look π k)) Hc Hx w w' σ) :
    ∃ ρ', Agr H ρ ρ' ∧ St C ρ' l (renH (ns ++ π) Hx ++ restH H ks) a w' ∧ (∀ k j, (k, j) ∈ ns ++ π → ρ' (look (ns ++ π) k) = σ k) := by
  simp only [callOk, Bool.and_eq_true, List.all_eq_true] at hc
  obtain ⟨⟨⟨c1, c2⟩, c3⟩, c4⟩ := hc
  have c1' : ∀ k j, (k, j) ∈ ns → noRefE j l = true ∧ noRefH j H = true ∧ j < C.N ∧ k < 100000 := fun k j h => by
    obtain ⟨⟨⟨q1, q2⟩, q3⟩, q4⟩ := c1 (k, j) h
    exact ⟨q1, q2, Nat.le_of_ble_eq_true q3, Nat.le_of_ble_eq_true q4⟩
  have hk : ∀ k j, (k, j) ∈ ns ++ π → updL ρ σ ns (look (ns ++ π) k) = σ k := fun k j hkj => by
    rw [look_mem c3 hkj]
    rcases List.mem_append.1 hkj with h | h
    · exact updL_hit (sepB_left c3) h
    · have hm : memV j ns = false := by
        cases hb : memV j ns
        · rfl
        · exfalso
          have : ∀ {L : List (Nat × Nat)}, memV j L = true → ∃ i, (i, j) ∈ L := by
            intro L hL
            induction L with
            | nil => simp [memV] at hL
            | cons p r ih =>
              obtain ⟨x, y⟩ := p
              simp only [memV, Bool.or_eq_true] at hL
              rcases hL with hL | hL
              · have := Nat.eq_of_beq_eq_true hL; subst this; exact ⟨x, .head _⟩
              · obtain ⟨i, hi⟩ := ih hL; exact ⟨i, .tail _ hi⟩
          obtain ⟨i, hi⟩ := this hb
          exact sepB_cross c3 hi h rfl
      rw [updL_miss hm, hr.pin k (Nat.le_of_ble_eq_true (c2 (k, j) h))]
      have sr : sepB π = true := by
        have : ∀ {A : List (Nat × Nat)}, sepB (A ++ π) = true → sepB π = true := by
          intro A hA
          induction A with
          | nil => exact hA
          | cons p r ih =>
            simp only [List.cons_append, sepB, Bool.and_eq_true] at hA
            exact ih hA.2
        exact this c3
      rw [look_mem sr h]
  have old : ∀ k b, getH H k = some b → updL ρ σ ns k = ρ k ∧ flat (updL ρ σ ns) b.cs = flat ρ b.cs := fun k b hb => by
    refine ⟨?_, flat_updL fun i j h => (noRefH_get (c1' i j h).2.1 hb).2⟩
    have : ∀ {L : List (Nat × Nat)}, (∀ i j, (i, j) ∈ L → k ≠ j) → memV k L = false := by
      intro L hL
      induction L with
      | nil => rfl
      | cons p r ih =>
        obtain ⟨x, y⟩ := p
        simp only [memV, Bool.or_eq_false_iff]
        exact ⟨nbeq_false fun e => hL x y (.head _) e.symm, ih fun i j h => hL i j (.tail _ h)⟩
    exact updL_miss (this fun i j h => Ne.symm (Ne.symm (noRefH_get (c1' i j h).2.1 hb).1))
  -- the renamed ones
  have newb : ∀ j b, getH (renH (ns ++ π) Hx) j = some b → ∃ k bx, getH Hx k = some bx ∧ look (ns ++ π) k = j ∧ b = ⟨renC (ns ++ π) bx.cs, bx.ty⟩ ∧ updL ρ σ ns j = σ k ∧ (k, j) ∈ ns ++ π := fun j b hb => by
    obtain ⟨k, bx, e1, e2, e3⟩ := getH_ren hb
    obtain ⟨j', hj'⟩ := memB_ex (amongH_get hx e1).1
    refine ⟨k, bx, e1, e2, e3, by rw [← e2]; exact hk k j' hj', ?_⟩
    rw [← e2, look_mem c3 hj']; exact hj'
  -- where a renamed one lies
  have lies : ∀ k bx, getH Hx k = some bx → w.heap.size ≤ σ k ∨ ∃ j b, getH H j = some b ∧ ρ j = σ k ∧ memV j (ns ++ π) = true := fun k bx hb => by
    rcases (hr.hp k bx hb).2.2 with h | ⟨k', b', h1, h2⟩
    · exact .inl h
    · obtain ⟨g1, g2, g3⟩ := hH.get h1
      obtain ⟨j', hj'⟩ := memB_ex g1
      refine .inr ⟨_, _, g3, h2, ?_⟩
      have sr : sepB π = true := by
        have : ∀ {A : List (Nat × Nat)}, sepB (A ++ π) = true → sepB π = true := by
          intro A hA
          induction A with
          | nil => exact hA
          | cons p r ih =>
            simp only [List.cons_append, sepB, Bool.and_eq_true] at hA
            exact ih hA.2
        exact this c3
      rw [look_mem sr hj']
      exact memV_of (List.mem_append_right _ hj')
  have restb : ∀ j b, getH (restH H ks) j = some b → getH H j = some b ∧ memV j (ns ++ π) = false := fun j b hb => by
    refine ⟨restH_get hb, ?_⟩
    have := c4 j (getH_restH hb)
    simpa using this
  have notS : ∀ j b, getH H j = some b → memV j (ns ++ π) = false → ¬ ∃ k b, getH Hc k = some b ∧ ρ (look π k) = ρ j := fun j b hb hm ⟨k, b', h1, h2⟩ => by
    obtain ⟨g1, g2, g3⟩ := hH.get h1
    have := hs.inj _ _ _ _ g3 hb h2
    obtain ⟨j', hj'⟩ := memB_ex g1
    have sr : sepB π = true := by
      have : ∀ {A : List (Nat × Nat)}, sepB (A ++ π) = true → sepB π = true := by
        intro A hA
        induction A with
        | nil => exact hA
        | cons p r ih =>
          simp only [List.cons_append, sepB, Bool.and_eq_true] at hA
          exact ih hA.2
      exact this c3
    rw [look_mem sr hj'] at this
    subst this
    rw [memV_of (List.mem_append_right _ hj')] at hm
    cases hm
  refine ⟨updL ρ σ ns, old, ?_, hk⟩
  exact
    { env := fun t v hv => by
        obtain ⟨e1, e2⟩ := hs.env t v hv
        refine ⟨?_, e2⟩
        rw [e1, EV.conc_updL fun i j h => noRefE_get (c1' i j h).1 hv]
      hp := fun j b hb => by
        rcases getH_app hb with hb | hb
        · obtain ⟨k, bx, e1, e2, rfl, e4, e5⟩ := newb j b hb
          obtain ⟨g1, g2, g3⟩ := hr.hp k bx e1
          refine ⟨?_, okCs_ren g2⟩
          rw [e4, g1, flat_ren hk (amongH_get hx e1).2]
        · obtain ⟨h1, h2⟩ := restb j b hb
          obtain ⟨g1, g2⟩ := hs.hp j b h1
          obtain ⟨o1, o2⟩ := old j b h1
          refine ⟨?_, g2⟩
          rw [o1, o2, hr.keep.block _ (hs.lt h1) (notS j b h1 h2)]
          exact g1
      ag := fun i hi => by
        obtain ⟨g1, g2⟩ := hs.ag i hi
        refine ⟨Nat.lt_of_lt_of_le g1 hr.keep.size, ?_⟩
        rw [hr.keep.block i g1 ?_]
        · exact g2
        · rintro ⟨k, b, h1, rfl⟩
          exact (hs.own _ _ (hH.get h1).2.2).1 hi
      defers := hs.defers
      size := hs.size
      own := fun j b hb => by
        rcases getH_app hb with hb | hb
        · obtain ⟨k, bx, e1, e2, rfl, e4, e5⟩ := newb j b hb
          rw [e4]
          rcases lies k bx e1 with h | ⟨j', b', h1, h2, _⟩
          · exact ⟨fun hX => absurd (hs.ag _ hX).1 (by omega), .inl (Nat.le_trans hs.keep.size h)⟩
          · rw [← h2]; exact hs.own j' b' h1
        · obtain ⟨h1, h2⟩ := restb j b hb
          rw [(old j b h1).1]
          exact hs.own j b h1
      inj := fun j j' b b' hb hb' he => by
        rcases getH_app hb with hb | hb <;> rcases getH_app hb' with hb' | hb'
        · obtain ⟨k, bx, e1, e2, rfl, e4, e5⟩ := newb j b hb
          obtain ⟨k', bx', e1', e2', rfl, e4', e5'⟩ := newb j' b' hb'
          rw [e4, e4'] at he
          have := hr.inj k k' bx bx' e1 e1' he
          rw [← e2, ← e2', this]
        · obtain ⟨k, bx, e1, e2, rfl, e4, e5⟩ := newb j b hb
          obtain ⟨h1, h2⟩ := restb j' b' hb'
          rw [e4, (old j' b' h1).1] at he
          exfalso
          rcases lies k bx e1 with h | ⟨i, bi, h3, h4, h5⟩
          · have := hs.lt h1; omega
          · rw [← h4] at he
            have := hs.inj _ _ _ _ h3 h1 he
            subst this
            rw [h5] at h2; cases h2
        · obtain ⟨k, bx, e1, e2, rfl, e4, e5⟩ := newb j' b' hb'
          obtain ⟨h1, h2⟩ := restb j b hb
          rw [e4, (old j b h1).1] at he
          exfalso
          rcases lies k bx e1 with h | ⟨i, bi, h3, h4, h5⟩
          · have := hs.lt h1; omega
          · rw [← h4] at he
            have := hs.inj _ _ _ _ h3 h1 he.symm
            subst this
            rw [h5] at h2; cases h2
        · obtain ⟨h1, h2⟩ := restb j b hb
          obtain ⟨h1', h2'⟩ := restb j' b' hb'
          rw [(old j b h1).1, (old j' b' h1').1] at he
          exact hs.inj j j' b b' h1 h1' he
      keep := hs.keep.trans ⟨hr.keep.os, hr.keep.tape, hr.keep.output, hr.keep.size, fun i hi hS => hr.keep.block i (Nat.lt_of_lt_of_le hi hs.keep.size) (by
        rintro ⟨k, b, h1, rfl⟩
        rcases (hs.own _ _ (hH.get h1).2.2).2 with h | h
        · omega
        · exact hS h)⟩
      pin := fun k hk => by
        rw [updL_miss ?_]
        · exact hs.pin k hk
        · cases hb : memV k ns
          · rfl
          · exfalso
            have : ∀ {L : List (Nat × Nat)}, memV k L = true → ∃ i, (i, k) ∈ L := by
              intro L hL
              induction L with
              | nil => simp [memV] at hL
              | cons p r ih =>
                obtain ⟨x, y⟩ := p
                simp only [memV, Bool.or_eq_true] at hL
                rcases hL with hL | hL
                · have := Nat.eq_of_beq_eq_true hL; subst this; exact ⟨x, .head _⟩
                · obtain ⟨i, hi⟩ := ih hL; exact ⟨i, .tail _ hi⟩
            obtain ⟨i, hi⟩ := this hb
            have := (c1' i k hi).2.2.1
            omega }

theorem At.heap (hs : At C ρ H w) {π : List (Nat × Nat)} {Hc : Heap} (hp : sepB π = true) (hH : Handed H π Hc) : HeapAt (fun k => ρ (look π k)) Hc w where
  hp k b hb := by
    obtain ⟨g1, g2, g3⟩ := hH.get hb
    have h1 := hs.hp _ _ g3
    have h2 := hs.ok _ _ g3
    refine ⟨?_, ?_⟩
    · have e : flat ρ (renC π b.cs) = flat (fun k => ρ (look π k)) b.cs := flat_ren (fun _ _ _ => rfl) g2
      rw [← e]; exact h1
    · have : ∀ {cs : List Chunk}, okCs (renC π cs) → okCs cs := by
        intro cs
        induction cs with
        | nil => exact fun _ c h => by cases h
        | cons c r ih =>
          intro h
          cases c with
          | one x => exact okc_one (ih fun c hc => h c (by simp only [renC]; exact .tail _ hc))
          | vals vs => exact okc_vals (ih fun c hc => h c (by simp only [renC]; exact .tail _ hc))
          | ints kk n xs => exact okc_ints (h (.ints kk n xs) (by simp only [renC]; exact .head _)) (ih fun c hc => h c (by simp only [renC]; exact .tail _ hc))
      exact this h2
  inj k k' b b' hb hb' he := by
    obtain ⟨g1, g2, g3⟩ := hH.get hb
    obtain ⟨g1', g2', g3'⟩ := hH.get hb'
    have := hs.inj _ _ _ _ g3 g3' he
    obtain ⟨j, hj⟩ := memB_ex g1
    obtain ⟨j', hj'⟩ := memB_ex g1'
    rw [look_mem hp hj, look_mem hp hj'] at this
    subst this
    exact sepB_inj hp hj hj'

theorem HeapAt.of (hs : St C ρ l H a w) {π : List (Nat × Nat)} {Hc : Heap} (hp : sepB π = true) (hH : Handed H π Hc) : HeapAt (fun k => ρ (look π k)) Hc w := hs.at.heap hp hH

/-- A call that is handed blocks of the caller's own. -/
theorem ox_callm {o : Oper} {c : Call} {f : FuncId} {fn : Func} {τ : Type} {φ : τ → Prop} (vs : List SV) (Hc : Heap) (π ns : List (Nat × Nat)) (ks : List Nat) (e : τ → EV) (Hx : τ → Heap)
    (hop : o.op = .call c) (hd : dstOk C.N o.dst = true)
    (hc : c.callee = .value (.func f)) (hf : P.funcs[f]? = some fn) (hn : (fn.name == "runtime.NumGoroutine") = false) (hb : fn.body.isNone = false) (hvs : evs l c.args.toList = some (vs.map (SV.ren π))) (hva : vs.all (SV.among π) = true)
    (hok : callOk C.N l H π ns ks = true) (hp : sepB π = true) (hH : Handed H π Hc) (hx : ∀ x, amongH (ns ++ π) (Hx x) = true) (hex : ∀ x, (e x).among (ns ++ π) = true) (heo : ∀ x, φ x → (e x).ok)
    (hcall : ∀ ρ w, At C ρ H w → HeapAt (fun k => ρ (look π k)) Hc w → Calls P f (vs.map (SV.conc (fun k => ρ (look π k)))).toArray w fun r w' => ∃ x σ, φ x ∧ r = .returned ((e x).conc σ) ∧ Ran (fun k => ρ (look π k)) Hc (Hx x) w w' σ) :
    OX P Q C o l H φ (fun _ => C) (fun x => putO l o.dst ((e x).ren (ns ++ π))) (fun x => renH (ns ++ π) (Hx x) ++ restH H ks) := by
  intro ρ a w hs K hK
  obtain ⟨dst, op, type, pos, after, guard⟩ := o
  simp only at hop
  subst hop
  have ha : c.args.map a.eval = (vs.map (SV.conc (fun k => ρ (look π k)))).toArray := by
    apply Array.ext'
    have := (evs_conc hs.toSv hvs).1
    simp only [Array.toList_map]
    rw [this, List.map_map]
    apply List.map_congr_left
    intro x hx
    exact SV.conc_ren (fun _ _ _ => rfl) (List.all_eq_true.1 hva x hx)
  simp only [Oper.wp, call_run hf hn hb hc ha w, Oper.upon]
  refine (hcall ρ w hs.at (HeapAt.of hs hp hH)).mono ?_
  rintro r w' ⟨x, σ, hφ, rfl, hran⟩
  obtain ⟨ρ', h1, h2, h3⟩ := hs.called hok hH (hx x) hran
  have e1 : (e x).conc σ = ((e x).ren (ns ++ π)).conc ρ' := (EV.conc_ren h3 (hex x)).symm
  rw [e1]
  exact hK x ρ' _ w' hφ (CExt.refl C) h1 (h2.putO hd (EV.ok_ren (heo x hφ)))
end
end Go.Sx
