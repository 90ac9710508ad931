/- Data that is only read, and what a call owns: how values, slots and blocks are told. Nothing of the program is named here. -/
import Derived.WalkKit
import Derived.Orders
import Derived.OrdersHeld
import Derived.Laws.Tables
import Derived.Laws.Rows
import Derived.Deep.MidRow
import Derived.Below
namespace Go.Dx
open Go.RowKit
set_option linter.unusedVariables false
set_option linter.unusedSimpArgs false

/-! data: one cell of it, and rows of cells -/
mutual
inductive D where
  | v (x : Value)
  | si (k : IntKind) (L : List Int)
  | sb (Ls : List (List Int))
  | sl (sz n : Nat) (c : Nat → List DC)
  | pt (cs : List DC)
inductive DC where
  | one (d : D)
  | ints (k : IntKind) (n : Nat) (xs : List Int)
end
structure Mem where
  w : World
  F : Nat → Prop
/-- A block that is only read, and its cells. -/
def Mem.fz (m : Mem) (b : Nat) (cells : List Value) : Prop := m.F b ∧ ∃ ty fr, m.w.heap[b]? = some (.cells cells.toArray ty fr)
def Mem.le (m m' : Mem) : Prop := ∀ b cells, m.fz b cells → m'.fz b cells
theorem Mem.le_refl (m : Mem) : m.le m := fun _ _ h => h
theorem Mem.le_trans {a b c : Mem} (h : a.le b) (k : b.le c) : a.le c := fun x y z => k x y (h x y z)
theorem Mem.le_of {m m' : Mem} (hF : ∀ i, m.F i → m'.F i) (hw : ∀ i, m.F i → m'.w.heap[i]? = m.w.heap[i]?) : m.le m' :=
  fun b cells ⟨h, ty, fr, e⟩ => ⟨hF b h, ty, fr, by rw [hw b h]; exact e⟩
def szD : List DC → Nat
  | [] => 0
  | .one _ :: r => szD r + 1
  | .ints _ n _ :: r => n + szD r
def IRep (m : Mem) (k : IntKind) (L : List Int) (u : Value) : Prop :=
  ∃ a cap, u = .slice a L.length cap ∧ L.length ≤ cap ∧ (L ≠ [] → ∃ b off cells, a = some ⟨b, off, none⟩ ∧ m.fz b cells ∧ ∀ i x, L[i]? = some x → cells[off + i]? = some (.int k x))
def BRepS (m : Mem) (Ls : List (List Int)) (u : Value) : Prop :=
  ∃ a cap, u = .slice a Ls.length cap ∧ Ls.length ≤ cap ∧ (Ls ≠ [] → ∃ b off cells, a = some ⟨b, off, none⟩ ∧ m.fz b cells ∧ ∀ i L, Ls[i]? = some L → ∃ x, cells[off + i]? = some x ∧ IRep m .u8 L x)
mutual
def DRep (m : Mem) : D → Value → Prop
  | .v x, u => u = x
  | .si k L, u => IRep m k L u
  | .sb Ls, u => BRepS m Ls u
  | .sl sz n c, u => ∃ a cap, u = .slice a n cap ∧ n ≤ cap ∧ (n ≠ 0 → ∃ b off cells, a = some ⟨b, off, none⟩ ∧ m.fz b cells ∧ off + n * sz ≤ cells.length ∧ ∀ i, i < n → CRep m (c i) ((cells.drop (off + i * sz)).take sz))
  | .pt cs, u => ∃ b off cells, u = .pointer (some ⟨b, off, none⟩) ∧ m.fz b cells ∧ CRep m cs ((cells.drop off).take (szD cs))
def CRep (m : Mem) : List DC → List Value → Prop
  | [], vs => vs = []
  | .one d :: cs, vs => ∃ v r, vs = v :: r ∧ v.oneCell' = true ∧ DRep m d v ∧ CRep m cs r
  | .ints k n xs :: cs, vs => ∃ r, vs = xs.map (Value.int k) ++ r ∧ xs.length = n ∧ CRep m cs r
end
theorem IRep.mono {m m' : Mem} (h : m.le m') {k : IntKind} {L : List Int} {u : Value} (hr : IRep m k L u) : IRep m' k L u := by
  obtain ⟨a, cap, h1, h2, h3⟩ := hr
  refine ⟨a, cap, h1, h2, fun hn => ?_⟩
  obtain ⟨b, off, cells, h4, h5, h6⟩ := h3 hn
  exact ⟨b, off, cells, h4, h _ _ h5, h6⟩
theorem BRepS.mono {m m' : Mem} (h : m.le m') {Ls : List (List Int)} {u : Value} (hr : BRepS m Ls u) : BRepS m' Ls u := by
  obtain ⟨a, cap, h1, h2, h3⟩ := hr
  refine ⟨a, cap, h1, h2, fun hn => ?_⟩
  obtain ⟨b, off, cells, h4, h5, h6⟩ := h3 hn
  exact ⟨b, off, cells, h4, h _ _ h5, fun i L hL => let ⟨x, e, r⟩ := h6 i L hL; ⟨x, e, r.mono h⟩⟩
mutual
theorem DRep.mono {m m' : Mem} (h : m.le m') : ∀ {d : D} {u : Value}, DRep m d u → DRep m' d u
  | .v x, u, hr => hr
  | .si k L, u, hr => IRep.mono h hr
  | .sb Ls, u, hr => BRepS.mono h hr
  | .sl sz n c, u, hr => by
    obtain ⟨a, cap, h1, h2, h3⟩ := hr
    refine ⟨a, cap, h1, h2, fun hn => ?_⟩
    obtain ⟨b, off, cells, h4, h5, h6, h7⟩ := h3 hn
    exact ⟨b, off, cells, h4, h _ _ h5, h6, fun i hi => CRep.mono h (h7 i hi)⟩
  | .pt cs, u, hr => by
    obtain ⟨b, off, cells, h4, h5, h6⟩ := hr
    exact ⟨b, off, cells, h4, h _ _ h5, CRep.mono h h6⟩
theorem CRep.mono {m m' : Mem} (h : m.le m') : ∀ {cs : List DC} {vs : List Value}, CRep m cs vs → CRep m' cs vs
  | [], _, hr => hr
  | .one d :: cs, vs, hr => by
    obtain ⟨v, r, h1, h2, h3, h4⟩ := hr
    exact ⟨v, r, h1, h2, DRep.mono h h3, CRep.mono h h4⟩
  | .ints k n xs :: cs, vs, hr => by
    obtain ⟨r, h1, h2, h3⟩ := hr
    exact ⟨r, h1, h2, CRep.mono h h3⟩
end
theorem CRep.len {m : Mem} : ∀ {cs : List DC} {vs : List Value}, CRep m cs vs → vs.length = szD cs
  | [], _, h => by rw [show _ = [] from h]; rfl
  | .one d :: cs, vs, h => by
    obtain ⟨v, r, h1, h2, h3, h4⟩ := h
    subst h1; simp [szD, CRep.len h4]
  | .ints k n xs :: cs, vs, h => by
    obtain ⟨r, h1, h2, h3⟩ := h
    subst h1; simp [szD, CRep.len h3, h2]
theorem CRep.one {m : Mem} : ∀ {cs : List DC} {vs : List Value}, CRep m cs vs → ∀ v ∈ vs, v.oneCell' = true
  | [], _, h, v, hv => by rw [show _ = [] from h] at hv; cases hv
  | .one d :: cs, vs, h, v, hv => by
    obtain ⟨u, r, h1, h2, h3, h4⟩ := h
    subst h1
    rcases List.mem_cons.1 hv with rfl | hv
    · exact h2
    · exact CRep.one h4 v hv
  | .ints k n xs :: cs, vs, h, v, hv => by
    obtain ⟨r, h1, h2, h3⟩ := h
    subst h1
    rcases List.mem_append.1 hv with hv | hv
    · obtain ⟨x, _, rfl⟩ := List.mem_map.1 hv; rfl
    · exact CRep.one h3 v hv

/-! what a call owns -/
structure Loc where
  b : Nat
  ad : Option Addr
  n : Nat
  cap : Nat
  Z : Nat → Prop
inductive AV where
  | d (x : D)
  | lp (k off : Nat)
  | lx (k off n i : Nat)
  | ls (k off n i len : Nat)
  | rw (k : Nat)
  | re (k sz i off : Nat)
  | fn (f : Fn) (caps : List (Nat × Nat))
  | mp (k : Nat)
  | rs (k sz lo len : Nat)
  | fb (f : Fn) (k off : Nat) (ds : List DC)
inductive Chunk where
  | one (a : AV)
  | ints (k : IntKind) (n : Nat) (xs : List Int)
inductive SV where
  | a (x : AV)
  | agg (cs : List Chunk)
inductive EV where
  | s (x : SV)
  | t (l : List SV)
  | dead
structure Abs where
  holds : Mem → Nat → (Nat → Prop) → Prop
  mono : ∀ {m m' : Mem} {b : Nat} {Z : Nat → Prop}, holds m b Z → m.le m' → (∀ i, Z i → m'.w.heap[i]? = m.w.heap[i]?) → holds m' b Z
/-- What a slice's elements are. -/
inductive Cont where
  | ints (k : IntKind) (L : List Int)
  | bts (Ls : List (List Int))
  | st (sz n : Nat) (c : Nat → List DC)
/-- A key's parts, and their kinds. -/
abbrev Atom := Int ⊕ (ByteArray ⊕ (Bool ⊕ List Int))
abbrev KK := List Atom
inductive AS where
  | i (k : IntKind)
  | s
  | b
  | r (k : IntKind) (n : Nat)
def atB : AS → Atom → Bool
  | .i _, .inl _ => true
  | .s, .inr (.inl _) => true
  | .b, .inr (.inr (.inl _)) => true
  | .r _ n, .inr (.inr (.inr L)) => Nat.beq L.length n
  | _, _ => false
def atV : AS → Atom → List Value
  | .i k, .inl x => [.int k x]
  | .s, .inr (.inl b) => [.string b]
  | .b, .inr (.inr (.inl b)) => [.bool b]
  | .r k _, .inr (.inr (.inr L)) => L.map (Value.int k)
  | _, _ => []
def shQ : List AS → KK → Bool
  | [], [] => true
  | q :: r, a :: s => atB q a && shQ r s
  | _, _ => false
def kVs : List AS → KK → List Value
  | q :: r, a :: s => atV q a ++ kVs r s
  | _, _ => []
/-- A key's value. -/
def kV (ag : Bool) (qs : List AS) (kk : KK) : Value := match ag with
  | true => .agg (kVs qs kk).toArray
  | false => (kVs qs kk).headD undef
inductive Blk where
  | cells (cs : List Chunk) (ty : Nat)
  | row (c : Cont) (ty : Nat)
  | abs (A : Abs)
  | mp (mt : Nat) (ag : Bool) (qs : List AS) (has : KK → Bool) (v : KK → AV) (rf : List Nat) (gh : List KK)
abbrev Env := List (Nat × EV)
abbrev Heap := List (Nat × Blk)

def ARep (m : Mem) (ρ : Nat → Loc) : AV → Value → Prop
  | .d x, u => DRep m x u
  | .lp k off, u => u = .pointer (some ⟨(ρ k).b, off, none⟩)
  | .lx k off n i, u => u = .pointer (some ⟨(ρ k).b, off + i, none⟩) ∧ i < n
  | .ls k off n i len, u => u = .slice (some ⟨(ρ k).b, off + i, none⟩) len (n - i) ∧ i + len ≤ n
  | .rw k, u => u = .slice (ρ k).ad (ρ k).n (ρ k).cap
  | .re k sz i off, u => u = .pointer (some ⟨(ρ k).b, i * sz + off, none⟩) ∧ i < (ρ k).n
  | .mp k, u => u = .map (some (ρ k).b)
  | .rs k sz lo len, u => u = .slice (if (ρ k).cap = lo then (ρ k).ad else (ρ k).ad.map (·.add (lo * sz))) len ((ρ k).cap - lo) ∧ lo + len ≤ (ρ k).n
  | .fn f caps, u => u = .func f #[] (caps.map fun p => Value.pointer (some ⟨(ρ p.1).b, p.2, none⟩)).toArray
  | .fb f k off ds, u => ∃ vs, u = .func f #[.agg (Value.pointer (some ⟨(ρ k).b, off, none⟩) :: vs).toArray] #[] ∧ CRep m ds vs
def KRep (m : Mem) (ρ : Nat → Loc) : List Chunk → List Value → Prop
  | [], vs => vs = []
  | .one a :: cs, vs => ∃ v r, vs = v :: r ∧ v.oneCell' = true ∧ ARep m ρ a v ∧ KRep m ρ cs r
  | .ints k n xs :: cs, vs => ∃ r, vs = xs.map (Value.int k) ++ r ∧ xs.length = n ∧ KRep m ρ cs r
def SRep (m : Mem) (ρ : Nat → Loc) : SV → Value → Prop
  | .a x, u => ARep m ρ x u
  | .agg cs, u => ∃ vs, u = .agg vs.toArray ∧ KRep m ρ cs vs
def LRep (m : Mem) (ρ : Nat → Loc) : List SV → List Value → Prop
  | [], us => us = []
  | x :: l, us => ∃ u r, us = u :: r ∧ SRep m ρ x u ∧ LRep m ρ l r
def ERep (m : Mem) (ρ : Nat → Loc) : EV → Value → Prop
  | .s x, u => SRep m ρ x u
  | .t l, u => ∃ us, u = .tuple us.toArray ∧ LRep m ρ l us
  | .dead, _ => True
def Blk1 (m : Mem) (loc : Loc) (vs : List Value) (ty : Nat) : Prop := m.w.heap[loc.b]? = some (.cells vs.toArray ty (0, 0)) ∧ loc.Z = fun i => i = loc.b
/-- A row's block; or there is none, as the row is nil. -/
def RowAt (m : Mem) (loc : Loc) (vs : List Value) (ty : Nat) : Prop := (Blk1 m loc vs ty ∧ loc.ad = some ⟨loc.b, 0, none⟩) ∨ (vs = [] ∧ loc.ad = none ∧ loc.cap = 0 ∧ loc.Z = fun _ => False)
def Cont.len : Cont → Nat
  | .ints _ L => L.length
  | .bts Ls => Ls.length
  | .st _ n _ => n
def Cont.sz : Cont → Nat
  | .st sz _ _ => sz
  | _ => 1
def ContRep (m : Mem) (c : Cont) (vs : List Value) : Prop :=
  vs.length = c.len * c.sz ∧ (∀ v ∈ vs, v.oneCell' = true) ∧ match c with
    | .ints k L => vs = L.map (Value.int k)
    | .bts Ls => ∀ (i : Nat) (L : List Int), Ls[i]? = some L → ∃ x, vs[i]? = some x ∧ IRep m .u8 L x
    | .st sz n c => ∀ i, i < n → CRep m (c i) ((vs.drop (i * sz)).take sz)
def AV.refs : AV → List Nat
  | .d _ => []
  | .lp k _ | .lx k _ _ _ | .ls k _ _ _ _ | .rw k | .re k _ _ _ => [k]
  | .fn _ caps => caps.map (·.1)
  | .mp k => [k]
  | .rs k _ _ _ => [k]
  | .fb _ k _ _ => [k]
def BRep (m : Mem) (ρ : Nat → Loc) (loc : Loc) : Blk → Prop
  | .cells cs ty => ∃ vs, Blk1 m loc vs ty ∧ KRep m ρ cs vs
  | .row c ty => ∃ vs rest, RowAt m loc (vs ++ rest) ty ∧ ContRep m c vs ∧ (∀ v ∈ rest, v.oneCell' = true) ∧ (vs ++ rest).length = loc.cap * c.sz ∧ c.len = loc.n ∧ c.len ≤ loc.cap
  | .abs A => A.holds m loc.b loc.Z
  | .mp _ ag qs has v rf _ => ∃ (es : Array MapEntry) (clock : Nat), m.w.heap[loc.b]? = some (.map es clock) ∧ loc.Z = (fun i => i = loc.b) ∧ (∀ e ∈ es.toList, ∃ kk, shQ qs kk = true ∧ e.key = kV ag qs kk ∧ has kk = true ∧ ARep m ρ (v kk) e.val) ∧
      (∀ kk, shQ qs kk = true → has kk = true → ∃ e ∈ es.toList, e.key = kV ag qs kk) ∧ (es.toList.Pairwise fun a b => a.key ≠ b.key) ∧ (∀ kk, ∀ k ∈ (v kk).refs, k ∈ rf)
theorem RowAt.real {m : Mem} {loc : Loc} {vs : List Value} {ty : Nat} (h : RowAt m loc vs ty) (hc : 0 < loc.cap) : Blk1 m loc vs ty ∧ loc.ad = some ⟨loc.b, 0, none⟩ := by
  rcases h with h | ⟨_, _, h, _⟩
  · exact h
  · omega
section
variable {m m' : Mem} {ρ : Nat → Loc}
theorem ARep.mono (h : m.le m') {a : AV} {u : Value} (hr : ARep m ρ a u) : ARep m' ρ a u := by
  cases a <;> first | exact DRep.mono h hr | exact hr | (obtain ⟨vs, h1, h2⟩ := hr; exact ⟨vs, h1, CRep.mono h h2⟩)
theorem KRep.mono (h : m.le m') : ∀ {cs : List Chunk} {vs : List Value}, KRep m ρ cs vs → KRep m' ρ cs vs
  | [], _, hr => hr
  | .one a :: cs, vs, hr => by
    obtain ⟨v, r, h1, h2, h3, h4⟩ := hr
    exact ⟨v, r, h1, h2, h3.mono h, KRep.mono h h4⟩
  | .ints k n xs :: cs, vs, hr => by
    obtain ⟨r, h1, h2, h3⟩ := hr
    exact ⟨r, h1, h2, KRep.mono h h3⟩
theorem SRep.mono (h : m.le m') {x : SV} {u : Value} (hr : SRep m ρ x u) : SRep m' ρ x u := by
  cases x with
  | a x => exact ARep.mono h hr
  | agg cs => obtain ⟨vs, e, k⟩ := hr; exact ⟨vs, e, k.mono h⟩
theorem LRep.mono (h : m.le m') : ∀ {l : List SV} {us : List Value}, LRep m ρ l us → LRep m' ρ l us
  | [], _, hr => hr
  | x :: l, us, hr => by
    obtain ⟨u, r, h1, h2, h3⟩ := hr
    exact ⟨u, r, h1, h2.mono h, LRep.mono h h3⟩
theorem ERep.mono (h : m.le m') {e : EV} {u : Value} (hr : ERep m ρ e u) : ERep m' ρ e u := by
  cases e with
  | s x => exact SRep.mono h hr
  | t l => obtain ⟨us, e, k⟩ := hr; exact ⟨us, e, k.mono h⟩
  | dead => trivial
theorem ContRep.mono (h : m.le m') {c : Cont} {vs : List Value} (hr : ContRep m c vs) : ContRep m' c vs := by
  obtain ⟨h1, h2, h3⟩ := hr
  refine ⟨h1, h2, ?_⟩
  cases c with
  | ints k L => exact h3
  | bts Ls => exact fun i L hL => let ⟨x, e, r⟩ := h3 i L hL; ⟨x, e, r.mono h⟩
  | st sz n c => exact fun i hi => CRep.mono h (h3 i hi)
theorem BRep.mono (h : m.le m') {loc : Loc} (hw : ∀ i, loc.Z i → m'.w.heap[i]? = m.w.heap[i]?) {b : Blk} (hr : BRep m ρ loc b) : BRep m' ρ loc b := by
  have hB : ∀ {vs ty}, Blk1 m loc vs ty → Blk1 m' loc vs ty := fun ⟨h1, h2⟩ => ⟨by rw [hw _ (by rw [h2])]; exact h1, h2⟩
  have hR : ∀ {vs ty}, RowAt m loc vs ty → RowAt m' loc vs ty := fun h => h.imp (fun ⟨h1, h2⟩ => ⟨hB h1, h2⟩) id
  cases b with
  | cells cs ty => obtain ⟨vs, h1, h2⟩ := hr; exact ⟨vs, hB h1, h2.mono h⟩
  | row c ty => obtain ⟨vs, rest, h1, h2, h3⟩ := hr; exact ⟨vs, rest, hR h1, h2.mono h, h3⟩
  | abs A => exact A.mono hr h hw
  | mp mt ag qs has v rf gh =>
    obtain ⟨es, clock, h1, h2, h3, h4, h5, h6⟩ := hr
    exact ⟨es, clock, by rw [hw _ (by rw [h2])]; exact h1, h2, fun e he => let ⟨kk, a, b, c, d⟩ := h3 e he; ⟨kk, a, b, c, d.mono h⟩, h4, h5, h6⟩
end

/-! other names for own blocks -/
def refsC : List Chunk → List Nat
  | [] => []
  | .one a :: r => a.refs ++ refsC r
  | .ints _ _ _ :: r => refsC r
def SV.refs : SV → List Nat
  | .a x => x.refs
  | .agg cs => refsC cs
def refsL : List SV → List Nat
  | [] => []
  | x :: r => x.refs ++ refsL r
def EV.refs : EV → List Nat
  | .s x => x.refs
  | .t l => refsL l
  | .dead => []
def Blk.refs : Blk → List Nat
  | .cells cs _ => refsC cs
  | .mp _ _ _ _ _ rf _ => rf
  | _ => []
def memN (k : Nat) : List Nat → Bool
  | [] => false
  | j :: r => Nat.beq j k || memN k r
theorem memN_of {k : Nat} : ∀ {l : List Nat}, k ∈ l → memN k l = true
  | j :: r, h => by
    rcases List.mem_cons.1 h with rfl | h
    · simp [memN]
    · simp [memN, memN_of h]
theorem not_memN {k : Nat} {l : List Nat} (h : memN k l = false) : k ∉ l := fun hm => by rw [memN_of hm] at h; cases h
section
variable {m : Mem} {ρ σ : Nat → Loc}
theorem ARep.same {a : AV} {u : Value} (h : ∀ k ∈ a.refs, σ k = ρ k) (hr : ARep m ρ a u) : ARep m σ a u := by
  cases a with
  | d x => exact hr
  | fn f caps =>
    have : (caps.map fun p => Value.pointer (some ⟨(σ p.1).b, p.2, none⟩)) = caps.map fun p => Value.pointer (some ⟨(ρ p.1).b, p.2, none⟩) :=
      List.map_congr_left fun p hp => by rw [h p.1 (List.mem_map.2 ⟨p, hp, rfl⟩)]
    simp only [ARep] at hr ⊢; rw [hr, this]
  | _ => simp only [ARep] at hr ⊢; rw [h _ (by simp [AV.refs])]; exact hr
theorem KRep.same : ∀ {cs : List Chunk} {vs : List Value}, (∀ k ∈ refsC cs, σ k = ρ k) → KRep m ρ cs vs → KRep m σ cs vs
  | [], _, _, hr => hr
  | .one a :: cs, vs, h, hr => by
    obtain ⟨v, r, h1, h2, h3, h4⟩ := hr
    exact ⟨v, r, h1, h2, h3.same fun k hk => h k (by simp [refsC, hk]), KRep.same (fun k hk => h k (by simp [refsC, hk])) h4⟩
  | .ints k n xs :: cs, vs, h, hr => by
    obtain ⟨r, h1, h2, h3⟩ := hr
    exact ⟨r, h1, h2, KRep.same (fun k hk => h k (by simp [refsC, hk])) h3⟩
theorem SRep.same {x : SV} {u : Value} (h : ∀ k ∈ x.refs, σ k = ρ k) (hr : SRep m ρ x u) : SRep m σ x u := by
  cases x with
  | a x => exact ARep.same h hr
  | agg cs => obtain ⟨vs, e, k⟩ := hr; exact ⟨vs, e, k.same h⟩
theorem LRep.same : ∀ {l : List SV} {us : List Value}, (∀ k ∈ refsL l, σ k = ρ k) → LRep m ρ l us → LRep m σ l us
  | [], _, _, hr => hr
  | x :: l, us, h, hr => by
    obtain ⟨u, r, h1, h2, h3⟩ := hr
    exact ⟨u, r, h1, h2.same fun k hk => h k (by simp [refsL, hk]), LRep.same (fun k hk => h k (by simp [refsL, hk])) h3⟩
theorem ERep.same {e : EV} {u : Value} (h : ∀ k ∈ e.refs, σ k = ρ k) (hr : ERep m ρ e u) : ERep m σ e u := by
  cases e with
  | s x => exact SRep.same h hr
  | t l => obtain ⟨us, e, k⟩ := hr; exact ⟨us, e, k.same h⟩
  | dead => trivial
theorem BRep.same {loc : Loc} {b : Blk} (h : ∀ k ∈ b.refs, σ k = ρ k) (hr : BRep m ρ loc b) : BRep m σ loc b := by
  cases b with
  | cells cs ty => obtain ⟨vs, h1, h2⟩ := hr; exact ⟨vs, h1, h2.same h⟩
  | mp mt ag qs has v rf gh =>
    obtain ⟨es, clock, h1, h2, h3, h4, h5, h6⟩ := hr
    exact ⟨es, clock, h1, h2, fun e he => let ⟨kk, a, b, c, d⟩ := h3 e he; ⟨kk, a, b, c, d.same fun k hk => h k (h6 kk k hk)⟩, h4, h5, h6⟩
  | _ => exact hr
theorem KRep.len : ∀ {cs : List Chunk} {vs ws : List Value}, KRep m ρ cs vs → KRep m ρ cs ws → vs.length = ws.length
  | [], _, _, h, k => by rw [show _ = [] from h, show _ = [] from k]
  | .one a :: cs, vs, ws, h, k => by
    obtain ⟨v, r, rfl, _, _, h4⟩ := h
    obtain ⟨v', r', rfl, _, _, k4⟩ := k
    simp [KRep.len h4 k4]
  | .ints _ n xs :: cs, vs, ws, h, k => by
    obtain ⟨r, rfl, _, h3⟩ := h
    obtain ⟨r', rfl, _, k3⟩ := k
    simp [KRep.len h3 k3]
def szC : List Chunk → Nat
  | [] => 0
  | .one _ :: r => szC r + 1
  | .ints _ n _ :: r => n + szC r
theorem KRep.sz : ∀ {cs : List Chunk} {vs : List Value}, KRep m ρ cs vs → vs.length = szC cs
  | [], _, h => by rw [show _ = [] from h]; rfl
  | .one d :: cs, vs, h => by
    obtain ⟨v, r, rfl, h2, h3, h4⟩ := h
    simp [szC, KRep.sz h4]
  | .ints k n xs :: cs, vs, h => by
    obtain ⟨r, rfl, h2, h3⟩ := h
    simp [szC, KRep.sz h3, h2]
theorem KRep.one : ∀ {cs : List Chunk} {vs : List Value}, KRep m ρ cs vs → ∀ v ∈ vs, v.oneCell' = true
  | [], _, h, v, hv => by rw [show _ = [] from h] at hv; cases hv
  | .one d :: cs, vs, h, v, hv => by
    obtain ⟨u, r, rfl, h2, h3, h4⟩ := h
    rcases List.mem_cons.1 hv with rfl | hv
    · exact h2
    · exact KRep.one h4 v hv
  | .ints k n xs :: cs, vs, h, v, hv => by
    obtain ⟨r, rfl, h2, h3⟩ := h
    rcases List.mem_append.1 hv with hv | hv
    · obtain ⟨x, _, rfl⟩ := List.mem_map.1 hv; rfl
    · exact KRep.one h3 v hv
end

/-! what stands in rows of cells -/
def upC : List DC → List Chunk
  | [] => []
  | .one d :: r => .one (.d d) :: upC r
  | .ints k n xs :: r => .ints k n xs :: upC r
theorem upC_rep {m : Mem} {ρ : Nat → Loc} : ∀ {cs : List DC} {vs : List Value}, CRep m cs vs → KRep m ρ (upC cs) vs
  | [], _, h => h
  | .one d :: cs, vs, h => by
    obtain ⟨v, r, h1, h2, h3, h4⟩ := h
    exact ⟨v, r, h1, h2, h3, upC_rep h4⟩
  | .ints k n xs :: cs, vs, h => by
    obtain ⟨r, h1, h2, h3⟩ := h
    exact ⟨r, h1, h2, upC_rep h3⟩
def dropC : List Chunk → Nat → Option (List Chunk)
  | cs, 0 => some cs
  | [], _ + 1 => none
  | .one _ :: r, n + 1 => dropC r n
  | .ints _ m _ :: r, n + 1 => match Nat.ble m (n + 1) with
    | true => dropC r (n + 1 - m)
    | false => none
def takeC : List Chunk → Nat → Option (List Chunk)
  | _, 0 => some []
  | [], _ + 1 => none
  | .one a :: r, n + 1 => match takeC r n with
    | some s => some (.one a :: s)
    | none => none
  | .ints k m xs :: r, n + 1 => match Nat.ble m (n + 1) with
    | true => match takeC r (n + 1 - m) with
      | some s => some (.ints k m xs :: s)
      | none => none
    | false => none
def dropD : List DC → Nat → Option (List DC)
  | cs, 0 => some cs
  | [], _ + 1 => none
  | .one _ :: r, n + 1 => dropD r n
  | .ints _ m _ :: r, n + 1 => match Nat.ble m (n + 1) with
    | true => dropD r (n + 1 - m)
    | false => none
section
variable {m : Mem} {ρ : Nat → Loc}
theorem dropC_rep : ∀ {cs : List Chunk} {n : Nat} {r : List Chunk} {vs : List Value}, KRep m ρ cs vs → dropC cs n = some r → n ≤ vs.length ∧ KRep m ρ r (vs.drop n)
  | cs, 0, r, vs, hk, h => by simp only [dropC, Option.some.injEq] at h; subst h; exact ⟨Nat.zero_le _, hk⟩
  | [], n + 1, r, vs, hk, h => by simp [dropC] at h
  | .one a :: s, n + 1, r, vs, hk, h => by
    obtain ⟨v, q, rfl, h2, h3, h4⟩ := hk
    have := dropC_rep h4 (by simpa [dropC] using h)
    simpa using this
  | .ints k j xs :: s, n + 1, r, vs, hk, h => by
    obtain ⟨q, rfl, h2, h3⟩ := hk
    simp only [dropC] at h
    cases hb : Nat.ble j (n + 1) with
    | false => simp [hb] at h
    | true =>
      simp only [hb] at h
      have hm : j ≤ n + 1 := Nat.le_of_ble_eq_true hb
      obtain ⟨h5, h6⟩ := dropC_rep h3 h
      refine ⟨by simp; omega, ?_⟩
      rw [List.drop_append, List.drop_of_length_le (by simp; omega), List.nil_append]
      simpa [h2] using h6
theorem takeC_rep : ∀ {cs : List Chunk} {n : Nat} {r : List Chunk} {vs : List Value}, KRep m ρ cs vs → takeC cs n = some r → n ≤ vs.length ∧ KRep m ρ r (vs.take n)
  | cs, 0, r, vs, hk, h => by simp only [takeC, Option.some.injEq] at h; subst h; exact ⟨Nat.zero_le _, rfl⟩
  | [], n + 1, r, vs, hk, h => by simp [takeC] at h
  | .one a :: s, n + 1, r, vs, hk, h => by
    obtain ⟨v, q, rfl, h2, h3, h4⟩ := hk
    simp only [takeC] at h
    cases ht : takeC s n with
    | none => simp [ht] at h
    | some t =>
      simp only [ht, Option.some.injEq] at h
      subst h
      obtain ⟨h5, h6⟩ := takeC_rep h4 ht
      exact ⟨by simp; omega, v, q.take n, rfl, h2, h3, h6⟩
  | .ints k j xs :: s, n + 1, r, vs, hk, h => by
    obtain ⟨q, rfl, h2, h3⟩ := hk
    simp only [takeC] at h
    cases hb : Nat.ble j (n + 1) with
    | false => simp [hb] at h
    | true =>
      simp only [hb] at h
      have hm : j ≤ n + 1 := Nat.le_of_ble_eq_true hb
      cases ht : takeC s (n + 1 - j) with
      | none => simp [ht] at h
      | some t =>
        simp only [ht, Option.some.injEq] at h
        subst h
        obtain ⟨h5, h6⟩ := takeC_rep h3 ht
        refine ⟨by simp; omega, q.take (n + 1 - j), ?_, h2, h6⟩
        rw [List.take_append, List.take_of_length_le (by simp; omega)]
        simp [h2]
theorem dropD_rep : ∀ {cs : List DC} {n : Nat} {r : List DC} {vs : List Value}, CRep m cs vs → dropD cs n = some r → n ≤ vs.length ∧ CRep m r (vs.drop n)
  | cs, 0, r, vs, hk, h => by simp only [dropD, Option.some.injEq] at h; subst h; exact ⟨Nat.zero_le _, hk⟩
  | [], n + 1, r, vs, hk, h => by simp [dropD] at h
  | .one a :: s, n + 1, r, vs, hk, h => by
    obtain ⟨v, q, rfl, h2, h3, h4⟩ := hk
    have := dropD_rep h4 (by simpa [dropD] using h)
    simpa using this
  | .ints k j xs :: s, n + 1, r, vs, hk, h => by
    obtain ⟨q, rfl, h2, h3⟩ := hk
    simp only [dropD] at h
    cases hb : Nat.ble j (n + 1) with
    | false => simp [hb] at h
    | true =>
      simp only [hb] at h
      have hm : j ≤ n + 1 := Nat.le_of_ble_eq_true hb
      obtain ⟨h5, h6⟩ := dropD_rep h3 h
      refine ⟨by simp; omega, ?_⟩
      rw [List.drop_append, List.drop_of_length_le (by simp; omega), List.nil_append]
      simpa [h2] using h6
theorem szD_drop : ∀ {cs : List DC} {n : Nat} {r : List DC}, dropD cs n = some r → szD cs = n + szD r
  | cs, 0, r, h => by simp only [dropD, Option.some.injEq] at h; subst h; simp
  | [], n + 1, r, h => by simp [dropD] at h
  | .one a :: s, n + 1, r, h => by
    have := szD_drop (cs := s) (n := n) (r := r) (by simpa [dropD] using h)
    simp [szD, this]; omega
  | .ints k j xs :: s, n + 1, r, h => by
    simp only [dropD] at h
    cases hb : Nat.ble j (n + 1) with
    | false => simp [hb] at h
    | true =>
      simp only [hb] at h
      have hm : j ≤ n + 1 := Nat.le_of_ble_eq_true hb
      have := szD_drop h
      simp [szD, this]; omega
end
def appC : List Chunk → List Chunk → List Chunk
  | [], b => b
  | c :: r, b => c :: appC r b
/-- Chunks written over others, from an offset on. -/
def putC : List Chunk → Nat → List Chunk → Option (List Chunk)
  | cs, 0, new => match dropC cs (szC new) with
    | some rest => some (appC new rest)
    | none => none
  | [], _ + 1, _ => none
  | .one a :: r, off + 1, new => match putC r off new with
    | some s => some (.one a :: s)
    | none => none
  | .ints k n xs :: r, off + 1, new => match Nat.ble n (off + 1) with
    | true => match putC r (off + 1 - n) new with
      | some s => some (.ints k n xs :: s)
      | none => none
    | false => none
theorem appC_rep {m : Mem} {ρ : Nat → Loc} : ∀ {a b : List Chunk} {vs ws : List Value}, KRep m ρ a vs → KRep m ρ b ws → KRep m ρ (appC a b) (vs ++ ws)
  | [], b, vs, ws, h, k => by rw [show vs = [] from h]; exact k
  | .one x :: a, b, vs, ws, h, k => by
    obtain ⟨v, r, rfl, h2, h3, h4⟩ := h
    exact ⟨v, r ++ ws, rfl, h2, h3, appC_rep h4 k⟩
  | .ints j n xs :: a, b, vs, ws, h, k => by
    obtain ⟨r, rfl, h2, h3⟩ := h
    exact ⟨r ++ ws, by rw [List.append_assoc], h2, appC_rep h3 k⟩
theorem putC_rep {m : Mem} {ρ : Nat → Loc} : ∀ {cs : List Chunk} {off : Nat} {new r : List Chunk} {vs us : List Value}, KRep m ρ cs vs → KRep m ρ new us → putC cs off new = some r →
    off + us.length ≤ vs.length ∧ KRep m ρ r (vs.take off ++ us ++ vs.drop (off + us.length))
  | cs, 0, new, r, vs, us, hk, hn, h => by
    unfold putC at h
    cases hd : dropC cs (szC new) with
    | none => simp [hd] at h
    | some rest =>
      simp only [hd, Option.some.injEq] at h
      subst h
      obtain ⟨h1, h2⟩ := dropC_rep hk hd
      have := hn.sz
      refine ⟨by omega, ?_⟩
      simp only [List.take_zero, List.nil_append, Nat.zero_add, this]
      exact appC_rep hn h2
  | [], off + 1, new, r, vs, us, hk, hn, h => by simp [putC] at h
  | .one a :: s, off + 1, new, r, vs, us, hk, hn, h => by
    obtain ⟨v, q, rfl, h2, h3, h4⟩ := hk
    simp only [putC] at h
    cases hp : putC s off new with
    | none => simp [hp] at h
    | some t =>
      simp only [hp, Option.some.injEq] at h
      subst h
      obtain ⟨h5, h6⟩ := putC_rep h4 hn hp
      refine ⟨by simp; omega, v, _, ?_, h2, h3, h6⟩
      rw [show off + 1 + us.length = (off + us.length) + 1 by omega]
      simp
  | .ints k n xs :: s, off + 1, new, r, vs, us, hk, hn, h => by
    obtain ⟨q, rfl, h2, h3⟩ := hk
    simp only [putC] at h
    cases hb : Nat.ble n (off + 1) with
    | false => simp [hb] at h
    | true =>
      simp only [hb] at h
      have hm : n ≤ off + 1 := Nat.le_of_ble_eq_true hb
      cases hp : putC s (off + 1 - n) new with
      | none => simp [hp] at h
      | some t =>
        simp only [hp, Option.some.injEq] at h
        subst h
        obtain ⟨h5, h6⟩ := putC_rep h3 hn hp
        refine ⟨by simp; omega, _, ?_, h2, h6⟩
        have hl : (xs.map (Value.int k)).length = n := by simp [h2]
        rw [List.take_append, List.drop_append, List.take_of_length_le (by omega), List.drop_of_length_le (by omega), hl, List.nil_append, show off + 1 + us.length - n = off + 1 - n + us.length by omega]
        simp
/-- A number within a row of numbers of a block. -/
def atI : List Chunk → Nat → Option (IntKind × Nat × List Int)
  | .ints k n xs :: _, 0 => some (k, n, xs)
  | .one _ :: r, off + 1 => atI r off
  | .ints _ n _ :: r, off + 1 => match Nat.ble n (off + 1) with
    | true => atI r (off + 1 - n)
    | false => none
  | _, _ => none
/-- The row of numbers there, written anew. -/
def setI : List Chunk → Nat → List Int → Option (List Chunk)
  | .ints k n _ :: r, 0, ys => some (.ints k n ys :: r)
  | .one a :: r, off + 1, ys => match setI r off ys with
    | some s => some (.one a :: s)
    | none => none
  | .ints k n xs :: r, off + 1, ys => match Nat.ble n (off + 1) with
    | true => match setI r (off + 1 - n) ys with
      | some s => some (.ints k n xs :: s)
      | none => none
    | false => none
  | _, _, _ => none
theorem atI_rep {m : Mem} {ρ : Nat → Loc} : ∀ {cs : List Chunk} {off : Nat} {k : IntKind} {n : Nat} {xs : List Int} {vs : List Value}, KRep m ρ cs vs → atI cs off = some (k, n, xs) →
    xs.length = n ∧ ∃ A B, vs = A ++ xs.map (Value.int k) ++ B ∧ A.length = off ∧ ∀ (ys : List Int), ys.length = n → ∃ r, setI cs off ys = some r ∧ KRep m ρ r (A ++ ys.map (Value.int k) ++ B)
  | .ints k n xs :: s, 0, k', n', xs', vs, hk, h => by
    obtain ⟨q, rfl, h2, h3⟩ := hk
    simp only [atI, Option.some.injEq, Prod.mk.injEq] at h
    obtain ⟨rfl, rfl, rfl⟩ := h
    exact ⟨h2, [], q, by simp, rfl, fun ys hy => ⟨_, rfl, q, by simp, hy, h3⟩⟩
  | .one a :: s, off + 1, k', n', xs', vs, hk, h => by
    obtain ⟨v, q, rfl, h2, h3, h4⟩ := hk
    simp only [atI] at h
    obtain ⟨h5, A, B, rfl, h7, h8⟩ := atI_rep h4 h
    refine ⟨h5, v :: A, B, by simp, by simp [h7], fun ys hy => ?_⟩
    obtain ⟨r, h9, h10⟩ := h8 ys hy
    exact ⟨.one a :: r, by simp [setI, h9], v, _, by simp, h2, h3, h10⟩
  | .ints k n xs :: s, off + 1, k', n', xs', vs, hk, h => by
    obtain ⟨q, rfl, h2, h3⟩ := hk
    simp only [atI] at h
    cases hb : Nat.ble n (off + 1) with
    | false => simp [hb] at h
    | true =>
      simp only [hb] at h
      have hm : n ≤ off + 1 := Nat.le_of_ble_eq_true hb
      obtain ⟨h5, A, B, rfl, h7, h8⟩ := atI_rep h3 h
      refine ⟨h5, xs.map (Value.int k) ++ A, B, by simp, by simp [h7, h2]; omega, fun ys hy => ?_⟩
      obtain ⟨r, h9, h10⟩ := h8 ys hy
      exact ⟨.ints k n xs :: r, by simp [setI, hb, h9], _, by simp, h2, h10⟩
  | [], _, _, _, _, _, _, h => by simp [atI] at h
  | .one _ :: _, 0, _, _, _, _, _, h => by simp [atI] at h
end Go.Dx
