/- Maps: keys of numbers, texts, truth values and rows of numbers; looked up by what is known. -/
import Derived.Test.YtlgffgnkkihaoaaDoorDxOp3
import Derived.MapKept
namespace Go.Dx
open Go.RowKit
set_option linter.unusedVariables false
set_option linter.unusedSimpArgs false
/-- One of two rows of cells of one shape: the choice stands at the leaves. -/
def sel {α : Type} (b : Bool) (x y : α) : α := match b with
  | true => x
  | false => y
mutual
def selD : Bool → D → D → D
  | b, .v (.int k x), .v (.int k' y) => match kindB k k' with
    | true => .v (.int k (sel b x y))
    | false => sel b (.v (.int k x)) (.v (.int k' y))
  | b, .v (.bool x), .v (.bool y) => .v (.bool (sel b x y))
  | b, .v (.string x), .v (.string y) => .v (.string (sel b x y))
  | b, .si k L, .si k' L' => match kindB k k' with
    | true => .si k (sel b L L')
    | false => sel b (.si k L) (.si k' L')
  | b, .sb L, .sb L' => .sb (sel b L L')
  | b, .sl sz n c, .sl sz' n' c' => match Nat.beq sz sz' with
    | true => .sl sz (sel b n n') (fun i => selC b (c i) (c' i))
    | false => sel b (.sl sz n c) (.sl sz' n' c')
  | b, x, y => sel b x y
def selC : Bool → List DC → List DC → List DC
  | b, .one x :: r, .one y :: s => .one (selD b x y) :: selC b r s
  | b, .ints k n xs :: r, .ints k' n' ys :: s => match kindB k k' && Nat.beq n n' with
    | true => .ints k n (sel b xs ys) :: selC b r s
    | false => sel b (.ints k n xs :: r) (.ints k' n' ys :: s)
  | _, [], [] => []
  | b, x, y => sel b x y
end
mutual
theorem selD_eq : ∀ (b : Bool) (x y : D), selD b x y = sel b x y
  | b, .v x, .v y => by
    cases x <;> cases y <;> try rfl
    · cases b <;> rfl
    · rename_i k x k' y
      simp only [selD]
      split
      · rename_i h
        have := kind_eq _ _ h; subst this
        cases b <;> rfl
      · rfl
    · cases b <;> rfl
  | b, .si k L, .si k' L' => by
    simp only [selD]
    split
    · rename_i h
      have := kind_eq _ _ h; subst this
      cases b <;> rfl
    · rfl
  | b, .sb L, .sb L' => by cases b <;> rfl
  | b, .sl sz n c, .sl sz' n' c' => by
    simp only [selD]
    split
    · rename_i h
      have := Nat.eq_of_beq_eq_true h; subst this
      have e : (fun i => selC b (c i) (c' i)) = fun i => sel b (c i) (c' i) := funext fun i => selC_eq b (c i) (c' i)
      rw [e]
      cases b <;> rfl
    · rfl
  | b, .pt c, y => by cases y <;> rfl
  | b, .v x, .si _ _ => by cases x <;> rfl
  | b, .v x, .sb _ => by cases x <;> rfl
  | b, .v x, .sl _ _ _ => by cases x <;> rfl
  | b, .v x, .pt _ => by cases x <;> rfl
  | b, .si _ _, .v y => by cases y <;> rfl
  | b, .si _ _, .sb _ => rfl
  | b, .si _ _, .sl _ _ _ => rfl
  | b, .si _ _, .pt _ => rfl
  | b, .sb _, .v y => by cases y <;> rfl
  | b, .sb _, .si _ _ => rfl
  | b, .sb _, .sl _ _ _ => rfl
  | b, .sb _, .pt _ => rfl
  | b, .sl _ _ _, .v y => by cases y <;> rfl
  | b, .sl _ _ _, .si _ _ => rfl
  | b, .sl _ _ _, .sb _ => rfl
  | b, .sl _ _ _, .pt _ => rfl
theorem selC_eq : ∀ (b : Bool) (x y : List DC), selC b x y = sel b x y
  | b, .one x :: r, .one y :: s => by
    simp only [selC]
    rw [selD_eq b x y, selC_eq b r s]
    cases b <;> rfl
  | b, .ints k n xs :: r, .ints k' n' ys :: s => by
    simp only [selC]
    split
    · rename_i h
      simp only [Bool.and_eq_true] at h
      have e1 := kind_eq _ _ h.1
      have e2 := Nat.eq_of_beq_eq_true h.2
      subst e1; subst e2
      rw [selC_eq b r s]
      cases b <;> rfl
    · rfl
  | b, [], [] => by cases b <;> rfl
  | b, [], y :: ys => by cases y <;> rfl
  | b, .one x :: r, [] => rfl
  | b, .ints _ _ _ :: r, [] => rfl
  | b, .one x :: r, .ints _ _ _ :: s => rfl
  | b, .ints _ _ _ :: r, .one x :: s => rfl
end
def bumpF (c : Nat → List DC) (i : Nat) (r : List DC) : Nat → List DC := fun j => selC (Nat.beq j i) r (c j)
theorem bumpF_eq (c : Nat → List DC) (i : Nat) (r : List DC) (j : Nat) : bumpF c i r j = match Nat.beq j i with | true => r | false => c j := by
  unfold bumpF; rw [selC_eq]; unfold sel; rfl
/-- What the laws of a map need of its key's type. -/
def KeyOk (P : Program) (kt : TypeId) (ag : Bool) (qs : List AS) : Prop := ∀ a, shQ qs a = true → ∀ w : World,
  (∀ em, (Instr.checkKey em 10000 kt (kV ag qs a)).run P w = .ok () w) ∧ Instr.sameBits 10000 (kV ag qs a) (kV ag qs a) = true ∧
  ∀ es : List MapEntry, (∀ e ∈ es, ∃ b, shQ qs b = true ∧ e.key = kV ag qs b) →
    ((Instr.findKey kt (kV ag qs a) es).run P w = .ok none w ∧ ∀ e ∈ es, e.key ≠ kV ag qs a) ∨ ∃ (j : Nat) (e : MapEntry), (Instr.findKey kt (kV ag qs a) es).run P w = .ok (some (j, e.val)) w ∧ es[j]? = some e ∧ e.key = kV ag qs a
theorem ints_inj {k : IntKind} : ∀ {a b : List Int}, a.map (Value.int k) = b.map (Value.int k) → a = b
  | [], [], _ => rfl
  | x :: a, y :: b, h => by
    simp only [List.map_cons, List.cons.injEq, Value.int.injEq, true_and] at h
    rw [h.1, ints_inj h.2]
  | [], _ :: _, h => by cases h
  | _ :: _, [], h => by cases h
theorem kVs_inj : ∀ {qs : List AS} {a b : KK} {x y : List Value}, shQ qs a = true → shQ qs b = true → kVs qs a ++ x = kVs qs b ++ y → a = b ∧ x = y
  | [], [], [], x, y, _, _, h => ⟨rfl, by simpa [kVs] using h⟩
  | q :: r, a :: s, b :: s', x, y, ha, hb, h => by
    simp only [shQ, Bool.and_eq_true] at ha hb
    simp only [kVs, List.append_assoc] at h
    have key : a = b ∧ kVs r s ++ x = kVs r s' ++ y := by
      cases q with
      | i k =>
        rcases a with a | a | a | a <;> simp [atB] at ha
        rcases b with b | b | b | b <;> simp [atB] at hb
        simp [atV] at h; obtain ⟨rfl, h⟩ := h; exact ⟨rfl, h⟩
      | s =>
        rcases a with a | a | a | a <;> simp [atB] at ha
        rcases b with b | b | b | b <;> simp [atB] at hb
        simp [atV] at h; obtain ⟨rfl, h⟩ := h; exact ⟨rfl, h⟩
      | b =>
        rcases a with a | a | a | a <;> simp [atB] at ha
        rcases b with b | b | b | b <;> simp [atB] at hb
        simp [atV] at h; obtain ⟨rfl, h⟩ := h; exact ⟨rfl, h⟩
      | r k n =>
        rcases a with a | a | a | a <;> simp [atB] at ha
        rcases b with b | b | b | b <;> simp [atB] at hb
        simp only [atV] at h
        have hl : (a.map (Value.int k)).length = (b.map (Value.int k)).length := by simp [ha.1, hb.1]
        obtain ⟨h1, h2⟩ := List.append_inj h hl
        have := ints_inj h1
        subst this; exact ⟨rfl, h2⟩
    obtain ⟨rfl, h'⟩ := key
    obtain ⟨rfl, h2⟩ := kVs_inj ha.2 hb.2 h'
    exact ⟨rfl, h2⟩
  | [], _ :: _, _, _, _, h, _, _ => by cases h
  | [], [], _ :: _, _, _, _, h, _ => by cases h
  | _ :: _, [], _, _, _, h, _, _ => by cases h
  | _ :: _, _ :: _, [], _, _, _, h, _ => by cases h
def okQ : Bool → List AS → Bool
  | true, _ => true
  | false, [.r _ _] => false
  | false, [_] => true
  | false, _ => false
theorem kV_inj {ag : Bool} {qs : List AS} {a b : KK} (hq : okQ ag qs = true) (ha : shQ qs a = true) (hb : shQ qs b = true) (h : kV ag qs a = kV ag qs b) : a = b := by
  cases ag with
  | true =>
    have h' : kVs qs a = kVs qs b := by
      have : (kVs qs a).toArray = (kVs qs b).toArray := by simpa [kV] using h
      simpa using this
    exact (kVs_inj (x := []) (y := []) ha hb (by rw [h'])).1
  | false =>
    match qs, hq with
    | [q], hq =>
      match a, b, ha, hb with
      | [a], [b], ha, hb =>
        have ha' : atB q a = true := by simpa [shQ] using ha
        have hb' : atB q b = true := by simpa [shQ] using hb
        have : kVs [q] [a] = kVs [q] [b] := by
          cases q with
          | r k n => cases hq
          | i k =>
            rcases a with a | a | a | a <;> simp [atB] at ha'
            rcases b with b | b | b | b <;> simp [atB] at hb'
            simpa [kV, kVs, atV] using h
          | s =>
            rcases a with a | a | a | a <;> simp [atB] at ha'
            rcases b with b | b | b | b <;> simp [atB] at hb'
            simpa [kV, kVs, atV] using h
          | b =>
            rcases a with a | a | a | a <;> simp [atB] at ha'
            rcases b with b | b | b | b <;> simp [atB] at hb'
            simpa [kV, kVs, atV] using h
        exact (kVs_inj (x := []) (y := []) ha hb (by rw [this])).1
      | [], b, ha, hb => cases ha
      | _ :: _ :: _, b, ha, hb => simp [shQ] at ha
      | [_], [], ha, hb => cases hb
      | [_], _ :: _ :: _, ha, hb => simp [shQ] at hb
    | [], hq => cases hq
    | q :: _ :: _, hq => exact absurd hq (by cases q <;> simp [okQ])
/-- A key out of a value. -/
def keyC : List AS → List Chunk → Option KK
  | [], [] => some []
  | .i k :: q, .one (.d (.v (.int k' x))) :: c => match kindB k k', keyC q c with
    | true, some r => some (.inl x :: r)
    | _, _ => none
  | .s :: q, .one (.d (.v (.string b))) :: c => match keyC q c with
    | some r => some (.inr (.inl b) :: r)
    | none => none
  | .b :: q, .one (.d (.v (.bool b))) :: c => match keyC q c with
    | some r => some (.inr (.inr (.inl b)) :: r)
    | none => none
  | .r k n :: q, .ints k' n' xs :: c => match kindB k k' && Nat.beq n n', keyC q c with
    | true, some r => some (.inr (.inr (.inr xs)) :: r)
    | _, _ => none
  | _, _ => none
def keySV (ag : Bool) (qs : List AS) : SV → Option KK
  | .agg cs => match ag with
    | true => keyC qs cs
    | false => none
  | .a x => match ag, qs with
    | false, [_] => keyC qs [.one x]
    | _, _ => none
theorem keyC_rep {m : Mem} {ρ : Nat → Loc} : ∀ {qs : List AS} {cs : List Chunk} {kk : KK} {vs : List Value}, keyC qs cs = some kk → KRep m ρ cs vs → vs = kVs qs kk ∧ shQ qs kk = true
  | [], [], kk, vs, h, hk => by simp only [keyC, Option.some.injEq] at h; subst h; exact ⟨hk, rfl⟩
  | .i k :: q, .one (.d (.v (.int k' x))) :: c, kk, vs, h, hk => by
    simp only [keyC] at h
    split at h
    · rename_i r h1 h2
      have := kind_eq _ _ h1; subst this
      simp only [Option.some.injEq] at h; subst h
      obtain ⟨v, s, rfl, _, h3, h4⟩ := hk
      obtain ⟨e1, e2⟩ := keyC_rep h2 h4
      refine ⟨?_, by simp [shQ, atB, e2]⟩
      rw [show v = _ from h3, e1]; rfl
    · cases h
  | .s :: q, .one (.d (.v (.string b))) :: c, kk, vs, h, hk => by
    simp only [keyC] at h
    split at h
    · rename_i r h2
      simp only [Option.some.injEq] at h; subst h
      obtain ⟨v, s, rfl, _, h3, h4⟩ := hk
      obtain ⟨e1, e2⟩ := keyC_rep h2 h4
      refine ⟨?_, by simp [shQ, atB, e2]⟩
      rw [show v = _ from h3, e1]; rfl
    · cases h
  | .b :: q, .one (.d (.v (.bool b))) :: c, kk, vs, h, hk => by
    simp only [keyC] at h
    split at h
    · rename_i r h2
      simp only [Option.some.injEq] at h; subst h
      obtain ⟨v, s, rfl, _, h3, h4⟩ := hk
      obtain ⟨e1, e2⟩ := keyC_rep h2 h4
      refine ⟨?_, by simp [shQ, atB, e2]⟩
      rw [show v = _ from h3, e1]; rfl
    · cases h
  | .r k n :: q, .ints k' n' xs :: c, kk, vs, h, hk => by
    simp only [keyC] at h
    split at h
    · rename_i r h1 h2
      simp only [Bool.and_eq_true] at h1
      have e3 := kind_eq _ _ h1.1
      have e4 := Nat.eq_of_beq_eq_true h1.2
      subst e3; subst e4
      simp only [Option.some.injEq] at h; subst h
      obtain ⟨s, rfl, h3, h4⟩ := hk
      obtain ⟨e1, e2⟩ := keyC_rep h2 h4
      exact ⟨by rw [e1]; rfl, by simp [shQ, atB, e2, h3]⟩
    · cases h
def oneSV : SV → Bool
  | .a x => oneAV x
  | .agg _ => true
theorem oneSV_one {m : Mem} {ρ : Nat → Loc} {y : SV} {u : Value} (h : oneSV y = true) (hr : SRep m ρ y u) : ∀ x, y = .a x → u.oneCell' = true := fun x e => by
  subst e; exact oneAV_spec h hr
theorem keySV_rep {m : Mem} {ρ : Nat → Loc} {ag : Bool} {qs : List AS} {y : SV} {kk : KK} {u : Value} (h : keySV ag qs y = some kk) (hr : SRep m ρ y u) (h1 : ∀ x, y = .a x → u.oneCell' = true) : u = kV ag qs kk ∧ shQ qs kk = true := by
  unfold keySV at h
  split at h
  · split at h
    · obtain ⟨vs, rfl, hk⟩ := hr
      obtain ⟨e1, e2⟩ := keyC_rep h hk
      exact ⟨by rw [e1]; rfl, e2⟩
    · cases h
  · rename_i x
    split at h
    · rename_i q
      obtain ⟨e1, e2⟩ := keyC_rep (vs := [u]) h ⟨u, [], rfl, h1 x rfl, hr, rfl⟩
      refine ⟨?_, e2⟩
      show u = (kVs [q] kk).headD undef
      rw [← e1]; rfl
    · cases h
/-- One of two values. -/
def selA : Bool → AV → AV → AV
  | b, .d x, .d y => .d (selD b x y)
  | b, x, y => sel b x y
theorem selA_eq (b : Bool) (x y : AV) : selA b x y = sel b x y := by
  cases x <;> cases y <;> try rfl
  rename_i x y
  show AV.d (selD b x y) = _
  rw [selD_eq]; cases b <;> rfl
def zeroA (P : Program) (t : TypeId) : Option AV :=
  match (P.info? t).bind (·.zero), zeroCk P 60 t with
  | some z, some [.one x] => match rep1 x z with
    | true => some x
    | false => none
  | _, _ => none
section
variable {P : Program} {F : Nat → Prop} {ρ : Nat → Loc} {H : Heap} {w : World}
theorem zeroA_run {t : TypeId} {x : AV} (h : zeroA P t = some x) (m : Mem) (w : World) : ∃ u, (zeroValue t).run P w = .ok u w ∧ ARep m ρ x u := by
  unfold zeroA at h
  split at h
  · rename_i z x' hz _
    split at h
    · rename_i hr
      simp only [Option.some.injEq] at h; subst h
      cases hi : P.info? t with
      | none => rw [hi] at hz; cases hz
      | some i =>
        rw [hi] at hz
        have hz : i.zero = some z := hz
        exact ⟨z, by simp [zeroValue, typeInfo, hi, hz], (rep1_spec hr).1⟩
    · cases h
  · cases h
/-- What is looked up. -/
def lookV (P : Program) (t : TypeId) (H : Heap) (x : AV) (y : SV) (c : Bool) : Res :=
  match x with
  | .mp k => match getH H k, P.underlying t with
    | some (.mp mt ag qs has v rf gh), some (.map kt et) => match keySV ag qs y, zeroA P et, okQ ag qs && oneSV y with
      | some kk, some z, true => some ([KeyOk P kt ag qs, has kk = false → v kk = z], match c with
        | true => .t [.a (v kk), .a (.d (.v (.bool (has kk))))]
        | false => .s (.a (v kk)))
      | _, _, _ => none
    | _, _ => none
  | _ => none
theorem found {m : Mem} {loc : Loc} {mt : Nat} {ag : Bool} {qs : List AS} {has : KK → Bool} {v : KK → AV} {rf : List Nat} {es : Array MapEntry} {kk : KK} (hq : okQ ag qs = true) (hk : shQ qs kk = true)
    (h3 : ∀ e ∈ es.toList, ∃ kk, shQ qs kk = true ∧ e.key = kV ag qs kk ∧ has kk = true ∧ ARep m ρ (v kk) e.val) {e : MapEntry} (he : e ∈ es.toList) (hkey : e.key = kV ag qs kk) : has kk = true ∧ ARep m ρ (v kk) e.val := by
  obtain ⟨k', a, b, c, d⟩ := h3 e he
  obtain rfl : k' = kk := kV_inj hq a hk (b.symm.trans hkey)
  exact ⟨c, d⟩
theorem lookV_run {t : TypeId} {x : AV} {y : SV} {c : Bool} {ps : List Prop} {e : EV} {u i : Value} (h : lookV P t H x y c = some (ps, e)) (hp : allP ps) (hH : HOk w F ρ H) (hx : ARep ⟨w, F⟩ ρ x u) (hy : SRep ⟨w, F⟩ ρ y i) :
    ∃ r, (Instr.lookup t u i c).run P w = .ok r w ∧ ERep ⟨w, F⟩ ρ e r := by
  unfold lookV at h
  split at h
  · rename_i k
    split at h
    · rename_i mt ag qs has v rf gh kt et hg ht
      split at h
      · rename_i kk z hkey hz hok
        simp only [Bool.and_eq_true] at hok
        simp only [Option.some.injEq, Prod.mk.injEq] at h; obtain ⟨rfl, rfl⟩ := h
        obtain ⟨hK, hzv, _⟩ := hp
        obtain ⟨rfl, hsh⟩ := keySV_rep hkey hy (oneSV_one hok.2 hy)
        obtain ⟨es, clock, h1, h2, h3, h4, h5, h6⟩ := hH.hp k _ hg
        obtain ⟨kc, _, kf⟩ := hK kk hsh w
        rw [show u = _ from hx]
        have ho : (getObj (ρ k).b).run P w = .ok (.map es clock) w := MapKept.run_getObj_map h1
        obtain ⟨zv, z1, z2⟩ := zeroA_run (ρ := ρ) hz ⟨w, F⟩ w
        have fin : ∀ (val : Value) (ok : Bool), ARep ⟨w, F⟩ ρ (v kk) val → ok = has kk → ∃ r, (Result.ok (α := Value) (if c then .tuple #[val, .bool ok] else val) w) = .ok r w ∧ ERep ⟨w, F⟩ ρ (match c with | true => .t [.a (v kk), .a (.d (.v (.bool (has kk))))] | false => .s (.a (v kk))) r := fun val ok hv ho => by
          subst ho
          cases c with
          | true => exact ⟨_, rfl, _, rfl, _, _, rfl, hv, _, _, rfl, rfl, rfl⟩
          | false => exact ⟨_, rfl, hv⟩
        rcases kf es.toList (fun e he => let ⟨b, p, q, _⟩ := h3 e he; ⟨b, p, q⟩) with ⟨f1, f2⟩ | ⟨j, e, f1, f2, f3⟩
        · have hn : has kk = false := by
            cases hh : has kk with
            | false => rfl
            | true => obtain ⟨e, e1, e2⟩ := h4 kk hsh hh; exact absurd e2 (f2 e e1)
          obtain ⟨r, r1, r2⟩ := fin zv false (by rw [hzv hn]; exact z2) hn.symm
          refine ⟨r, ?_, r2⟩
          rw [← r1]
          simp [Instr.lookup, run_underlying ht, ho, kc, f1, z1]
        · have he : e ∈ es.toList := List.mem_of_getElem? f2
          obtain ⟨g1, g2⟩ := found (m := ⟨w, F⟩) (loc := ρ k) (mt := mt) (rf := rf) hok.1 hsh h3 he f3
          obtain ⟨r, r1, r2⟩ := fin e.val true g2 g1.symm
          refine ⟨r, ?_, r2⟩
          rw [← r1]
          simp [Instr.lookup, run_underlying ht, ho, kc, f1]
      · cases h
    · cases h
  · cases h
/-- A map with one key told anew. -/
def hasU (has : KK → Bool) (kk : KK) : KK → Bool := fun j => sel (decide (j = kk)) true (has j)
def valU (v : KK → AV) (kk : KK) (y : AV) : KK → AV := fun j => selA (decide (j = kk)) y (v j)
theorem hasU_eq (has : KK → Bool) (kk j : KK) : hasU has kk j = if j = kk then true else has j := by
  unfold hasU sel
  by_cases h : j = kk
  · subst h; simp
  · simp [h]
theorem valU_eq (v : KK → AV) (kk : KK) (y : AV) (j : KK) : valU v kk y j = if j = kk then y else v j := by
  unfold valU; rw [selA_eq]; unfold sel
  by_cases h : j = kk
  · subst h; simp
  · simp [h]
theorem uniq {L : List MapEntry} (h : L.Pairwise fun a b => a.key ≠ b.key) {i n : Nat} {x y : MapEntry} (hi : L[i]? = some x) (hn : L[n]? = some y) (hk : x.key = y.key) : i = n := by
  have h' := List.pairwise_iff_getElem.1 h
  obtain ⟨i1, rfl⟩ := List.getElem?_eq_some_iff.1 hi
  obtain ⟨n1, rfl⟩ := List.getElem?_eq_some_iff.1 hn
  rcases Nat.lt_trichotomy i n with hlt | e | hlt
  · exact absurd hk (h' i n i1 n1 hlt)
  · exact e
  · exact absurd hk.symm (h' n i n1 i1 hlt)
theorem update_run {t kt et mt : TypeId} {ag : Bool} {qs : List AS} {has : KK → Bool} {v : KK → AV} {rf : List Nat} {gh : List KK} {kk : KK} {y : AV} {val : Value} {k : Nat} (ht : P.underlying t = some (.map kt et)) (hok : okQ ag qs = true) (hK : KeyOk P kt ag qs) (hsh : shQ qs kk = true) (hrf : ∀ j ∈ y.refs, j ∈ rf)
    (hb : BRep ⟨w, F⟩ ρ (ρ k) (.mp mt ag qs has v rf gh)) (hy : ARep ⟨w, F⟩ ρ y val) :
    ∃ o, (Instr.mapUpdate t (.map (some (ρ k).b)) (kV ag qs kk) val).run P w = .ok () { w with heap := w.heap.setIfInBounds (ρ k).b o } ∧
      (Mem.le ⟨w, F⟩ ⟨{ w with heap := w.heap.setIfInBounds (ρ k).b o }, F⟩ → BRep ⟨{ w with heap := w.heap.setIfInBounds (ρ k).b o }, F⟩ ρ (ρ k) (.mp mt ag qs (hasU has kk) (valU v kk y) rf gh)) := by
  obtain ⟨es, clock, h1, h2, h3, h4, h5, h6⟩ := hb
  have h1 : w.heap[(ρ k).b]? = some (.map es clock) := h1
  obtain ⟨kc, ks, kf⟩ := hK kk hsh w
  have hlt : (ρ k).b < w.heap.size := (Array.getElem?_eq_some_iff.1 h1).1
  have hat : ∀ o, ({ w with heap := w.heap.setIfInBounds (ρ k).b o } : World).heap[(ρ k).b]? = some o := fun o => by
    show (w.heap.setIfInBounds (ρ k).b o)[(ρ k).b]? = _
    simp [hlt]
  have h6' : ∀ j, ∀ i ∈ (valU v kk y j).refs, i ∈ rf := fun j i hi => by
    rw [valU_eq] at hi
    split at hi
    · exact hrf i hi
    · exact h6 j i hi
  rcases kf es.toList (fun e he => let ⟨b, p, q, _⟩ := h3 e he; ⟨b, p, q⟩) with ⟨f1, f2⟩ | ⟨i, e, f1, f2, f3⟩
  · refine ⟨.map (es.push { key := kV ag qs kk, val := val, born := clock }) (clock + 1), ?_, fun hle => ⟨_, _, hat _, h2, fun e he => ?_, fun j hj hh => ?_, ?_, h6'⟩⟩
    · simp [Instr.mapUpdate, run_underlying ht, MapKept.run_getObj_map h1, kc, f1, MapKept.run_setObj_map _ h1]
    · simp only [Array.toList_push, List.mem_append, List.mem_singleton] at he
      rcases he with he | rfl
      · obtain ⟨j, a, b, c, d⟩ := h3 e he
        have hne : j ≠ kk := fun e' => f2 e he (by rw [b, e'])
        refine ⟨j, a, b, by rw [hasU_eq, if_neg hne]; exact c, ?_⟩
        rw [valU_eq, if_neg hne]; exact d.mono hle
      · refine ⟨kk, hsh, rfl, by rw [hasU_eq, if_pos rfl], ?_⟩
        rw [valU_eq, if_pos rfl]; exact hy.mono hle
    · rw [hasU_eq] at hh
      split at hh
      · rename_i e; subst e
        exact ⟨_, by rw [Array.toList_push]; exact List.mem_append_right _ (List.mem_singleton.2 rfl), rfl⟩
      · obtain ⟨e, e1, e2⟩ := h4 j hj hh
        exact ⟨e, by rw [Array.toList_push]; exact List.mem_append_left _ e1, e2⟩
    · rw [Array.toList_push]
      refine List.pairwise_append.2 ⟨h5, by simp, fun a ha b hb => ?_⟩
      rw [List.mem_singleton.1 hb]
      exact f2 a ha
  · have hi : i < es.toList.length := by
      rcases Nat.lt_or_ge i es.toList.length with h | h
      · exact h
      · rw [List.getElem?_eq_none h] at f2; cases f2
    have he : e ∈ es.toList := List.mem_of_getElem? f2
    have f2' : es[i]? = some e := by simpa using f2
    have hmod : (es.modify i fun x => { x with key := kV ag qs kk, val := val }).toList = es.toList.set i { e with key := kV ag qs kk, val := val } := by
      apply List.ext_getElem?
      intro j
      rw [Array.getElem?_toList, Array.getElem?_modify, List.getElem?_set]
      by_cases hj : i = j
      · subst hj
        simp [f2', hi]
        try exact hi
      · simp [hj]
    refine ⟨.map (es.modify i fun x => { x with key := kV ag qs kk, val := val }) clock, ?_, fun hle => ⟨_, _, hat _, h2, fun x hx => ?_, fun j hj hh => ?_, ?_, h6'⟩⟩
    · simp [Instr.mapUpdate, run_underlying ht, MapKept.run_getObj_map h1, kc, f1, f2', f3, Instr.keyThatStays, ks, MapKept.run_setObj_map _ h1]
      try simpa using hi
    · rw [hmod] at hx
      obtain ⟨n, hn⟩ := List.getElem?_of_mem hx
      rw [List.getElem?_set] at hn
      by_cases hni : i = n
      · rw [if_pos hni, if_pos hi] at hn
        simp only [Option.some.injEq] at hn
        subst hn
        refine ⟨kk, hsh, rfl, by rw [hasU_eq, if_pos rfl], ?_⟩
        rw [valU_eq, if_pos rfl]; exact hy.mono hle
      · rw [if_neg hni] at hn
        obtain ⟨j, a, b, c, d⟩ := h3 x (List.mem_of_getElem? hn)
        have hne : j ≠ kk := fun e' => hni (uniq h5 f2 hn (by rw [f3, b, e']))
        refine ⟨j, a, b, by rw [hasU_eq, if_neg hne]; exact c, ?_⟩
        rw [valU_eq, if_neg hne]; exact d.mono hle
    · rw [hasU_eq] at hh
      rw [hmod]
      by_cases hjk : j = kk
      · subst hjk
        exact ⟨_, List.mem_set hi _, rfl⟩
      · rw [if_neg hjk] at hh
        obtain ⟨x, e1, e2⟩ := h4 j hj hh
        refine ⟨x, ?_, e2⟩
        obtain ⟨n, hn⟩ := List.getElem?_of_mem e1
        have hni : n ≠ i := fun e' => by
          subst e'; rw [f2] at hn
          simp only [Option.some.injEq] at hn; subst hn
          exact hjk (kV_inj hok hj hsh (e2.symm.trans f3))
        exact List.mem_of_getElem? (i := n) (by rw [List.getElem?_set_ne (Ne.symm hni)]; exact hn)
    · rw [hmod]
      have hk : (es.toList.set i { e with key := kV ag qs kk, val := val }).map (·.key) = es.toList.map (·.key) := by
        rw [List.map_set]
        apply List.ext_getElem?
        intro n
        rw [List.getElem?_set]
        by_cases hn : i = n
        · subst hn
          rw [if_pos rfl, if_pos (by simpa using hi), List.getElem?_map, f2]
          simp [f3]
        · rw [if_neg hn]
      have h5' : (es.toList.map (·.key)).Pairwise (· ≠ ·) := List.pairwise_map.2 h5
      rw [← hk] at h5'
      exact List.pairwise_map.1 h5'
end
end Go.Dx
