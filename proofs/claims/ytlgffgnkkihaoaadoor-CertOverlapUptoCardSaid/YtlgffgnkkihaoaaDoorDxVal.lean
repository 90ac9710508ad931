/- Operations that only yield a value: what they yield of what is known, under which conditions. -/
import Derived.Test.YtlgffgnkkihaoaaDoorDxSt
import Derived.Laws.StructEq
import Derived.Laws.BytesArg
import Derived.Laws.Slices
import Derived.Laws.Bits64
import Derived.Laws.BitsAllLaws
namespace Go.Dx
open Go.RowKit
set_option linter.unusedVariables false
set_option linter.unusedSimpArgs false

def allP : List Prop → Prop
  | [] => True
  | p :: r => p ∧ allP r
abbrev Res := Option (List Prop × EV)

def getG : List (Nat × List DC) → Nat → Option (List DC)
  | [], _ => none
  | (k, v) :: r, t => match Nat.beq k t with
    | true => some v
    | false => getG r t
theorem getG_mem {cs : List DC} : ∀ {G : List (Nat × List DC)} {t : Nat}, getG G t = some cs → (t, cs) ∈ G
  | (k, v) :: r, t, h => by
    simp only [getG] at h
    split at h
    · rename_i hk
      have := Nat.eq_of_beq_eq_true hk
      subst this
      simp only [Option.some.injEq] at h; subst h; simp
    · exact List.mem_cons_of_mem _ (getG_mem h)
def ev (G : List (Nat × List DC)) (l : Env) : Operand → Option EV
  | .tmp t => getE l t
  | .const v => some (.s (.a (.d (.v v))))
  | .global g => match getG G g with
    | some cs => some (.s (.a (.d (.pt cs))))
    | none => some (.s (.a (.d (.v (.pointer (some ⟨g, 0, none⟩))))))
  | .func f => some (.s (.a (.d (.v (.func (.func f) #[] #[])))))

section
variable {P : Program} {C : Ctx} {F : Nat → Prop} {ρ : Nat → Loc} {l : Env} {H : Heap} {a : Act} {w : World} {G : List (Nat × List DC)}

theorem St.ev (h : St C F ρ l H a w) (hG : C.G = G) {x : Operand} {e : EV} (hx : Dx.ev G l x = some e) : ERep ⟨w, F⟩ ρ e (a.eval x) := by
  cases x with
  | tmp t => exact h.env t e hx
  | const v => simp only [Dx.ev, Option.some.injEq] at hx; subst hx; exact rfl
  | func f => simp only [Dx.ev, Option.some.injEq] at hx; subst hx; exact rfl
  | global g =>
    simp only [Dx.ev] at hx
    split at hx
    · rename_i cs hg
      simp only [Option.some.injEq] at hx; subst hx
      exact h.gl g cs (hG ▸ getG_mem hg)
    · simp only [Option.some.injEq] at hx; subst hx; exact rfl

/-! types -/
def isAggB (P : Program) (t : TypeId) : Option Bool :=
  match P.underlying t with
  | some (.struct _) => some true
  | some (.array _ _) => some true
  | some _ => some false
  | none => none
theorem isAggB_run {t : TypeId} {b : Bool} (h : isAggB P t = some b) (w : World) : (isAgg t).run P w = .ok b w := by
  unfold isAggB at h
  unfold isAgg
  cases hu : P.underlying t with
  | none => simp [hu] at h
  | some d =>
    rw [Sem.run_bind, run_underlying hu w]
    rw [hu] at h
    cases d <;> simp at h <;> subst h <;> rfl
def szT (P : Program) (t : TypeId) : Option Nat := (P.info? t).map (·.size)
theorem szT_run {t : TypeId} {n : Nat} (h : szT P t = some n) (w : World) : (sizeOf t).run P w = .ok n w := by
  unfold szT at h
  cases hi : P.info? t with
  | none => simp [hi] at h
  | some i => rw [hi] at h; simp at h; subst h; simp [sizeOf, typeInfo, hi]

/-- What a load gives, of chunks from an offset on. -/
def ldC (P : Program) (t : TypeId) (cs : List Chunk) (off : Nat) : Option SV :=
  match isAggB P t, szT P t, dropC cs off with
  | some true, some n, some r => match takeC r n with
    | some s => some (.agg s)
    | none => none
  | some false, _, some (.one x :: _) => some (.a x)
  | some false, _, some (.ints k (_ + 1) xs :: _) => some (.a (.d (.v (.int k (xs.getD 0 0)))))
  | _, _, _ => none
theorem ldC_at {t : TypeId} {cs : List Chunk} {off : Nat} {x : SV} {m : Mem} {vs cells : List Value} {o : Nat} (hl : ldC P t cs off = some x) (hk : KRep m ρ cs vs) (hv : ∀ j v, vs[j]? = some v → cells[o + j]? = some v) :
    (∃ n us, isAggB P t = some true ∧ szT P t = some n ∧ us.length = n ∧ (∀ j v, us[j]? = some v → cells[o + off + j]? = some v) ∧ off + n ≤ vs.length ∧ us = (vs.drop off).take n ∧ SRep m ρ x (.agg us.toArray)) ∨
    (∃ u, isAggB P t = some false ∧ cells[o + off]? = some u ∧ vs[off]? = some u ∧ SRep m ρ x u ∧ u.oneCell' = true) := by
  unfold ldC at hl
  split at hl
  · rename_i n r hag hsz hd
    split at hl
    · rename_i s hs
      simp only [Option.some.injEq] at hl; subst hl
      obtain ⟨h1, h2⟩ := dropC_rep hk hd
      obtain ⟨h3, h4⟩ := takeC_rep h2 hs
      simp only [List.length_drop] at h3
      refine .inl ⟨n, (vs.drop off).take n, hag, hsz, by simp; omega, fun j v hj => ?_, by omega, rfl, _, rfl, h4⟩
      rw [List.getElem?_take] at hj
      split at hj
      · rw [List.getElem?_drop] at hj; rw [Nat.add_assoc]; exact hv _ _ hj
      · cases hj
    · cases hl
  · rename_i _ x' _ hag hd
    simp only [Option.some.injEq] at hl; subst hl
    obtain ⟨h1, h2⟩ := dropC_rep hk hd
    obtain ⟨v, r, e, h3, h4, h5⟩ := h2
    have : vs[off]? = some v := by
      have := congrArg (·[0]?) e
      simpa using this
    exact .inr ⟨v, hag, hv off v this, this, h4, h3⟩
  · rename_i _ k n xs _ hag hd
    simp only [Option.some.injEq] at hl; subst hl
    obtain ⟨h1, h2⟩ := dropC_rep hk hd
    obtain ⟨r, e, h3, h4⟩ := h2
    have hx : xs[0]? = some (xs.getD 0 0) := by cases xs <;> simp_all
    have : vs[off]? = some (.int k (xs.getD 0 0)) := by
      have h := congrArg (·[0]?) e
      cases xs with
      | nil => simp at h3
      | cons x xs => simpa using h
    exact .inr ⟨_, hag, hv off _ this, this, rfl, rfl⟩
  · cases hl
theorem ldC_load {t : TypeId} {cs : List Chunk} {off : Nat} {x : SV} {F : Nat → Prop} {w : World} {vs cells : List Value} {g o : Nat} {ty : TypeId} {fr : Nat × Nat} (hl : ldC P t cs off = some x) (hk : KRep ⟨w, F⟩ ρ cs vs) (hg : w.heap[g]? = some (.cells cells.toArray ty fr))
    (hv : ∀ j v, vs[j]? = some v → cells[o + j]? = some v) : ∃ u, (loadVar t ⟨g, o + off, none⟩).run P w = .ok u w ∧ SRep ⟨w, F⟩ ρ x u := by
  rcases ldC_at hl hk hv with ⟨n, us, hag, hsz, hlen, hus, _, _, hr⟩ | ⟨u, hag, hu, _, hr, _⟩
  · refine ⟨_, ?_, hr⟩
    have hlc : (loadCells ⟨g, o + off, none⟩ us.length).run P w = .ok us.toArray w :=
      run_loadCells_list (P := P) w ⟨g, o + off, none⟩ us (fun j v hj => by
        rw [Addr.add_mid, cell_of_row w g (o + off + j) _ ty fr hg]
        simpa using hus j v hj)
    rw [hlen] at hlc
    simp only [loadVar, Sem.run_bind, isAggB_run hag, Result.andThen_ok, if_true, szT_run hsz, hlc, Sem.run_pure]
  · refine ⟨u, ?_, hr⟩
    have : w.cell? ⟨g, o + off, none⟩ = some u := by rw [cell_of_row w g (o + off) _ ty fr hg]; simpa using hu
    simp only [loadVar, Sem.run_bind, isAggB_run hag, Result.andThen_ok, Bool.false_eq_true, if_false]
    simp [this]
theorem ldC_part {t : TypeId} {cs : List Chunk} {off : Nat} {x : SV} {m : Mem} {vs : List Value} (hl : ldC P t cs off = some x) (hk : KRep m ρ cs vs) (w : World) : ∃ u, (part t vs.toArray off).run P w = .ok u w ∧ SRep m ρ x u := by
  rcases ldC_at (cells := vs) (o := 0) hl hk (fun j v hj => by simpa using hj) with ⟨n, us, hag, hsz, hlen, hus, hle, he, hr⟩ | ⟨u, hag, hu, _, hr, _⟩
  · refine ⟨_, ?_, hr⟩
    simp only [part, Sem.run_bind, isAggB_run hag, Result.andThen_ok, if_true, szT_run hsz, Sem.run_pure]
    congr 2
    apply Array.ext'
    simp only [List.extract_toArray, List.extract_eq_take_drop, he]
    simp
  · refine ⟨u, ?_, hr⟩
    simp only [part, Sem.run_bind, isAggB_run hag, Result.andThen_ok, Bool.false_eq_true, if_false, List.getElem?_toArray]
    rw [show vs[off]? = some u by simpa using hu]
    simp

/-! numbers -/
def bAnd (k : IntKind) (x y : Int) : Int := k.wrap (BitVec.ofInt k.bits x &&& BitVec.ofInt k.bits y).toNat
def bOr (k : IntKind) (x y : Int) : Int := k.wrap (BitVec.ofInt k.bits x ||| BitVec.ofInt k.bits y).toNat
def bXor (k : IntKind) (x y : Int) : Int := k.wrap (BitVec.ofInt k.bits x ^^^ BitVec.ofInt k.bits y).toNat
def bAndNot (k : IntKind) (x y : Int) : Int := k.wrap (BitVec.ofInt k.bits x &&& ~~~ BitVec.ofInt k.bits y).toNat
def eI (k : IntKind) (x : Int) : EV := .s (.a (.d (.v (.int k x))))
def eB (b : Bool) : EV := .s (.a (.d (.v (.bool b))))
def bopI (op : BinOp) (k : IntKind) (x y : Int) : Res :=
  match op with
  | .add => some ([], eI k (k.wrap (x + y)))
  | .sub => some ([], eI k (k.wrap (x - y)))
  | .mul => some ([], eI k (k.wrap (x * y)))
  | .quo => some ([y ≠ 0], eI k (k.wrap (Int.tdiv x y)))
  | .rem => some ([y ≠ 0], eI k (Int.tmod x y))
  | .and => some ([], eI k (bAnd k x y))
  | .or => some ([], eI k (bOr k x y))
  | .xor => some ([], eI k (bXor k x y))
  | .andNot => some ([], eI k (bAndNot k x y))
  | .eql => some ([], eB (x == y))
  | .neq => some ([], eB (x != y))
  | .lss => some ([], eB (decide (x < y)))
  | .leq => some ([], eB (decide (x ≤ y)))
  | .gtr => some ([], eB (decide (x > y)))
  | .geq => some ([], eB (decide (x ≥ y)))
  | _ => none
def shiftI (op : BinOp) (k : IntKind) (x y : Int) : Res :=
  match op with
  | .shl => some ([0 ≤ y], eI k (k.wrap (x * 2 ^ (min y.toNat k.bits))))
  | .shr => some ([0 ≤ y], eI k (x.fdiv (2 ^ (min y.toNat k.bits))))
  | _ => none
theorem kind_eq (k k' : IntKind) (h : (match k, k' with | .i8, .i8 | .i16, .i16 | .i32, .i32 | .i64, .i64 | .u8, .u8 | .u16, .u16 | .u32, .u32 | .u64, .u64 => true | _, _ => false) = true) : k = k' := by
  cases k <;> cases k' <;> first | rfl | cases h
def kindB (k k' : IntKind) : Bool := match k, k' with | .i8, .i8 | .i16, .i16 | .i32, .i32 | .i64, .i64 | .u8, .u8 | .u16, .u16 | .u32, .u32 | .u64, .u64 => true | _, _ => false
def isShift : BinOp → Bool
  | .shl | .shr => true
  | _ => false
theorem bopI_run {op : BinOp} {k : IntKind} {x y : Int} {ps : List Prop} {e : EV} (h : bopI op k x y = some (ps, e)) (hp : allP ps) (t : TypeId) (m : Mem) (w : World) : ∃ u, (binOp op t (.int k x) (.int k y)).run P w = .ok u w ∧ ERep m ρ e u := by
  cases op <;> simp only [bopI, Option.some.injEq, Prod.mk.injEq, reduceCtorEq] at h <;> obtain ⟨rfl, rfl⟩ := h <;>
    simp only [binOp, ne_eq, not_true_eq_false, if_false, Op.intArith, Op.intBits, Op.intCmp, Op.intDiv] <;>
    first
      | exact ⟨_, rfl, rfl⟩
      | (simp only [allP] at hp; rw [if_neg hp.1]; exact ⟨_, rfl, rfl⟩)
theorem shiftI_run {op : BinOp} {k yk : IntKind} {x y : Int} {ps : List Prop} {e : EV} (h : shiftI op k x y = some (ps, e)) (hp : allP ps) (t : TypeId) (m : Mem) (w : World) : ∃ u, (binOp op t (.int k x) (.int yk y)).run P w = .ok u w ∧ ERep m ρ e u := by
  cases op <;> simp only [shiftI, Option.some.injEq, Prod.mk.injEq, reduceCtorEq] at h <;> obtain ⟨rfl, rfl⟩ := h <;>
    simp only [binOp, Op.shift] <;> simp only [allP] at hp <;> rw [if_neg (by omega)] <;> exact ⟨_, rfl, rfl⟩

/-! comparisons of values -/
def eqF (rec : TypeId → SV → SV → Option Bool) (P : Program) (xs ys : List Chunk) : List Field → Option Bool
  | [] => some true
  | f :: fs => match f.name == "_" with
    | true => eqF rec P xs ys fs
    | false => match ldC P f.type xs f.offset, ldC P f.type ys f.offset with
      | some u, some v => match rec f.type u v, eqF rec P xs ys fs with
        | some b, some c => some (b && c)
        | _, _ => none
      | _, _ => none
/-- Whether two values of a type are the same. -/
def eqV (P : Program) : Nat → TypeId → SV → SV → Option Bool
  | 0, _, _, _ => none
  | d + 1, t, x, y => match P.underlying t, x, y with
    | some .bool, .a (.d (.v (.bool a))), .a (.d (.v (.bool b))) => some (a == b)
    | some (.int _), .a (.d (.v (.int k a))), .a (.d (.v (.int k' b))) => match kindB k k' with
      | true => some (a == b)
      | false => none
    | some .string, .a (.d (.v (.string a))), .a (.d (.v (.string b))) => some (a.toList == b.toList)
    | some (.struct fs), .agg xs, .agg ys => match P.stoodInHeld t with
      | false => eqF (fun t x y => eqV P d t x y) P xs ys fs.toList
      | true => none
    | some (.array n e), .agg [.ints k m xs], .agg [.ints k' m' ys] => match P.underlying e, szT P e with
      | some (.int _), some i => match Nat.beq i 1 && (Nat.beq m n && (Nat.beq m' n && (Nat.ble 1 d && kindB k k'))) with
        | true => some (xs == ys)
        | false => none
      | _, _ => none
    | _, _, _ => none
theorem eqF_run {rec : TypeId → SV → SV → Option Bool} {d : Nat} {m : Mem} (hrec : ∀ t x y b u v, SRep m ρ x u → SRep m ρ y v → rec t x y = some b → ∀ w, (Op.equalIn d t u v).run P w = .ok b w) {xs ys : List Chunk} {us vs : List Value} (hx : KRep m ρ xs us) (hy : KRep m ρ ys vs) :
    ∀ {fs : List Field} {b : Bool}, eqF rec P xs ys fs = some b → ∀ w, (Op.eqFields d us.toArray vs.toArray fs).run P w = .ok b w
  | [], b, h, w => by
    simp only [eqF, Option.some.injEq] at h
    subst h
    rfl
  | f :: fs, b, h, w => by
    simp only [eqF] at h
    split at h
    · rename_i hn
      have hn' : ¬ (f.name ≠ "_") := by simpa using hn
      rw [Op.eqFields, if_neg hn']
      exact eqF_run hrec hx hy h w
    · rename_i hn
      have hn' : f.name ≠ "_" := by simpa using hn
      split at h
      · rename_i u v hu hv
        split at h
        · rename_i c e hc he
          simp only [Option.some.injEq] at h
          subst h
          obtain ⟨pu, u1, u2⟩ := ldC_part hu hx w
          obtain ⟨pv, v1, v2⟩ := ldC_part hv hy w
          have h2 := hrec f.type u v c pu pv u2 v2 hc w
          have h3 := eqF_run hrec hx hy he w
          rw [Op.eqFields, if_pos hn']
          simp only [Sem.run_bind, u1, v1, h2, Result.andThen_ok]
          cases c with
          | true => simpa using h3
          | false => simp
        · cases h
      · cases h
theorem loop_ints {D : Nat} {e : TypeId} {kk : IntKind} (he : P.underlying e = some (.int kk)) (k : IntKind) (w : World) (hq : ∀ a b, (Op.equalIn D e (.int k a) (.int k b)).run P w = .ok (a == b) w) (xs ys : List Int) :
    ∀ (m s : Nat), s + m = xs.length → xs.length = ys.length →
    ((forIn (m := Sem) (List.range' s m) ((none, ()) : Option Bool × Unit) fun i r => do
        let a ← part e (xs.map (Value.int k)).toArray (i * 1)
        let b ← part e (ys.map (Value.int k)).toArray (i * 1)
        let r ← Op.equalIn D e a b
        if (!r) = true then pure (ForInStep.done (some false, ())) else pure (ForInStep.yield (none, ()))) >>= fun r => match r.fst with | none => pure true | some b => pure b).run P w =
      .ok (xs.drop s == ys.drop s) w
  | 0, s, hs, hl => by
    simp only [List.range'_zero, List.forIn_nil, pure_bind, Sem.run_pure]
    rw [List.drop_of_length_le (by omega), List.drop_of_length_le (by omega)]
    rfl
  | m + 1, s, hs, hl => by
    have ih := loop_ints he k w hq xs ys m (s + 1) (by omega) hl
    have hag : (isAgg e).run P w = .ok false w := isAggB_run (by simp [isAggB, he]) w
    have px : ∀ zs : List Int, s < zs.length → (part e (zs.map (Value.int k)).toArray (s * 1)).run P w = .ok (.int k (zs.getD s 0)) w := fun zs hz => by
      simp only [part, Sem.run_bind, hag, Result.andThen_ok, Bool.false_eq_true, if_false, Nat.mul_one, List.getElem?_toArray, List.getElem?_map, List.getElem?_eq_getElem hz, Option.map_some, Sem.run_pure, List.getD, Option.getD_some]
    have hd : ∀ zs : List Int, s < zs.length → zs.drop s = zs.getD s 0 :: zs.drop (s + 1) := fun zs hz => by
      rw [List.drop_eq_getElem_cons hz]; simp [List.getD, List.getElem?_eq_getElem hz]
    rw [hd xs (by omega), hd ys (by omega)]
    simp only [List.range'_succ, List.forIn_cons, bind_assoc, Sem.run_bind, px xs (by omega), px ys (by omega), hq, Result.andThen_ok, Sem.run_ite]
    cases hb : (xs.getD s 0 == ys.getD s 0) with
    | false =>
      simp only [Bool.not_false, if_true, Sem.run_pure, Result.andThen_ok]
      have : (xs.getD s 0 :: xs.drop (s + 1) == ys.getD s 0 :: ys.drop (s + 1)) = false := by
        rw [List.cons_beq_cons, hb]; rfl
      rw [this]
    | true =>
      simp only [Bool.not_true, Bool.false_eq_true, if_false, Sem.run_pure, Result.andThen_ok]
      have : (xs.getD s 0 :: xs.drop (s + 1) == ys.getD s 0 :: ys.drop (s + 1)) = (xs.drop (s + 1) == ys.drop (s + 1)) := by
        rw [List.cons_beq_cons, hb]; rfl
      rw [this, ← ih]
      simp only [Sem.run_bind]
end
end Go.Dx
