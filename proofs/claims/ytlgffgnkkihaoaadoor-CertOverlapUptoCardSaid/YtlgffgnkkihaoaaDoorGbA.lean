/- Rings of keys: what was signed. -/
import Derived.Test.YtlgffgnkkihaoaaDoorYaE
import Derived.Test.YtlgffgnkkihaoaaDoorDxLst
import Derived.Test.YtlgffgnkkihaoaaDoorDxKey
namespace Go.Proofs.YtlgffgnkkihaoaaDoor
open Go.Dx Go.RowKit
set_option linter.unusedVariables false
set_option linter.unusedSimpArgs false
set_option maxRecDepth 100000
attribute [local irreducible] wpS
attribute [local irreducible] sumB joinB
theorem joinB_bulk (Ls : List (List Int)) : (joinB Ls).length = 8 + 8 * Ls.length + Ls.flatten.length := by
  have : ∀ Ls : List (List Int), (jn Ls).length = 8 * Ls.length + Ls.flatten.length := fun Ls => by
    induction Ls with
    | nil => rfl
    | cons L r ih => simp only [jn, List.length_append, be8_len, ih, List.flatten_cons, List.length_cons]; omega
  rw [joinB_len, this]; omega
theorem lit_ok {L : List Int} (h : (L.all fun x => decide (0 ≤ x ∧ x < 256)) = true) : OkB L := fun x hx => of_decide_eq_true (List.all_eq_true.1 h x hx)
/-- A signing: key, index, text. -/
abbrev SG := Int × Int × ByteArray
def sgK (x : SG) : KK := [.inl x.1, .inl x.2.1, .inr (.inl x.2.2)]
def sgG : KK → SG
  | [.inl a, .inl b, .inr (.inl s)] => (a, b, s)
  | _ => (0, 0, ⟨#[]⟩)
def ghS (L : List SG) : List KK := L.map sgK
def shS (gh : List KK) : List SG := gh.map sgG
theorem shS_ghS (L : List SG) : shS (ghS L) = L := by
  unfold shS ghS
  rw [List.map_map]
  have : (sgG ∘ sgK) = id := funext fun x => rfl
  rw [this, List.map_id]
/-- The first text of a place. -/
def firT (L : List SG) (a b : Int) : Option ByteArray := (L.find? fun x => decide (x.1 = a) && decide (x.2.1 = b)).map (·.2.2)
def reuB (L : List SG) (a : Int) : Bool := L.any fun x => decide (x.1 = a) && decide (firT L x.1 x.2.1 ≠ some x.2.2)
def cntB (L : List SG) (a : Int) : Nat := (L.filter fun x => decide (x.1 = a)).length
def madB (L : List SG) (x : SG) : Bool := L.any fun y => decide (y = x)
theorem madB_iff {L : List SG} {x : SG} : madB L x = true ↔ x ∈ L := by
  unfold madB
  rw [List.any_eq_true]
  exact ⟨fun ⟨y, h1, h2⟩ => of_decide_eq_true h2 ▸ h1, fun h => ⟨x, h, decide_eq_true rfl⟩⟩
def hasM (L : List SG) : KK → Bool
  | [.inl a, .inl b, .inr (.inl s)] => madB L (a, b, s)
  | _ => false
def valM (L : List SG) : KK → AV := fun kk => .d (.v (.bool (hasM L kk)))
def hasF (L : List SG) : KK → Bool
  | [.inl a, .inl b] => (firT L a b).isSome
  | _ => false
def strF (L : List SG) : KK → ByteArray
  | [.inl a, .inl b] => (firT L a b).getD ⟨#[]⟩
  | _ => ⟨#[]⟩
def valF (L : List SG) : KK → AV := fun kk => .d (.v (.string (strF L kk)))
def hasR (L : List SG) : KK → Bool
  | [.inl a] => reuB L a
  | _ => false
def valR (L : List SG) : KK → AV := fun kk => .d (.v (.bool (hasR L kk)))
def hasC (L : List SG) : KK → Bool
  | [.inl a] => decide (0 < cntB L a)
  | _ => false
def numC (L : List SG) : KK → Int
  | [.inl a] => cntB L a
  | _ => 0
def valC (L : List SG) : KK → AV := fun kk => .d (.v (.int .i64 (numC L kk)))
/-- The ring behind a signing. -/
def addS (L : List SG) (x : SG) : List SG := if madB L x then L else L ++ [x]
def tagB (a b : Int) (t : List Int) : List Int := sumB shaK (joinB [[115, 105, 103, 110], be8 (IntKind.wrap .u64 a), be8 (IntKind.wrap .u64 b), t])
def okKey (n b : Int) (k i : Int) : Int := if k < 0 ∨ n ≤ k then 2 else if i < 0 ∨ b ≤ i then 17 else 0
theorem str_dec (s r : ByteArray) : (s.toList == r.toList) = decide (s = r) := by
  rw [ByteArray.toList_eq, ByteArray.toList_eq]
  by_cases h : s = r
  · subst h; simp
  · rw [decide_eq_false h, beq_eq_false_iff_ne]
    intro e
    apply h
    cases s; cases r
    simp only [ByteArray.mk.injEq]
    exact Array.toList_inj.1 e
theorem keyInt : KeyOk Tryd.prog 3 false [.i .i64] := keyOk_int Tryd.underlying3
theorem sh2 {a : KK} (h : shQ [.i .i64, .i .i64] a = true) : ∃ x y, a = [.inl x, .inl y] := by
  match a, h with
  | [.inl x, .inl y], _ => exact ⟨x, y, rfl⟩
  | [], h => cases h
  | [_], h => simp [shQ] at h
  | .inr _ :: _ :: _, h => simp [shQ, atB] at h
  | [.inl _, .inr _], h => simp [shQ, atB] at h
  | _ :: _ :: _ :: _, h => simp [shQ] at h
theorem sh3 {a : KK} (h : shQ [.i .i64, .i .i64, .s] a = true) : ∃ x y s, a = [.inl x, .inl y, .inr (.inl s)] := by
  match a, h with
  | [.inl x, .inl y, .inr (.inl s)], _ => exact ⟨x, y, s, rfl⟩
  | [], h => cases h
  | [_], h => simp [shQ] at h
  | [_, _], h => simp [shQ] at h
  | .inr _ :: _ :: _ :: _, h => simp [shQ, atB] at h
  | .inl _ :: .inr _ :: _ :: _, h => simp [shQ, atB] at h
  | [.inl _, .inl _, .inl _], h => simp [shQ, atB] at h
  | [.inl _, .inl _, .inr (.inr _)], h => simp [shQ, atB] at h
  | _ :: _ :: _ :: _ :: _, h => simp [shQ] at h
theorem keyPlace : KeyOk Tryd.prog 123 true [.i .i64, .i .i64] := by
  refine keyOk_agg ⟨_, Tryd.underlying123, fun v u => rfl⟩ (fun a ha em w => ?_) (fun a ha => ?_) (fun a b ha hb => ?_)
  · obtain ⟨x, y, rfl⟩ := sh2 ha
    kernel_rfl
  · obtain ⟨x, y, rfl⟩ := sh2 ha
    simp [kV, kVs, atV, Instr.sameBits]
  · obtain ⟨x, y, rfl⟩ := sh2 ha
    obtain ⟨x', y', rfl⟩ := sh2 hb
    have e : eqV Tryd.prog 60 123 (.agg (upC (kC [.i .i64, .i .i64] [.inl x, .inl y]))) (.agg (upC (kC [.i .i64, .i .i64] [.inl x', .inl y']))) = some ((x == x') && ((y == y') && true)) := by kernel_rfl
    rw [e]
    congr 1
    simp [Bool.decide_and]
    by_cases h1 : x = x' <;> by_cases h2 : y = y' <;> simp [h1, h2]
theorem keySg : KeyOk Tryd.prog 125 true [.i .i64, .i .i64, .s] := by
  refine keyOk_agg ⟨_, Tryd.underlying125, fun v u => rfl⟩ (fun a ha em w => ?_) (fun a ha => ?_) (fun a b ha hb => ?_)
  · obtain ⟨x, y, s, rfl⟩ := sh3 ha
    kernel_rfl
  · obtain ⟨x, y, s, rfl⟩ := sh3 ha
    simp [kV, kVs, atV, Instr.sameBits]
    cases s; exact beq_self_eq_true (α := Array UInt8) _
  · obtain ⟨x, y, s, rfl⟩ := sh3 ha
    obtain ⟨x', y', s', rfl⟩ := sh3 hb
    have e : eqV Tryd.prog 60 125 (.agg (upC (kC [.i .i64, .i .i64, .s] [.inl x, .inl y, .inr (.inl s)]))) (.agg (upC (kC [.i .i64, .i .i64, .s] [.inl x', .inl y', .inr (.inl s')]))) = some (((x == x') && ((y == y') && true)) && ((s.toList == s'.toList) && true)) := by kernel_rfl
    rw [e, str_dec]
    congr 1
    by_cases h1 : x = x' <;> by_cases h2 : y = y' <;> by_cases h3 : s = s' <;> simp [h1, h2, h3]
noncomputable def ansigntag (a b : Int) (t : List Int) : Nat → List Nat → List Ann := fun _ _ => []
theorem oksigntag (a b : Int) (t : List Int) (hp : allP [OkB t, t.length + 300 ≤ lim]) : CallsOk Tryd.prog Gs 60 [.a (.d (.v (.int .i64 a))), .a (.d (.v (.int .i64 b))), .a (.d (.si .u8 t))] [] (.s (.agg [.ints .u8 32 (tagB a b t)])) [] :=
  ok_of (ann := ansigntag a b t) ctok_19 mixed Tryd.func60 (by kernel_rfl) (of_nf (p := (0 : Nat) < List.length (List.set (List.set (List.set (List.set (List.replicate ((3 : Nat) + (1 : Nat)) (0 : Int)) ((0 : Nat) * (1 : Nat)) (115 : Int)) ((1 : Nat) * (1 : Nat)) (105 : Int)) ((2 : Nat) * (1 : Nat)) (103 : Int)) ((3 : Nat) * (1 : Nat)) (110 : Int)) ∧ (∀ (L : List Int), L ∈ [List.set (List.set (List.set (List.set (List.replicate ((3 : Nat) + (1 : Nat)) (0 : Int)) ((0 : Nat) * (1 : Nat)) (115 : Int)) ((1 : Nat) * (1 : Nat)) (105 : Int)) ((2 : Nat) * (1 : Nat)) (103 : Int)) ((3 : Nat) * (1 : Nat)) (110 : Int), be8 (IntKind.wrap IntKind.u64 a), be8 (IntKind.wrap IntKind.u64 b), t] → OkB L) ∧ List.length (joinB [List.set (List.set (List.set (List.set (List.replicate ((3 : Nat) + (1 : Nat)) (0 : Int)) ((0 : Nat) * (1 : Nat)) (115 : Int)) ((1 : Nat) * (1 : Nat)) (105 : Int)) ((2 : Nat) * (1 : Nat)) (103 : Int)) ((3 : Nat) * (1 : Nat)) (110 : Int), be8 (IntKind.wrap IntKind.u64 a), be8 (IntKind.wrap IntKind.u64 b), t]) + (100 : Nat) ≤ lim ∧ sumB shaK (joinB [List.set (List.set (List.set (List.set (List.replicate ((3 : Nat) + (1 : Nat)) (0 : Int)) ((0 : Nat) * (1 : Nat)) (115 : Int)) ((1 : Nat) * (1 : Nat)) (105 : Int)) ((2 : Nat) * (1 : Nat)) (103 : Int)) ((3 : Nat) * (1 : Nat)) (110 : Int), be8 (IntKind.wrap IntKind.u64 a), be8 (IntKind.wrap IntKind.u64 b), t]) = tagB a b t ∧ True) (by kernel_rfl) (by
    obtain ⟨ht, hl, _⟩ := hp
    have hlim : lim = 68719476736 := rfl
    refine ⟨by decide, fun L hL => ?_, ?_, rfl, trivial⟩
    · simp only [List.mem_cons, List.not_mem_nil, or_false] at hL
      rcases hL with rfl | rfl | rfl | rfl
      · exact lit_ok (by decide)
      · exact be8_ok _
      · exact be8_ok _
      · exact ht
    · rw [joinB_bulk]
      simp only [List.flatten_cons, List.flatten_nil, List.length_append, List.length_set, List.length_replicate, List.length_cons, List.length_nil, be8_len]
      omega))
noncomputable def gsigntag : Con := fun args H => match args, H with
  | [.a (.d (.v (.int .i64 a))), .a (.d (.v (.int .i64 b))), .a (.d (.si .u8 t))], [] => some ⟨[OkB t, t.length + 300 ≤ lim], .s (.agg [.ints .u8 32 (tagB a b t)]), []⟩
  | _, _ => none
theorem vsigntag : Valid Tryd.prog Gs 60 gsigntag := by
  intro args H r h hp
  unfold gsigntag at h
  split at h
  · simp only [Option.some.injEq] at h; subst h; exact oksigntag _ _ _ hp
  · cases h
noncomputable def ct_signtag : List (Nat × Ct) := (60, ⟨[], false, gsigntag, none⟩) :: ct_19
theorem ctok_signtag : CtsOk Tryd.prog Gs ct_signtag := CtsOk.cons vsigntag (by kernel_rfl) ctok_19
noncomputable def ansignNewy (n b : Int) : Nat → List Nat → List Ann := fun _ _ => []
theorem oksignNewy (n b : Int) (hp : allP [1 ≤ n ∧ n ≤ 12 ∧ 1 ≤ b ∧ b ≤ 65536]) : CallsOk Tryd.prog Gs 24 [.a (.d (.v (.int .i64 n))), .a (.d (.v (.int .i64 b)))] [] (.s (.a (.lp 4 0))) [(0, .mp 107 false [.i .i64] (hasC []) (valC []) [] (ghS [])), (1, .mp 106 false [.i .i64] (hasR []) (valR []) [] (ghS [])), (2, .mp 105 true [.i .i64, .i .i64] (hasF []) (valF []) [] (ghS [])), (3, .mp 104 true [.i .i64, .i .i64, .s] (hasM []) (valM []) [] (ghS [])), (4, .cells [.one (.d (.v (.int .i64 (n)))), .one (.d (.v (.int .i64 (b)))), .one (.mp 3), .one (.mp 2), .one (.mp 1), .one (.mp 0)] 109)] :=
  ok_of (ann := ansignNewy n b) ctok_signtag mixed Tryd.func24 (by kernel_rfl) (of_nf (p := brP (decide (n < (1 : Int))) (BadM [(800004 : Nat), (0 : Nat), (800005 : Nat), (0 : Nat), (1 : Nat), (2 : Nat), (3 : Nat), (4 : Nat)]) (brP (decide (n > (12 : Int))) (BadM [(800004 : Nat), (0 : Nat), (800005 : Nat), (0 : Nat), (1 : Nat), (2 : Nat), (3 : Nat), (4 : Nat)]) (brP (decide (b < (1 : Int))) (BadM [(800004 : Nat), (0 : Nat), (800005 : Nat), (0 : Nat), (1 : Nat), (2 : Nat), (3 : Nat), (4 : Nat)]) (brP (decide (b > (65536 : Int))) (BadM [(800004 : Nat), (0 : Nat), (800005 : Nat), (0 : Nat), (1 : Nat), (2 : Nat), (3 : Nat), (4 : Nat)]) (MpEq [AS.i IntKind.i64] (fun (x : KK) => false) (hasC []) (fun (x : KK) => AV.d (D.v (Value.int IntKind.i64 (0 : Int)))) (valC []) [] ∧ MpEq [AS.i IntKind.i64] (fun (x : KK) => false) (hasR []) (fun (x : KK) => AV.d (D.v (Value.bool false))) (valR []) [] ∧ MpEq ([AS.i IntKind.i64] ++ ([AS.i IntKind.i64] ++ [])) (fun (x : KK) => false) (hasF []) (fun (x : KK) => AV.d (D.v (Value.string { data := #[] }))) (valF []) [] ∧ MpEq ([AS.i IntKind.i64] ++ ([AS.i IntKind.i64] ++ []) ++ ([AS.s] ++ [])) (fun (x : KK) => false) (hasM []) (fun (x : KK) => AV.d (D.v (Value.bool false))) (valM []) [] ∧ n = n ∧ b = b ∧ True))))) (by kernel_rfl) (by
    obtain ⟨h, _⟩ := hp
    refine brI (fun hc => by have := of_decide_eq_true hc; omega) (fun _ => brI (fun hc => by have := of_decide_eq_true hc; omega) (fun _ => brI (fun hc => by have := of_decide_eq_true hc; omega) (fun _ => brI (fun hc => by have := of_decide_eq_true hc; omega) (fun _ => ?_))))
    refine ⟨MpEq.of (fun kk => ?_) (fun kk hsk => ?_) fun _ => rfl, MpEq.of (fun kk => ?_) (fun kk hsk => ?_) fun _ => rfl, MpEq.of (fun kk => ?_) (fun kk hsk => ?_) fun _ => rfl, MpEq.of (fun kk => ?_) (fun kk hsk => ?_) fun _ => rfl, rfl, rfl, trivial⟩
    · unfold hasC; split <;> rfl
    · unfold valC numC; split <;> rfl
    · unfold hasR; split <;> rfl
    · unfold valR hasR; split <;> rfl
    · unfold hasF; split <;> rfl
    · unfold valF strF; split <;> rfl
    · unfold hasM; split <;> rfl
    · unfold valM hasM; split <;> rfl))
noncomputable def ansignNewn (n b : Int) : Nat → List Nat → List Ann := fun _ _ => []
theorem oksignNewn (n b : Int) (hp : allP [¬ (1 ≤ n ∧ n ≤ 12 ∧ 1 ≤ b ∧ b ≤ 65536)]) : CallsOk Tryd.prog Gs 24 [.a (.d (.v (.int .i64 n))), .a (.d (.v (.int .i64 b)))] [] (.s (.a (.d (.v (.pointer none))))) [] :=
  ok_of (ann := ansignNewn n b) ctok_signtag mixed Tryd.func24 (by kernel_rfl) (of_nf (p := brP (decide (n < (1 : Int))) True (brP (decide (n > (12 : Int))) True (brP (decide (b < (1 : Int))) True (brP (decide (b > (65536 : Int))) True (BadM [(800000 : Nat)]))))) (by kernel_rfl) (by
    obtain ⟨h, _⟩ := hp
    refine brI (fun _ => trivial) (fun h1 => brI (fun _ => trivial) (fun h2 => brI (fun _ => trivial) (fun h3 => brI (fun _ => trivial) (fun h4 => ?_))))
    have := of_decide_eq_false h1; have := of_decide_eq_false h2; have := of_decide_eq_false h3; have := of_decide_eq_false h4
    omega))
noncomputable def gsignNew : Con := fun args H => match args, H with
  | [.a (.d (.v (.int .i64 n))), .a (.d (.v (.int .i64 b)))], [] => some ⟨[1 ≤ n ∧ n ≤ 12 ∧ 1 ≤ b ∧ b ≤ 65536], .s (.a (.lp 4 0)), [(0, .mp 107 false [.i .i64] (hasC []) (valC []) [] (ghS [])), (1, .mp 106 false [.i .i64] (hasR []) (valR []) [] (ghS [])), (2, .mp 105 true [.i .i64, .i .i64] (hasF []) (valF []) [] (ghS [])), (3, .mp 104 true [.i .i64, .i .i64, .s] (hasM []) (valM []) [] (ghS [])), (4, .cells [.one (.d (.v (.int .i64 (n)))), .one (.d (.v (.int .i64 (b)))), .one (.mp 3), .one (.mp 2), .one (.mp 1), .one (.mp 0)] 109)]⟩
  | _, _ => none
theorem vsignNew : Valid Tryd.prog Gs 24 gsignNew := by
  intro args H r h hp
  unfold gsignNew at h
  split at h
  · simp only [Option.some.injEq] at h; subst h; exact oksignNewy _ _ hp
  · cases h
noncomputable def gsignNewF : Con := fun args H => match args, H with
  | [.a (.d (.v (.int .i64 n))), .a (.d (.v (.int .i64 b)))], [] => some ⟨[¬ (1 ≤ n ∧ n ≤ 12 ∧ 1 ≤ b ∧ b ≤ 65536)], .s (.a (.d (.v (.pointer none)))), []⟩
  | _, _ => none
theorem vsignNewF : Valid Tryd.prog Gs 24 gsignNewF := by
  intro args H r h hp
  unfold gsignNewF at h
  split at h
  · simp only [Option.some.injEq] at h; subst h; exact oksignNewn _ _ hp
  · cases h
noncomputable def spsignNew : List SV → Heap → Option Bool := fun args H => match args, H with
  | [.a (.d (.v (.int .i64 n))), .a (.d (.v (.int .i64 b)))], _ => some (decide (1 ≤ n ∧ n ≤ 12 ∧ 1 ≤ b ∧ b ≤ 65536))
  | _, _ => none
noncomputable def ct_signNew : List (Nat × Ct) := (24, ⟨[], false, gsignNew, some (spsignNew, gsignNewF)⟩) :: ct_signtag
theorem ctok_signNew : CtsOk Tryd.prog Gs ct_signNew := CtsOk.cons vsignNew (by kernel_rfl) ctok_signtag (by intro s h; simp only [Option.some.injEq] at h; subst h; exact vsignNewF)
def sigI (n b k i : Int) : Int := if okKey n b k i = 0 then i else 0
def sigT (n b k i : Int) (t : List Int) : List Int := if okKey n b k i = 0 then tagB k i t else List.replicate 32 0
theorem find_snoc {p : SG → Bool} (L : List SG) (x : SG) : (L ++ [x]).find? p = match L.find? p with | some y => some y | none => if p x then some x else none := by
  rw [List.find?_append]
  cases L.find? p with
  | some y => rfl
  | none => simp only [Option.none_or, List.find?_cons, List.find?_nil]; cases p x <;> rfl
theorem firT_snoc (L : List SG) (x : SG) (a b : Int) : firT (L ++ [x]) a b = match firT L a b with | some s => some s | none => if x.1 = a ∧ x.2.1 = b then some x.2.2 else none := by
  unfold firT
  rw [find_snoc]
  cases h : L.find? (fun x => decide (x.1 = a) && decide (x.2.1 = b)) with
  | some y => rfl
  | none =>
    simp only [Option.map_none]
    by_cases h1 : x.1 = a <;> by_cases h2 : x.2.1 = b <;> simp [h1, h2]
theorem firT_mem {L : List SG} {y : SG} (h : y ∈ L) : ∃ s, firT L y.1 y.2.1 = some s := by
  unfold firT
  cases hf : L.find? (fun x => decide (x.1 = y.1) && decide (x.2.1 = y.2.1)) with
  | some z => exact ⟨_, rfl⟩
  | none =>
    have := List.find?_eq_none.1 hf y h
    simp at this
theorem firT_in {L : List SG} {a b : Int} {s : ByteArray} (h : firT L a b = some s) : (a, b, s) ∈ L := by
  unfold firT at h
  obtain ⟨z, h1, h2⟩ := Option.map_eq_some_iff.1 h
  have h3 := List.find?_some h1
  have h4 := List.mem_of_find?_eq_some h1
  simp only [Bool.and_eq_true, decide_eq_true_eq] at h3
  obtain ⟨z1, z2, z3⟩ := z
  simp only at h2 h3
  rw [← h3.1, ← h3.2, ← h2]; exact h4
theorem cnt_snoc (L : List SG) (x : SG) (a : Int) : cntB (L ++ [x]) a = cntB L a + if x.1 = a then 1 else 0 := by
  unfold cntB
  rw [List.filter_append, List.length_append]
  by_cases h : x.1 = a <;> simp [h]
theorem reu_snoc (L : List SG) (x : SG) (a : Int) : reuB (L ++ [x]) a = (reuB L a || (decide (x.1 = a) && decide (∃ s, firT L x.1 x.2.1 = some s ∧ s ≠ x.2.2))) := by
  unfold reuB
  rw [List.any_append]
  congr 1
  · rw [Bool.eq_iff_iff, List.any_eq_true, List.any_eq_true]
    have same : ∀ y ∈ L, firT (L ++ [x]) y.1 y.2.1 = firT L y.1 y.2.1 := fun y hy => by
      obtain ⟨s, hs⟩ := firT_mem hy
      rw [firT_snoc, hs]
    constructor
    · rintro ⟨y, hy, h⟩; rw [same y hy] at h; exact ⟨y, hy, h⟩
    · rintro ⟨y, hy, h⟩; rw [← same y hy] at h; exact ⟨y, hy, h⟩
  · simp only [List.any_cons, List.any_nil, Bool.or_false]
    congr 1
    rw [firT_snoc]
    cases h : firT L x.1 x.2.1 with
    | none => simp
    | some s => simp
theorem mad_snoc (L : List SG) (x y : SG) : madB (L ++ [x]) y = (madB L y || decide (x = y)) := by
  unfold madB; rw [List.any_append]; simp
def sgn (n b : Int) (L : List SG) (k i : Int) (s : ByteArray) : List SG := if okKey n b k i = 0 then addS L (k, i, s) else L
noncomputable def ansignRingSign (n b : Int) (L : List SG) (k i : Int) (t : List Int) : Nat → List Nat → List Ann := fun _ _ => []
theorem oksignRingSign (n b : Int) (L : List SG) (k i : Int) (t : List Int) (hp : allP [OkB t, t.length + 300 ≤ lim, L.length < 1099511627776]) : CallsOk Tryd.prog Gs 29 [.a (.lp 100004 0), .a (.d (.v (.int .i64 k))), .a (.d (.v (.int .i64 i))), .a (.d (.si .u8 t))] [(100000, .mp 107 false [.i .i64] (hasC L) (valC L) [] (ghS L)), (100001, .mp 106 false [.i .i64] (hasR L) (valR L) [] (ghS L)), (100002, .mp 105 true [.i .i64, .i .i64] (hasF L) (valF L) [] (ghS L)), (100003, .mp 104 true [.i .i64, .i .i64, .s] (hasM L) (valM L) [] (ghS L)), (100004, .cells [.one (.d (.v (.int .i64 (n)))), .one (.d (.v (.int .i64 (b)))), .one (.mp 100003), .one (.mp 100002), .one (.mp 100001), .one (.mp 100000)] 109)] (.t [.agg [.one (.d (.v (.int .i64 (sigI n b k i)))), .ints .u8 32 (sigT n b k i t)], .a (.d (.v (.int .i64 (okKey n b k i))))]) [(100000, .mp 107 false [.i .i64] (hasC (sgn n b L k i (strOfNums t))) (valC (sgn n b L k i (strOfNums t))) [] (ghS (sgn n b L k i (strOfNums t)))), (100001, .mp 106 false [.i .i64] (hasR (sgn n b L k i (strOfNums t))) (valR (sgn n b L k i (strOfNums t))) [] (ghS (sgn n b L k i (strOfNums t)))), (100002, .mp 105 true [.i .i64, .i .i64] (hasF (sgn n b L k i (strOfNums t))) (valF (sgn n b L k i (strOfNums t))) [] (ghS (sgn n b L k i (strOfNums t)))), (100003, .mp 104 true [.i .i64, .i .i64, .s] (hasM (sgn n b L k i (strOfNums t))) (valM (sgn n b L k i (strOfNums t))) [] (ghS (sgn n b L k i (strOfNums t)))), (100004, .cells [.one (.d (.v (.int .i64 (n)))), .one (.d (.v (.int .i64 (b)))), .one (.mp 100003), .one (.mp 100002), .one (.mp 100001), .one (.mp 100000)] 109)] :=
  ok_of (ann := ansignRingSign n b L k i t) ctok_signNew mixed Tryd.func29 (by kernel_rfl) (of_nf (p := let l7 := (hasU (hasC L) [Sum.inl k]); let l6 := (hasU (hasM L) [Sum.inl k, Sum.inl i, Sum.inr (Sum.inl (strOfNums t))]); let l5 := (valU (valM L) [Sum.inl k, Sum.inl i, Sum.inr (Sum.inl (strOfNums t))] (AV.d (D.v (Value.bool true)))); let l4 := (valU (valC L) [Sum.inl k] (AV.d (D.v (Value.int IntKind.i64 (IntKind.wrap IntKind.i64 (numC L [Sum.inl k] + (1 : Int))))))); let l3 := (Cx.P (mkX Tryd.prog Gs ct_signNew Tryd.f29 (ansignRingSign n b L k i t))); let l0 := (sgn n b L k i (strOfNums t)); let l2 := ((0 : Int) = sigI n b k i ∧ List.replicate (32 : Nat) (0 : Int) = sigT n b k i t ∧ (2 : Int) = okKey n b k i ∧ MpEq [AS.i IntKind.i64] (hasC L) (hasC l0) (valC L) (valC l0) [] ∧ MpEq [AS.i IntKind.i64] (hasR L) (hasR l0) (valR L) (valR l0) [] ∧ MpEq [AS.i IntKind.i64, AS.i IntKind.i64] (hasF L) (hasF l0) (valF L) (valF l0) [] ∧ MpEq [AS.i IntKind.i64, AS.i IntKind.i64, AS.s] (hasM L) (hasM l0) (valM L) (valM l0) [] ∧ n = n ∧ b = b ∧ True); let l1 := ((0 : Int) = sigI n b k i ∧ List.replicate (32 : Nat) (0 : Int) = sigT n b k i t ∧ (17 : Int) = okKey n b k i ∧ MpEq [AS.i IntKind.i64] (hasC L) (hasC l0) (valC L) (valC l0) [] ∧ MpEq [AS.i IntKind.i64] (hasR L) (hasR l0) (valR L) (valR l0) [] ∧ MpEq [AS.i IntKind.i64, AS.i IntKind.i64] (hasF L) (hasF l0) (valF L) (valF l0) [] ∧ MpEq [AS.i IntKind.i64, AS.i IntKind.i64, AS.s] (hasM L) (hasM l0) (valM L) (valM l0) [] ∧ n = n ∧ b = b ∧ True); brP (decide (k < (0 : Int))) l2 (brP (decide (k ≥ n)) l2 (brP (decide (i < (0 : Int))) l1 (brP (decide (i ≥ b)) l1 (KeyOk l3 (125 : Nat) true [AS.i IntKind.i64, AS.i IntKind.i64, AS.s] ∧ (hasM L [Sum.inl k, Sum.inl i, Sum.inr (Sum.inl (strOfNums t))] = false → valM L [Sum.inl k, Sum.inl i, Sum.inr (Sum.inl (strOfNums t))] = AV.d (D.v (Value.bool false))) ∧ brP (!hasM L [Sum.inl k, Sum.inl i, Sum.inr (Sum.inl (strOfNums t))]) (KeyOk l3 (125 : Nat) true [AS.i IntKind.i64, AS.i IntKind.i64, AS.s] ∧ KeyOk l3 (3 : Nat) false [AS.i IntKind.i64] ∧ (hasC L [Sum.inl k] = false → valC L [Sum.inl k] = AV.d (D.v (Value.int IntKind.i64 (0 : Int)))) ∧ KeyOk l3 (3 : Nat) false [AS.i IntKind.i64] ∧ KeyOk l3 (123 : Nat) true [AS.i IntKind.i64, AS.i IntKind.i64] ∧ (hasF L [Sum.inl k, Sum.inl i] = false → valF L [Sum.inl k, Sum.inl i] = AV.d (D.v (Value.string { data := #[] }))) ∧ brP (!hasF L [Sum.inl k, Sum.inl i]) (KeyOk l3 (123 : Nat) true [AS.i IntKind.i64, AS.i IntKind.i64] ∧ OkB t ∧ List.length t + (300 : Nat) ≤ lim ∧ i = sigI n b k i ∧ tagB k i t = sigT n b k i t ∧ (0 : Int) = okKey n b k i ∧ MpEq [AS.i IntKind.i64] l7 (hasC l0) l4 (valC l0) [] ∧ MpEq [AS.i IntKind.i64] (hasR L) (hasR l0) (valR L) (valR l0) [] ∧ MpEq [AS.i IntKind.i64, AS.i IntKind.i64] (hasU (hasF L) [Sum.inl k, Sum.inl i]) (hasF l0) (valU (valF L) [Sum.inl k, Sum.inl i] (AV.d (D.v (Value.string (strOfNums t))))) (valF l0) [] ∧ MpEq [AS.i IntKind.i64, AS.i IntKind.i64, AS.s] l6 (hasM l0) l5 (valM l0) [] ∧ n = n ∧ b = b ∧ True) (brP (!ByteArray.toList (strF L [Sum.inl k, Sum.inl i]) == ByteArray.toList (strOfNums t)) (KeyOk l3 (3 : Nat) false [AS.i IntKind.i64] ∧ OkB t ∧ List.length t + (300 : Nat) ≤ lim ∧ i = sigI n b k i ∧ tagB k i t = sigT n b k i t ∧ (0 : Int) = okKey n b k i ∧ MpEq [AS.i IntKind.i64] l7 (hasC l0) l4 (valC l0) [] ∧ MpEq [AS.i IntKind.i64] (hasU (hasR L) [Sum.inl k]) (hasR l0) (valU (valR L) [Sum.inl k] (AV.d (D.v (Value.bool true)))) (valR l0) [] ∧ MpEq [AS.i IntKind.i64, AS.i IntKind.i64] (hasF L) (hasF l0) (valF L) (valF l0) [] ∧ MpEq [AS.i IntKind.i64, AS.i IntKind.i64, AS.s] l6 (hasM l0) l5 (valM l0) [] ∧ n = n ∧ b = b ∧ True) (OkB t ∧ List.length t + (300 : Nat) ≤ lim ∧ i = sigI n b k i ∧ tagB k i t = sigT n b k i t ∧ (0 : Int) = okKey n b k i ∧ MpEq [AS.i IntKind.i64] l7 (hasC l0) l4 (valC l0) [] ∧ MpEq [AS.i IntKind.i64] (hasR L) (hasR l0) (valR L) (valR l0) [] ∧ MpEq [AS.i IntKind.i64, AS.i IntKind.i64] (hasF L) (hasF l0) (valF L) (valF l0) [] ∧ MpEq [AS.i IntKind.i64, AS.i IntKind.i64, AS.s] l6 (hasM l0) l5 (valM l0) [] ∧ n = n ∧ b = b ∧ True))) (OkB t ∧ List.length t + (300 : Nat) ≤ lim ∧ i = sigI n b k i ∧ tagB k i t = sigT n b k i t ∧ (0 : Int) = okKey n b k i ∧ MpEq [AS.i IntKind.i64] (hasC L) (hasC l0) (valC L) (valC l0) [] ∧ MpEq [AS.i IntKind.i64] (hasR L) (hasR l0) (valR L) (valR l0) [] ∧ MpEq [AS.i IntKind.i64, AS.i IntKind.i64] (hasF L) (hasF l0) (valF L) (valF l0) [] ∧ MpEq [AS.i IntKind.i64, AS.i IntKind.i64, AS.s] (hasM L) (hasM l0) (valM L) (valM l0) [] ∧ n = n ∧ b = b ∧ True)))))) (by kernel_rfl) (by
    conv => zeta
    obtain ⟨ht, hl, hn, _⟩ := hp
    have no : okKey n b k i ≠ 0 → sgn n b L k i (strOfNums t) = L ∧ sigI n b k i = 0 ∧ sigT n b k i t = List.replicate 32 0 := fun h => by
      unfold sgn sigI sigT; rw [if_neg h, if_neg h, if_neg h]; exact ⟨rfl, rfl, rfl⟩
    have ms : ∀ (qs : List AS) (has : KK → Bool) (v : KK → AV), (∀ kk, (v kk).refs = []) → MpEq qs has has v v [] := fun qs has v h => MpEq.self h
    have rC : ∀ kk, (valC L kk).refs = [] := fun _ => rfl
    have rR : ∀ kk, (valR L kk).refs = [] := fun _ => rfl
    have rF : ∀ kk, (valF L kk).refs = [] := fun _ => rfl
    have rM : ∀ kk, (valM L kk).refs = [] := fun _ => rfl
    refine brI (fun h1 => ?_) (fun h1 => brI (fun h2 => ?_) (fun h2 => brI (fun h3 => ?_) (fun h3 => brI (fun h4 => ?_) (fun h4 => ?_))))
    · have e : okKey n b k i = 2 := by unfold okKey; rw [if_pos (.inl (of_decide_eq_true h1))]
      obtain ⟨e1, e2, e3⟩ := no (by rw [e]; decide)
      rw [e1, e2, e3, e]
      exact ⟨rfl, rfl, rfl, ms _ _ _ rC, ms _ _ _ rR, ms _ _ _ rF, ms _ _ _ rM, rfl, rfl, trivial⟩
    · have e : okKey n b k i = 2 := by unfold okKey; rw [if_pos (.inr (of_decide_eq_true h2))]
      obtain ⟨e1, e2, e3⟩ := no (by rw [e]; decide)
      rw [e1, e2, e3, e]
      exact ⟨rfl, rfl, rfl, ms _ _ _ rC, ms _ _ _ rR, ms _ _ _ rF, ms _ _ _ rM, rfl, rfl, trivial⟩
    · have e : okKey n b k i = 17 := by
        have := of_decide_eq_false h1; have := of_decide_eq_false h2
        unfold okKey; rw [if_neg (by omega), if_pos (.inl (of_decide_eq_true h3))]
      obtain ⟨e1, e2, e3⟩ := no (by rw [e]; decide)
      rw [e1, e2, e3, e]
      exact ⟨rfl, rfl, rfl, ms _ _ _ rC, ms _ _ _ rR, ms _ _ _ rF, ms _ _ _ rM, rfl, rfl, trivial⟩
    · have e : okKey n b k i = 17 := by
        have := of_decide_eq_false h1; have := of_decide_eq_false h2
        unfold okKey; rw [if_neg (by omega), if_pos (.inr (of_decide_eq_true h4))]
      obtain ⟨e1, e2, e3⟩ := no (by rw [e]; decide)
      rw [e1, e2, e3, e]
      exact ⟨rfl, rfl, rfl, ms _ _ _ rC, ms _ _ _ rR, ms _ _ _ rF, ms _ _ _ rM, rfl, rfl, trivial⟩
    · have e : okKey n b k i = 0 := by
        have := of_decide_eq_false h1; have := of_decide_eq_false h2; have := of_decide_eq_false h3; have := of_decide_eq_false h4
        unfold okKey; rw [if_neg (by omega), if_neg (by omega)]
      have e2 : sigI n b k i = i := by unfold sigI; rw [if_pos e]
      have e3 : sigT n b k i t = tagB k i t := by unfold sigT; rw [if_pos e]
      have e1 : sgn n b L k i (strOfNums t) = addS L (k, i, strOfNums t) := by unfold sgn; rw [if_pos e]
      rw [e1, e2, e3, e]
      have hm : hasM L [.inl k, .inl i, .inr (.inl (strOfNums t))] = madB L (k, i, strOfNums t) := rfl
      refine ⟨keySg, (fun h => by show AV.d (.v (.bool (hasM L _))) = _; rw [h]), brI (fun hx => ?_) (fun hx => ?_)⟩
      · rw [hm] at hx
        have hx : madB L (k, i, strOfNums t) = false := by simpa using hx
        have ea : addS L (k, i, strOfNums t) = L ++ [(k, i, strOfNums t)] := by unfold addS; rw [hx]; rfl
        rw [ea]
        have hcnt : cntB L k ≤ L.length := List.length_filter_le _ _
        have mC : MpEq [.i .i64] (hasU (hasC L) [.inl k]) (hasC (L ++ [(k, i, strOfNums t)])) (valU (valC L) [.inl k] (.d (.v (.int .i64 (IntKind.wrap .i64 (numC L [.inl k] + 1)))))) (valC (L ++ [(k, i, strOfNums t)])) [] := by
          refine MpEq.of (fun kk => ?_) (fun kk hs => ?_) fun _ => rfl
          · rw [hasU_eq]
            by_cases hk : kk = [.inl k]
            · subst hk; rw [if_pos rfl]
              show true = decide (0 < cntB (L ++ [_]) k)
              rw [cnt_snoc, if_pos rfl, decide_eq_true (by omega)]
            · rw [if_neg hk]
              unfold hasC
              split
              · rename_i a
                have : k ≠ a := fun e => hk (by rw [e])
                rw [cnt_snoc, if_neg this]; rfl
              · rfl
          · rw [valU_eq]
            by_cases hk : kk = [.inl k]
            · subst hk; rw [if_pos rfl]
              show AV.d (.v (.int .i64 (IntKind.wrap .i64 ((cntB L k : Int) + 1)))) = AV.d (.v (.int .i64 (cntB (L ++ [_]) k : Int)))
              rw [cnt_snoc, if_pos rfl, wi _ (by omega) (by omega)]; rfl
            · rw [if_neg hk]
              unfold valC numC
              split
              · rename_i a
                have : k ≠ a := fun e => hk (by rw [e])
                rw [cnt_snoc, if_neg this]; rfl
              · rfl
        have mM : MpEq [.i .i64, .i .i64, .s] (hasU (hasM L) [.inl k, .inl i, .inr (.inl (strOfNums t))]) (hasM (L ++ [(k, i, strOfNums t)])) (valU (valM L) [.inl k, .inl i, .inr (.inl (strOfNums t))] (.d (.v (.bool true)))) (valM (L ++ [(k, i, strOfNums t)])) [] := by
          have key : ∀ kk, hasU (hasM L) [.inl k, .inl i, .inr (.inl (strOfNums t))] kk = hasM (L ++ [(k, i, strOfNums t)]) kk := fun kk => by
            rw [hasU_eq]
            by_cases hk : kk = [.inl k, .inl i, .inr (.inl (strOfNums t))]
            · subst hk; rw [if_pos rfl]
              show true = madB (L ++ [_]) _
              rw [mad_snoc, decide_eq_true rfl, Bool.or_true]
            · rw [if_neg hk]
              unfold hasM
              split
              · rename_i a c s
                have : (k, i, strOfNums t) ≠ (a, c, s) := fun e => hk (by simp only [Prod.mk.injEq] at e; rw [e.1, e.2.1, e.2.2])
                rw [mad_snoc, decide_eq_false this, Bool.or_false]
              · rfl
          refine MpEq.of key (fun kk hs => ?_) fun _ => rfl
          rw [valU_eq]
          unfold valM
          rw [← key kk, hasU_eq]
          split <;> rfl
        have hf : hasF L [.inl k, .inl i] = (firT L k i).isSome := rfl
        refine ⟨keySg, keyInt, (fun h => ?_), keyInt, keyPlace, (fun h => ?_), brI (fun hy => ?_) (fun hy => brI (fun hz => ?_) (fun hz => ?_))⟩
        · have h : ¬ 0 < cntB L k := of_decide_eq_false h
          show AV.d (.v (.int .i64 (cntB L k : Int))) = _
          rw [show cntB L k = 0 by omega]; rfl
        · show AV.d (.v (.string ((firT L k i).getD ⟨#[]⟩))) = _
          rw [hf] at h
          cases hq : firT L k i with
          | none => rfl
          | some s => rw [hq] at h; cases h
        · rw [hf] at hy
          have hq : firT L k i = none := by
            cases hq : firT L k i with
            | none => rfl
            | some s => rw [hq] at hy; cases hy
          refine ⟨keyPlace, ht, hl, rfl, rfl, rfl, mC, MpEq.of (fun kk => ?_) (fun kk hsk => ?_) fun _ => rfl, MpEq.of (fun kk => ?_) (fun kk hsk => ?_) fun _ => rfl, mM, rfl, rfl, trivial⟩
          · unfold hasR; split
            · rename_i a; rw [reu_snoc, hq]; simp
            · rfl
          · unfold valR hasR; split
            · rename_i a; rw [reu_snoc, hq]; simp
            · rfl
          · rw [hasU_eq]
            by_cases hk : kk = [.inl k, .inl i]
            · subst hk; rw [if_pos rfl]
              show true = (firT (L ++ [_]) k i).isSome
              rw [firT_snoc, hq]; simp
            · rw [if_neg hk]; unfold hasF; split
              · rename_i a c
                have : ¬ (k = a ∧ i = c) := fun e => hk (by rw [e.1, e.2])
                rw [firT_snoc]
                cases firT L a c with
                | some s => rfl
                | none => simp only [if_neg this]
              · rfl
          · rw [valU_eq]
            by_cases hk : kk = [.inl k, .inl i]
            · subst hk; rw [if_pos rfl]
              show _ = AV.d (.v (.string ((firT (L ++ [_]) k i).getD ⟨#[]⟩)))
              rw [firT_snoc, hq]; simp
            · rw [if_neg hk]; unfold valF strF; split
              · rename_i a c
                have : ¬ (k = a ∧ i = c) := fun e => hk (by rw [e.1, e.2])
                rw [firT_snoc]
                cases firT L a c with
                | some s => rfl
                | none => simp only [if_neg this]
              · rfl
        · rw [hf] at hy
          obtain ⟨s, hq⟩ : ∃ s, firT L k i = some s := by
            cases hq : firT L k i with
            | none => rw [hq] at hy; cases hy
            | some s => exact ⟨s, rfl⟩
          have hs : strF L [.inl k, .inl i] = s := by show (firT L k i).getD _ = _; rw [hq]; rfl
          rw [hs, str_dec] at hz
          have hne : s ≠ strOfNums t := by simpa using hz
          refine ⟨keyInt, ht, hl, rfl, rfl, rfl, mC, MpEq.of (fun kk => ?_) (fun kk hsk => ?_) fun _ => rfl, MpEq.of (fun kk => ?_) (fun kk hsk => ?_) fun _ => rfl, mM, rfl, rfl, trivial⟩
          · rw [hasU_eq]
            by_cases hk : kk = [.inl k]
            · subst hk; rw [if_pos rfl]
              show true = reuB (L ++ [_]) k
              rw [reu_snoc, hq]; simp [hne]
            · rw [if_neg hk]; unfold hasR; split
              · rename_i a
                have : k ≠ a := fun e => hk (by rw [e])
                rw [reu_snoc]; simp [this]
              · rfl
          · rw [valU_eq]
            by_cases hk : kk = [.inl k]
            · subst hk; rw [if_pos rfl]
              show _ = AV.d (.v (.bool (reuB (L ++ [_]) k)))
              rw [reu_snoc, hq]; simp [hne]
            · rw [if_neg hk]; unfold valR hasR; split
              · rename_i a
                have : k ≠ a := fun e => hk (by rw [e])
                rw [reu_snoc]; simp [this]
              · rfl
          · unfold hasF; split
            · rename_i a c
              rw [firT_snoc]
              cases hac : firT L a c with
              | some s => rfl
              | none =>
                have : ¬ (k = a ∧ i = c) := fun e => by rw [e.1, e.2] at hq; rw [hq] at hac; cases hac
                simp only [if_neg this]
            · rfl
          · unfold valF strF; split
            · rename_i a c
              rw [firT_snoc]
              cases hac : firT L a c with
              | some s => rfl
              | none =>
                have : ¬ (k = a ∧ i = c) := fun e => by rw [e.1, e.2] at hq; rw [hq] at hac; cases hac
                simp only [if_neg this]
            · rfl
        · exfalso
          rw [hf] at hy
          obtain ⟨s, hq⟩ : ∃ s, firT L k i = some s := by
            cases hq : firT L k i with
            | none => rw [hq] at hy; cases hy
            | some s => exact ⟨s, rfl⟩
          have hs : strF L [.inl k, .inl i] = s := by show (firT L k i).getD _ = _; rw [hq]; rfl
          rw [hs, str_dec] at hz
          have he : s = strOfNums t := by simpa using hz
          have := firT_in hq
          rw [he] at this
          rw [madB_iff.2 this] at hx; cases hx
      · rw [hm] at hx
        have hx : madB L (k, i, strOfNums t) = true := by simpa using hx
        have ea : addS L (k, i, strOfNums t) = L := by unfold addS; rw [hx]; rfl
        rw [ea]
        exact ⟨ht, hl, rfl, rfl, rfl, ms _ _ _ rC, ms _ _ _ rR, ms _ _ _ rF, ms _ _ _ rM, rfl, rfl, trivial⟩))
noncomputable def gsignRingSign : Con := fun args H => match args, H with
  | [.a (.lp 100004 0), .a (.d (.v (.int .i64 k))), .a (.d (.v (.int .i64 i))), .a (.d (.si .u8 t))], [(100000, .mp m1 false q1 c1 w1 r1 g1), (100001, .mp m2 false q2 c2 w2 r2 g2), (100002, .mp m3 true q3 c3 w3 r3 g3), (100003, .mp m4 true q4 c4 w4 r4 g4), (100004, .cells (.one (.d (.v (.int .i64 n))) :: .one (.d (.v (.int .i64 b))) :: z) tz)] => (fun (n b : Int) (L : List SG) (k i : Int) (t : List Int) => conC args H [.a (.lp 100004 0), .a (.d (.v (.int .i64 k))), .a (.d (.v (.int .i64 i))), .a (.d (.si .u8 t))] [(100000, .mp 107 false [.i .i64] (hasC L) (valC L) [] (ghS L)), (100001, .mp 106 false [.i .i64] (hasR L) (valR L) [] (ghS L)), (100002, .mp 105 true [.i .i64, .i .i64] (hasF L) (valF L) [] (ghS L)), (100003, .mp 104 true [.i .i64, .i .i64, .s] (hasM L) (valM L) [] (ghS L)), (100004, .cells [.one (.d (.v (.int .i64 (n)))), .one (.d (.v (.int .i64 (b)))), .one (.mp 100003), .one (.mp 100002), .one (.mp 100001), .one (.mp 100000)] 109)] ⟨[OkB t, t.length + 300 ≤ lim, L.length < 1099511627776], .t [.agg [.one (.d (.v (.int .i64 (sigI n b k i)))), .ints .u8 32 (sigT n b k i t)], .a (.d (.v (.int .i64 (okKey n b k i))))], [(100000, .mp 107 false [.i .i64] (hasC (sgn n b L k i (strOfNums t))) (valC (sgn n b L k i (strOfNums t))) [] (ghS (sgn n b L k i (strOfNums t)))), (100001, .mp 106 false [.i .i64] (hasR (sgn n b L k i (strOfNums t))) (valR (sgn n b L k i (strOfNums t))) [] (ghS (sgn n b L k i (strOfNums t)))), (100002, .mp 105 true [.i .i64, .i .i64] (hasF (sgn n b L k i (strOfNums t))) (valF (sgn n b L k i (strOfNums t))) [] (ghS (sgn n b L k i (strOfNums t)))), (100003, .mp 104 true [.i .i64, .i .i64, .s] (hasM (sgn n b L k i (strOfNums t))) (valM (sgn n b L k i (strOfNums t))) [] (ghS (sgn n b L k i (strOfNums t)))), (100004, .cells [.one (.d (.v (.int .i64 (n)))), .one (.d (.v (.int .i64 (b)))), .one (.mp 100003), .one (.mp 100002), .one (.mp 100001), .one (.mp 100000)] 109)]⟩) (n) (b) (shS g1) (k) (i) (t)
  | _, _ => none
theorem vsignRingSign : Valid Tryd.prog Gs 29 gsignRingSign := by
  intro args H r h hp
  unfold gsignRingSign at h
  split at h
  · rename_i k i t m1 q1 c1 w1 r1 g1 m2 q2 c2 w2 r2 g2 m3 q3 c3 w3 r3 g3 m4 q4 c4 w4 r4 g4 n b z tz
    exact conC_ok h hp fun hp => oksignRingSign (n) (b) (shS g1) (k) (i) (t) hp
  · cases h
noncomputable def ct_signRingSign : List (Nat × Ct) := (29, ⟨[true], true, gsignRingSign, none⟩) :: ct_signNew
theorem ctok_signRingSign : CtsOk Tryd.prog Gs ct_signRingSign := CtsOk.cons vsignRingSign (by kernel_rfl) ctok_signNew
noncomputable def ansignRingCheck (n b : Int) (L : List SG) (k : Int) (t : List Int) (i : Int) (g : List Int) : Nat → List Nat → List Ann := fun _ _ => []
theorem oksignRingCheck (n b : Int) (L : List SG) (k : Int) (t : List Int) (i : Int) (g : List Int) (hp : allP [OkB t, t.length + 300 ≤ lim]) : CallsOk Tryd.prog Gs 63 [.a (.lp 100004 0), .a (.d (.v (.int .i64 k))), .a (.d (.si .u8 t)), .agg [.one (.d (.v (.int .i64 i))), .ints .u8 32 g]] [(100000, .mp 107 false [.i .i64] (hasC L) (valC L) [] (ghS L)), (100001, .mp 106 false [.i .i64] (hasR L) (valR L) [] (ghS L)), (100002, .mp 105 true [.i .i64, .i .i64] (hasF L) (valF L) [] (ghS L)), (100003, .mp 104 true [.i .i64, .i .i64, .s] (hasM L) (valM L) [] (ghS L)), (100004, .cells [.one (.d (.v (.int .i64 (n)))), .one (.d (.v (.int .i64 (b)))), .one (.mp 100003), .one (.mp 100002), .one (.mp 100001), .one (.mp 100000)] 109)] (eB (madB L (k, i, strOfNums t) && (g == tagB k i t))) [(100000, .mp 107 false [.i .i64] (hasC L) (valC L) [] (ghS L)), (100001, .mp 106 false [.i .i64] (hasR L) (valR L) [] (ghS L)), (100002, .mp 105 true [.i .i64, .i .i64] (hasF L) (valF L) [] (ghS L)), (100003, .mp 104 true [.i .i64, .i .i64, .s] (hasM L) (valM L) [] (ghS L)), (100004, .cells [.one (.d (.v (.int .i64 (n)))), .one (.d (.v (.int .i64 (b)))), .one (.mp 100003), .one (.mp 100002), .one (.mp 100001), .one (.mp 100000)] 109)] :=
  ok_of (ann := ansignRingCheck n b L k t i g) ctok_signRingSign mixed Tryd.func63 (by kernel_rfl) (of_nf (p := KeyOk (Cx.P (mkX Tryd.prog Gs ct_signRingSign Tryd.f63 (ansignRingCheck n b L k t i g))) (125 : Nat) true [AS.i IntKind.i64, AS.i IntKind.i64, AS.s] ∧ (hasM L [Sum.inl k, Sum.inl i, Sum.inr (Sum.inl (strOfNums t))] = false → valM L [Sum.inl k, Sum.inl i, Sum.inr (Sum.inl (strOfNums t))] = AV.d (D.v (Value.bool false))) ∧ brP (hasM L [Sum.inl k, Sum.inl i, Sum.inr (Sum.inl (strOfNums t))]) (OkB t ∧ List.length t + (300 : Nat) ≤ lim ∧ (g == tagB k i t) = (madB L (k, i, strOfNums t) && g == tagB k i t) ∧ MpEq [AS.i IntKind.i64] (hasC L) (hasC L) (valC L) (valC L) [] ∧ MpEq [AS.i IntKind.i64] (hasR L) (hasR L) (valR L) (valR L) [] ∧ MpEq [AS.i IntKind.i64, AS.i IntKind.i64] (hasF L) (hasF L) (valF L) (valF L) [] ∧ MpEq [AS.i IntKind.i64, AS.i IntKind.i64, AS.s] (hasM L) (hasM L) (valM L) (valM L) [] ∧ n = n ∧ b = b ∧ True) (false = (madB L (k, i, strOfNums t) && g == tagB k i t) ∧ MpEq [AS.i IntKind.i64] (hasC L) (hasC L) (valC L) (valC L) [] ∧ MpEq [AS.i IntKind.i64] (hasR L) (hasR L) (valR L) (valR L) [] ∧ MpEq [AS.i IntKind.i64, AS.i IntKind.i64] (hasF L) (hasF L) (valF L) (valF L) [] ∧ MpEq [AS.i IntKind.i64, AS.i IntKind.i64, AS.s] (hasM L) (hasM L) (valM L) (valM L) [] ∧ n = n ∧ b = b ∧ True)) (by kernel_rfl) (by
    obtain ⟨ht, hl, _⟩ := hp
    have e : hasM L [.inl k, .inl i, .inr (.inl (strOfNums t))] = madB L (k, i, strOfNums t) := rfl
    refine ⟨keySg, (fun h => by show AV.d (.v (.bool (hasM L _))) = _; rw [h]), brI (fun h => ?_) (fun h => ?_)⟩
    · rw [e] at h; rw [h, Bool.true_and]
      exact ⟨ht, hl, rfl, MpEq.self fun _ => rfl, MpEq.self fun _ => rfl, MpEq.self fun _ => rfl, MpEq.self fun _ => rfl, rfl, rfl, trivial⟩
    · rw [e] at h; rw [h, Bool.false_and]
      exact ⟨rfl, MpEq.self fun _ => rfl, MpEq.self fun _ => rfl, MpEq.self fun _ => rfl, MpEq.self fun _ => rfl, rfl, rfl, trivial⟩))
noncomputable def gsignRingCheck : Con := fun args H => match args, H with
  | [.a (.lp 100004 0), .a (.d (.v (.int .i64 k))), .a (.d (.si .u8 t)), .agg [.one (.d (.v (.int .i64 i))), .ints .u8 32 g]], [(100000, .mp m1 false q1 c1 w1 r1 g1), (100001, .mp m2 false q2 c2 w2 r2 g2), (100002, .mp m3 true q3 c3 w3 r3 g3), (100003, .mp m4 true q4 c4 w4 r4 g4), (100004, .cells (.one (.d (.v (.int .i64 n))) :: .one (.d (.v (.int .i64 b))) :: z) tz)] => (fun (n b : Int) (L : List SG) (k : Int) (t : List Int) (i : Int) (g : List Int) => conC args H [.a (.lp 100004 0), .a (.d (.v (.int .i64 k))), .a (.d (.si .u8 t)), .agg [.one (.d (.v (.int .i64 i))), .ints .u8 32 g]] [(100000, .mp 107 false [.i .i64] (hasC L) (valC L) [] (ghS L)), (100001, .mp 106 false [.i .i64] (hasR L) (valR L) [] (ghS L)), (100002, .mp 105 true [.i .i64, .i .i64] (hasF L) (valF L) [] (ghS L)), (100003, .mp 104 true [.i .i64, .i .i64, .s] (hasM L) (valM L) [] (ghS L)), (100004, .cells [.one (.d (.v (.int .i64 (n)))), .one (.d (.v (.int .i64 (b)))), .one (.mp 100003), .one (.mp 100002), .one (.mp 100001), .one (.mp 100000)] 109)] ⟨[OkB t, t.length + 300 ≤ lim], eB (madB L (k, i, strOfNums t) && (g == tagB k i t)), [(100000, .mp 107 false [.i .i64] (hasC L) (valC L) [] (ghS L)), (100001, .mp 106 false [.i .i64] (hasR L) (valR L) [] (ghS L)), (100002, .mp 105 true [.i .i64, .i .i64] (hasF L) (valF L) [] (ghS L)), (100003, .mp 104 true [.i .i64, .i .i64, .s] (hasM L) (valM L) [] (ghS L)), (100004, .cells [.one (.d (.v (.int .i64 (n)))), .one (.d (.v (.int .i64 (b)))), .one (.mp 100003), .one (.mp 100002), .one (.mp 100001), .one (.mp 100000)] 109)]⟩) (n) (b) (shS g1) (k) (t) (i) (g)
  | _, _ => none
theorem vsignRingCheck : Valid Tryd.prog Gs 63 gsignRingCheck := by
  intro args H r h hp
  unfold gsignRingCheck at h
  split at h
  · rename_i k t i g m1 q1 c1 w1 r1 g1 m2 q2 c2 w2 r2 g2 m3 q3 c3 w3 r3 g3 m4 q4 c4 w4 r4 g4 n b z tz
    exact conC_ok h hp fun hp => oksignRingCheck (n) (b) (shS g1) (k) (t) (i) (g) hp
  · cases h
noncomputable def ct_signRingCheck : List (Nat × Ct) := (63, ⟨[true], true, gsignRingCheck, none⟩) :: ct_signRingSign
theorem ctok_signRingCheck : CtsOk Tryd.prog Gs ct_signRingCheck := CtsOk.cons vsignRingCheck (by kernel_rfl) ctok_signRingSign
end Go.Proofs.YtlgffgnkkihaoaaDoor
