/- Tries: bits, keys, texts. -/
import Derived.Test.YtfobhaodflfedaaDoorYcP
import Derived.Test.YtfobhaodflfedaaDoorDxLst
import Derived.Test.YtfobhaodflfedaaDoorDxKey
import Derived.Lib.BytesEntry
import Derived.WalkKit
import Derived.ProofKit
import Derived.Laws.Externs
namespace Go.Proofs.YtfobhaodflfedaaDoor
open Go.Dx Go.RowKit
set_option linter.unusedVariables false
set_option linter.unusedSimpArgs false
set_option maxRecDepth 100000
attribute [local irreducible] wpS
attribute [local irreducible] sumB joinB
theorem and1 : ∀ n : Fin 256, bAnd .i64 ((n.1 : Nat) : Int) 1 = ((n.1 % 2 : Nat) : Int) := by decide +kernel
theorem fdiv_nat (x m : Nat) : Int.fdiv (x : Int) (2 ^ m) = ((x / 2 ^ m : Nat) : Int) := by
  rw [Int.fdiv_eq_ediv_of_nonneg _ (Int.le_of_lt (Int.pow_pos (by decide))), Int.natCast_ediv, Int.natCast_pow]; rfl
theorem tdiv_nat (n m : Nat) : Int.tdiv (n : Int) (m : Int) = ((n / m : Nat) : Int) := by rw [Int.tdiv_eq_ediv_of_nonneg (by omega), Int.natCast_ediv]
theorem tmod_nat (n m : Nat) : Int.tmod (n : Int) (m : Int) = ((n % m : Nat) : Int) := by rw [Int.tmod_eq_emod_of_nonneg (by omega), Int.natCast_emod]
theorem gd_ok {k : List Int} (h : OkB k) (i : Nat) : 0 ≤ k.getD i 0 ∧ k.getD i 0 < 256 := by
  rw [List.getD_eq_getElem?_getD]
  cases hq : k[i]? with
  | none => exact ⟨by decide, by decide⟩
  | some q => exact h q (List.mem_of_getElem? hq)
noncomputable def antriedigestbit (k : List Int) (i : Int) : Nat → List Nat → List Ann := fun _ _ => []
theorem oktriedigestbit (k : List Int) (i : Int) (hp : allP [OkB k, k.length = 32, 0 ≤ i ∧ i < 256]) : CallsOk Tryd.prog Gs 67 [.agg [.ints .u8 32 k], .a (.d (.v (.int .i64 i)))] [] (eI .i64 (bt k i.toNat : Int)) [] :=
  ok_of (ann := antriedigestbit k i) ctok_19 mixed Tryd.func67 (by kernel_rfl) (of_nf (p := (8 : Int) ≠ (0 : Int) ∧ ((0 : Int) ≤ IntKind.wrap IntKind.i64 (Int.tdiv i (8 : Int)) ∧ IntKind.wrap IntKind.i64 (Int.tdiv i (8 : Int)) < (↑(32 : Nat) : Int)) ∧ (8 : Int) ≠ (0 : Int) ∧ (0 : Int) ≤ IntKind.wrap IntKind.i64 ((7 : Int) - Int.tmod i (8 : Int)) ∧ bAnd IntKind.i64 (IntKind.wrap IntKind.i64 (Int.fdiv (List.getD k (Int.toNat (IntKind.wrap IntKind.i64 (Int.tdiv i (8 : Int)))) (0 : Int)) ((2 : Int) ^ min (Int.toNat (IntKind.wrap IntKind.i64 ((7 : Int) - Int.tmod i (8 : Int)))) (IntKind.bits IntKind.u8)))) (1 : Int) = (↑(bt k (Int.toNat i)) : Int) ∧ True) (by kernel_rfl) (by
    obtain ⟨hk, hl, ⟨h0, h1⟩, _⟩ := hp
    obtain ⟨n, rfl⟩ : ∃ n : Nat, i = n := ⟨i.toNat, by omega⟩
    have e1 : Int.tdiv (n : Int) 8 = ((n / 8 : Nat) : Int) := tdiv_nat n 8
    have e2 : Int.tmod (n : Int) 8 = ((n % 8 : Nat) : Int) := tmod_nat n 8
    obtain ⟨g0, g1⟩ := gd_ok hk (n / 8)
    rw [e1, e2, wi ((n / 8 : Nat) : Int) (by omega) (by omega), wi (7 - ((n % 8 : Nat) : Int)) (by omega) (by omega), Int.toNat_natCast, Int.toNat_natCast]
    have e3 : min (Int.toNat (7 - ((n % 8 : Nat) : Int))) (IntKind.bits .u8) = 7 - n % 8 := by
      rw [show IntKind.bits .u8 = 8 by decide]; omega
    refine ⟨by decide, ⟨by omega, by omega⟩, by decide, by omega, ?_, trivial⟩
    rw [e3, bt_byte hk hl (by omega)]
    obtain ⟨x, hx⟩ : ∃ x : Nat, k.getD (n / 8) 0 = (x : Int) := ⟨(k.getD (n / 8) 0).toNat, by omega⟩
    rw [hx] at g1 ⊢
    have hle : x / 2 ^ (7 - n % 8) ≤ x := Nat.div_le_self _ _
    rw [fdiv_nat, Int.toNat_natCast]
    generalize x / 2 ^ (7 - n % 8) = y at hle ⊢
    rw [wi _ (by omega) (by omega)]
    exact and1 ⟨y, by omega⟩))
noncomputable def gtriedigestbit : Con := fun args H => match args, H with
  | [.agg [.ints .u8 32 k], .a (.d (.v (.int .i64 i)))], [] => some ⟨[OkB k, k.length = 32, 0 ≤ i ∧ i < 256], eI .i64 (bt k i.toNat : Int), []⟩
  | _, _ => none
theorem vtriedigestbit : Valid Tryd.prog Gs 67 gtriedigestbit := by
  intro args H r h hp
  unfold gtriedigestbit at h
  split at h
  · simp only [Option.some.injEq] at h; subst h; exact oktriedigestbit _ _ hp
  · cases h
noncomputable def ct_triedigestbit : List (Nat × Ct) := (67, ⟨[], false, gtriedigestbit, none⟩) :: ct_19
theorem ctok_triedigestbit : CtsOk Tryd.prog Gs ct_triedigestbit := CtsOk.cons vtriedigestbit (by kernel_rfl) ctok_19
noncomputable def antrieat (k : List Int) (i : Int) : Nat → List Nat → List Ann := fun _ _ => []
theorem oktrieat (k : List Int) (i : Int) (hp : allP [OkB k, k.length = 32, 0 ≤ i ∧ i < 256]) : CallsOk Tryd.prog Gs 51 [.agg [.ints .u8 32 k], .a (.d (.v (.int .i64 i)))] [] (eI .i64 (bt k i.toNat : Int)) [] :=
  ok_of (ann := antrieat k i) ctok_triedigestbit mixed Tryd.func51 (by kernel_rfl) (of_nf (p := OkB k ∧ List.length k = (32 : Nat) ∧ ((0 : Int) ≤ i ∧ i < (256 : Int)) ∧ (↑(bt k (Int.toNat i)) : Int) = (↑(bt k (Int.toNat i)) : Int) ∧ True) (by kernel_rfl) (by
    exact ⟨hp.1, hp.2.1, hp.2.2.1, rfl, trivial⟩))
noncomputable def gtrieat : Con := fun args H => match args, H with
  | [.agg [.ints .u8 32 k], .a (.d (.v (.int .i64 i)))], [] => some ⟨[OkB k, k.length = 32, 0 ≤ i ∧ i < 256], eI .i64 (bt k i.toNat : Int), []⟩
  | _, _ => none
theorem vtrieat : Valid Tryd.prog Gs 51 gtrieat := by
  intro args H r h hp
  unfold gtrieat at h
  split at h
  · simp only [Option.some.injEq] at h; subst h; exact oktrieat _ _ hp
  · cases h
noncomputable def ct_trieat : List (Nat × Ct) := (51, ⟨[], false, gtrieat, none⟩) :: ct_triedigestbit
theorem ctok_trieat : CtsOk Tryd.prog Gs ct_trieat := CtsOk.cons vtrieat (by kernel_rfl) ctok_triedigestbit
/-- Entries, as cells. -/
def tE (x : TE) : List DC := [.ints .u8 32 x.1, .one (.si .u8 x.2)]
abbrev tZ : TE := (List.replicate 32 0, [])
def tG : List DC → TE
  | [.ints _ _ k, .one (.si _ v)] => (k, v)
  | _ => ([], [])
theorem tG_tE (x : TE) : tG (tE x) = x := rfl
theorem t32 {L : List Int} (h : L.length = 32) : List.take (lenN 32 none none) (List.drop (startN 0 none) L) = L := by
  show List.take 32 (List.drop 0 L) = L
  rw [List.drop_zero, List.take_of_length_le (by omega)]
theorem cutA (L : List Int) : cutL L none none = L := by
  rfl
theorem gE {l : List TE} {i : Nat} (h : i < l.length) : l.getD i tZ = l[i] := by
  rw [List.getD_eq_getElem?_getD, List.getElem?_eq_getElem h]; rfl
def OkK (l : List TE) : Prop := ∀ e ∈ l, OkT e
noncomputable def antrieleaf (k v : List Int) : Nat → List Nat → List Ann := fun _ _ => []
theorem oktrieleaf (k v : List Int) (hp : allP [k.length = 32, OkB k, OkB v, v.length + 300 ≤ lim]) : CallsOk Tryd.prog Gs 48 [.agg [.ints .u8 32 k], .a (.d (.si .u8 v))] [] (.s (.a (.rw 0))) [(0, .row (.ints .u8 (leafT (k, v))) 5)] :=
  ok_of (ann := antrieleaf k v) ctok_trieat mixed Tryd.func48 (by kernel_rfl) (of_nf (p := (0 : Nat) < List.length (List.set (List.set (List.set (List.set (List.replicate ((3 : Nat) + (1 : Nat)) (0 : Int)) ((0 : Nat) * (1 : Nat)) (108 : Int)) ((1 : Nat) * (1 : Nat)) (101 : Int)) ((2 : Nat) * (1 : Nat)) (97 : Int)) ((3 : Nat) * (1 : Nat)) (102 : Int)) ∧ List.length (joinB [List.set (List.set (List.set (List.set (List.replicate ((3 : Nat) + (1 : Nat)) (0 : Int)) ((0 : Nat) * (1 : Nat)) (108 : Int)) ((1 : Nat) * (1 : Nat)) (101 : Int)) ((2 : Nat) * (1 : Nat)) (97 : Int)) ((3 : Nat) * (1 : Nat)) (102 : Int), List.take (lenN (32 : Nat) none none) (List.drop (startN (0 : Nat) none) k), v]) + (100 : Nat) ≤ lim ∧ joinB [List.set (List.set (List.set (List.set (List.replicate ((3 : Nat) + (1 : Nat)) (0 : Int)) ((0 : Nat) * (1 : Nat)) (108 : Int)) ((1 : Nat) * (1 : Nat)) (101 : Int)) ((2 : Nat) * (1 : Nat)) (97 : Int)) ((3 : Nat) * (1 : Nat)) (102 : Int), List.take (lenN (32 : Nat) none none) (List.drop (startN (0 : Nat) none) k), v] = leafT (k, v) ∧ True) (by kernel_rfl) (by
    obtain ⟨hl, hk, hv, hvl, _⟩ := hp
    rw [t32 hl]
    have hlim : lim = 68719476736 := rfl
    refine ⟨by decide, ?_, rfl, trivial⟩
    rw [joinB_bulkT]
    simp only [List.flatten_cons, List.flatten_nil, List.length_append, List.length_set, List.length_replicate, List.length_cons, List.length_nil]
    omega))
noncomputable def gtrieleaf : Con := fun args H => match args, H with
  | [.agg [.ints .u8 32 k], .a (.d (.si .u8 v))], [] => some ⟨[k.length = 32, OkB k, OkB v, v.length + 300 ≤ lim], .s (.a (.rw 0)), [(0, .row (.ints .u8 (leafT (k, v))) 5)]⟩
  | _, _ => none
theorem vtrieleaf : Valid Tryd.prog Gs 48 gtrieleaf := by
  intro args H r h hp
  unfold gtrieleaf at h
  split at h
  · simp only [Option.some.injEq] at h; subst h; exact oktrieleaf _ _ hp
  · cases h
noncomputable def ct_trieleaf : List (Nat × Ct) := (48, ⟨[], false, gtrieleaf, none⟩) :: ct_trieat
theorem ctok_trieleaf : CtsOk Tryd.prog Gs ct_trieleaf := CtsOk.cons vtrieleaf (by kernel_rfl) ctok_trieat
noncomputable def antriebranch (a c : List Int) : Nat → List Nat → List Ann := fun _ _ => []
theorem oktriebranch (a c : List Int) (hp : allP [a.length = 32, OkB a, c.length = 32, OkB c]) : CallsOk Tryd.prog Gs 50 [.agg [.ints .u8 32 a], .agg [.ints .u8 32 c]] [] (.s (.a (.rw 0))) [(0, .row (.ints .u8 (brT a c)) 5)] :=
  ok_of (ann := antriebranch a c) ctok_trieleaf mixed Tryd.func50 (by kernel_rfl) (of_nf (p := (0 : Nat) < List.length (List.set (List.set (List.set (List.set (List.set (List.set (List.replicate ((5 : Nat) + (1 : Nat)) (0 : Int)) ((0 : Nat) * (1 : Nat)) (98 : Int)) ((1 : Nat) * (1 : Nat)) (114 : Int)) ((2 : Nat) * (1 : Nat)) (97 : Int)) ((3 : Nat) * (1 : Nat)) (110 : Int)) ((4 : Nat) * (1 : Nat)) (99 : Int)) ((5 : Nat) * (1 : Nat)) (104 : Int)) ∧ List.length (joinB [List.set (List.set (List.set (List.set (List.set (List.set (List.replicate ((5 : Nat) + (1 : Nat)) (0 : Int)) ((0 : Nat) * (1 : Nat)) (98 : Int)) ((1 : Nat) * (1 : Nat)) (114 : Int)) ((2 : Nat) * (1 : Nat)) (97 : Int)) ((3 : Nat) * (1 : Nat)) (110 : Int)) ((4 : Nat) * (1 : Nat)) (99 : Int)) ((5 : Nat) * (1 : Nat)) (104 : Int), List.take (lenN (32 : Nat) none none) (List.drop (startN (0 : Nat) none) a), List.take (lenN (32 : Nat) none none) (List.drop (startN (0 : Nat) none) c)]) + (100 : Nat) ≤ lim ∧ joinB [List.set (List.set (List.set (List.set (List.set (List.set (List.replicate ((5 : Nat) + (1 : Nat)) (0 : Int)) ((0 : Nat) * (1 : Nat)) (98 : Int)) ((1 : Nat) * (1 : Nat)) (114 : Int)) ((2 : Nat) * (1 : Nat)) (97 : Int)) ((3 : Nat) * (1 : Nat)) (110 : Int)) ((4 : Nat) * (1 : Nat)) (99 : Int)) ((5 : Nat) * (1 : Nat)) (104 : Int), List.take (lenN (32 : Nat) none none) (List.drop (startN (0 : Nat) none) a), List.take (lenN (32 : Nat) none none) (List.drop (startN (0 : Nat) none) c)] = brT a c ∧ True) (by kernel_rfl) (by
    obtain ⟨ha, _, hc, _, _⟩ := hp
    rw [t32 ha, t32 hc]
    have hlim : lim = 68719476736 := rfl
    refine ⟨by decide, ?_, rfl, trivial⟩
    rw [joinB_bulkT]
    simp only [List.flatten_cons, List.flatten_nil, List.length_append, List.length_set, List.length_replicate, List.length_cons, List.length_nil]
    omega))
noncomputable def gtriebranch : Con := fun args H => match args, H with
  | [.agg [.ints .u8 32 a], .agg [.ints .u8 32 c]], [] => some ⟨[a.length = 32, OkB a, c.length = 32, OkB c], .s (.a (.rw 0)), [(0, .row (.ints .u8 (brT a c)) 5)]⟩
  | _, _ => none
theorem vtriebranch : Valid Tryd.prog Gs 50 gtriebranch := by
  intro args H r h hp
  unfold gtriebranch at h
  split at h
  · simp only [Option.some.injEq] at h; subst h; exact oktriebranch _ _ hp
  · cases h
noncomputable def ct_triebranch : List (Nat × Ct) := (50, ⟨[], false, gtriebranch, none⟩) :: ct_trieleaf
theorem ctok_triebranch : CtsOk Tryd.prog Gs ct_triebranch := CtsOk.cons vtriebranch (by kernel_rfl) ctok_trieleaf
def cmpI (A B : List Int) : Int := if kv A < kv B then -1 else if kv A = kv B then 0 else 1
theorem cmp_kv : ∀ {A B : List Int}, OkB A → OkB B → A.length = B.length → Lib.compareBytes (Lib.bytesOf A) (Lib.bytesOf B) = cmpI A B
  | [], [], _, _, _ => rfl
  | [], _ :: _, _, _, h => by simp at h
  | _ :: _, [], _, _, h => by simp at h
  | x :: A, y :: B, ha, hb, h => by
    have hl : A.length = B.length := by simpa using h
    have h1 := ha x (by simp)
    have h2 := hb y (by simp)
    have ha' : OkB A := fun z hz => ha z (by simp [hz])
    have hb' : OkB B := fun z hz => hb z (by simp [hz])
    have ih := cmp_kv ha' hb' hl
    have l1 := kv_lt ha'
    have l2 := kv_lt hb'
    have e1 : (x.toNat.toUInt8 < y.toNat.toUInt8) ↔ x.toNat < y.toNat := by
      rw [UInt8.lt_iff_toNat_lt]; simp; omega
    have e2 : (y.toNat.toUInt8 < x.toNat.toUInt8) ↔ y.toNat < x.toNat := by
      rw [UInt8.lt_iff_toNat_lt]; simp; omega
    show (if x.toNat.toUInt8 < y.toNat.toUInt8 then (-1 : Int) else if y.toNat.toUInt8 < x.toNat.toUInt8 then 1 else Lib.compareBytes (Lib.bytesOf A) (Lib.bytesOf B)) = _
    rw [ih]
    unfold cmpI
    simp only [kv, e1, e2, hl]
    rw [hl] at l1
    rcases Nat.lt_trichotomy x.toNat y.toNat with hc | hc | hc
    · have := Nat.mul_le_mul_right (256 ^ B.length) (show x.toNat + 1 ≤ y.toNat from hc)
      rw [if_pos hc, if_pos (by rw [Nat.add_mul] at this; omega)]
    · rw [hc, if_neg (by omega), if_neg (by omega)]
      congr 1
      · apply propext; constructor <;> intro <;> omega
      · congr 1; apply propext; constructor <;> intro <;> omega
    · have := Nat.mul_le_mul_right (256 ^ B.length) (show y.toNat + 1 ≤ x.toNat from hc)
      rw [Nat.add_mul] at this
      rw [if_neg (by omega), if_pos hc, if_neg (by omega), if_neg (by omega)]
theorem bytes_run {P : Program} {w : World} {F : Nat → Prop} {L : List Int} {u : Value} (h : IRep ⟨w, F⟩ .u8 L u) : (Extern.Bytes.bytesOf u).run P w = .ok ⟨(Lib.bytesOf L).toArray⟩ w := by
  obtain ⟨a, cap, rfl, _, hc⟩ := h
  cases a with
  | none =>
    have : L = [] := Classical.byContradiction fun hn => by obtain ⟨b, off, cells, h, _⟩ := hc hn; cases h
    subst this; rfl
  | some a =>
    by_cases hn : L = []
    · subst hn; rfl
    · obtain ⟨b, off, cells, h, hz, hi⟩ := hc hn
      cases h
      have := Lib.run_loadBytesX (P := P) w L ⟨b, off, none⟩ .empty (fun j x hj => by
        have hx := hi j x hj
        obtain ⟨_, ty, fr, hz⟩ := hz
        have e : (⟨b, off, none⟩ : Addr).add j = ⟨b, off + j, none⟩ := by
          by_cases h0 : j = 0
          · subst h0; rfl
          · simp [Addr.add, h0]
        rw [e]
        simp only [World.cell?, hz]
        simpa using hx)
      simpa [Extern.Bytes.bytesOf] using this

noncomputable def anbytesCompare (A B : List Int) : Nat → List Nat → List Ann := fun _ _ => []
theorem okbytesCompare (A B : List Int) (hp : allP [OkB A, OkB B, A.length = B.length]) : CallsOk Tryd.prog Gs 24 [.a (.d (.si .u8 A)), .a (.d (.si .u8 B))] [] (eI .i64 (cmpI A B)) [] := by
  obtain ⟨ha, hb, hl, _⟩ := hp
  intro w F ρ us hL hO hG
  obtain ⟨u1, r1, rfl, h1, hL⟩ := hL
  obtain ⟨u2, r2, rfl, h2, hL⟩ := hL
  obtain rfl : r2 = [] := hL
  have b1 := bytes_run (P := Tryd.prog) h1
  have b2 := bytes_run (P := Tryd.prog) h2
  have key : Calls Tryd.prog 24 #[u1, u2] w fun r w' => r = .returned (.int .i64 (cmpI A B)) ∧ w' = w := by
    go_enter Tryd.func24, Tryd.ntmps24
    go_wp2
    rw [run_callFunc_extern Tryd.func44 (by kernel_rfl) (by kernel_rfl) (by kernel_rfl) (e := Extern.BytealgCompare.compare) (by kernel_rfl)]
    have : (Extern.BytealgCompare.compare #[u1, u2]).run Tryd.prog w = .ok (.int .i64 (cmpI A B)) w := by
      change (do let x ← Extern.Bytes.bytesOf u1; let y ← Extern.Bytes.bytesOf u2; pure (goInt (Extern.BytealgCompare.cmp x y)) : Sem Value).run _ _ = _
      simp only [Sem.run_bind, b1, b2, Result.andThen_ok, Sem.run_pure]
      rw [Lib.cmp_eq, cmp_kv ha hb hl]; rfl
    rw [this]
    simp only [Result.andThen]
    rw [Oper.upon_value]
    go_wp2
    go_ret
    exact ⟨rfl, rfl⟩
  refine key.mono ?_
  rintro r w' ⟨rfl, rfl⟩
  exact ⟨F, ρ, _, rfl, rfl, hO, { Fr.refl [] F ρ w' with rho := fun _ _ => rfl }⟩
noncomputable def gbytesCompare : Con := fun args H => match args, H with
  | [.a (.d (.si .u8 A)), .a (.d (.si .u8 B))], [] => some ⟨[OkB A, OkB B, A.length = B.length], eI .i64 (cmpI A B), []⟩
  | _, _ => none
theorem vbytesCompare : Valid Tryd.prog Gs 24 gbytesCompare := by
  intro args H r h hp
  unfold gbytesCompare at h
  split at h
  · simp only [Option.some.injEq] at h; subst h; exact okbytesCompare _ _ hp
  · cases h
noncomputable def ct_bytesCompare : List (Nat × Ct) := (24, ⟨[], false, gbytesCompare, none⟩) :: ct_triebranch
theorem ctok_bytesCompare : CtsOk Tryd.prog Gs ct_bytesCompare := CtsOk.cons vbytesCompare (by kernel_rfl) ctok_triebranch
noncomputable def antrieMay (l : List TE) : Nat → List Nat → List Ann := fun bk_ gs_ => match bk_, gs_ with
    | 0, _ => [{ τ := Nat, t0 := (default : Nat), J := fun i => i + 1 ≤ max l.length 1 ∧ mayT (l.take (i + 1)), m := fun i => l.length - i, l := fun i => [(0, .s (.a (.d (.sl 33 (l).length (lC tE tZ (l)))))), (3, eI .i64 (((i + 1 : Nat)) : Int))], H := fun i => [] }]
    | _, _ => []
theorem oktrieMay (l : List TE) (hp : allP [OkK l, l.length < 1099511627776]) : CallsOk Tryd.prog Gs 13 [.a (.d (.sl 33 (l).length (lC tE tZ (l))))] [] (eB (decide (mayT l))) [] :=
  ok_of (ann := antrieMay l) ctok_bytesCompare mixed Tryd.func13 (by kernel_rfl) (of_nf (p := (∃ (t : Nat), List.length l = List.length l ∧ (∀ (i : Nat), i < List.length l → lC tE tZ l i = lC tE tZ l i) ∧ (1 : Int) = (↑(t + (1 : Nat)) : Int) ∧ (t + (1 : Nat) ≤ max (List.length l) (1 : Nat) ∧ mayT (List.take (t + (1 : Nat)) l)) ∧ True) ∧ ∀ (t : Nat), t + (1 : Nat) ≤ max (List.length l) (1 : Nat) ∧ mayT (List.take (t + (1 : Nat)) l) → brP (decide ((↑(t + (1 : Nat)) : Int) < (↑(List.length l) : Int))) (((0 : Int) ≤ IntKind.wrap IntKind.i64 ((↑(t + (1 : Nat)) : Int) - (1 : Int)) ∧ IntKind.wrap IntKind.i64 ((↑(t + (1 : Nat)) : Int) - (1 : Int)) < (↑(List.length l) : Int)) ∧ ((0 : Int) ≤ (↑(t + (1 : Nat)) : Int) ∧ (↑(t + (1 : Nat)) : Int) < (↑(List.length l) : Int)) ∧ OkB (cutL (Prod.fst (List.getD l (Int.toNat (IntKind.wrap IntKind.i64 ((↑(t + (1 : Nat)) : Int) - (1 : Int)))) tZ)) none none) ∧ OkB (cutL (Prod.fst (List.getD l (Int.toNat (↑(t + (1 : Nat)) : Int)) tZ)) none none) ∧ List.length (cutL (Prod.fst (List.getD l (Int.toNat (IntKind.wrap IntKind.i64 ((↑(t + (1 : Nat)) : Int) - (1 : Int)))) tZ)) none none) = List.length (cutL (Prod.fst (List.getD l (Int.toNat (↑(t + (1 : Nat)) : Int)) tZ)) none none) ∧ brP (decide (cmpI (cutL (Prod.fst (List.getD l (Int.toNat (IntKind.wrap IntKind.i64 ((↑(t + (1 : Nat)) : Int) - (1 : Int)))) tZ)) none none) (cutL (Prod.fst (List.getD l (Int.toNat (↑(t + (1 : Nat)) : Int)) tZ)) none none) ≥ (0 : Int))) (false = decide (mayT l) ∧ True) (∃ (t_1 : Nat), List.length l = List.length l ∧ (∀ (i : Nat), i < List.length l → lC tE tZ l i = lC tE tZ l i) ∧ IntKind.wrap IntKind.i64 ((↑(t + (1 : Nat)) : Int) + (1 : Int)) = (↑(t_1 + (1 : Nat)) : Int) ∧ (t_1 + (1 : Nat) ≤ max (List.length l) (1 : Nat) ∧ mayT (List.take (t_1 + (1 : Nat)) l)) ∧ List.length l - t_1 < List.length l - t ∧ True)) (true = decide (mayT l) ∧ True)) (by kernel_rfl) (by
    obtain ⟨ho, hl, _⟩ := hp
    refine ⟨⟨0, rfl, fun _ _ => rfl, rfl, ⟨by omega, may_one (by rw [List.length_take]; omega)⟩, trivial⟩, fun t ht => ?_⟩
    obtain ⟨h1, h2⟩ := ht
    refine brI (fun hc => ?_) (fun hc => ?_)
    · have hc : t + 1 < l.length := by have := of_decide_eq_true hc; omega
      have e1 : IntKind.wrap .i64 (((t + 1 : Nat) : Int) - 1) = (t : Int) := by rw [wi _ (by omega) (by omega)]; omega
      rw [e1, Int.toNat_natCast, Int.toNat_natCast, cutA, cutA, gE hc, gE (show t < l.length by omega)]
      obtain ⟨a1, a2, _⟩ := ho l[t] (List.getElem_mem _)
      obtain ⟨b1, b2, _⟩ := ho l[t + 1] (List.getElem_mem _)
      refine ⟨⟨by omega, by omega⟩, ⟨by omega, by omega⟩, a2, b2, a1.trans b1.symm, brI (fun hx => ⟨?_, trivial⟩) (fun hx => ?_)⟩
      · have hx := of_decide_eq_true hx
        have : ¬ kv l[t].1 < kv l[t + 1].1 := fun hk => by unfold cmpI at hx; rw [if_pos hk] at hx; omega
        exact (decide_eq_false (may_not hc this)).symm
      · have hx := of_decide_eq_false hx
        have : kv l[t].1 < kv l[t + 1].1 := Classical.byContradiction fun hk => by
          unfold cmpI at hx; rw [if_neg hk] at hx; split at hx <;> omega
        refine ⟨t + 1, rfl, fun _ _ => rfl, by rw [wi _ (by omega) (by omega)]; rfl, ⟨by omega, (may_step h2 hc).2 this⟩, by omega, trivial⟩
    · have hc : l.length ≤ t + 1 := by have := of_decide_eq_false hc; omega
      rw [List.take_of_length_le hc] at h2
      exact ⟨(decide_eq_true h2).symm, trivial⟩))
noncomputable def gtrieMay : Con := fun args H => match args, H with
  | [.a (.d (.sl 33 m c))], [] => (fun (l : List TE) => conC args H [.a (.d (.sl 33 (l).length (lC tE tZ (l))))] [] ⟨[OkK l, l.length < 1099511627776], eB (decide (mayT l)), []⟩) (lL tG m c)
  | _, _ => none
theorem vtrieMay : Valid Tryd.prog Gs 13 gtrieMay := by
  intro args H r h hp
  unfold gtrieMay at h
  split at h
  · rename_i m c
    exact conC_ok h hp fun hp => oktrieMay (lL tG m c) hp
  · cases h
noncomputable def ct_trieMay : List (Nat × Ct) := (13, ⟨[], false, gtrieMay, none⟩) :: ct_bytesCompare
theorem ctok_trieMay : CtsOk Tryd.prog Gs ct_trieMay := CtsOk.cons vtrieMay (by kernel_rfl) ctok_bytesCompare
noncomputable def antriepart1 (k v : List Int) (t deep : Int) : Nat → List Nat → List Ann := fun _ _ => []
theorem oktriepart1 (k v : List Int) (t deep : Int) (hp : allP [OkB k, k.length = 32, 0 ≤ deep ∧ deep < 256, 0 ≤ t ∧ t < 2]) : CallsOk Tryd.prog Gs 66 [.agg [.ints .u8 32 k, .one (.d (.si .u8 v))], .a (.d (.v (.int .i64 t))), .a (.lp 100000 0)] [(100000, .cells [.one (.d (.v (.int .i64 deep)))] 3)] (eI .i64 ((bt k deep.toNat : Int) - t)) [(100000, .cells [.one (.d (.v (.int .i64 deep)))] 3)] :=
  ok_of (ann := antriepart1 k v t deep) ctok_trieMay mixed Tryd.func66 (by kernel_rfl) (of_nf (p := OkB k ∧ List.length k = (32 : Nat) ∧ ((0 : Int) ≤ deep ∧ deep < (256 : Int)) ∧ IntKind.wrap IntKind.i64 ((↑(bt k (Int.toNat deep)) : Int) - t) = (↑(bt k (Int.toNat deep)) : Int) - t ∧ deep = deep ∧ True) (by kernel_rfl) (by
    obtain ⟨h1, h2, h3, h4, _⟩ := hp
    have := bt_lt k deep.toNat
    exact ⟨h1, h2, h3, wi _ (by omega) (by omega), rfl, trivial⟩))
noncomputable def gtriepart1 : Con := fun args H => match args, H with
  | [.agg [.ints .u8 32 k, .one (.d (.si .u8 v))], .a (.d (.v (.int .i64 t))), .a (.lp 100000 0)], [(100000, .cells [.one (.d (.v (.int .i64 deep)))] 3)] => some ⟨[OkB k, k.length = 32, 0 ≤ deep ∧ deep < 256, 0 ≤ t ∧ t < 2], eI .i64 ((bt k deep.toNat : Int) - t), [(100000, .cells [.one (.d (.v (.int .i64 deep)))] 3)]⟩
  | _, _ => none
theorem vtriepart1 : Valid Tryd.prog Gs 66 gtriepart1 := by
  intro args H r h hp
  unfold gtriepart1 at h
  split at h
  · simp only [Option.some.injEq] at h; subst h; exact oktriepart1 _ _ _ _ hp
  · cases h
noncomputable def ct_triepart1 : List (Nat × Ct) := (66, ⟨[false, false, true], false, gtriepart1, none⟩) :: ct_trieMay
theorem ctok_triepart1 : CtsOk Tryd.prog Gs ct_triepart1 := CtsOk.cons vtriepart1 (by kernel_rfl) ctok_trieMay
theorem mid_eq {i j : Nat} (hi : i < 1099511627776) (hj : j < 1099511627776) : IntKind.wrap .i64 (Int.fdiv (IntKind.wrap .u64 (IntKind.wrap .i64 ((i : Int) + (j : Int)))) (2 ^ min (Int.toNat 1) (IntKind.bits .u64))) = (((i + j) / 2 : Nat) : Int) := by
  have e1 : min (Int.toNat 1) (IntKind.bits .u64) = 1 := by decide
  rw [e1, wi ((i : Int) + (j : Int)) (by omega) (by omega), wu ((i : Int) + (j : Int)) (by omega) (by omega), show ((i : Int) + (j : Int)) = ((i + j : Nat) : Int) by omega, fdiv_nat]
  rw [show (2 : Nat) ^ 1 = 2 by decide]
  exact wi _ (by omega) (by omega)
theorem Srt.bits {f : Nat} {l : List TE} (h : Srt (f + 1) l) (hf : f < 256) {i j : Nat} (hij : i ≤ j) (hj : j < l.length) : bt (l.getD i tZ).1 (255 - f) ≤ bt (l.getD j tZ).1 (255 - f) := by
  rw [gE hj, gE (show i < l.length by omega)]
  rcases Nat.lt_or_eq_of_le hij with h1 | h1
  · exact List.pairwise_iff_getElem.1 (h.mono hf) i j (by omega) hj h1
  · subst h1; exact Nat.le_refl _
noncomputable def antrieEntryint (l : List TE) (deep : Int) : Nat → List Nat → List Ann := fun bk_ gs_ => match bk_, gs_ with
    | 0, _ => [{ τ := Nat × Nat, t0 := (default : Nat × Nat), J := fun g => g.1 ≤ g.2 ∧ g.2 ≤ l.length ∧ (∀ i, i < g.1 → bt (l.getD i tZ).1 deep.toNat = 0) ∧ ∀ i, g.2 ≤ i → i < l.length → bt (l.getD i tZ).1 deep.toNat = 1, m := fun g => g.2 - g.1, l := fun g => [(0, .s (.a (.d (.sl 33 (l).length (lC tE tZ (l)))))), (1, eI .i64 1), (2, .s (.a (.fn (.func 66) [(100000, 0)]))), (8, eI .i64 (l.length : Int)), (9, eI .i64 (g.1 : Int)), (10, eI .i64 (g.2 : Int))], H := fun g => [(100000, .cells [.one (.d (.v (.int .i64 deep)))] 3)] }]
    | _, _ => []
theorem oktrieEntryint (l : List TE) (deep : Int) (hp : allP [OkK l, l.length < 1099511627776, 0 ≤ deep ∧ deep < 256, Srt (256 - deep.toNat) l]) : CallsOk Tryd.prog Gs 65 [.a (.d (.sl 33 (l).length (lC tE tZ (l)))), .a (.d (.v (.int .i64 1))), .a (.fn (.func 66) [(100000, 0)])] [(100000, .cells [.one (.d (.v (.int .i64 deep)))] 3)] (.t [.a (.d (.v (.int .i64 ((sideT l deep.toNat 0).length : Int)))), .a (.d (.v (.bool (decide ((sideT l deep.toNat 0).length < l.length)))))]) [(100000, .cells [.one (.d (.v (.int .i64 deep)))] 3)] :=
  ok_of (ann := antrieEntryint l deep) ctok_triepart1 mixed Tryd.func65 (by kernel_rfl) (of_nf (p := (∃ (t : Nat × Nat), List.length l = List.length l ∧ (∀ (i : Nat), i < List.length l → lC tE tZ l i = lC tE tZ l i) ∧ (1 : Int) = (1 : Int) ∧ (↑(List.length l) : Int) = (↑(List.length l) : Int) ∧ (0 : Int) = (↑(Prod.fst t) : Int) ∧ (↑(List.length l) : Int) = (↑(Prod.snd t) : Int) ∧ deep = deep ∧ (Prod.fst t ≤ Prod.snd t ∧ Prod.snd t ≤ List.length l ∧ (∀ (i : Nat), i < Prod.fst t → bt (Prod.fst (List.getD l i tZ)) (Int.toNat deep) = (0 : Nat)) ∧ ∀ (i : Nat), Prod.snd t ≤ i → i < List.length l → bt (Prod.fst (List.getD l i tZ)) (Int.toNat deep) = (1 : Nat)) ∧ True) ∧ ∀ (t : Nat × Nat), (Prod.fst t ≤ Prod.snd t ∧ Prod.snd t ≤ List.length l ∧ (∀ (i : Nat), i < Prod.fst t → bt (Prod.fst (List.getD l i tZ)) (Int.toNat deep) = (0 : Nat)) ∧ ∀ (i : Nat), Prod.snd t ≤ i → i < List.length l → bt (Prod.fst (List.getD l i tZ)) (Int.toNat deep) = (1 : Nat)) → brP (decide ((↑(Prod.fst t) : Int) < (↑(Prod.snd t) : Int))) ((0 : Int) ≤ (1 : Int) ∧ ((0 : Int) ≤ IntKind.wrap IntKind.i64 (Int.fdiv (IntKind.wrap IntKind.u64 (IntKind.wrap IntKind.i64 ((↑(Prod.fst t) : Int) + (↑(Prod.snd t) : Int)))) ((2 : Int) ^ min (Int.toNat (1 : Int)) (IntKind.bits IntKind.u64))) ∧ IntKind.wrap IntKind.i64 (Int.fdiv (IntKind.wrap IntKind.u64 (IntKind.wrap IntKind.i64 ((↑(Prod.fst t) : Int) + (↑(Prod.snd t) : Int)))) ((2 : Int) ^ min (Int.toNat (1 : Int)) (IntKind.bits IntKind.u64))) < (↑(List.length l) : Int)) ∧ OkB (Prod.fst (List.getD l (Int.toNat (IntKind.wrap IntKind.i64 (Int.fdiv (IntKind.wrap IntKind.u64 (IntKind.wrap IntKind.i64 ((↑(Prod.fst t) : Int) + (↑(Prod.snd t) : Int)))) ((2 : Int) ^ min (Int.toNat (1 : Int)) (IntKind.bits IntKind.u64))))) tZ)) ∧ List.length (Prod.fst (List.getD l (Int.toNat (IntKind.wrap IntKind.i64 (Int.fdiv (IntKind.wrap IntKind.u64 (IntKind.wrap IntKind.i64 ((↑(Prod.fst t) : Int) + (↑(Prod.snd t) : Int)))) ((2 : Int) ^ min (Int.toNat (1 : Int)) (IntKind.bits IntKind.u64))))) tZ)) = (32 : Nat) ∧ ((0 : Int) ≤ deep ∧ deep < (256 : Int)) ∧ ((0 : Int) ≤ (1 : Int) ∧ (1 : Int) < (2 : Int)) ∧ brP (decide ((↑(bt (Prod.fst (List.getD l (Int.toNat (IntKind.wrap IntKind.i64 (Int.fdiv (IntKind.wrap IntKind.u64 (IntKind.wrap IntKind.i64 ((↑(Prod.fst t) : Int) + (↑(Prod.snd t) : Int)))) ((2 : Int) ^ min (Int.toNat (1 : Int)) (IntKind.bits IntKind.u64))))) tZ)) (Int.toNat deep)) : Int) - (1 : Int) < (0 : Int))) (∃ (t_1 : Nat × Nat), List.length l = List.length l ∧ (∀ (i : Nat), i < List.length l → lC tE tZ l i = lC tE tZ l i) ∧ (1 : Int) = (1 : Int) ∧ (↑(List.length l) : Int) = (↑(List.length l) : Int) ∧ IntKind.wrap IntKind.i64 (IntKind.wrap IntKind.i64 (Int.fdiv (IntKind.wrap IntKind.u64 (IntKind.wrap IntKind.i64 ((↑(Prod.fst t) : Int) + (↑(Prod.snd t) : Int)))) ((2 : Int) ^ min (Int.toNat (1 : Int)) (IntKind.bits IntKind.u64))) + (1 : Int)) = (↑(Prod.fst t_1) : Int) ∧ (↑(Prod.snd t) : Int) = (↑(Prod.snd t_1) : Int) ∧ deep = deep ∧ (Prod.fst t_1 ≤ Prod.snd t_1 ∧ Prod.snd t_1 ≤ List.length l ∧ (∀ (i : Nat), i < Prod.fst t_1 → bt (Prod.fst (List.getD l i tZ)) (Int.toNat deep) = (0 : Nat)) ∧ ∀ (i : Nat), Prod.snd t_1 ≤ i → i < List.length l → bt (Prod.fst (List.getD l i tZ)) (Int.toNat deep) = (1 : Nat)) ∧ Prod.snd t_1 - Prod.fst t_1 < Prod.snd t - Prod.fst t ∧ True) (∃ (t_1 : Nat × Nat), List.length l = List.length l ∧ (∀ (i : Nat), i < List.length l → lC tE tZ l i = lC tE tZ l i) ∧ (1 : Int) = (1 : Int) ∧ (↑(List.length l) : Int) = (↑(List.length l) : Int) ∧ (↑(Prod.fst t) : Int) = (↑(Prod.fst t_1) : Int) ∧ IntKind.wrap IntKind.i64 (Int.fdiv (IntKind.wrap IntKind.u64 (IntKind.wrap IntKind.i64 ((↑(Prod.fst t) : Int) + (↑(Prod.snd t) : Int)))) ((2 : Int) ^ min (Int.toNat (1 : Int)) (IntKind.bits IntKind.u64))) = (↑(Prod.snd t_1) : Int) ∧ deep = deep ∧ (Prod.fst t_1 ≤ Prod.snd t_1 ∧ Prod.snd t_1 ≤ List.length l ∧ (∀ (i : Nat), i < Prod.fst t_1 → bt (Prod.fst (List.getD l i tZ)) (Int.toNat deep) = (0 : Nat)) ∧ ∀ (i : Nat), Prod.snd t_1 ≤ i → i < List.length l → bt (Prod.fst (List.getD l i tZ)) (Int.toNat deep) = (1 : Nat)) ∧ Prod.snd t_1 - Prod.fst t_1 < Prod.snd t - Prod.fst t ∧ True)) (brP (decide ((↑(Prod.fst t) : Int) < (↑(List.length l) : Int))) (((0 : Int) ≤ (↑(Prod.fst t) : Int) ∧ (↑(Prod.fst t) : Int) < (↑(List.length l) : Int)) ∧ OkB (Prod.fst (List.getD l (Int.toNat (↑(Prod.fst t) : Int)) tZ)) ∧ List.length (Prod.fst (List.getD l (Int.toNat (↑(Prod.fst t) : Int)) tZ)) = (32 : Nat) ∧ ((0 : Int) ≤ deep ∧ deep < (256 : Int)) ∧ ((0 : Int) ≤ (1 : Int) ∧ (1 : Int) < (2 : Int)) ∧ (↑(Prod.fst t) : Int) = (↑(List.length (sideT l (Int.toNat deep) (0 : Nat))) : Int) ∧ ((↑(bt (Prod.fst (List.getD l (Int.toNat (↑(Prod.fst t) : Int)) tZ)) (Int.toNat deep)) : Int) - (1 : Int) == (0 : Int)) = decide (List.length (sideT l (Int.toNat deep) (0 : Nat)) < List.length l) ∧ deep = deep ∧ True) ((↑(Prod.fst t) : Int) = (↑(List.length (sideT l (Int.toNat deep) (0 : Nat))) : Int) ∧ false = decide (List.length (sideT l (Int.toNat deep) (0 : Nat)) < List.length l) ∧ deep = deep ∧ True))) (by kernel_rfl) (by
    obtain ⟨ho, hl, ⟨hd0, hd1⟩, hs, _⟩ := hp
    obtain ⟨d, rfl⟩ : ∃ d : Nat, deep = d := ⟨deep.toNat, by omega⟩
    rw [Int.toNat_natCast] at hs
    obtain ⟨f, hf⟩ : ∃ f : Nat, 256 - d = f + 1 := ⟨255 - d, by omega⟩
    rw [hf] at hs
    have ed : d = 255 - f := by omega
    rw [Int.toNat_natCast d]
    refine ⟨⟨(0, l.length), rfl, fun _ _ => rfl, rfl, rfl, rfl, rfl, rfl, ⟨Nat.zero_le _, Nat.le_refl _, fun i hi => by omega, fun i h1 h2 => by dsimp only at h1; omega⟩, trivial⟩, ?_⟩
    rintro ⟨i, j⟩ ⟨h1, h2, h3, h4⟩
    dsimp only at h1 h2 h3 h4 ⊢
    have bl : ∀ k, bt (l.getD k tZ).1 d < 2 := fun k => bt_lt _ _
    refine brI (fun hc => ?_) (fun hc => ?_)
    · have hc : i < j := by have := of_decide_eq_true hc; omega
      rw [mid_eq (by omega) (by omega)]
      have hm1 : i ≤ (i + j) / 2 := by omega
      have hm2 : (i + j) / 2 < j := by omega
      generalize (i + j) / 2 = m at hm1 hm2 ⊢
      have hmb := bl m
      rw [Int.toNat_natCast]
      obtain ⟨a1, a2, _⟩ := ho (l.getD m tZ) (by rw [gE (show m < l.length by omega)]; exact List.getElem_mem _)
      refine ⟨by decide, ⟨by omega, by omega⟩, a2, a1, ⟨hd0, hd1⟩, by decide, brI (fun hx => ?_) (fun hx => ?_)⟩
      · have hx := of_decide_eq_true hx
        refine ⟨(m + 1, j), rfl, fun _ _ => rfl, rfl, rfl, by rw [wi _ (by omega) (by omega)]; rfl, rfl, rfl, ⟨by dsimp only; omega, h2, fun k hk => ?_, h4⟩, by dsimp only; omega, trivial⟩
        dsimp only at hk
        have := hs.bits (by omega) (show k ≤ m by omega) (by omega)
        rw [← ed] at this; omega
      · have hx := of_decide_eq_false hx
        refine ⟨(i, m), rfl, fun _ _ => rfl, rfl, rfl, rfl, rfl, rfl, ⟨hm1, by dsimp only; omega, h3, fun k hk1 hk2 => ?_⟩, by dsimp only; omega, trivial⟩
        dsimp only at hk1
        have := hs.bits (by omega) hk1 hk2
        rw [← ed] at this
        have := bl k; omega
    · have hc : i = j := by have := of_decide_eq_false hc; omega
      subst hc
      obtain ⟨c1, c2⟩ := hs.cut (n := i) (by omega) h2 (fun k hk hki => by rw [← ed, ← gE hk]; exact h3 k hki) (fun k hk hki => by rw [← ed, ← gE hk]; exact h4 k hki hk)
      have el : (sideT l d 0).length = i := by rw [ed, ← c1, List.length_take]; omega
      rw [el]
      refine brI (fun hx => ?_) (fun hx => ?_)
      · have hx : i < l.length := by have := of_decide_eq_true hx; omega
        obtain ⟨a1, a2, _⟩ := ho (l.getD i tZ) (by rw [gE hx]; exact List.getElem_mem _)
        rw [Int.toNat_natCast, h4 i (Nat.le_refl _) hx]
        exact ⟨⟨by omega, by omega⟩, a2, a1, ⟨hd0, hd1⟩, by decide, rfl, (decide_eq_true hx).symm, rfl, trivial⟩
      · have hx : ¬ i < l.length := by have := of_decide_eq_false hx; omega
        exact ⟨rfl, (decide_eq_false hx).symm, rfl, trivial⟩))
noncomputable def gtrieEntryint : Con := fun args H => match args, H with
  | [.a (.d (.sl 33 m c)), .a (.d (.v (.int .i64 1))), .a (.fn (.func 66) [(100000, 0)])], [(100000, .cells [.one (.d (.v (.int .i64 deep)))] 3)] => (fun (l : List TE) (deep : Int) => conC args H [.a (.d (.sl 33 (l).length (lC tE tZ (l)))), .a (.d (.v (.int .i64 1))), .a (.fn (.func 66) [(100000, 0)])] [(100000, .cells [.one (.d (.v (.int .i64 deep)))] 3)] ⟨[OkK l, l.length < 1099511627776, 0 ≤ deep ∧ deep < 256, Srt (256 - deep.toNat) l], .t [.a (.d (.v (.int .i64 ((sideT l deep.toNat 0).length : Int)))), .a (.d (.v (.bool (decide ((sideT l deep.toNat 0).length < l.length)))))], [(100000, .cells [.one (.d (.v (.int .i64 deep)))] 3)]⟩) (lL tG m c) (deep)
  | _, _ => none
theorem vtrieEntryint : Valid Tryd.prog Gs 65 gtrieEntryint := by
  intro args H r h hp
  unfold gtrieEntryint at h
  split at h
  · rename_i m c deep
    exact conC_ok h hp fun hp => oktrieEntryint (lL tG m c) (deep) hp
  · cases h
noncomputable def ct_trieEntryint : List (Nat × Ct) := (65, ⟨[false, false, true], false, gtrieEntryint, none⟩) :: ct_triepart1
theorem ctok_trieEntryint : CtsOk Tryd.prog Gs ct_trieEntryint := CtsOk.cons vtrieEntryint (by kernel_rfl) ctok_triepart1
theorem lC_appL {α : Type} {f : α → List DC} {d : α} {A B : List α} {i : Nat} (h : i < A.length) : lC f d (A ++ B) i = lC f d A i := by
  unfold lC; rw [List.getD_eq_getElem?_getD, List.getD_eq_getElem?_getD, List.getElem?_append_left h]
theorem lC_appR {α : Type} {f : α → List DC} {d : α} {A B : List α} {i : Nat} : lC f d (A ++ B) (A.length + i) = lC f d B i := by
  unfold lC; rw [List.getD_eq_getElem?_getD, List.getD_eq_getElem?_getD, List.getElem?_append_right (by omega), Nat.add_sub_cancel_left]
noncomputable def antriepart (l : List TE) (deep : Int) : Nat → List Nat → List Ann := fun _ _ => []
theorem oktriepart (l : List TE) (deep : Int) (hp : allP [OkK l, l.length < 1099511627776, 0 ≤ deep ∧ deep < 256, Srt (256 - deep.toNat) l]) : CallsOk Tryd.prog Gs 49 [.a (.d (.sl 33 (l).length (lC tE tZ (l)))), .a (.d (.v (.int .i64 deep)))] [] (.t [.a (.d (.sl 33 (sideT l deep.toNat 0).length (lC tE tZ (sideT l deep.toNat 0)))), .a (.d (.sl 33 (sideT l deep.toNat 1).length (lC tE tZ (sideT l deep.toNat 1))))]) [] :=
  ok_of (ann := antriepart l deep) ctok_trieEntryint mixed Tryd.func49 (by kernel_rfl) (of_nf (p := List.length l = List.length (lL tG (List.length l) (lC tE tZ l)) ∧ (∀ (i : Nat), i < List.length (lL tG (List.length l) (lC tE tZ l)) → lC tE tZ l i = lC tE tZ (lL tG (List.length l) (lC tE tZ l)) i) ∧ (1 : Int) = (1 : Int) ∧ deep = deep ∧ OkK (lL tG (List.length l) (lC tE tZ l)) ∧ List.length (lL tG (List.length l) (lC tE tZ l)) < (1099511627776 : Nat) ∧ ((0 : Int) ≤ deep ∧ deep < (256 : Int)) ∧ Srt ((256 : Nat) - Int.toNat deep) (lL tG (List.length l) (lC tE tZ l)) ∧ ((0 : Int) ≤ (↑(List.length (sideT (lL tG (List.length l) (lC tE tZ l)) (Int.toNat deep) (0 : Nat))) : Int) ∧ (↑(List.length (sideT (lL tG (List.length l) (lC tE tZ l)) (Int.toNat deep) (0 : Nat))) : Int) ≤ (↑(List.length l) : Int)) ∧ ((0 : Int) ≤ (↑(List.length (sideT (lL tG (List.length l) (lC tE tZ l)) (Int.toNat deep) (0 : Nat))) : Int) ∧ (↑(List.length (sideT (lL tG (List.length l) (lC tE tZ l)) (Int.toNat deep) (0 : Nat))) : Int) ≤ (↑(List.length l) : Int)) ∧ lenN (List.length l) none (some (IntKind.i64, (↑(List.length (sideT (lL tG (List.length l) (lC tE tZ l)) (Int.toNat deep) (0 : Nat))) : Int))) = List.length (sideT l (Int.toNat deep) (0 : Nat)) ∧ (∀ (i : Nat), i < List.length (sideT l (Int.toNat deep) (0 : Nat)) → cutF (lC tE tZ l) none i = lC tE tZ (sideT l (Int.toNat deep) (0 : Nat)) i) ∧ lenN (List.length l) (some (IntKind.i64, (↑(List.length (sideT (lL tG (List.length l) (lC tE tZ l)) (Int.toNat deep) (0 : Nat))) : Int))) none = List.length (sideT l (Int.toNat deep) (1 : Nat)) ∧ (∀ (i : Nat), i < List.length (sideT l (Int.toNat deep) (1 : Nat)) → cutF (lC tE tZ l) (some (IntKind.i64, (↑(List.length (sideT (lL tG (List.length l) (lC tE tZ l)) (Int.toNat deep) (0 : Nat))) : Int))) i = lC tE tZ (sideT l (Int.toNat deep) (1 : Nat)) i) ∧ True) (by kernel_rfl) (by
    obtain ⟨ho, hl, ⟨hd0, hd1⟩, hs, _⟩ := hp
    rw [lL_self tG_tE]
    obtain ⟨d, rfl⟩ : ∃ d : Nat, deep = d := ⟨deep.toNat, by omega⟩
    rw [Int.toNat_natCast] at hs ⊢
    have hp : l = sideT l d 0 ++ sideT l d 1 := by
      obtain ⟨f, hf⟩ : ∃ f : Nat, 256 - d = f + 1 := ⟨255 - d, by omega⟩
      have := (hf ▸ hs : Srt (f + 1) l).part (by omega)
      rw [show 255 - f = d by omega] at this; exact this
    have hpl : l.length = (sideT l d 0).length + (sideT l d 1).length := by rw [← List.length_append, ← hp]
    refine ⟨rfl, fun _ _ => rfl, rfl, rfl, ho, hl, ⟨hd0, hd1⟩, hs, ⟨by omega, by omega⟩, ⟨by omega, by omega⟩, ?_, fun i hi => ?_, ?_, fun i hi => ?_, trivial⟩
    · simp only [lenN, Int.toNat_natCast]
    · show lC tE tZ l i = _
      have := lC_appL (f := tE) (d := tZ) (B := sideT l d 1) hi
      rw [← hp] at this; exact this
    · simp only [lenN, Int.toNat_natCast]; omega
    · show lC tE tZ l (Int.toNat _ + i) = _
      rw [Int.toNat_natCast]
      have := lC_appR (f := tE) (d := tZ) (A := sideT l d 0) (B := sideT l d 1) (i := i)
      rw [← hp] at this; exact this))
noncomputable def gtriepart : Con := fun args H => match args, H with
  | [.a (.d (.sl 33 m c)), .a (.d (.v (.int .i64 deep)))], [] => (fun (l : List TE) (deep : Int) => conC args H [.a (.d (.sl 33 (l).length (lC tE tZ (l)))), .a (.d (.v (.int .i64 deep)))] [] ⟨[OkK l, l.length < 1099511627776, 0 ≤ deep ∧ deep < 256, Srt (256 - deep.toNat) l], .t [.a (.d (.sl 33 (sideT l deep.toNat 0).length (lC tE tZ (sideT l deep.toNat 0)))), .a (.d (.sl 33 (sideT l deep.toNat 1).length (lC tE tZ (sideT l deep.toNat 1))))], []⟩) (lL tG m c) (deep)
  | _, _ => none
theorem vtriepart : Valid Tryd.prog Gs 49 gtriepart := by
  intro args H r h hp
  unfold gtriepart at h
  split at h
  · rename_i m c deep
    exact conC_ok h hp fun hp => oktriepart (lL tG m c) (deep) hp
  · cases h
noncomputable def ct_triepart : List (Nat × Ct) := (49, ⟨[], false, gtriepart, none⟩) :: ct_trieEntryint
theorem ctok_triepart : CtsOk Tryd.prog Gs ct_triepart := CtsOk.cons vtriepart (by kernel_rfl) ctok_trieEntryint
theorem lit_okT {L : List Int} (h : (L.all fun x => decide (0 ≤ x ∧ x < 256)) = true) : OkB L := fun x hx => of_decide_eq_true (List.all_eq_true.1 h x hx)
theorem all3_ok {a b c : List Int} (ha : OkB a) (hb : OkB b) (hc : OkB c) : ∀ L ∈ [a, b, c], OkB L := fun L hL => by
  simp only [List.mem_cons, List.not_mem_nil, or_false] at hL
  rcases hL with rfl | rfl | rfl
  · exact ha
  · exact hb
  · exact hc
theorem brT_ok {a b : List Int} (ha : OkB a) (hb : OkB b) : OkB (brT a b) := joinB_okB (all3_ok (lit_okT (by decide)) ha hb)
theorem leafT_ok {e : TE} (h : OkT e) : OkB (leafT e) := joinB_okB (all3_ok (lit_okT (by decide)) h.2.1 h.2.2.1)
theorem emT_ok : OkB emT := joinB_okB fun L hL => by rw [List.mem_singleton.1 hL]; exact lit_okT (by decide)
theorem endT_ok {l : List TE} (h : OkK l) : OkB (endT l) := by
  cases l with
  | nil => exact emT_ok
  | cons e r => exact leafT_ok (h e (by simp))
theorem OkK.side {l : List TE} (h : OkK l) (d v : Nat) : OkK (sideT l d v) := fun e he => h e (side_sub _ _ _ _ he)
theorem txT_ok : ∀ {f : Nat} {l : List TE}, OkK l → OkB (txT f l)
  | 0, l, h => endT_ok h
  | f + 1, l, h => by
    rw [tx_s]
    split
    · exact endT_ok h
    · exact brT_ok (sumB_ok2 _) (sumB_ok2 _)
theorem tx_le {l : List TE} (h : l.length ≤ 1) (f : Nat) : txT f l = endT l := by
  cases f with
  | zero => rfl
  | succ f => rw [tx_s, if_pos h]
theorem side_len (l : List TE) (d v : Nat) : (sideT l d v).length ≤ l.length := List.length_filter_le _ _
noncomputable def antrietext (l : List TE) (deep : Int) : Nat → List Nat → List Ann := fun _ _ => []
noncomputable def grtrietext (n_ : Nat) : Con := fun args H => match args, H with
  | [.a (.d (.sl 33 m c)), .a (.d (.v (.int .i64 deep)))], [] => (fun (l : List TE) (deep : Int) => conC args H [.a (.d (.sl 33 (l).length (lC tE tZ (l)))), .a (.d (.v (.int .i64 deep)))] [] ⟨(256 - deep.toNat < n_) :: [OkK l, l.length < 1099511627776, 0 ≤ deep ∧ deep ≤ 256, Srt (256 - deep.toNat) l, ∀ e ∈ l, e.2.length + 300 ≤ lim], .s (.a (.rw 0)), [(0, .row (.ints .u8 (txT (256 - deep.toNat) l)) 5)]⟩) (lL tG m c) (deep)
  | _, _ => none
noncomputable def ctr_trietext (n_ : Nat) : List (Nat × Ct) := (26, ⟨[], false, grtrietext n_, none⟩) :: ct_triepart
theorem okrtrietext (l : List TE) (deep : Int) (n_ : Nat) (hv_ : Valid Tryd.prog Gs 26 (grtrietext n_)) (hm_ : 256 - deep.toNat < n_ + 1) (hp : allP [OkK l, l.length < 1099511627776, 0 ≤ deep ∧ deep ≤ 256, Srt (256 - deep.toNat) l, ∀ e ∈ l, e.2.length + 300 ≤ lim]) : CallsOk Tryd.prog Gs 26 [.a (.d (.sl 33 (l).length (lC tE tZ (l)))), .a (.d (.v (.int .i64 deep)))] [] (.s (.a (.rw 0))) [(0, .row (.ints .u8 (txT (256 - deep.toNat) l)) 5)] :=
  ok_of (ann := antrietext l deep) (CtsOk.cons (c := ⟨[], false, grtrietext n_, none⟩) hv_ (by kernel_rfl) ctok_triepart) mixed Tryd.func26 (by kernel_rfl) (of_nf (p := brP ((↑(List.length l) : Int) == (0 : Int)) ((0 : Nat) < List.length (List.set (List.set (List.set (List.set (List.set (List.replicate ((4 : Nat) + (1 : Nat)) (0 : Int)) ((0 : Nat) * (1 : Nat)) (101 : Int)) ((1 : Nat) * (1 : Nat)) (109 : Int)) ((2 : Nat) * (1 : Nat)) (112 : Int)) ((3 : Nat) * (1 : Nat)) (116 : Int)) ((4 : Nat) * (1 : Nat)) (121 : Int)) ∧ List.length (joinB [List.set (List.set (List.set (List.set (List.set (List.replicate ((4 : Nat) + (1 : Nat)) (0 : Int)) ((0 : Nat) * (1 : Nat)) (101 : Int)) ((1 : Nat) * (1 : Nat)) (109 : Int)) ((2 : Nat) * (1 : Nat)) (112 : Int)) ((3 : Nat) * (1 : Nat)) (116 : Int)) ((4 : Nat) * (1 : Nat)) (121 : Int)]) + (100 : Nat) ≤ lim ∧ joinB [List.set (List.set (List.set (List.set (List.set (List.replicate ((4 : Nat) + (1 : Nat)) (0 : Int)) ((0 : Nat) * (1 : Nat)) (101 : Int)) ((1 : Nat) * (1 : Nat)) (109 : Int)) ((2 : Nat) * (1 : Nat)) (112 : Int)) ((3 : Nat) * (1 : Nat)) (116 : Int)) ((4 : Nat) * (1 : Nat)) (121 : Int)] = txT ((256 : Nat) - Int.toNat deep) l ∧ True) (brP ((↑(List.length l) : Int) == (1 : Int)) (((0 : Int) ≤ (0 : Int) ∧ (0 : Int) < (↑(List.length l) : Int)) ∧ ((0 : Int) ≤ (0 : Int) ∧ (0 : Int) < (↑(List.length l) : Int)) ∧ List.length (Prod.fst (List.getD l (Int.toNat (0 : Int)) tZ)) = (32 : Nat) ∧ OkB (Prod.fst (List.getD l (Int.toNat (0 : Int)) tZ)) ∧ OkB (Prod.snd (List.getD l (Int.toNat (0 : Int)) tZ)) ∧ List.length (Prod.snd (List.getD l (Int.toNat (0 : Int)) tZ)) + (300 : Nat) ≤ lim ∧ leafT (Prod.fst (List.getD l (Int.toNat (0 : Int)) tZ), Prod.snd (List.getD l (Int.toNat (0 : Int)) tZ)) = txT ((256 : Nat) - Int.toNat deep) l ∧ True) (List.length l = List.length (lL tG (List.length l) (lC tE tZ l)) ∧ (∀ (i : Nat), i < List.length (lL tG (List.length l) (lC tE tZ l)) → lC tE tZ l i = lC tE tZ (lL tG (List.length l) (lC tE tZ l)) i) ∧ deep = deep ∧ OkK (lL tG (List.length l) (lC tE tZ l)) ∧ List.length (lL tG (List.length l) (lC tE tZ l)) < (1099511627776 : Nat) ∧ ((0 : Int) ≤ deep ∧ deep < (256 : Int)) ∧ Srt ((256 : Nat) - Int.toNat deep) (lL tG (List.length l) (lC tE tZ l)) ∧ List.length (sideT (lL tG (List.length l) (lC tE tZ l)) (Int.toNat deep) (0 : Nat)) = List.length (lL tG (List.length (sideT (lL tG (List.length l) (lC tE tZ l)) (Int.toNat deep) (0 : Nat))) (lC tE tZ (sideT (lL tG (List.length l) (lC tE tZ l)) (Int.toNat deep) (0 : Nat)))) ∧ (∀ (i : Nat), i < List.length (lL tG (List.length (sideT (lL tG (List.length l) (lC tE tZ l)) (Int.toNat deep) (0 : Nat))) (lC tE tZ (sideT (lL tG (List.length l) (lC tE tZ l)) (Int.toNat deep) (0 : Nat)))) → lC tE tZ (sideT (lL tG (List.length l) (lC tE tZ l)) (Int.toNat deep) (0 : Nat)) i = lC tE tZ (lL tG (List.length (sideT (lL tG (List.length l) (lC tE tZ l)) (Int.toNat deep) (0 : Nat))) (lC tE tZ (sideT (lL tG (List.length l) (lC tE tZ l)) (Int.toNat deep) (0 : Nat)))) i) ∧ IntKind.wrap IntKind.i64 (deep + (1 : Int)) = IntKind.wrap IntKind.i64 (deep + (1 : Int)) ∧ (256 : Nat) - Int.toNat (IntKind.wrap IntKind.i64 (deep + (1 : Int))) < n_ ∧ OkK (lL tG (List.length (sideT (lL tG (List.length l) (lC tE tZ l)) (Int.toNat deep) (0 : Nat))) (lC tE tZ (sideT (lL tG (List.length l) (lC tE tZ l)) (Int.toNat deep) (0 : Nat)))) ∧ List.length (lL tG (List.length (sideT (lL tG (List.length l) (lC tE tZ l)) (Int.toNat deep) (0 : Nat))) (lC tE tZ (sideT (lL tG (List.length l) (lC tE tZ l)) (Int.toNat deep) (0 : Nat)))) < (1099511627776 : Nat) ∧ ((0 : Int) ≤ IntKind.wrap IntKind.i64 (deep + (1 : Int)) ∧ IntKind.wrap IntKind.i64 (deep + (1 : Int)) ≤ (256 : Int)) ∧ Srt ((256 : Nat) - Int.toNat (IntKind.wrap IntKind.i64 (deep + (1 : Int)))) (lL tG (List.length (sideT (lL tG (List.length l) (lC tE tZ l)) (Int.toNat deep) (0 : Nat))) (lC tE tZ (sideT (lL tG (List.length l) (lC tE tZ l)) (Int.toNat deep) (0 : Nat)))) ∧ (∀ (e : TE), e ∈ lL tG (List.length (sideT (lL tG (List.length l) (lC tE tZ l)) (Int.toNat deep) (0 : Nat))) (lC tE tZ (sideT (lL tG (List.length l) (lC tE tZ l)) (Int.toNat deep) (0 : Nat))) → List.length (Prod.snd e) + (300 : Nat) ≤ lim) ∧ OkB (txT ((256 : Nat) - Int.toNat (IntKind.wrap IntKind.i64 (deep + (1 : Int)))) (lL tG (List.length (sideT (lL tG (List.length l) (lC tE tZ l)) (Int.toNat deep) (0 : Nat))) (lC tE tZ (sideT (lL tG (List.length l) (lC tE tZ l)) (Int.toNat deep) (0 : Nat))))) ∧ List.length (sideT (lL tG (List.length l) (lC tE tZ l)) (Int.toNat deep) (1 : Nat)) = List.length (lL tG (List.length (sideT (lL tG (List.length l) (lC tE tZ l)) (Int.toNat deep) (1 : Nat))) (lC tE tZ (sideT (lL tG (List.length l) (lC tE tZ l)) (Int.toNat deep) (1 : Nat)))) ∧ (∀ (i : Nat), i < List.length (lL tG (List.length (sideT (lL tG (List.length l) (lC tE tZ l)) (Int.toNat deep) (1 : Nat))) (lC tE tZ (sideT (lL tG (List.length l) (lC tE tZ l)) (Int.toNat deep) (1 : Nat)))) → lC tE tZ (sideT (lL tG (List.length l) (lC tE tZ l)) (Int.toNat deep) (1 : Nat)) i = lC tE tZ (lL tG (List.length (sideT (lL tG (List.length l) (lC tE tZ l)) (Int.toNat deep) (1 : Nat))) (lC tE tZ (sideT (lL tG (List.length l) (lC tE tZ l)) (Int.toNat deep) (1 : Nat)))) i) ∧ IntKind.wrap IntKind.i64 (deep + (1 : Int)) = IntKind.wrap IntKind.i64 (deep + (1 : Int)) ∧ (256 : Nat) - Int.toNat (IntKind.wrap IntKind.i64 (deep + (1 : Int))) < n_ ∧ OkK (lL tG (List.length (sideT (lL tG (List.length l) (lC tE tZ l)) (Int.toNat deep) (1 : Nat))) (lC tE tZ (sideT (lL tG (List.length l) (lC tE tZ l)) (Int.toNat deep) (1 : Nat)))) ∧ List.length (lL tG (List.length (sideT (lL tG (List.length l) (lC tE tZ l)) (Int.toNat deep) (1 : Nat))) (lC tE tZ (sideT (lL tG (List.length l) (lC tE tZ l)) (Int.toNat deep) (1 : Nat)))) < (1099511627776 : Nat) ∧ ((0 : Int) ≤ IntKind.wrap IntKind.i64 (deep + (1 : Int)) ∧ IntKind.wrap IntKind.i64 (deep + (1 : Int)) ≤ (256 : Int)) ∧ Srt ((256 : Nat) - Int.toNat (IntKind.wrap IntKind.i64 (deep + (1 : Int)))) (lL tG (List.length (sideT (lL tG (List.length l) (lC tE tZ l)) (Int.toNat deep) (1 : Nat))) (lC tE tZ (sideT (lL tG (List.length l) (lC tE tZ l)) (Int.toNat deep) (1 : Nat)))) ∧ (∀ (e : TE), e ∈ lL tG (List.length (sideT (lL tG (List.length l) (lC tE tZ l)) (Int.toNat deep) (1 : Nat))) (lC tE tZ (sideT (lL tG (List.length l) (lC tE tZ l)) (Int.toNat deep) (1 : Nat))) → List.length (Prod.snd e) + (300 : Nat) ≤ lim) ∧ OkB (txT ((256 : Nat) - Int.toNat (IntKind.wrap IntKind.i64 (deep + (1 : Int)))) (lL tG (List.length (sideT (lL tG (List.length l) (lC tE tZ l)) (Int.toNat deep) (1 : Nat))) (lC tE tZ (sideT (lL tG (List.length l) (lC tE tZ l)) (Int.toNat deep) (1 : Nat))))) ∧ List.length (sumB shaK (txT ((256 : Nat) - Int.toNat (IntKind.wrap IntKind.i64 (deep + (1 : Int)))) (lL tG (List.length (sideT (lL tG (List.length l) (lC tE tZ l)) (Int.toNat deep) (0 : Nat))) (lC tE tZ (sideT (lL tG (List.length l) (lC tE tZ l)) (Int.toNat deep) (0 : Nat)))))) = (32 : Nat) ∧ OkB (sumB shaK (txT ((256 : Nat) - Int.toNat (IntKind.wrap IntKind.i64 (deep + (1 : Int)))) (lL tG (List.length (sideT (lL tG (List.length l) (lC tE tZ l)) (Int.toNat deep) (0 : Nat))) (lC tE tZ (sideT (lL tG (List.length l) (lC tE tZ l)) (Int.toNat deep) (0 : Nat)))))) ∧ List.length (sumB shaK (txT ((256 : Nat) - Int.toNat (IntKind.wrap IntKind.i64 (deep + (1 : Int)))) (lL tG (List.length (sideT (lL tG (List.length l) (lC tE tZ l)) (Int.toNat deep) (1 : Nat))) (lC tE tZ (sideT (lL tG (List.length l) (lC tE tZ l)) (Int.toNat deep) (1 : Nat)))))) = (32 : Nat) ∧ OkB (sumB shaK (txT ((256 : Nat) - Int.toNat (IntKind.wrap IntKind.i64 (deep + (1 : Int)))) (lL tG (List.length (sideT (lL tG (List.length l) (lC tE tZ l)) (Int.toNat deep) (1 : Nat))) (lC tE tZ (sideT (lL tG (List.length l) (lC tE tZ l)) (Int.toNat deep) (1 : Nat)))))) ∧ brT (sumB shaK (txT ((256 : Nat) - Int.toNat (IntKind.wrap IntKind.i64 (deep + (1 : Int)))) (lL tG (List.length (sideT (lL tG (List.length l) (lC tE tZ l)) (Int.toNat deep) (0 : Nat))) (lC tE tZ (sideT (lL tG (List.length l) (lC tE tZ l)) (Int.toNat deep) (0 : Nat)))))) (sumB shaK (txT ((256 : Nat) - Int.toNat (IntKind.wrap IntKind.i64 (deep + (1 : Int)))) (lL tG (List.length (sideT (lL tG (List.length l) (lC tE tZ l)) (Int.toNat deep) (1 : Nat))) (lC tE tZ (sideT (lL tG (List.length l) (lC tE tZ l)) (Int.toNat deep) (1 : Nat)))))) = txT ((256 : Nat) - Int.toNat deep) l ∧ True))) (by kernel_rfl) (by
    obtain ⟨ho, hl, ⟨hd0, hd1⟩, hs, hv, _⟩ := hp
    simp only [lL_self tG_tE]
    have hlim : lim = 68719476736 := rfl
    obtain ⟨d, rfl⟩ : ∃ d : Nat, deep = d := ⟨deep.toNat, by omega⟩
    rw [Int.toNat_natCast] at hs ⊢
    refine brI (fun h0 => ?_) (fun h0 => brI (fun h1 => ?_) (fun h1 => ?_))
    · have h0 : l.length = 0 := by have := beq_iff_eq.1 h0; omega
      have h0 := List.length_eq_zero_iff.1 h0
      subst h0
      rw [tx_le (by decide)]
      refine ⟨by decide, ?_, rfl, trivial⟩
      rw [joinB_bulkT]
      simp only [List.flatten_cons, List.flatten_nil, List.length_append, List.length_set, List.length_replicate, List.length_cons, List.length_nil]
      omega
    · have h1 : l.length = 1 := by have := beq_iff_eq.1 h1; omega
      match l, h1 with
      | [e], _ =>
        have he := ho e (by simp)
        rw [tx_le (l := [e]) (Nat.le_refl 1)]
        exact ⟨⟨Int.le_refl 0, Int.zero_lt_one⟩, ⟨Int.le_refl 0, Int.zero_lt_one⟩, he.1, he.2.1, he.2.2.1, hv e (by simp), rfl, trivial⟩
    · have hn : ¬ l.length ≤ 1 := by
        have a := beq_eq_false_iff_ne.1 h0; have b := beq_eq_false_iff_ne.1 h1
        omega
      have hd : d < 256 := Classical.byContradiction fun h => hn (by
        rw [show 256 - d = 0 by omega] at hs; exact hs.len0)
      obtain ⟨f, hf⟩ : ∃ f : Nat, 256 - d = f + 1 := ⟨255 - d, by omega⟩
      have ed : 255 - f = d := by omega
      rw [wi _ (by omega) (by omega), show ((d : Int) + 1) = ((d + 1 : Nat) : Int) by omega, Int.toNat_natCast, show 256 - (d + 1) = f by omega]
      rw [Int.toNat_natCast, hf] at hm_
      rw [hf] at hs ⊢
      have s0 := hs.side (by omega) 0
      have s1 := hs.side (by omega) 1
      rw [ed] at s0 s1
      have l0 := side_len l d 0
      have l1 := side_len l d 1
      refine ⟨trivial, fun _ _ => trivial, trivial, ho, hl, ⟨by omega, by omega⟩, hs, trivial, fun _ _ => trivial, trivial, by omega, ho.side _ _, by omega, ⟨by omega, by omega⟩, s0, fun e he => hv e (side_sub _ _ _ _ he), txT_ok (ho.side _ _), trivial, fun _ _ => trivial, trivial, by omega, ho.side _ _, by omega, ⟨by omega, by omega⟩, s1, fun e he => hv e (side_sub _ _ _ _ he), txT_ok (ho.side _ _), sumB_len _ _, sumB_ok2 _, sumB_len _ _, sumB_ok2 _, ?_, trivial⟩
      rw [tx_s, if_neg hn, ed]))
theorem vrtrietext : ∀ n_, Valid Tryd.prog Gs 26 (grtrietext n_)
  | 0 => by
    intro args H r h hp
    unfold grtrietext at h
    split at h
    · rename_i m c deep
      exact conC_ok h hp fun hp => absurd hp.1 (Nat.not_lt_zero _)
    · cases h
  | n_ + 1 => by
    intro args H r h hp
    unfold grtrietext at h
    split at h
    · rename_i m c deep
      exact conC_ok h hp fun hp => okrtrietext (lL tG m c) (deep) n_ (vrtrietext n_) hp.1 hp.2
    · cases h
theorem oktrietext (l : List TE) (deep : Int) (hp : allP [OkK l, l.length < 1099511627776, 0 ≤ deep ∧ deep ≤ 256, Srt (256 - deep.toNat) l, ∀ e ∈ l, e.2.length + 300 ≤ lim]) : CallsOk Tryd.prog Gs 26 [.a (.d (.sl 33 (l).length (lC tE tZ (l)))), .a (.d (.v (.int .i64 deep)))] [] (.s (.a (.rw 0))) [(0, .row (.ints .u8 (txT (256 - deep.toNat) l)) 5)] := okrtrietext l deep (256 - deep.toNat) (vrtrietext _) (Nat.lt_succ_self _) hp
noncomputable def gtrietext : Con := fun args H => match args, H with
  | [.a (.d (.sl 33 m c)), .a (.d (.v (.int .i64 deep)))], [] => (fun (l : List TE) (deep : Int) => conC args H [.a (.d (.sl 33 (l).length (lC tE tZ (l)))), .a (.d (.v (.int .i64 deep)))] [] ⟨[OkK l, l.length < 1099511627776, 0 ≤ deep ∧ deep ≤ 256, Srt (256 - deep.toNat) l, ∀ e ∈ l, e.2.length + 300 ≤ lim], .s (.a (.rw 0)), [(0, .row (.ints .u8 (txT (256 - deep.toNat) l)) 5)]⟩) (lL tG m c) (deep)
  | _, _ => none
theorem vtrietext : Valid Tryd.prog Gs 26 gtrietext := by
  intro args H r h hp
  unfold gtrietext at h
  split at h
  · rename_i m c deep
    exact conC_ok h hp fun hp => oktrietext (lL tG m c) (deep) hp
  · cases h
noncomputable def ct_trietext : List (Nat × Ct) := (26, ⟨[], false, gtrietext, none⟩) :: ct_triepart
theorem ctok_trietext : CtsOk Tryd.prog Gs ct_trietext := CtsOk.cons vtrietext (by kernel_rfl) ctok_triepart
noncomputable def antrieRoot (l : List TE) : Nat → List Nat → List Ann := fun _ _ => []
theorem oktrieRoot (l : List TE) (hp : allP [OkK l, l.length < 1099511627776, ∀ e ∈ l, e.2.length + 300 ≤ lim]) : CallsOk Tryd.prog Gs 14 [.a (.d (.sl 33 (l).length (lC tE tZ (l))))] [] (.s (.agg [.ints .u8 32 (if mayT l then rootT l else List.replicate 32 0)])) [] :=
  ok_of (ann := antrieRoot l) ctok_trietext mixed Tryd.func14 (by kernel_rfl) (of_nf (p := List.length l = List.length (lL tG (List.length l) (lC tE tZ l)) ∧ (∀ (i : Nat), i < List.length (lL tG (List.length l) (lC tE tZ l)) → lC tE tZ l i = lC tE tZ (lL tG (List.length l) (lC tE tZ l)) i) ∧ OkK (lL tG (List.length l) (lC tE tZ l)) ∧ List.length (lL tG (List.length l) (lC tE tZ l)) < (1099511627776 : Nat) ∧ brP (!decide (mayT (lL tG (List.length l) (lC tE tZ l)))) ((List.replicate (32 : Nat) (0 : Int) = if mayT l then rootT l else List.replicate (32 : Nat) (0 : Int)) ∧ True) (List.length l = List.length (lL tG (List.length l) (lC tE tZ l)) ∧ (∀ (i : Nat), i < List.length (lL tG (List.length l) (lC tE tZ l)) → lC tE tZ l i = lC tE tZ (lL tG (List.length l) (lC tE tZ l)) i) ∧ (0 : Int) = (0 : Int) ∧ OkK (lL tG (List.length l) (lC tE tZ l)) ∧ List.length (lL tG (List.length l) (lC tE tZ l)) < (1099511627776 : Nat) ∧ ((0 : Int) ≤ (0 : Int) ∧ (0 : Int) ≤ (256 : Int)) ∧ Srt ((256 : Nat) - Int.toNat (0 : Int)) (lL tG (List.length l) (lC tE tZ l)) ∧ (∀ (e : TE), e ∈ lL tG (List.length l) (lC tE tZ l) → List.length (Prod.snd e) + (300 : Nat) ≤ lim) ∧ OkB (txT ((256 : Nat) - Int.toNat (0 : Int)) (lL tG (List.length l) (lC tE tZ l))) ∧ (sumB shaK (txT ((256 : Nat) - Int.toNat (0 : Int)) (lL tG (List.length l) (lC tE tZ l))) = if mayT l then rootT l else List.replicate (32 : Nat) (0 : Int)) ∧ True)) (by kernel_rfl) (by
    obtain ⟨ho, hl, hv, _⟩ := hp
    simp only [lL_self tG_tE]
    refine ⟨trivial, fun _ _ => trivial, ho, hl, brI (fun h => ?_) (fun h => ?_)⟩
    · have h : ¬ mayT l := by simpa using h
      rw [if_neg h]; exact ⟨rfl, trivial⟩
    · have h : mayT l := by simpa using h
      rw [if_pos h]
      exact ⟨trivial, fun _ _ => trivial, trivial, ho, hl, by decide, may_srt h fun e he => ⟨(ho e he).1, (ho e he).2.1⟩, hv, txT_ok ho, rfl, trivial⟩))
noncomputable def gtrieRoot : Con := fun args H => match args, H with
  | [.a (.d (.sl 33 m c))], [] => (fun (l : List TE) => conC args H [.a (.d (.sl 33 (l).length (lC tE tZ (l))))] [] ⟨[OkK l, l.length < 1099511627776, ∀ e ∈ l, e.2.length + 300 ≤ lim], .s (.agg [.ints .u8 32 (if mayT l then rootT l else List.replicate 32 0)]), []⟩) (lL tG m c)
  | _, _ => none
theorem vtrieRoot : Valid Tryd.prog Gs 14 gtrieRoot := by
  intro args H r h hp
  unfold gtrieRoot at h
  split at h
  · rename_i m c
    exact conC_ok h hp fun hp => oktrieRoot (lL tG m c) hp
  · cases h
noncomputable def ct_trieRoot : List (Nat × Ct) := (14, ⟨[], false, gtrieRoot, none⟩) :: ct_trietext
theorem ctok_trieRoot : CtsOk Tryd.prog Gs ct_trieRoot := CtsOk.cons vtrieRoot (by kernel_rfl) ctok_trietext
end Go.Proofs.YtfobhaodflfedaaDoor
