/- Merkle proofs: texts, verdicts, clashes. -/
import Derived.Test.YtamlmlihfpkjaaaDoorYaO
namespace Go.Proofs.YtamlmlihfpkjaaaDoor
open Go.Dx Go.RowKit
set_option linter.unusedVariables false
set_option linter.unusedSimpArgs false
set_option maxRecDepth 100000
attribute [local irreducible] sumB joinB
/-- Digests, all of 32 bytes. -/
def OkD (P : List (List Int)) : Prop := ∀ d ∈ P, d.length = 32 ∧ OkB d
theorem OkD.get {P : List (List Int)} (h : OkD P) {k : Nat} (hk : k < P.length) : (P.getD k []).length = 32 ∧ OkB (P.getD k []) := by
  rw [List.getD_eq_getElem?_getD, List.getElem?_eq_getElem hk]
  exact h _ (List.getElem_mem hk)
theorem OkD.take {P : List (List Int)} (h : OkD P) (k : Nat) : OkD (P.take k) := fun d hd => h d (List.mem_of_mem_take hd)
theorem pvx_okD : ∀ (f : Nat) (l : List (List Int)) (i : Nat), OkD (pvx f l i)
  | 0, _, _ => fun d hd => by cases hd
  | f + 1, l, i => by
    simp only [pvx]
    split
    · exact fun d hd => by cases hd
    · split
      · intro d hd
        rcases List.mem_append.1 hd with h | h
        · exact pvx_okD f _ _ d h
        · rw [List.mem_singleton.1 h]; exact ⟨sumB_len _ _, sumB_ok _⟩
      · intro d hd
        rcases List.mem_append.1 hd with h | h
        · exact pvx_okD f _ _ d h
        · rw [List.mem_singleton.1 h]; exact ⟨sumB_len _ _, sumB_ok _⟩
theorem pv_okD (l : List (List Int)) (i : Nat) : OkD (pv l i) := pvx_okD _ _ _
theorem pvo_okD (l : List (List Int)) (i : Int) : OkD (pvo l i) := by
  unfold pvo; split
  · exact pv_okD _ _
  · exact fun d hd => by cases hd
/-- The texts from the element outwards. -/
def txk (s : List Bool) (P : List (List Int)) (t0 : List Int) : Nat → List Int
  | 0 => t0
  | k + 1 => if s.getD k false then nodeB (sumB shaK (txk s P t0 k)) (P.getD k []) else nodeB (P.getD k []) (sumB shaK (txk s P t0 k))
def tk (n i : Nat) (el : List Int) (P : List (List Int)) (k : Nat) : List Int := txk (sd n i).reverse P (leafB el) k
def txOk (n i : Int) (P : List (List Int)) : Bool := decide (0 ≤ i ∧ i < n ∧ (sd n.toNat i.toNat).length = P.length)
def txs (n i : Int) (el : List Int) (P : List (List Int)) : List (List Int) :=
  if txOk n i P then (List.range (P.length + 1)).map (tk n.toNat i.toNat el P) ++ [listB n (sumB shaK (tk n.toNat i.toNat el P P.length))] else []
theorem tk_ok {n i : Nat} {el : List Int} {P : List (List Int)} (he : OkB el) (hl : el.length + 300 ≤ lim) (hP : OkD P) : ∀ k, k ≤ P.length → OkB (tk n i el P k) ∧ (tk n i el P k).length + 200 ≤ lim
  | 0, _ => ⟨leafB_ok he, by show (leafB el).length + 200 ≤ lim; rw [leafB_len]; omega⟩
  | k + 1, h => by
    have hlim : lim = 68719476736 := rfl
    obtain ⟨h1, h2⟩ := hP.get (k := k) (by omega)
    show OkB (if _ then _ else _) ∧ (if _ then _ else _ : List Int).length + 200 ≤ lim
    split
    · exact ⟨nodeB_ok (sumB_ok _) h2, by rw [nodeB_len (sumB_len _ _) h1]; omega⟩
    · exact ⟨nodeB_ok h2 (sumB_ok _), by rw [nodeB_len h1 (sumB_len _ _)]; omega⟩
theorem txs_len {n i : Int} {el : List Int} {P : List (List Int)} (h : txOk n i P = true) : (txs n i el P).length = P.length + 2 := by
  unfold txs; rw [if_pos h]; simp
theorem txs_ok {n i : Int} {el : List Int} {P : List (List Int)} (he : OkB el) (hl : el.length + 300 ≤ lim) (hP : OkD P) : ∀ t ∈ txs n i el P, OkB t ∧ t.length + 100 ≤ lim := fun t ht => by
  have hlim : lim = 68719476736 := rfl
  unfold txs at ht
  split at ht
  · rcases List.mem_append.1 ht with h | h
    · obtain ⟨k, hk, rfl⟩ := List.mem_map.1 h
      have := tk_ok (n := n.toNat) (i := i.toNat) he hl hP k (by have := List.mem_range.1 hk; omega)
      exact ⟨this.1, by omega⟩
    · rw [List.mem_singleton.1 h]
      exact ⟨listB_ok (sumB_ok _), by rw [listB_len (sumB_len _ _)]; omega⟩
  · cases ht
theorem getD_mem {α : Type} {l : List α} {k : Nat} {d : α} (h : k < l.length) : l.getD k d ∈ l := by
  rw [List.getD_eq_getElem?_getD, List.getElem?_eq_getElem h]; exact List.getElem_mem h
noncomputable def anmerkletexts (n i : Int) (el : List Int) (P : List (List Int)) : Nat → List Nat → Option Ann := fun bk_ gs_ => match bk_, gs_ with
    | 0, _ => some { τ := Nat, J := fun k => k ≤ P.length, m := fun k => P.length - k, l := fun k => [(0, eI .i64 n), (3, .s (.a (.d (.sl 32 (P).length (lC dE [] (P)))))), (11, .s (.a (.d (.si .u8 (tk n.toNat i.toNat el P k))))), (12, .s (.a (.rw 12))), (34, .s (.a (.rw 34))), (35, eI .i64 (P.length : Int)), (36, eI .i64 (k : Int))], H := fun k => [(12, .row (.bts ((List.range (k + 1)).map (tk n.toNat i.toNat el P))) 33), (34, .row (.st 1 (sd n.toNat i.toNat).length (lC bE false (sd n.toNat i.toNat).reverse)) 4)] }
    | _, _ => none
theorem okmerkletexts (n i : Int) (el : List Int) (P : List (List Int)) (hp : allP [OkB el, el.length + 300 ≤ lim, n < 9223372036854775808, OkD P]) : CallsOk Tryd.prog Gs 28 [.a (.d (.v (.int .i64 n))), .a (.d (.v (.int .i64 i))), .a (.d (.si .u8 el)), .a (.d (.sl 32 (P).length (lC dE [] (P))))] [] (.t [.a (.rw 0), .a (.d (.v (.bool (txOk n i P))))]) [(0, .row (.bts (txs n i el P)) 33)] :=
  ok_of (ann := anmerkletexts n i el P) ctok_R03Prove mixed Tryd.func28 (by kernel_rfl) (of_nf (p := brP (decide (i < (0 : Int))) (false = txOk n i P ∧ [] = txs n i el P ∧ True) (brP (decide (i ≥ n)) (false = txOk n i P ∧ [] = txs n i el P ∧ True) ((0 : Int) ≤ i ∧ i < n ∧ n < (9223372036854775808 : Int) ∧ brP ((↑(Cont.len (Cont.st (1 : Nat) (List.length (sd (Int.toNat n) (Int.toNat i))) (lC bE false (List.reverse (sd (Int.toNat n) (Int.toNat i)))))) : Int) != (↑(List.length P) : Int)) (false = txOk n i P ∧ [] = txs n i el P ∧ True) (List.length el + (200 : Nat) ≤ lim ∧ (∃ (t : Nat), n = n ∧ List.length P = List.length P ∧ (∀ (i : Nat), i < List.length P → lC dE [] P i = lC dE [] P i) ∧ leafB el = tk (Int.toNat n) (Int.toNat i) el P t ∧ (↑(Cont.len (Cont.st (1 : Nat) (List.length (sd (Int.toNat n) (Int.toNat i))) (lC bE false (List.reverse (sd (Int.toNat n) (Int.toNat i)))))) : Int) = (↑(List.length P) : Int) ∧ (0 : Int) = (↑t : Int) ∧ [leafB el] = List.map (tk (Int.toNat n) (Int.toNat i) el P) (List.range (t + (1 : Nat))) ∧ List.length (sd (Int.toNat n) (Int.toNat i)) = List.length (sd (Int.toNat n) (Int.toNat i)) ∧ (∀ (i_1 : Nat), i_1 < List.length (sd (Int.toNat n) (Int.toNat i)) → lC bE false (List.reverse (sd (Int.toNat n) (Int.toNat i))) i_1 = lC bE false (List.reverse (sd (Int.toNat n) (Int.toNat i))) i_1) ∧ t ≤ List.length P ∧ True) ∧ ∀ (t : Nat), t ≤ List.length P → brP (decide ((↑t : Int) < (↑(List.length P) : Int))) (((0 : Int) ≤ (↑t : Int) ∧ (↑t : Int) < (↑(Cont.len (Cont.st (1 : Nat) (List.length (sd (Int.toNat n) (Int.toNat i))) (lC bE false (List.reverse (sd (Int.toNat n) (Int.toNat i)))))) : Int)) ∧ brP (List.getD (List.reverse (sd (Int.toNat n) (Int.toNat i))) (Int.toNat (↑t : Int)) false) (OkB (tk (Int.toNat n) (Int.toNat i) el P t) ∧ ((0 : Int) ≤ (↑t : Int) ∧ (↑t : Int) < (↑(List.length P) : Int)) ∧ List.length (sumB shaK (tk (Int.toNat n) (Int.toNat i) el P t)) = (32 : Nat) ∧ List.length (List.getD P (Int.toNat (↑t : Int)) []) = (32 : Nat) ∧ Cont.len (Cont.bts (List.map (tk (Int.toNat n) (Int.toNat i) el P) (List.range (t + (1 : Nat))))) + Cont.len (Cont.bts [nodeB (sumB shaK (tk (Int.toNat n) (Int.toNat i) el P t)) (List.getD P (Int.toNat (↑t : Int)) [])]) ≤ lim ∧ ∃ (t' : Nat), n = n ∧ List.length P = List.length P ∧ (∀ (i : Nat), i < List.length P → lC dE [] P i = lC dE [] P i) ∧ nodeB (sumB shaK (tk (Int.toNat n) (Int.toNat i) el P t)) (List.getD P (Int.toNat (↑t : Int)) []) = tk (Int.toNat n) (Int.toNat i) el P t' ∧ (↑(List.length P) : Int) = (↑(List.length P) : Int) ∧ IntKind.wrap IntKind.i64 ((↑t : Int) + (1 : Int)) = (↑t' : Int) ∧ List.map (tk (Int.toNat n) (Int.toNat i) el P) (List.range (t + (1 : Nat))) ++ [nodeB (sumB shaK (tk (Int.toNat n) (Int.toNat i) el P t)) (List.getD P (Int.toNat (↑t : Int)) [])] = List.map (tk (Int.toNat n) (Int.toNat i) el P) (List.range (t' + (1 : Nat))) ∧ List.length (sd (Int.toNat n) (Int.toNat i)) = List.length (sd (Int.toNat n) (Int.toNat i)) ∧ (∀ (i_1 : Nat), i_1 < List.length (sd (Int.toNat n) (Int.toNat i)) → lC bE false (List.reverse (sd (Int.toNat n) (Int.toNat i))) i_1 = lC bE false (List.reverse (sd (Int.toNat n) (Int.toNat i))) i_1) ∧ t' ≤ List.length P ∧ List.length P - t' < List.length P - t ∧ True) (((0 : Int) ≤ (↑t : Int) ∧ (↑t : Int) < (↑(List.length P) : Int)) ∧ OkB (tk (Int.toNat n) (Int.toNat i) el P t) ∧ List.length (List.getD P (Int.toNat (↑t : Int)) []) = (32 : Nat) ∧ List.length (sumB shaK (tk (Int.toNat n) (Int.toNat i) el P t)) = (32 : Nat) ∧ Cont.len (Cont.bts (List.map (tk (Int.toNat n) (Int.toNat i) el P) (List.range (t + (1 : Nat))))) + Cont.len (Cont.bts [nodeB (List.getD P (Int.toNat (↑t : Int)) []) (sumB shaK (tk (Int.toNat n) (Int.toNat i) el P t))]) ≤ lim ∧ ∃ (t' : Nat), n = n ∧ List.length P = List.length P ∧ (∀ (i : Nat), i < List.length P → lC dE [] P i = lC dE [] P i) ∧ nodeB (List.getD P (Int.toNat (↑t : Int)) []) (sumB shaK (tk (Int.toNat n) (Int.toNat i) el P t)) = tk (Int.toNat n) (Int.toNat i) el P t' ∧ (↑(List.length P) : Int) = (↑(List.length P) : Int) ∧ IntKind.wrap IntKind.i64 ((↑t : Int) + (1 : Int)) = (↑t' : Int) ∧ List.map (tk (Int.toNat n) (Int.toNat i) el P) (List.range (t + (1 : Nat))) ++ [nodeB (List.getD P (Int.toNat (↑t : Int)) []) (sumB shaK (tk (Int.toNat n) (Int.toNat i) el P t))] = List.map (tk (Int.toNat n) (Int.toNat i) el P) (List.range (t' + (1 : Nat))) ∧ List.length (sd (Int.toNat n) (Int.toNat i)) = List.length (sd (Int.toNat n) (Int.toNat i)) ∧ (∀ (i_1 : Nat), i_1 < List.length (sd (Int.toNat n) (Int.toNat i)) → lC bE false (List.reverse (sd (Int.toNat n) (Int.toNat i))) i_1 = lC bE false (List.reverse (sd (Int.toNat n) (Int.toNat i))) i_1) ∧ t' ≤ List.length P ∧ List.length P - t' < List.length P - t ∧ True)) (OkB (tk (Int.toNat n) (Int.toNat i) el P t) ∧ (0 : Int) ≤ n ∧ n < (9223372036854775808 : Int) ∧ List.length (sumB shaK (tk (Int.toNat n) (Int.toNat i) el P t)) = (32 : Nat) ∧ Cont.len (Cont.bts (List.map (tk (Int.toNat n) (Int.toNat i) el P) (List.range (t + (1 : Nat))))) + Cont.len (Cont.bts [listB n (sumB shaK (tk (Int.toNat n) (Int.toNat i) el P t))]) ≤ lim ∧ true = txOk n i P ∧ List.map (tk (Int.toNat n) (Int.toNat i) el P) (List.range (t + (1 : Nat))) ++ [listB n (sumB shaK (tk (Int.toNat n) (Int.toNat i) el P t))] = txs n i el P ∧ True))))) (by kernel_rfl) (by
    obtain ⟨he, hl, hn, hP, _⟩ := hp
    have hlim : lim = 68719476736 := rfl
    have no : ¬ (0 ≤ i ∧ i < n ∧ (sd n.toNat i.toNat).length = P.length) → false = txOk n i P ∧ [] = txs n i el P ∧ True := fun h => by
      have e : txOk n i P = false := decide_eq_false h
      unfold txs; rw [e]; exact ⟨rfl, rfl, trivial⟩
    refine brI (fun hc => ?_) (fun hc => brI (fun hd => ?_) (fun hd => ?_))
    · have := of_decide_eq_true hc
      exact no (by omega)
    · have := of_decide_eq_true hd
      exact no (by omega)
    · have h0 := of_decide_eq_false hc
      have h1 := of_decide_eq_false hd
      refine ⟨by omega, by omega, hn, brI (fun hk => ?_) (fun hk => ?_)⟩
      · have hk : ((((sd n.toNat i.toNat).length : Nat) : Int) != ((P.length : Nat) : Int)) = true := hk
        have hk := bne_iff_ne.1 hk
        exact no (by omega)
      · have hk : ((((sd n.toNat i.toNat).length : Nat) : Int) != ((P.length : Nat) : Int)) = false := hk
        have hk : (sd n.toNat i.toNat).length = P.length := by simp at hk; omega
        have hs := sd_len 63 n.toNat i.toNat (show n.toNat ≤ 9223372036854775808 by omega)
        have hyes : txOk n i P = true := decide_eq_true ⟨by omega, by omega, hk⟩
        refine ⟨by omega, ⟨0, rfl, rfl, fun k hk => rfl, rfl, (show (((sd n.toNat i.toNat).length : Nat) : Int) = _ by rw [hk]), rfl, rfl, rfl, fun k hk => rfl, Nat.zero_le _, trivial⟩, fun t ht => brI (fun hk2 => ?_) (fun hk2 => ?_)⟩
        · have ht' : t < P.length := by have := of_decide_eq_true hk2; omega
          have l1 : (Cont.st 1 (sd n.toNat i.toNat).length (lC bE false (sd n.toNat i.toNat).reverse)).len = P.length := hk
          obtain ⟨g1, g2⟩ := hP.get ht'
          obtain ⟨g3, g4⟩ := tk_ok (n := n.toNat) (i := i.toNat) he hl hP t ht
          have hr : List.map (tk n.toNat i.toNat el P) (List.range (t + 1 + 1)) = List.map (tk n.toNat i.toNat el P) (List.range (t + 1)) ++ [tk n.toNat i.toNat el P (t + 1)] := by rw [List.range_succ, List.map_append]; rfl
          have lb : ∀ x : List Int, (Cont.bts (List.map (tk n.toNat i.toNat el P) (List.range (t + 1)))).len + (Cont.bts [x]).len ≤ lim := fun x => by
            show (List.map (tk n.toNat i.toNat el P) (List.range (t + 1))).length + 1 ≤ lim
            rw [List.length_map, List.length_range]; omega
          have et : tk n.toNat i.toNat el P (t + 1) = if (sd n.toNat i.toNat).reverse.getD t false then nodeB (sumB shaK (tk n.toNat i.toNat el P t)) (P.getD t []) else nodeB (P.getD t []) (sumB shaK (tk n.toNat i.toNat el P t)) := rfl
          rw [l1, Int.toNat_natCast]
          refine ⟨by omega, brI (fun hb => ?_) (fun hb => ?_)⟩
          · rw [if_pos hb] at et
            exact ⟨g3, by omega, sumB_len _ _, g1, lb _, t + 1, rfl, rfl, fun k hk => rfl, et.symm, rfl, by rw [wi _ (by omega) (by omega)]; rfl, by rw [hr, et], rfl, fun k hk => rfl, by omega, by omega, trivial⟩
          · rw [if_neg (by rw [hb]; decide)] at et
            exact ⟨by omega, g3, g1, sumB_len _ _, lb _, t + 1, rfl, rfl, fun k hk => rfl, et.symm, rfl, by rw [wi _ (by omega) (by omega)]; rfl, by rw [hr, et], rfl, fun k hk => rfl, by omega, by omega, trivial⟩
        · have : t = P.length := by have := of_decide_eq_false hk2; omega
          subst this
          obtain ⟨g3, g4⟩ := tk_ok (n := n.toNat) (i := i.toNat) he hl hP P.length (Nat.le_refl _)
          refine ⟨g3, by omega, hn, sumB_len _ _, ?_, hyes.symm, ?_, trivial⟩
          · show (List.map (tk n.toNat i.toNat el P) (List.range (P.length + 1))).length + 1 ≤ lim
            rw [List.length_map, List.length_range]; omega
          · unfold txs; rw [if_pos hyes]))
noncomputable def gmerkletexts : Con := fun args H => match args, H with
  | [.a (.d (.v (.int .i64 n))), .a (.d (.v (.int .i64 i))), .a (.d (.si .u8 el)), .a (.d (.sl 32 m c))], [] => (fun (n i : Int) (el : List Int) (P : List (List Int)) => conC args H [.a (.d (.v (.int .i64 n))), .a (.d (.v (.int .i64 i))), .a (.d (.si .u8 el)), .a (.d (.sl 32 (P).length (lC dE [] (P))))] [] ⟨[OkB el, el.length + 300 ≤ lim, n < 9223372036854775808, OkD P], .t [.a (.rw 0), .a (.d (.v (.bool (txOk n i P))))], [(0, .row (.bts (txs n i el P)) 33)]⟩) (n) (i) (el) (lL dG m c)
  | _, _ => none
theorem vmerkletexts : Valid Tryd.prog Gs 28 gmerkletexts := by
  intro args H r h hp
  unfold gmerkletexts at h
  split at h
  · rename_i n i el m c
    exact conC_ok h hp fun hp => okmerkletexts (n) (i) (el) (lL dG m c) hp
  · cases h
noncomputable def ct_merkletexts : List (Nat × Ct) := (28, ⟨[], true, gmerkletexts⟩) :: ct_R03Prove
theorem ctok_merkletexts : CtsOk Tryd.prog Gs ct_merkletexts := CtsOk.cons vmerkletexts (by kernel_rfl) ctok_R03Prove
def verB (root : List Int) (n i : Int) (el : List Int) (P : List (List Int)) : Bool := txOk n i P && (sumB shaK (listB n (sumB shaK (tk n.toNat i.toNat el P P.length))) == root)
theorem own_txOk {Ls : List (List Int)} {i : Int} {P : List (List Int)} (h : txOk Ls.length i P = true) : txOk Ls.length i (pvo Ls i) = true ∧ (pvo Ls i).length = P.length := by
  have h1 := of_decide_eq_true h
  have e : (pvo Ls i).length = (sd Ls.length i.toNat).length := by
    unfold pvo; rw [if_pos ⟨h1.1, h1.2.1⟩]; exact pv_len _ _ _ (Nat.le_refl _)
  have e1 : (sd Ls.length i.toNat).length = P.length := by have := h1.2.2; rwa [Int.toNat_natCast] at this
  exact ⟨decide_eq_true ⟨h1.1, h1.2.1, by rw [Int.toNat_natCast, e]⟩, by omega⟩
def fdD (p : Nat → Bool) : Nat → Option Nat
  | 0 => none
  | k + 1 => if p k then some k else fdD p k
def clP (A B : List (List Int)) (k : Nat) : Bool := !decide (A.getD k [] = B.getD k []) && (sumB shaK (A.getD k []) == sumB shaK (B.getD k []))
/-- Two unlike texts of one digest. -/
def clB (l : List (List Int)) (i : Int) (el : List Int) (P : List (List Int)) : Option Nat :=
  if txOk l.length i P then fdD (clP (txs l.length i (l.getD i.toNat []) (pvo l i)) (txs l.length i el P)) (P.length + 2) else none
theorem tk_zero (n i : Nat) (el : List Int) (P : List (List Int)) : tk n i el P 0 = leafB el := rfl
def oget (L : List (List Int)) : Option Nat → List Int
  | some k => L.getD k []
  | none => []
theorem oget_some (L : List (List Int)) (k : Nat) : oget L (some k) = L.getD k [] := rfl
noncomputable def anmerkleVerify (root : List Int) (n i : Int) (el : List Int) (P : List (List Int)) : Nat → List Nat → Option Ann := fun _ _ => none
theorem okmerkleVerify (root : List Int) (n i : Int) (el : List Int) (P : List (List Int)) (hp : allP [OkB el, el.length + 300 ≤ lim, n < 9223372036854775808, OkD P]) : CallsOk Tryd.prog Gs 15 [.agg [.ints .u8 32 root], .a (.d (.v (.int .i64 n))), .a (.d (.v (.int .i64 i))), .a (.d (.si .u8 el)), .a (.d (.sl 32 (P).length (lC dE [] (P))))] [] (eB (verB root n i el P)) [] :=
  ok_of (ann := anmerkleVerify root n i el P) ctok_merkletexts mixed Tryd.func15 (by kernel_rfl) (of_nf (p := n = n ∧ i = i ∧ el = el ∧ List.length P = List.length (lL dG (List.length P) (lC dE [] P)) ∧ (∀ (i : Nat), i < List.length (lL dG (List.length P) (lC dE [] P)) → lC dE [] P i = lC dE [] (lL dG (List.length P) (lC dE [] P)) i) ∧ OkB el ∧ List.length el + (300 : Nat) ≤ lim ∧ n < (9223372036854775808 : Int) ∧ OkD (lL dG (List.length P) (lC dE [] P)) ∧ brP (txOk n i (lL dG (List.length P) (lC dE [] P))) (((0 : Int) ≤ IntKind.wrap IntKind.i64 ((↑(Cont.len (Cont.bts (txs n i el (lL dG (List.length P) (lC dE [] P))))) : Int) - (1 : Int)) ∧ IntKind.wrap IntKind.i64 ((↑(Cont.len (Cont.bts (txs n i el (lL dG (List.length P) (lC dE [] P))))) : Int) - (1 : Int)) < (↑(Cont.len (Cont.bts (txs n i el (lL dG (List.length P) (lC dE [] P))))) : Int)) ∧ OkB (List.getD (txs n i el (lL dG (List.length P) (lC dE [] P))) (Int.toNat (IntKind.wrap IntKind.i64 ((↑(Cont.len (Cont.bts (txs n i el (lL dG (List.length P) (lC dE [] P))))) : Int) - (1 : Int)))) []) ∧ (sumB shaK (List.getD (txs n i el (lL dG (List.length P) (lC dE [] P))) (Int.toNat (IntKind.wrap IntKind.i64 ((↑(Cont.len (Cont.bts (txs n i el (lL dG (List.length P) (lC dE [] P))))) : Int) - (1 : Int)))) []) == root) = verB root n i el P ∧ True) (false = verB root n i el P ∧ True)) (by kernel_rfl) (by
    obtain ⟨he, hl, hn, hP, _⟩ := hp
    have hlim : lim = 68719476736 := rfl
    rw [lL_self dG_dE]
    refine ⟨rfl, rfl, rfl, rfl, fun k hk => rfl, he, hl, hn, hP, brI (fun hc => ?_) (fun hc => ?_)⟩
    · have hlen := txs_len (el := el) hc
      have hs : P.length ≤ 64 := by
        have h1 := of_decide_eq_true hc
        have := sd_len 63 n.toNat i.toNat (show n.toNat ≤ 9223372036854775808 by omega)
        omega
      have l1 : (Cont.bts (txs n i el P)).len = P.length + 2 := hlen
      have e1 : IntKind.wrap .i64 (((P.length + 2 : Nat) : Int) - 1) = ((P.length + 1 : Nat) : Int) := by rw [wi _ (by omega) (by omega)]; omega
      rw [l1, e1, Int.toNat_natCast]
      have e2 : (txs n i el P).getD (P.length + 1) [] = listB n (sumB shaK (tk n.toNat i.toNat el P P.length)) := by
        unfold txs
        rw [if_pos hc, List.getD_eq_getElem?_getD, List.getElem?_append_right (by simp)]
        simp
      rw [e2]
      exact ⟨by omega, listB_ok (sumB_ok _), by unfold verB; rw [hc]; rfl, trivial⟩
    · unfold verB; rw [hc]; exact ⟨rfl, trivial⟩))
noncomputable def gmerkleVerify : Con := fun args H => match args, H with
  | [.agg [.ints .u8 32 root], .a (.d (.v (.int .i64 n))), .a (.d (.v (.int .i64 i))), .a (.d (.si .u8 el)), .a (.d (.sl 32 m c))], [] => (fun (root : List Int) (n i : Int) (el : List Int) (P : List (List Int)) => conC args H [.agg [.ints .u8 32 root], .a (.d (.v (.int .i64 n))), .a (.d (.v (.int .i64 i))), .a (.d (.si .u8 el)), .a (.d (.sl 32 (P).length (lC dE [] (P))))] [] ⟨[OkB el, el.length + 300 ≤ lim, n < 9223372036854775808, OkD P], eB (verB root n i el P), []⟩) (root) (n) (i) (el) (lL dG m c)
  | _, _ => none
theorem vmerkleVerify : Valid Tryd.prog Gs 15 gmerkleVerify := by
  intro args H r h hp
  unfold gmerkleVerify at h
  split at h
  · rename_i root n i el m c
    exact conC_ok h hp fun hp => okmerkleVerify (root) (n) (i) (el) (lL dG m c) hp
  · cases h
noncomputable def ct_merkleVerify : List (Nat × Ct) := (15, ⟨[], false, gmerkleVerify⟩) :: ct_merkletexts
theorem ctok_merkleVerify : CtsOk Tryd.prog Gs ct_merkleVerify := CtsOk.cons vmerkleVerify (by kernel_rfl) ctok_merkletexts
noncomputable def anmerkleClash (Ls : List (List Int)) (i : Int) (el : List Int) (P : List (List Int)) : Nat → List Nat → Option Ann := fun bk_ gs_ => match bk_, gs_ with
    | 0, _ => some { τ := Nat, J := fun t => t ≤ P.length + 2 ∧ txOk Ls.length i P = true ∧ clB Ls i el P = fdD (clP (txs Ls.length i (Ls.getD i.toNat []) (pvo Ls i)) (txs Ls.length i el P)) t, m := fun t => t, l := fun t => [(11, .s (.a (.rw 11))), (15, .s (.a (.rw 15))), (17, eI .i64 ((t : Int) - 1))], H := fun t => [(15, .row (.bts (txs Ls.length i (Ls.getD i.toNat []) (pvo Ls i))) 33), (11, .row (.bts (txs Ls.length i el P)) 33)] }
    | _, _ => none
theorem okmerkleClash (Ls : List (List Int)) (i : Int) (el : List Int) (P : List (List Int)) (hp : allP [∀ L ∈ Ls, OkB L, Ls.flatten.length + 300 ≤ lim, Ls.length < 1099511627776, OkB el, el.length + 300 ≤ lim, OkD P]) : CallsOk Tryd.prog Gs 17 [.a (.d (.sb Ls)), .a (.d (.v (.int .i64 i))), .a (.d (.si .u8 el)), .a (.d (.sl 32 (P).length (lC dE [] (P))))] [] (.t [.a (.d (.si .u8 (oget (txs Ls.length i (Ls.getD i.toNat []) (pvo Ls i)) (clB Ls i el P)))), .a (.d (.si .u8 (oget (txs Ls.length i el P) (clB Ls i el P)))), .a (.d (.v (.bool ((clB Ls i el P).isSome))))]) [] :=
  ok_of (ann := anmerkleClash Ls i el P) ctok_merkleVerify mixed Tryd.func17 (by kernel_rfl) (of_nf (p := (↑(List.length Ls) : Int) = (↑(List.length Ls) : Int) ∧ i = i ∧ el = el ∧ List.length P = List.length (lL dG (List.length P) (lC dE [] P)) ∧ (∀ (i : Nat), i < List.length (lL dG (List.length P) (lC dE [] P)) → lC dE [] P i = lC dE [] (lL dG (List.length P) (lC dE [] P)) i) ∧ OkB el ∧ List.length el + (300 : Nat) ≤ lim ∧ (↑(List.length Ls) : Int) < (9223372036854775808 : Int) ∧ OkD (lL dG (List.length P) (lC dE [] P)) ∧ (∀ (L : List Int), L ∈ Ls → OkB L) ∧ List.length (List.flatten Ls) + (300 : Nat) ≤ lim ∧ List.length Ls < (1099511627776 : Nat) ∧ brP (!txOk (↑(List.length Ls) : Int) i (lL dG (List.length P) (lC dE [] P))) (oget (txs (↑(List.length Ls) : Int) i (List.getD Ls (Int.toNat i) []) (pvo Ls i)) (clB Ls i el P) = [] ∧ oget (txs (↑(List.length Ls) : Int) i el P) (clB Ls i el P) = [] ∧ false = Option.isSome (clB Ls i el P) ∧ True) (brP (!decide ((0 : Int) ≤ i ∧ i < (↑(List.length Ls) : Int))) (oget (txs (↑(List.length Ls) : Int) i (List.getD Ls (Int.toNat i) []) (pvo Ls i)) (clB Ls i el P) = [] ∧ oget (txs (↑(List.length Ls) : Int) i el P) (clB Ls i el P) = [] ∧ false = Option.isSome (clB Ls i el P) ∧ True) (((0 : Int) ≤ i ∧ i < (↑(List.length Ls) : Int)) ∧ (↑(List.length Ls) : Int) = (↑(List.length Ls) : Int) ∧ i = i ∧ List.getD Ls (Int.toNat i) [] = List.getD Ls (Int.toNat i) [] ∧ List.length (pvo Ls i) = List.length (lL dG (List.length (pvo Ls i)) (lC dE [] (pvo Ls i))) ∧ (∀ (i_1 : Nat), i_1 < List.length (lL dG (List.length (pvo Ls i)) (lC dE [] (pvo Ls i))) → lC dE [] (pvo Ls i) i_1 = lC dE [] (lL dG (List.length (pvo Ls i)) (lC dE [] (pvo Ls i))) i_1) ∧ OkB (List.getD Ls (Int.toNat i) []) ∧ List.length (List.getD Ls (Int.toNat i) []) + (300 : Nat) ≤ lim ∧ (↑(List.length Ls) : Int) < (9223372036854775808 : Int) ∧ OkD (lL dG (List.length (pvo Ls i)) (lC dE [] (pvo Ls i))) ∧ (∃ (t : Nat), IntKind.wrap IntKind.i64 ((↑(Cont.len (Cont.bts (txs (↑(List.length Ls) : Int) i (List.getD Ls (Int.toNat i) []) (lL dG (List.length (pvo Ls i)) (lC dE [] (pvo Ls i)))))) : Int) - (1 : Int)) = (↑t : Int) - (1 : Int) ∧ txs (↑(List.length Ls) : Int) i (List.getD Ls (Int.toNat i) []) (lL dG (List.length (pvo Ls i)) (lC dE [] (pvo Ls i))) = txs (↑(List.length Ls) : Int) i (List.getD Ls (Int.toNat i) []) (pvo Ls i) ∧ txs (↑(List.length Ls) : Int) i el (lL dG (List.length P) (lC dE [] P)) = txs (↑(List.length Ls) : Int) i el P ∧ (t ≤ List.length P + (2 : Nat) ∧ txOk (↑(List.length Ls) : Int) i P = true ∧ clB Ls i el P = fdD (clP (txs (↑(List.length Ls) : Int) i (List.getD Ls (Int.toNat i) []) (pvo Ls i)) (txs (↑(List.length Ls) : Int) i el P)) t) ∧ True) ∧ ∀ (t : Nat), t ≤ List.length P + (2 : Nat) ∧ txOk (↑(List.length Ls) : Int) i P = true ∧ clB Ls i el P = fdD (clP (txs (↑(List.length Ls) : Int) i (List.getD Ls (Int.toNat i) []) (pvo Ls i)) (txs (↑(List.length Ls) : Int) i el P)) t → brP (decide ((↑t : Int) - (1 : Int) ≥ (0 : Int))) (((0 : Int) ≤ (↑t : Int) - (1 : Int) ∧ (↑t : Int) - (1 : Int) < (↑(Cont.len (Cont.bts (txs (↑(List.length Ls) : Int) i (List.getD Ls (Int.toNat i) []) (pvo Ls i)))) : Int)) ∧ ((0 : Int) ≤ (↑t : Int) - (1 : Int) ∧ (↑t : Int) - (1 : Int) < (↑(Cont.len (Cont.bts (txs (↑(List.length Ls) : Int) i el P))) : Int)) ∧ OkB (List.getD (txs (↑(List.length Ls) : Int) i (List.getD Ls (Int.toNat i) []) (pvo Ls i)) (Int.toNat ((↑t : Int) - (1 : Int))) []) ∧ OkB (List.getD (txs (↑(List.length Ls) : Int) i el P) (Int.toNat ((↑t : Int) - (1 : Int))) []) ∧ brP (!decide (List.getD (txs (↑(List.length Ls) : Int) i (List.getD Ls (Int.toNat i) []) (pvo Ls i)) (Int.toNat ((↑t : Int) - (1 : Int))) [] = List.getD (txs (↑(List.length Ls) : Int) i el P) (Int.toNat ((↑t : Int) - (1 : Int))) [])) (((0 : Int) ≤ (↑t : Int) - (1 : Int) ∧ (↑t : Int) - (1 : Int) < (↑(Cont.len (Cont.bts (txs (↑(List.length Ls) : Int) i (List.getD Ls (Int.toNat i) []) (pvo Ls i)))) : Int)) ∧ OkB (List.getD (txs (↑(List.length Ls) : Int) i (List.getD Ls (Int.toNat i) []) (pvo Ls i)) (Int.toNat ((↑t : Int) - (1 : Int))) []) ∧ ((0 : Int) ≤ (↑t : Int) - (1 : Int) ∧ (↑t : Int) - (1 : Int) < (↑(Cont.len (Cont.bts (txs (↑(List.length Ls) : Int) i el P))) : Int)) ∧ OkB (List.getD (txs (↑(List.length Ls) : Int) i el P) (Int.toNat ((↑t : Int) - (1 : Int))) []) ∧ brP (sumB shaK (List.getD (txs (↑(List.length Ls) : Int) i (List.getD Ls (Int.toNat i) []) (pvo Ls i)) (Int.toNat ((↑t : Int) - (1 : Int))) []) == sumB shaK (List.getD (txs (↑(List.length Ls) : Int) i el P) (Int.toNat ((↑t : Int) - (1 : Int))) [])) (((0 : Int) ≤ (↑t : Int) - (1 : Int) ∧ (↑t : Int) - (1 : Int) < (↑(Cont.len (Cont.bts (txs (↑(List.length Ls) : Int) i (List.getD Ls (Int.toNat i) []) (pvo Ls i)))) : Int)) ∧ ((0 : Int) ≤ (↑t : Int) - (1 : Int) ∧ (↑t : Int) - (1 : Int) < (↑(Cont.len (Cont.bts (txs (↑(List.length Ls) : Int) i el P))) : Int)) ∧ List.getD (txs (↑(List.length Ls) : Int) i (List.getD Ls (Int.toNat i) []) (pvo Ls i)) (Int.toNat ((↑t : Int) - (1 : Int))) [] = oget (txs (↑(List.length Ls) : Int) i (List.getD Ls (Int.toNat i) []) (pvo Ls i)) (clB Ls i el P) ∧ List.getD (txs (↑(List.length Ls) : Int) i el P) (Int.toNat ((↑t : Int) - (1 : Int))) [] = oget (txs (↑(List.length Ls) : Int) i el P) (clB Ls i el P) ∧ true = Option.isSome (clB Ls i el P) ∧ True) (∃ (t' : Nat), IntKind.wrap IntKind.i64 ((↑t : Int) - (1 : Int) - (1 : Int)) = (↑t' : Int) - (1 : Int) ∧ txs (↑(List.length Ls) : Int) i (List.getD Ls (Int.toNat i) []) (pvo Ls i) = txs (↑(List.length Ls) : Int) i (List.getD Ls (Int.toNat i) []) (pvo Ls i) ∧ txs (↑(List.length Ls) : Int) i el P = txs (↑(List.length Ls) : Int) i el P ∧ (t' ≤ List.length P + (2 : Nat) ∧ txOk (↑(List.length Ls) : Int) i P = true ∧ clB Ls i el P = fdD (clP (txs (↑(List.length Ls) : Int) i (List.getD Ls (Int.toNat i) []) (pvo Ls i)) (txs (↑(List.length Ls) : Int) i el P)) t') ∧ t' < t ∧ True)) (∃ (t' : Nat), IntKind.wrap IntKind.i64 ((↑t : Int) - (1 : Int) - (1 : Int)) = (↑t' : Int) - (1 : Int) ∧ txs (↑(List.length Ls) : Int) i (List.getD Ls (Int.toNat i) []) (pvo Ls i) = txs (↑(List.length Ls) : Int) i (List.getD Ls (Int.toNat i) []) (pvo Ls i) ∧ txs (↑(List.length Ls) : Int) i el P = txs (↑(List.length Ls) : Int) i el P ∧ (t' ≤ List.length P + (2 : Nat) ∧ txOk (↑(List.length Ls) : Int) i P = true ∧ clB Ls i el P = fdD (clP (txs (↑(List.length Ls) : Int) i (List.getD Ls (Int.toNat i) []) (pvo Ls i)) (txs (↑(List.length Ls) : Int) i el P)) t') ∧ t' < t ∧ True)) (oget (txs (↑(List.length Ls) : Int) i (List.getD Ls (Int.toNat i) []) (pvo Ls i)) (clB Ls i el P) = [] ∧ oget (txs (↑(List.length Ls) : Int) i el P) (clB Ls i el P) = [] ∧ false = Option.isSome (clB Ls i el P) ∧ True)))) (by kernel_rfl) (by
    obtain ⟨ho, hf, hn, he, hl, hP, _⟩ := hp
    have hlim : lim = 68719476736 := rfl
    rw [lL_self dG_dE, lL_self dG_dE]
    have no : clB Ls i el P = none → oget (txs Ls.length i (Ls.getD i.toNat []) (pvo Ls i)) (clB Ls i el P) = [] ∧ oget (txs Ls.length i el P) (clB Ls i el P) = [] ∧ false = Option.isSome (clB Ls i el P) ∧ True := fun h => by rw [h]; exact ⟨rfl, rfl, rfl, trivial⟩
    refine ⟨rfl, rfl, rfl, rfl, fun k hk => rfl, he, hl, by omega, hP, ho, hf, hn, brI (fun hc => ?_) (fun hc => ?_)⟩
    · have hc : txOk Ls.length i P = false := by simpa using hc
      exact no (by unfold clB; rw [hc]; rfl)
    · have hc : txOk Ls.length i P = true := by simpa using hc
      have h1 := of_decide_eq_true hc
      have hin : 0 ≤ i ∧ i < Ls.length := ⟨h1.1, h1.2.1⟩
      refine brI (fun hd => ?_) (fun hd => ?_)
      · rw [decide_eq_true hin] at hd; cases hd
      · obtain ⟨hq1, hq2⟩ := own_txOk (Ls := Ls) hc
        have hA := txs_len (el := Ls.getD i.toNat []) hq1
        have hB := txs_len (el := el) hc
        have lA : (Cont.bts (txs Ls.length i (Ls.getD i.toNat []) (pvo Ls i))).len = P.length + 2 := by rw [← hq2]; exact hA
        have lB : (Cont.bts (txs Ls.length i el P)).len = P.length + 2 := hB
        have hm : Ls.getD i.toNat [] ∈ Ls := getD_mem (by omega)
        have hs := sd_len 63 (Ls.length : Int).toNat i.toNat (show (Ls.length : Int).toNat ≤ 9223372036854775808 by omega)
        have hfl := flat_mem hm
        have okA := txs_ok (n := Ls.length) (i := i) (ho _ hm) (by omega) (pvo_okD Ls i)
        have okB := txs_ok (n := Ls.length) (i := i) he hl hP
        have ecl : clB Ls i el P = fdD (clP (txs Ls.length i (Ls.getD i.toNat []) (pvo Ls i)) (txs Ls.length i el P)) (P.length + 2) := by unfold clB; rw [if_pos hc]
        refine ⟨hin, rfl, rfl, rfl, rfl, fun k hk => rfl, ho _ hm, by omega, by omega, pvo_okD _ _, ⟨P.length + 2, by rw [lA, wi _ (by omega) (by omega)], rfl, rfl, ⟨Nat.le_refl _, hc, ecl⟩, trivial⟩, fun t ht => ?_⟩
        obtain ⟨t1, t2, t3⟩ := ht
        rw [lA, lB]
        refine brI (fun hk => ?_) (fun hk => ?_)
        · have hk : 1 ≤ t := by have := of_decide_eq_true hk; omega
          have et : Int.toNat ((t : Int) - 1) = t - 1 := by omega
          rw [et]
          have g1 := okA _ (getD_mem (k := t - 1) (d := []) (by omega))
          have g2 := okB _ (getD_mem (k := t - 1) (d := []) (by omega))
          obtain ⟨u, rfl⟩ : ∃ u, t = u + 1 := ⟨t - 1, by omega⟩
          simp only [Nat.add_sub_cancel] at g1 g2 ⊢
          have step : clP (txs Ls.length i (Ls.getD i.toNat []) (pvo Ls i)) (txs Ls.length i el P) u = false → clB Ls i el P = fdD (clP (txs Ls.length i (Ls.getD i.toNat []) (pvo Ls i)) (txs Ls.length i el P)) u := fun h => by rw [t3]; simp only [fdD]; rw [h]; rfl
          have ew : IntKind.wrap .i64 (((u + 1 : Nat) : Int) - 1 - 1) = (u : Int) - 1 := by rw [wi _ (by omega) (by omega)]; omega
          refine ⟨by omega, by omega, g1.1, g2.1, brI (fun hx => ?_) (fun hx => ?_)⟩
          · refine ⟨by omega, g1.1, by omega, g2.1, brI (fun hy => ?_) (fun hy => ?_)⟩
            · have e2 : clB Ls i el P = some u := by rw [t3]; simp only [fdD]; rw [if_pos (by unfold clP; rw [hx, hy]; rfl)]
              rw [e2, oget_some, oget_some]
              exact ⟨by omega, by omega, rfl, rfl, rfl, trivial⟩
            · exact ⟨u, ew, trivial, trivial, ⟨by omega, t2, step (by unfold clP; rw [hy, Bool.and_false])⟩, by omega, trivial⟩
          · exact ⟨u, ew, trivial, trivial, ⟨by omega, t2, step (by unfold clP; rw [hx, Bool.false_and])⟩, by omega, trivial⟩
        · have hk : t = 0 := by have := of_decide_eq_false hk; omega
          subst hk
          exact no t3))
noncomputable def gmerkleClash : Con := fun args H => match args, H with
  | [.a (.d (.sb Ls)), .a (.d (.v (.int .i64 i))), .a (.d (.si .u8 el)), .a (.d (.sl 32 m c))], [] => (fun (Ls : List (List Int)) (i : Int) (el : List Int) (P : List (List Int)) => conC args H [.a (.d (.sb Ls)), .a (.d (.v (.int .i64 i))), .a (.d (.si .u8 el)), .a (.d (.sl 32 (P).length (lC dE [] (P))))] [] ⟨[∀ L ∈ Ls, OkB L, Ls.flatten.length + 300 ≤ lim, Ls.length < 1099511627776, OkB el, el.length + 300 ≤ lim, OkD P], .t [.a (.d (.si .u8 (oget (txs Ls.length i (Ls.getD i.toNat []) (pvo Ls i)) (clB Ls i el P)))), .a (.d (.si .u8 (oget (txs Ls.length i el P) (clB Ls i el P)))), .a (.d (.v (.bool ((clB Ls i el P).isSome))))], []⟩) (Ls) (i) (el) (lL dG m c)
  | _, _ => none
theorem vmerkleClash : Valid Tryd.prog Gs 17 gmerkleClash := by
  intro args H r h hp
  unfold gmerkleClash at h
  split at h
  · rename_i Ls i el m c
    exact conC_ok h hp fun hp => okmerkleClash (Ls) (i) (el) (lL dG m c) hp
  · cases h
noncomputable def ct_merkleClash : List (Nat × Ct) := (17, ⟨[], true, gmerkleClash⟩) :: ct_merkleVerify
theorem ctok_merkleClash : CtsOk Tryd.prog Gs ct_merkleClash := CtsOk.cons vmerkleClash (by kernel_rfl) ctok_merkleVerify
noncomputable def anL03same (P Q : List (List Int)) : Nat → List Nat → Option Ann := fun bk_ gs_ => match bk_, gs_ with
    | 0, _ => some { τ := Nat, J := fun t => t ≤ P.length ∧ P.length = Q.length ∧ P.take t = Q.take t, m := fun t => P.length - t, l := fun t => [(0, .s (.a (.d (.sl 32 (P).length (lC dE [] (P)))))), (1, .s (.a (.d (.sl 32 (Q).length (lC dE [] (Q)))))), (5, eI .i64 (t : Int))], H := fun t => [] }
    | _, _ => none
theorem okL03same (P Q : List (List Int)) (hp : allP [OkD P, OkD Q, P.length < 1099511627776]) : CallsOk Tryd.prog Gs 13 [.a (.d (.sl 32 (P).length (lC dE [] (P)))), .a (.d (.sl 32 (Q).length (lC dE [] (Q))))] [] (eB (decide (P = Q))) [] :=
  ok_of (ann := anL03same P Q) ctok_merkleClash mixed Tryd.func13 (by kernel_rfl) (of_nf (p := brP ((↑(List.length P) : Int) != (↑(List.length Q) : Int)) (false = decide (P = Q) ∧ True) ((∃ (t : Nat), List.length P = List.length P ∧ (∀ (i : Nat), i < List.length P → lC dE [] P i = lC dE [] P i) ∧ List.length Q = List.length Q ∧ (∀ (i : Nat), i < List.length Q → lC dE [] Q i = lC dE [] Q i) ∧ (0 : Int) = (↑t : Int) ∧ (t ≤ List.length P ∧ List.length P = List.length Q ∧ List.take t P = List.take t Q) ∧ True) ∧ ∀ (t : Nat), t ≤ List.length P ∧ List.length P = List.length Q ∧ List.take t P = List.take t Q → brP (decide ((↑t : Int) < (↑(List.length P) : Int))) (((0 : Int) ≤ (↑t : Int) ∧ (↑t : Int) < (↑(List.length P) : Int)) ∧ ((0 : Int) ≤ (↑t : Int) ∧ (↑t : Int) < (↑(List.length Q) : Int)) ∧ brP (!List.getD P (Int.toNat (↑t : Int)) [] == List.getD Q (Int.toNat (↑t : Int)) []) (false = decide (P = Q) ∧ True) (∃ (t' : Nat), List.length P = List.length P ∧ (∀ (i : Nat), i < List.length P → lC dE [] P i = lC dE [] P i) ∧ List.length Q = List.length Q ∧ (∀ (i : Nat), i < List.length Q → lC dE [] Q i = lC dE [] Q i) ∧ IntKind.wrap IntKind.i64 ((↑t : Int) + (1 : Int)) = (↑t' : Int) ∧ (t' ≤ List.length P ∧ List.length P = List.length Q ∧ List.take t' P = List.take t' Q) ∧ List.length P - t' < List.length P - t ∧ True)) (true = decide (P = Q) ∧ True))) (by kernel_rfl) (by
    obtain ⟨hP, hQ, hn, _⟩ := hp
    refine brI (fun hc => ?_) (fun hc => ?_)
    · have hc := bne_iff_ne.1 hc
      rw [decide_eq_false (fun e => hc (by rw [e]))]
      exact ⟨rfl, trivial⟩
    · have hc : P.length = Q.length := by simp at hc; omega
      refine ⟨⟨0, rfl, fun k hk => rfl, rfl, fun k hk => rfl, rfl, ⟨Nat.zero_le _, hc, rfl⟩, trivial⟩, fun t ht => ?_⟩
      obtain ⟨h1, h2, h3⟩ := ht
      rw [Int.toNat_natCast]
      refine brI (fun hd => ?_) (fun hd => ?_)
      · have hd : t < P.length := by have := of_decide_eq_true hd; omega
        refine ⟨by omega, by omega, brI (fun hk => ?_) (fun hk => ?_)⟩
        · rw [decide_eq_false (fun e => by rw [e] at hk; simp at hk)]
          exact ⟨rfl, trivial⟩
        · refine ⟨t + 1, rfl, fun k hk => rfl, rfl, fun k hk => rfl, by rw [wi _ (by omega) (by omega)]; rfl, ⟨by omega, h2, ?_⟩, by omega, trivial⟩
          have hk : P.getD t [] = Q.getD t [] := by simpa using hk
          rw [List.getD_eq_getElem?_getD, List.getD_eq_getElem?_getD, List.getElem?_eq_getElem hd, List.getElem?_eq_getElem (show t < Q.length by omega)] at hk
          rw [List.take_succ_eq_append_getElem hd, List.take_succ_eq_append_getElem (show t < Q.length by omega), h3]
          simp at hk; rw [hk]
      · have hd : t = P.length := by have := of_decide_eq_false hd; omega
        subst hd
        rw [List.take_of_length_le (Nat.le_refl _), List.take_of_length_le (by omega)] at h3
        rw [decide_eq_true h3]; exact ⟨rfl, trivial⟩))
noncomputable def gL03same : Con := fun args H => match args, H with
  | [.a (.d (.sl 32 m c)), .a (.d (.sl 32 m2 c2))], [] => (fun (P Q : List (List Int)) => conC args H [.a (.d (.sl 32 (P).length (lC dE [] (P)))), .a (.d (.sl 32 (Q).length (lC dE [] (Q))))] [] ⟨[OkD P, OkD Q, P.length < 1099511627776], eB (decide (P = Q)), []⟩) (lL dG m c) (lL dG m2 c2)
  | _, _ => none
theorem vL03same : Valid Tryd.prog Gs 13 gL03same := by
  intro args H r h hp
  unfold gL03same at h
  split at h
  · rename_i m c m2 c2
    exact conC_ok h hp fun hp => okL03same (lL dG m c) (lL dG m2 c2) hp
  · cases h
noncomputable def ct_L03same : List (Nat × Ct) := (13, ⟨[], false, gL03same⟩) :: ct_merkleClash
theorem ctok_L03same : CtsOk Tryd.prog Gs ct_L03same := CtsOk.cons vL03same (by kernel_rfl) ctok_merkleClash
/-- The document's: the digest of n elements if one and a path are put in their places; the path is read from its end. -/
def tpR (el : List Int) : List (List Int) → Nat → Nat → List Int × Bool
  | [], n, i => if n = 1 then (sumB shaK (leafB el), true) else (List.replicate 32 0, false)
  | d :: r, n, i => if n = 1 then (sumB shaK (leafB el), false) else if i < halfN n then (sumB shaK (nodeB (tpR el r (halfN n) i).1 d), (tpR el r (halfN n) i).2) else (sumB shaK (nodeB d (tpR el r (n - halfN n) (i - halfN n)).1), (tpR el r (n - halfN n) (i - halfN n)).2)
def tp (n i : Nat) (el : List Int) (P : List (List Int)) : List Int × Bool := tpR el P.reverse n i
theorem tpR_len (el : List Int) : ∀ (R : List (List Int)) (n i : Nat), (tpR el R n i).1.length = 32 ∧ OkB (tpR el R n i).1
  | [], n, i => by
    simp only [tpR]; split
    · exact ⟨sumB_len _ _, sumB_ok _⟩
    · exact ⟨rfl, lit_ok (by decide)⟩
  | d :: r, n, i => by
    simp only [tpR]; split
    · exact ⟨sumB_len _ _, sumB_ok _⟩
    · split <;> exact ⟨sumB_len _ _, sumB_ok _⟩
theorem txk_pre {s s' : List Bool} {P P' : List (List Int)} {t0 : List Int} : ∀ {k : Nat}, (∀ j, j < k → s.getD j false = s'.getD j false ∧ P.getD j [] = P'.getD j []) → txk s P t0 k = txk s' P' t0 k
  | 0, _ => rfl
  | k + 1, h => by
    simp only [txk]
    rw [(h k (by omega)).1, (h k (by omega)).2, txk_pre (k := k) fun j hj => h j (by omega)]
theorem tpR_sd (el : List Int) : ∀ (R : List (List Int)) (n i : Nat), i < n → (R.length = (sd n i).length → tpR el R n i = (sumB shaK (tk n i el R.reverse R.length), true)) ∧ (R.length ≠ (sd n i).length → (tpR el R n i).2 = false)
  | [], n, i, hi => by
    by_cases hn : n = 1
    · subst hn
      rw [sd_one (Nat.le_refl _)]
      exact ⟨fun _ => by rw [List.reverse_nil, List.length_nil, tk_zero]; simp only [tpR, if_true], fun h => absurd rfl h⟩
    · rw [sd_two (by omega)]
      refine ⟨fun h => ?_, fun _ => by simp only [tpR]; rw [if_neg hn]⟩
      split at h <;> simp at h
  | d :: r, n, i, hi => by
    by_cases hn : n = 1
    · subst hn
      rw [sd_one (Nat.le_refl _)]
      exact ⟨fun h => by simp at h, fun _ => by simp only [tpR, if_true]⟩
    · have h2 : 2 ≤ n := by omega
      have hs := halfN_spec h2
      have cut : ∀ (b : Bool) (S : List Bool), r.length = S.length → txk (b :: S).reverse (d :: r).reverse (leafB el) (r.length + 1) = if b then nodeB (sumB shaK (txk S.reverse r.reverse (leafB el) r.length)) d else nodeB d (sumB shaK (txk S.reverse r.reverse (leafB el) r.length)) := fun b S hS => by
        have e1 : ((b :: S).reverse).getD r.length false = b := by
          rw [List.reverse_cons, List.getD_eq_getElem?_getD, List.getElem?_append_right (by simp; omega)]
          simp [hS]
        have e2 : ((d :: r).reverse).getD r.length [] = d := by
          rw [List.reverse_cons, List.getD_eq_getElem?_getD, List.getElem?_append_right (by simp)]
          simp
        have e3 : txk (b :: S).reverse (d :: r).reverse (leafB el) r.length = txk S.reverse r.reverse (leafB el) r.length := txk_pre fun j hj => by
          simp only [List.reverse_cons, List.getD_eq_getElem?_getD]
          rw [List.getElem?_append_left (by simp; omega), List.getElem?_append_left (by simp; omega)]
          exact ⟨rfl, rfl⟩
        simp only [txk]
        rw [e1, e2, e3]
      rw [sd_two h2]
      by_cases hk : i < halfN n
      · rw [if_pos hk]
        obtain ⟨g1, g2⟩ := tpR_sd el r (halfN n) i hk
        refine ⟨fun h => ?_, fun h => ?_⟩
        · have hl : r.length = (sd (halfN n) i).length := by simpa using h
          have e := cut true (sd (halfN n) i) hl
          simp only [tpR]
          rw [if_neg hn, if_pos hk, g1 hl]
          unfold tk
          rw [sd_two h2, if_pos hk, List.length_cons, e]
          simp only [if_true]
        · simp only [tpR]
          rw [if_neg hn, if_pos hk]
          exact g2 fun e => h (by simp [e])
      · rw [if_neg hk]
        obtain ⟨g1, g2⟩ := tpR_sd el r (n - halfN n) (i - halfN n) (by omega)
        refine ⟨fun h => ?_, fun h => ?_⟩
        · have hl : r.length = (sd (n - halfN n) (i - halfN n)).length := by simpa using h
          have e := cut false (sd (n - halfN n) (i - halfN n)) hl
          simp only [tpR]
          rw [if_neg hn, if_neg hk, g1 hl]
          unfold tk
          rw [sd_two h2, if_neg hk, List.length_cons, e]
          simp only [Bool.false_eq_true, if_false]
        · simp only [tpR]
          rw [if_neg hn, if_neg hk]
          exact g2 fun e => h (by simp [e])
theorem tp_ver {root : List Int} {n i : Int} {el : List Int} {P : List (List Int)} (h0 : 0 ≤ i) (h1 : i < n) : ((tp n.toNat i.toNat el P).2 && (sumB shaK (listB n (tp n.toNat i.toNat el P).1) == root)) = verB root n i el P := by
  obtain ⟨g1, g2⟩ := tpR_sd el P.reverse n.toNat i.toNat (by omega)
  unfold verB tp
  by_cases h : (sd n.toNat i.toNat).length = P.length
  · have e : txOk n i P = true := decide_eq_true ⟨h0, h1, h⟩
    rw [g1 (by simp [h]), e, List.reverse_reverse, List.length_reverse]
  · have e : txOk n i P = false := decide_eq_false (fun hh => h hh.2.2)
    rw [g2 (by simp; omega), e]; rfl
theorem tp_snoc {n i : Nat} {el : List Int} {P : List (List Int)} (h : P ≠ []) : tp n i el P = if n = 1 then (sumB shaK (leafB el), false) else if i < halfN n then (sumB shaK (nodeB (tp (halfN n) i el (P.take (P.length - 1))).1 (P.getD (P.length - 1) [])), (tp (halfN n) i el (P.take (P.length - 1))).2) else (sumB shaK (nodeB (P.getD (P.length - 1) []) (tp (n - halfN n) (i - halfN n) el (P.take (P.length - 1))).1), (tp (n - halfN n) (i - halfN n) el (P.take (P.length - 1))).2) := by
  obtain ⟨Q, d, rfl⟩ : ∃ Q d, P = Q ++ [d] := ⟨P.dropLast, P.getLast h, (List.dropLast_concat_getLast h).symm⟩
  have e1 : (Q ++ [d]).take ((Q ++ [d]).length - 1) = Q := by simp
  have e2 : (Q ++ [d]).getD ((Q ++ [d]).length - 1) [] = d := by simp [List.getD_eq_getElem?_getD]
  rw [e1, e2]
  unfold tp
  rw [List.reverse_append, List.reverse_singleton]
  rfl
noncomputable def anR03top (n i : Int) (el : List Int) (P : List (List Int)) : Nat → List Nat → Option Ann := fun _ _ => none
noncomputable def grR03top (n_ : Nat) : Con := fun args H => match args, H with
  | [.a (.d (.v (.int .i64 n))), .a (.d (.v (.int .i64 i))), .a (.d (.si .u8 el)), .a (.d (.sl 32 m c))], [] => (fun (n i : Int) (el : List Int) (P : List (List Int)) => conC args H [.a (.d (.v (.int .i64 n))), .a (.d (.v (.int .i64 i))), .a (.d (.si .u8 el)), .a (.d (.sl 32 (P).length (lC dE [] (P))))] [] ⟨(P.length < n_) :: [OkB el, el.length + 300 ≤ lim, n < 9223372036854775808, OkD P, 0 ≤ i, i < n, P.length < 1099511627776], .t [.agg [.ints .u8 32 (tp n.toNat i.toNat el P).1], .a (.d (.v (.bool ((tp n.toNat i.toNat el P).2))))], []⟩) (n) (i) (el) (lL dG m c)
  | _, _ => none
noncomputable def ctr_R03top (n_ : Nat) : List (Nat × Ct) := (29, ⟨[], false, grR03top n_⟩) :: ct_L03same
theorem okrR03top (n i : Int) (el : List Int) (P : List (List Int)) (n_ : Nat) (hv_ : Valid Tryd.prog Gs 29 (grR03top n_)) (hm_ : P.length < n_ + 1) (hp : allP [OkB el, el.length + 300 ≤ lim, n < 9223372036854775808, OkD P, 0 ≤ i, i < n, P.length < 1099511627776]) : CallsOk Tryd.prog Gs 29 [.a (.d (.v (.int .i64 n))), .a (.d (.v (.int .i64 i))), .a (.d (.si .u8 el)), .a (.d (.sl 32 (P).length (lC dE [] (P))))] [] (.t [.agg [.ints .u8 32 (tp n.toNat i.toNat el P).1], .a (.d (.v (.bool ((tp n.toNat i.toNat el P).2))))]) [] :=
  ok_of (ann := anR03top n i el P) (CtsOk.cons (c := ⟨[], false, grR03top n_⟩) hv_ (by kernel_rfl) ctok_L03same) mixed Tryd.func29 (by kernel_rfl) (of_nf (p := brP (n == (1 : Int)) (List.length el + (200 : Nat) ≤ lim ∧ OkB (leafB el) ∧ List.length (leafB el) + (100 : Nat) ≤ lim ∧ sumB shaK (leafB el) = Prod.fst (tp (Int.toNat n) (Int.toNat i) el P) ∧ ((↑(List.length P) : Int) == (0 : Int)) = Prod.snd (tp (Int.toNat n) (Int.toNat i) el P) ∧ True) (brP ((↑(List.length P) : Int) == (0 : Int)) (List.replicate (32 : Nat) (0 : Int) = Prod.fst (tp (Int.toNat n) (Int.toNat i) el P) ∧ false = Prod.snd (tp (Int.toNat n) (Int.toNat i) el P) ∧ True) ((2 : Int) ≤ n ∧ n < (9223372036854775808 : Int) ∧ ((0 : Int) ≤ IntKind.wrap IntKind.i64 ((↑(List.length P) : Int) - (1 : Int)) ∧ IntKind.wrap IntKind.i64 ((↑(List.length P) : Int) - (1 : Int)) < (↑(List.length P) : Int)) ∧ brP (decide (i < (↑(halfN (Int.toNat n)) : Int))) (((0 : Int) ≤ IntKind.wrap IntKind.i64 ((↑(List.length P) : Int) - (1 : Int)) ∧ IntKind.wrap IntKind.i64 ((↑(List.length P) : Int) - (1 : Int)) ≤ (↑(List.length P) : Int)) ∧ (↑(halfN (Int.toNat n)) : Int) = (↑(halfN (Int.toNat n)) : Int) ∧ i = i ∧ el = el ∧ lenN (List.length P) none (some (IntKind.i64, IntKind.wrap IntKind.i64 ((↑(List.length P) : Int) - (1 : Int)))) = List.length (lL dG (lenN (List.length P) none (some (IntKind.i64, IntKind.wrap IntKind.i64 ((↑(List.length P) : Int) - (1 : Int))))) (cutF (lC dE [] P) none)) ∧ (∀ (i : Nat), i < List.length (lL dG (lenN (List.length P) none (some (IntKind.i64, IntKind.wrap IntKind.i64 ((↑(List.length P) : Int) - (1 : Int))))) (cutF (lC dE [] P) none)) → cutF (lC dE [] P) none i = lC dE [] (lL dG (lenN (List.length P) none (some (IntKind.i64, IntKind.wrap IntKind.i64 ((↑(List.length P) : Int) - (1 : Int))))) (cutF (lC dE [] P) none)) i) ∧ List.length (lL dG (lenN (List.length P) none (some (IntKind.i64, IntKind.wrap IntKind.i64 ((↑(List.length P) : Int) - (1 : Int))))) (cutF (lC dE [] P) none)) < n_ ∧ OkB el ∧ List.length el + (300 : Nat) ≤ lim ∧ (↑(halfN (Int.toNat n)) : Int) < (9223372036854775808 : Int) ∧ OkD (lL dG (lenN (List.length P) none (some (IntKind.i64, IntKind.wrap IntKind.i64 ((↑(List.length P) : Int) - (1 : Int))))) (cutF (lC dE [] P) none)) ∧ (0 : Int) ≤ i ∧ i < (↑(halfN (Int.toNat n)) : Int) ∧ List.length (lL dG (lenN (List.length P) none (some (IntKind.i64, IntKind.wrap IntKind.i64 ((↑(List.length P) : Int) - (1 : Int))))) (cutF (lC dE [] P) none)) < (1099511627776 : Nat) ∧ List.length (Prod.fst (tp (Int.toNat (↑(halfN (Int.toNat n)) : Int)) (Int.toNat i) el (lL dG (lenN (List.length P) none (some (IntKind.i64, IntKind.wrap IntKind.i64 ((↑(List.length P) : Int) - (1 : Int))))) (cutF (lC dE [] P) none)))) = (32 : Nat) ∧ List.length (List.getD P (Int.toNat (IntKind.wrap IntKind.i64 ((↑(List.length P) : Int) - (1 : Int)))) []) = (32 : Nat) ∧ OkB (nodeB (Prod.fst (tp (Int.toNat (↑(halfN (Int.toNat n)) : Int)) (Int.toNat i) el (lL dG (lenN (List.length P) none (some (IntKind.i64, IntKind.wrap IntKind.i64 ((↑(List.length P) : Int) - (1 : Int))))) (cutF (lC dE [] P) none)))) (List.getD P (Int.toNat (IntKind.wrap IntKind.i64 ((↑(List.length P) : Int) - (1 : Int)))) [])) ∧ List.length (nodeB (Prod.fst (tp (Int.toNat (↑(halfN (Int.toNat n)) : Int)) (Int.toNat i) el (lL dG (lenN (List.length P) none (some (IntKind.i64, IntKind.wrap IntKind.i64 ((↑(List.length P) : Int) - (1 : Int))))) (cutF (lC dE [] P) none)))) (List.getD P (Int.toNat (IntKind.wrap IntKind.i64 ((↑(List.length P) : Int) - (1 : Int)))) [])) + (100 : Nat) ≤ lim ∧ sumB shaK (nodeB (Prod.fst (tp (Int.toNat (↑(halfN (Int.toNat n)) : Int)) (Int.toNat i) el (lL dG (lenN (List.length P) none (some (IntKind.i64, IntKind.wrap IntKind.i64 ((↑(List.length P) : Int) - (1 : Int))))) (cutF (lC dE [] P) none)))) (List.getD P (Int.toNat (IntKind.wrap IntKind.i64 ((↑(List.length P) : Int) - (1 : Int)))) [])) = Prod.fst (tp (Int.toNat n) (Int.toNat i) el P) ∧ Prod.snd (tp (Int.toNat (↑(halfN (Int.toNat n)) : Int)) (Int.toNat i) el (lL dG (lenN (List.length P) none (some (IntKind.i64, IntKind.wrap IntKind.i64 ((↑(List.length P) : Int) - (1 : Int))))) (cutF (lC dE [] P) none))) = Prod.snd (tp (Int.toNat n) (Int.toNat i) el P) ∧ True) (((0 : Int) ≤ IntKind.wrap IntKind.i64 ((↑(List.length P) : Int) - (1 : Int)) ∧ IntKind.wrap IntKind.i64 ((↑(List.length P) : Int) - (1 : Int)) ≤ (↑(List.length P) : Int)) ∧ IntKind.wrap IntKind.i64 (n - (↑(halfN (Int.toNat n)) : Int)) = IntKind.wrap IntKind.i64 (n - (↑(halfN (Int.toNat n)) : Int)) ∧ IntKind.wrap IntKind.i64 (i - (↑(halfN (Int.toNat n)) : Int)) = IntKind.wrap IntKind.i64 (i - (↑(halfN (Int.toNat n)) : Int)) ∧ el = el ∧ lenN (List.length P) none (some (IntKind.i64, IntKind.wrap IntKind.i64 ((↑(List.length P) : Int) - (1 : Int)))) = List.length (lL dG (lenN (List.length P) none (some (IntKind.i64, IntKind.wrap IntKind.i64 ((↑(List.length P) : Int) - (1 : Int))))) (cutF (lC dE [] P) none)) ∧ (∀ (i : Nat), i < List.length (lL dG (lenN (List.length P) none (some (IntKind.i64, IntKind.wrap IntKind.i64 ((↑(List.length P) : Int) - (1 : Int))))) (cutF (lC dE [] P) none)) → cutF (lC dE [] P) none i = lC dE [] (lL dG (lenN (List.length P) none (some (IntKind.i64, IntKind.wrap IntKind.i64 ((↑(List.length P) : Int) - (1 : Int))))) (cutF (lC dE [] P) none)) i) ∧ List.length (lL dG (lenN (List.length P) none (some (IntKind.i64, IntKind.wrap IntKind.i64 ((↑(List.length P) : Int) - (1 : Int))))) (cutF (lC dE [] P) none)) < n_ ∧ OkB el ∧ List.length el + (300 : Nat) ≤ lim ∧ IntKind.wrap IntKind.i64 (n - (↑(halfN (Int.toNat n)) : Int)) < (9223372036854775808 : Int) ∧ OkD (lL dG (lenN (List.length P) none (some (IntKind.i64, IntKind.wrap IntKind.i64 ((↑(List.length P) : Int) - (1 : Int))))) (cutF (lC dE [] P) none)) ∧ (0 : Int) ≤ IntKind.wrap IntKind.i64 (i - (↑(halfN (Int.toNat n)) : Int)) ∧ IntKind.wrap IntKind.i64 (i - (↑(halfN (Int.toNat n)) : Int)) < IntKind.wrap IntKind.i64 (n - (↑(halfN (Int.toNat n)) : Int)) ∧ List.length (lL dG (lenN (List.length P) none (some (IntKind.i64, IntKind.wrap IntKind.i64 ((↑(List.length P) : Int) - (1 : Int))))) (cutF (lC dE [] P) none)) < (1099511627776 : Nat) ∧ List.length (List.getD P (Int.toNat (IntKind.wrap IntKind.i64 ((↑(List.length P) : Int) - (1 : Int)))) []) = (32 : Nat) ∧ List.length (Prod.fst (tp (Int.toNat (IntKind.wrap IntKind.i64 (n - (↑(halfN (Int.toNat n)) : Int)))) (Int.toNat (IntKind.wrap IntKind.i64 (i - (↑(halfN (Int.toNat n)) : Int)))) el (lL dG (lenN (List.length P) none (some (IntKind.i64, IntKind.wrap IntKind.i64 ((↑(List.length P) : Int) - (1 : Int))))) (cutF (lC dE [] P) none)))) = (32 : Nat) ∧ OkB (nodeB (List.getD P (Int.toNat (IntKind.wrap IntKind.i64 ((↑(List.length P) : Int) - (1 : Int)))) []) (Prod.fst (tp (Int.toNat (IntKind.wrap IntKind.i64 (n - (↑(halfN (Int.toNat n)) : Int)))) (Int.toNat (IntKind.wrap IntKind.i64 (i - (↑(halfN (Int.toNat n)) : Int)))) el (lL dG (lenN (List.length P) none (some (IntKind.i64, IntKind.wrap IntKind.i64 ((↑(List.length P) : Int) - (1 : Int))))) (cutF (lC dE [] P) none))))) ∧ List.length (nodeB (List.getD P (Int.toNat (IntKind.wrap IntKind.i64 ((↑(List.length P) : Int) - (1 : Int)))) []) (Prod.fst (tp (Int.toNat (IntKind.wrap IntKind.i64 (n - (↑(halfN (Int.toNat n)) : Int)))) (Int.toNat (IntKind.wrap IntKind.i64 (i - (↑(halfN (Int.toNat n)) : Int)))) el (lL dG (lenN (List.length P) none (some (IntKind.i64, IntKind.wrap IntKind.i64 ((↑(List.length P) : Int) - (1 : Int))))) (cutF (lC dE [] P) none))))) + (100 : Nat) ≤ lim ∧ sumB shaK (nodeB (List.getD P (Int.toNat (IntKind.wrap IntKind.i64 ((↑(List.length P) : Int) - (1 : Int)))) []) (Prod.fst (tp (Int.toNat (IntKind.wrap IntKind.i64 (n - (↑(halfN (Int.toNat n)) : Int)))) (Int.toNat (IntKind.wrap IntKind.i64 (i - (↑(halfN (Int.toNat n)) : Int)))) el (lL dG (lenN (List.length P) none (some (IntKind.i64, IntKind.wrap IntKind.i64 ((↑(List.length P) : Int) - (1 : Int))))) (cutF (lC dE [] P) none))))) = Prod.fst (tp (Int.toNat n) (Int.toNat i) el P) ∧ Prod.snd (tp (Int.toNat (IntKind.wrap IntKind.i64 (n - (↑(halfN (Int.toNat n)) : Int)))) (Int.toNat (IntKind.wrap IntKind.i64 (i - (↑(halfN (Int.toNat n)) : Int)))) el (lL dG (lenN (List.length P) none (some (IntKind.i64, IntKind.wrap IntKind.i64 ((↑(List.length P) : Int) - (1 : Int))))) (cutF (lC dE [] P) none))) = Prod.snd (tp (Int.toNat n) (Int.toNat i) el P) ∧ True)))) (by kernel_rfl) (by
    obtain ⟨he, hl, hn, hP, h0, h1, hm, _⟩ := hp
    have hlim : lim = 68719476736 := rfl
    obtain ⟨N, rfl⟩ := Int.eq_ofNat_of_zero_le (show 0 ≤ n by omega)
    obtain ⟨I, rfl⟩ := Int.eq_ofNat_of_zero_le h0
    simp only [Int.toNat_natCast]
    refine brI (fun hc => ?_) (fun hc => brI (fun hd => ?_) (fun hd => ?_))
    · have hc : N = 1 := by have := beq_iff_eq.1 hc; omega
      have e : tp N I el P = (sumB shaK (leafB el), P.length == 0) := by
        subst hc
        by_cases hPn : P = []
        · subst hPn; rfl
        · rw [tp_snoc hPn, if_pos rfl]
          have : (P.length == 0) = false := by
            cases P with
            | nil => exact absurd rfl hPn
            | cons x r => rfl
          rw [this]
      have ez : (((P.length : Nat) : Int) == 0) = (P.length == 0) := by
        cases P with
        | nil => rfl
        | cons x r => exact (beq_eq_false_iff_ne.2 (by simp only [List.length_cons]; omega)).trans (beq_eq_false_iff_ne.2 (by simp)).symm
      rw [e, ez]
      exact ⟨by omega, leafB_ok he, by rw [leafB_len]; omega, rfl, rfl, trivial⟩
    · have hc := beq_eq_false_iff_ne.1 hc
      have hd : P.length = 0 := by have := beq_iff_eq.1 hd; omega
      obtain rfl : P = [] := List.eq_nil_of_length_eq_zero hd
      have e : tp N I el [] = (List.replicate 32 0, false) := by
        show (if N = 1 then _ else _) = _
        rw [if_neg (by omega)]
      rw [e]
      exact ⟨rfl, rfl, trivial⟩
    · have hc := beq_eq_false_iff_ne.1 hc
      have hd := beq_eq_false_iff_ne.1 hd
      have h2 : 2 ≤ N := by omega
      have hs := halfN_spec h2
      have ew : IntKind.wrap .i64 ((P.length : Int) - 1) = ((P.length - 1 : Nat) : Int) := by rw [wi _ (by omega) (by omega)]; omega
      have en : IntKind.wrap .i64 ((N : Int) - ((halfN N : Nat) : Int)) = ((N - halfN N : Nat) : Int) := by rw [wi _ (by omega) (by omega)]; omega
      have cP : lL dG (lenN P.length none (some (IntKind.i64, ((P.length - 1 : Nat) : Int)))) (cutF (lC dE [] P) none) = P.take (P.length - 1) := lL_take dG_dE P (n := P.length - 1) (by omega)
      have e := tp_snoc (n := N) (i := I) (el := el) (P := P) (fun e => by rw [e] at hd; exact hd rfl)
      rw [if_neg (by omega)] at e
      have lP : (P.take (P.length - 1)).length = P.length - 1 := by rw [List.length_take]; omega
      obtain ⟨g1, g2⟩ := hP.get (k := P.length - 1) (by omega)
      have cc : ∀ k, k < (P.take (P.length - 1)).length → cutF (lC dE [] P) none k = lC dE [] (P.take (P.length - 1)) k := fun k hk => by
        have h := lC_lL (f := dE) (d := []) dG_dE (n := P.length - 1) (L := P) k (by omega)
        rw [lL_take dG_dE P (by omega)] at h
        exact h
      simp only [ew, cP, en, Int.toNat_natCast]
      refine ⟨by omega, hn, by omega, brI (fun hk => ?_) (fun hk => ?_)⟩
      · have hk : I < halfN N := by have := of_decide_eq_true hk; omega
        rw [if_pos hk] at e
        have hk12 := tpR_len el (P.take (P.length - 1)).reverse (halfN N) I
        obtain ⟨k1, k2⟩ : (tp (halfN N) I el (P.take (P.length - 1))).1.length = 32 ∧ OkB (tp (halfN N) I el (P.take (P.length - 1))).1 := hk12
        exact ⟨by omega, trivial, trivial, trivial, by rw [lP]; rfl, cc, by omega, he, hl, by omega, hP.take _, by omega, by omega, by omega, k1, g1, nodeB_ok k2 g2, (by rw [nodeB_len k1 g1]; omega), by rw [e], by rw [e], trivial⟩
      · have hk : ¬ I < halfN N := by have := of_decide_eq_false hk; omega
        have ei : IntKind.wrap .i64 ((I : Int) - ((halfN N : Nat) : Int)) = ((I - halfN N : Nat) : Int) := by rw [wi _ (by omega) (by omega)]; omega
        rw [if_neg hk] at e
        simp only [ei, Int.toNat_natCast]
        have hk12 := tpR_len el (P.take (P.length - 1)).reverse (N - halfN N) (I - halfN N)
        obtain ⟨k1, k2⟩ : (tp (N - halfN N) (I - halfN N) el (P.take (P.length - 1))).1.length = 32 ∧ OkB (tp (N - halfN N) (I - halfN N) el (P.take (P.length - 1))).1 := hk12
        exact ⟨by omega, trivial, trivial, trivial, by rw [lP]; rfl, cc, by omega, he, hl, by omega, hP.take _, by omega, by omega, by omega, g1, k1, nodeB_ok g2 k2, (by rw [nodeB_len g1 k1]; omega), by rw [e], by rw [e], trivial⟩))
theorem vrR03top : ∀ n_, Valid Tryd.prog Gs 29 (grR03top n_)
  | 0 => by
    intro args H r h hp
    unfold grR03top at h
    split at h
    · rename_i n i el m c
      exact conC_ok h hp fun hp => absurd hp.1 (Nat.not_lt_zero _)
    · cases h
  | n_ + 1 => by
    intro args H r h hp
    unfold grR03top at h
    split at h
    · rename_i n i el m c
      exact conC_ok h hp fun hp => okrR03top (n) (i) (el) (lL dG m c) n_ (vrR03top n_) hp.1 hp.2
    · cases h
theorem okR03top (n i : Int) (el : List Int) (P : List (List Int)) (hp : allP [OkB el, el.length + 300 ≤ lim, n < 9223372036854775808, OkD P, 0 ≤ i, i < n, P.length < 1099511627776]) : CallsOk Tryd.prog Gs 29 [.a (.d (.v (.int .i64 n))), .a (.d (.v (.int .i64 i))), .a (.d (.si .u8 el)), .a (.d (.sl 32 (P).length (lC dE [] (P))))] [] (.t [.agg [.ints .u8 32 (tp n.toNat i.toNat el P).1], .a (.d (.v (.bool ((tp n.toNat i.toNat el P).2))))]) [] := okrR03top n i el P (P.length) (vrR03top _) (Nat.lt_succ_self _) hp
noncomputable def gR03top : Con := fun args H => match args, H with
  | [.a (.d (.v (.int .i64 n))), .a (.d (.v (.int .i64 i))), .a (.d (.si .u8 el)), .a (.d (.sl 32 m c))], [] => (fun (n i : Int) (el : List Int) (P : List (List Int)) => conC args H [.a (.d (.v (.int .i64 n))), .a (.d (.v (.int .i64 i))), .a (.d (.si .u8 el)), .a (.d (.sl 32 (P).length (lC dE [] (P))))] [] ⟨[OkB el, el.length + 300 ≤ lim, n < 9223372036854775808, OkD P, 0 ≤ i, i < n, P.length < 1099511627776], .t [.agg [.ints .u8 32 (tp n.toNat i.toNat el P).1], .a (.d (.v (.bool ((tp n.toNat i.toNat el P).2))))], []⟩) (n) (i) (el) (lL dG m c)
  | _, _ => none
theorem vR03top : Valid Tryd.prog Gs 29 gR03top := by
  intro args H r h hp
  unfold gR03top at h
  split at h
  · rename_i n i el m c
    exact conC_ok h hp fun hp => okR03top (n) (i) (el) (lL dG m c) hp
  · cases h
noncomputable def ct_R03top : List (Nat × Ct) := (29, ⟨[], false, gR03top⟩) :: ct_L03same
theorem ctok_R03top : CtsOk Tryd.prog Gs ct_R03top := CtsOk.cons vR03top (by kernel_rfl) ctok_L03same
noncomputable def anR03Verify (root : List Int) (n i : Int) (el : List Int) (P : List (List Int)) : Nat → List Nat → Option Ann := fun _ _ => none
theorem okR03Verify (root : List Int) (n i : Int) (el : List Int) (P : List (List Int)) (hp : allP [OkB el, el.length + 300 ≤ lim, n < 9223372036854775808, OkD P, P.length < 1099511627776]) : CallsOk Tryd.prog Gs 16 [.agg [.ints .u8 32 root], .a (.d (.v (.int .i64 n))), .a (.d (.v (.int .i64 i))), .a (.d (.si .u8 el)), .a (.d (.sl 32 (P).length (lC dE [] (P))))] [] (eB (verB root n i el P)) [] :=
  ok_of (ann := anR03Verify root n i el P) ctok_R03top mixed Tryd.func16 (by kernel_rfl) (of_nf (p := brP (decide (i < (0 : Int))) (false = verB root n i el P ∧ True) (brP (decide (i ≥ n)) (false = verB root n i el P ∧ True) (n = n ∧ i = i ∧ el = el ∧ List.length P = List.length (lL dG (List.length P) (lC dE [] P)) ∧ (∀ (i : Nat), i < List.length (lL dG (List.length P) (lC dE [] P)) → lC dE [] P i = lC dE [] (lL dG (List.length P) (lC dE [] P)) i) ∧ OkB el ∧ List.length el + (300 : Nat) ≤ lim ∧ n < (9223372036854775808 : Int) ∧ OkD (lL dG (List.length P) (lC dE [] P)) ∧ (0 : Int) ≤ i ∧ i < n ∧ List.length (lL dG (List.length P) (lC dE [] P)) < (1099511627776 : Nat) ∧ brP (Prod.snd (tp (Int.toNat n) (Int.toNat i) el (lL dG (List.length P) (lC dE [] P)))) ((0 : Int) ≤ n ∧ n < (9223372036854775808 : Int) ∧ List.length (Prod.fst (tp (Int.toNat n) (Int.toNat i) el (lL dG (List.length P) (lC dE [] P)))) = (32 : Nat) ∧ OkB (listB n (Prod.fst (tp (Int.toNat n) (Int.toNat i) el (lL dG (List.length P) (lC dE [] P))))) ∧ List.length (listB n (Prod.fst (tp (Int.toNat n) (Int.toNat i) el (lL dG (List.length P) (lC dE [] P))))) + (100 : Nat) ≤ lim ∧ (sumB shaK (listB n (Prod.fst (tp (Int.toNat n) (Int.toNat i) el (lL dG (List.length P) (lC dE [] P))))) == root) = verB root n i el P ∧ True) (false = verB root n i el P ∧ True)))) (by kernel_rfl) (by
    obtain ⟨he, hl, hn, hP, hm, _⟩ := hp
    have hlim : lim = 68719476736 := rfl
    rw [lL_self dG_dE]
    have no : ¬ (0 ≤ i ∧ i < n) → false = verB root n i el P ∧ True := fun h => by
      have e : txOk n i P = false := decide_eq_false fun hh => h ⟨hh.1, hh.2.1⟩
      unfold verB; rw [e]; exact ⟨rfl, trivial⟩
    refine brI (fun hc => ?_) (fun hc => brI (fun hd => ?_) (fun hd => ?_))
    · have := of_decide_eq_true hc; exact no (by omega)
    · have := of_decide_eq_true hd; exact no (by omega)
    · have h0 := of_decide_eq_false hc
      have h1 := of_decide_eq_false hd
      have e := tp_ver (root := root) (el := el) (P := P) (show 0 ≤ i by omega) (show i < n by omega)
      have hk12 := tpR_len el P.reverse n.toNat i.toNat
      obtain ⟨k1, k2⟩ : (tp n.toNat i.toNat el P).1.length = 32 ∧ OkB (tp n.toNat i.toNat el P).1 := hk12
      refine ⟨rfl, rfl, rfl, rfl, fun k hk => rfl, he, hl, hn, hP, by omega, by omega, hm, brI (fun hk => ?_) (fun hk => ?_)⟩
      · rw [hk, Bool.true_and] at e
        exact ⟨by omega, hn, k1, listB_ok k2, by rw [listB_len k1]; omega, e, trivial⟩
      · rw [hk, Bool.false_and] at e
        exact ⟨e, trivial⟩))
noncomputable def gR03Verify : Con := fun args H => match args, H with
  | [.agg [.ints .u8 32 root], .a (.d (.v (.int .i64 n))), .a (.d (.v (.int .i64 i))), .a (.d (.si .u8 el)), .a (.d (.sl 32 m c))], [] => (fun (root : List Int) (n i : Int) (el : List Int) (P : List (List Int)) => conC args H [.agg [.ints .u8 32 root], .a (.d (.v (.int .i64 n))), .a (.d (.v (.int .i64 i))), .a (.d (.si .u8 el)), .a (.d (.sl 32 (P).length (lC dE [] (P))))] [] ⟨[OkB el, el.length + 300 ≤ lim, n < 9223372036854775808, OkD P, P.length < 1099511627776], eB (verB root n i el P), []⟩) (root) (n) (i) (el) (lL dG m c)
  | _, _ => none
theorem vR03Verify : Valid Tryd.prog Gs 16 gR03Verify := by
  intro args H r h hp
  unfold gR03Verify at h
  split at h
  · rename_i root n i el m c
    exact conC_ok h hp fun hp => okR03Verify (root) (n) (i) (el) (lL dG m c) hp
  · cases h
noncomputable def ct_R03Verify : List (Nat × Ct) := (16, ⟨[], false, gR03Verify⟩) :: ct_R03top
theorem ctok_R03Verify : CtsOk Tryd.prog Gs ct_R03Verify := CtsOk.cons vR03Verify (by kernel_rfl) ctok_R03top
end Go.Proofs.YtamlmlihfpkjaaaDoor
