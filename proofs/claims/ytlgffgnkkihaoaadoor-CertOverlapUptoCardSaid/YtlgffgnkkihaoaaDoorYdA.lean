/- Votes and certificates: texts; votes. -/
import Derived.Test.YtlgffgnkkihaoaaDoorYdP
namespace Go.Proofs.YtlgffgnkkihaoaaDoor
open Go.Dx Go.RowKit
set_option linter.unusedVariables false
set_option linter.unusedSimpArgs false
set_option maxRecDepth 100000
attribute [local irreducible] wpS
attribute [local irreducible] sumB joinB
theorem all32D {a : List Int} (h : a.length = 32) : List.take (lenN 32 none none) (List.drop (startN 0 none) a) = a := by
  show List.take 32 (List.drop 0 a) = a
  rw [List.drop_zero, List.take_of_length_le (by omega)]
theorem tk32 {a : List Int} (h : a.length = 32) : List.take 32 (List.drop 0 a) = a := all32D h
def idxP (l : List Int) (n : Int) : Int := match (List.range l.length).find? fun i => decide (l.getD i 0 = n) with
  | some i => (i : Int)
  | none => -1
theorem idx_hit {l : List Int} {n : Int} {t : Nat} (h : ∀ j, j < t → l.getD j 0 ≠ n) (ht : t < l.length) (he : l.getD t 0 = n) : idxP l n = (t : Int) := by
  unfold idxP
  have e : List.range l.length = List.range t ++ (List.range (l.length - t)).map (t + ·) := by
    rw [← List.range_add]; congr 1; omega
  have h1 : (List.range t).find? (fun i => decide (l.getD i 0 = n)) = none := by
    rw [List.find?_eq_none]
    intro i hi
    simpa using h i (List.mem_range.1 hi)
  have e2 : l.length - t = (l.length - t - 1) + 1 := by omega
  rw [e, List.find?_append, h1, Option.none_or, e2, List.range_succ_eq_map, List.map_cons, List.find?_cons_of_pos (by simpa using he)]
  rfl
theorem idx_no {l : List Int} {n : Int} (h : ∀ j, j < l.length → l.getD j 0 ≠ n) : idxP l n = -1 := by
  unfold idxP
  have h1 : (List.range l.length).find? (fun i => decide (l.getD i 0 = n)) = none := by
    rw [List.find?_eq_none]
    intro i hi
    simpa using h i (List.mem_range.1 hi)
  rw [h1]
theorem idx_mem (l : List Int) (n : Int) : decide (idxP l n ≥ 0) = l.contains n := by
  rw [Bool.eq_iff_iff, decide_eq_true_eq, List.contains_iff_mem]
  constructor
  · intro h
    apply Classical.byContradiction
    intro hn
    rw [idx_no fun j hj e => hn (by rw [← e, List.getD_eq_getElem?_getD, List.getElem?_eq_getElem hj]; exact List.getElem_mem hj)] at h
    omega
  · intro h
    obtain ⟨j, hj, e⟩ := List.mem_iff_getElem.1 h
    apply Classical.byContradiction
    intro hn
    have key : ∀ t, t ≤ l.length → ∀ i, i < t → l.getD i 0 ≠ n := fun t => by
      induction t with
      | zero => intro _ i hi; omega
      | succ t ih =>
        intro ht i hi
        by_cases hit : i < t
        · exact ih (by omega) i hit
        · obtain rfl : i = t := by omega
          intro he
          rw [idx_hit (ih (by omega)) (by omega) he] at hn
          omega
    exact key l.length (Nat.le_refl _) j hj (by rw [List.getD_eq_getElem?_getD, List.getElem?_eq_getElem hj]; exact e)
theorem rcEta (c : RC) : (⟨c.ep, c.mem, c.seats⟩ : RC) = c := rfl
theorem qcEta (q : QC) : (⟨q.ch, q.ep, q.vw, q.blk, q.who, q.sigs⟩ : QC) = q := rfl
theorem vtEta (v : VT) : (⟨v.ch, v.ep, v.vw, v.blk, v.who, (v.sig.1, v.sig.2)⟩ : VT) = v := rfl
theorem siEta (v : SI) : ((v.1, v.2) : SI) = v := rfl
theorem n8_ok (n : Int) : OkB (n8 n) := be8_ok _
theorem n8_len (n : Int) : (n8 n).length = 8 := rfl
theorem okL1 {p : List Int → Prop} {a : List Int} (h : p a) : ∀ x ∈ [a], p x := fun x hx => by rw [List.mem_singleton.1 hx]; exact h
theorem okLs {p : List Int → Prop} {a : List Int} {r : List (List Int)} (h : p a) (hr : ∀ x ∈ r, p x) : ∀ x ∈ a :: r, p x := fun x hx => by
  rcases List.mem_cons.1 hx with rfl | hx
  · exact h
  · exact hr x hx
theorem okL0 {p : List Int → Prop} : ∀ x ∈ ([] : List (List Int)), p x := fun x hx => by cases hx
structure OkD (d : List Int) : Prop where
  ok : OkB d
  len : d.length = 32
structure OkHD (h : HD) : Prop where
  par : OkD h.par
  txs : OkD h.txs
  root : OkD h.root
theorem hdB_len {h : HD} (o : OkHD h) : (hdB h).length = 208 := by
  unfold hdB; rw [joinB_bulk]
  simp only [List.flatten_cons, List.flatten_nil, List.length_append, List.length_set, List.length_replicate, List.length_cons, List.length_nil, n8_len, o.par.len, o.txs.len, o.root.len]
theorem hdB_ok {h : HD} (o : OkHD h) : OkB (hdB h) := joinB_okB (okLs (n8_ok _) (okLs (n8_ok _) (okLs (n8_ok _) (okLs (n8_ok _) (okLs o.par.ok (okLs o.txs.ok (okLs o.root.ok (okL1 (n8_ok _)))))))))
theorem voteB_ok {a b c : Int} {d : List Int} (h : OkB d) : OkB (voteB a b c d) := joinB_okB (okLs (lit_ok (by decide)) (okLs (n8_ok _) (okLs (n8_ok _) (okLs (n8_ok _) (okL1 h)))))
theorem voteB_len {a b c : Int} {d : List Int} (h : d.length = 32) : (voteB a b c d).length = 108 := by
  unfold voteB; rw [joinB_bulk]
  simp only [List.flatten_cons, List.flatten_nil, List.length_append, List.length_set, List.length_replicate, List.length_cons, List.length_nil, n8_len, h]
theorem tmoB_ok {a b c d : Int} : OkB (tmoB a b c d) := joinB_okB (okLs (lit_ok (by decide)) (okLs (n8_ok _) (okLs (n8_ok _) (okLs (n8_ok _) (okL1 (n8_ok _))))))
theorem tmoB_len {a b c d : Int} : (tmoB a b c d).length = 87 := by
  unfold tmoB; rw [joinB_bulk]
  simp only [List.flatten_cons, List.flatten_nil, List.length_append, List.length_set, List.length_replicate, List.length_cons, List.length_nil, n8_len]
theorem digH_ok (h : HD) : OkD (digH h) := ⟨sumB_okD _, sumB_len _ _⟩
noncomputable def ancertnum (n : Int) : Nat → List Nat → List Ann := fun _ _ => []
theorem okcertnum (n : Int) : CallsOk Tryd.prog Gs 65 [.a (.d (.v (.int .i64 n)))] [] (.s (.a (.rw 0))) [(0, .row (.ints .u8 (n8 n)) 5)] :=
  ok_of (ann := ancertnum n) ctok_R05RingCheck mixed Tryd.func65 (by kernel_rfl) (of_nf (p := be8 (IntKind.wrap IntKind.u64 n) = n8 n ∧ True) (by kernel_rfl) (by
    exact ⟨rfl, trivial⟩))
noncomputable def gcertnum : Con := fun args H => match args, H with
  | [.a (.d (.v (.int .i64 n)))], [] => some ⟨[], .s (.a (.rw 0)), [(0, .row (.ints .u8 (n8 n)) 5)]⟩
  | _, _ => none
theorem vcertnum : Valid Tryd.prog Gs 65 gcertnum := by
  intro args H r h hp
  unfold gcertnum at h
  split at h
  · simp only [Option.some.injEq] at h; subst h; exact okcertnum _
  · cases h
noncomputable def ct_certnum : List (Nat × Ct) := (65, ⟨[], false, gcertnum, none⟩) :: ct_R05RingCheck
theorem ctok_certnum : CtsOk Tryd.prog Gs ct_certnum := CtsOk.cons vcertnum (by kernel_rfl) ctok_R05RingCheck
noncomputable def ancodecnumint (n : Int) : Nat → List Nat → List Ann := fun _ _ => []
theorem okcodecnumint (n : Int) : CallsOk Tryd.prog Gs 80 [.a (.d (.v (.int .i64 n)))] [] (.s (.a (.rw 0))) [(0, .row (.ints .u8 (n8 n)) 5)] :=
  ok_of (ann := ancodecnumint n) ctok_certnum mixed Tryd.func80 (by kernel_rfl) (of_nf (p := be8 (IntKind.wrap IntKind.u64 n) = n8 n ∧ True) (by kernel_rfl) (by
    exact ⟨rfl, trivial⟩))
noncomputable def gcodecnumint : Con := fun args H => match args, H with
  | [.a (.d (.v (.int .i64 n)))], [] => some ⟨[], .s (.a (.rw 0)), [(0, .row (.ints .u8 (n8 n)) 5)]⟩
  | _, _ => none
theorem vcodecnumint : Valid Tryd.prog Gs 80 gcodecnumint := by
  intro args H r h hp
  unfold gcodecnumint at h
  split at h
  · simp only [Option.some.injEq] at h; subst h; exact okcodecnumint _
  · cases h
noncomputable def ct_codecnumint : List (Nat × Ct) := (80, ⟨[], false, gcodecnumint, none⟩) :: ct_certnum
theorem ctok_codecnumint : CtsOk Tryd.prog Gs ct_codecnumint := CtsOk.cons vcodecnumint (by kernel_rfl) ctok_certnum
noncomputable def ancodecnumint64 (n : Int) : Nat → List Nat → List Ann := fun _ _ => []
theorem okcodecnumint64 (n : Int) : CallsOk Tryd.prog Gs 81 [.a (.d (.v (.int .i64 n)))] [] (.s (.a (.rw 0))) [(0, .row (.ints .u8 (n8 n)) 5)] :=
  ok_of (ann := ancodecnumint64 n) ctok_codecnumint mixed Tryd.func81 (by kernel_rfl) (of_nf (p := be8 (IntKind.wrap IntKind.u64 n) = n8 n ∧ True) (by kernel_rfl) (by
    exact ⟨rfl, trivial⟩))
noncomputable def gcodecnumint64 : Con := fun args H => match args, H with
  | [.a (.d (.v (.int .i64 n)))], [] => some ⟨[], .s (.a (.rw 0)), [(0, .row (.ints .u8 (n8 n)) 5)]⟩
  | _, _ => none
theorem vcodecnumint64 : Valid Tryd.prog Gs 81 gcodecnumint64 := by
  intro args H r h hp
  unfold gcodecnumint64 at h
  split at h
  · simp only [Option.some.injEq] at h; subst h; exact okcodecnumint64 _
  · cases h
noncomputable def ct_codecnumint64 : List (Nat × Ct) := (81, ⟨[], false, gcodecnumint64, none⟩) :: ct_codecnumint
theorem ctok_codecnumint64 : CtsOk Tryd.prog Gs ct_codecnumint64 := CtsOk.cons vcodecnumint64 (by kernel_rfl) ctok_codecnumint
noncomputable def ancodecdigest (d : List Int) : Nat → List Nat → List Ann := fun _ _ => []
theorem okcodecdigest (d : List Int) : CallsOk Tryd.prog Gs 82 [.agg [.ints .u8 32 d]] [] (.s (.a (.ls 0 0 32 0 32))) [(0, .cells [.ints .u8 32 d] 28)] :=
  ok_of (ann := ancodecdigest d) ctok_codecnumint64 mixed Tryd.func82 (by kernel_rfl) (of_nf (p := startN (0 : Nat) none = (0 : Nat) ∧ lenN (32 : Nat) none none = (32 : Nat) ∧ d = d ∧ True) (by kernel_rfl) (by
    exact ⟨rfl, rfl, rfl, trivial⟩))
noncomputable def gcodecdigest : Con := fun args H => match args, H with
  | [.agg [.ints .u8 32 d]], [] => some ⟨[], .s (.a (.ls 0 0 32 0 32)), [(0, .cells [.ints .u8 32 d] 28)]⟩
  | _, _ => none
theorem vcodecdigest : Valid Tryd.prog Gs 82 gcodecdigest := by
  intro args H r h hp
  unfold gcodecdigest at h
  split at h
  · simp only [Option.some.injEq] at h; subst h; exact okcodecdigest _
  · cases h
noncomputable def ct_codecdigest : List (Nat × Ct) := (82, ⟨[], false, gcodecdigest, none⟩) :: ct_codecnumint64
theorem ctok_codecdigest : CtsOk Tryd.prog Gs ct_codecdigest := CtsOk.cons vcodecdigest (by kernel_rfl) ctok_codecnumint64
noncomputable def ancodecHeader (h : HD) : Nat → List Nat → List Ann := fun _ _ => []
theorem okcodecHeader (h : HD) (hp : allP [OkHD h]) : CallsOk Tryd.prog Gs 70 [.agg [.one (.d (.v (.int .i64 (h).ch))), .one (.d (.v (.int .i64 (h).ep))), .one (.d (.v (.int .i64 (h).ht))), .one (.d (.v (.int .i64 (h).vw))), .ints .u8 32 (h).par, .ints .u8 32 (h).txs, .ints .u8 32 (h).root, .one (.d (.v (.int .i64 (h).pr)))]] [] (.s (.a (.rw 0))) [(0, .row (.ints .u8 (hdB h)) 5)] :=
  ok_of (ann := ancodecHeader h) ctok_codecdigest mixed Tryd.func70 (by kernel_rfl) (of_nf (p := List.length (joinB [n8 (HD.ch h), n8 (HD.ep h), n8 (HD.ht h), n8 (HD.vw h), List.take (32 : Nat) (List.drop (0 : Nat) (HD.par h)), List.take (32 : Nat) (List.drop (0 : Nat) (HD.txs h)), List.take (32 : Nat) (List.drop (0 : Nat) (HD.root h)), n8 (HD.pr h)]) + (100 : Nat) ≤ lim ∧ joinB [n8 (HD.ch h), n8 (HD.ep h), n8 (HD.ht h), n8 (HD.vw h), List.take (32 : Nat) (List.drop (0 : Nat) (HD.par h)), List.take (32 : Nat) (List.drop (0 : Nat) (HD.txs h)), List.take (32 : Nat) (List.drop (0 : Nat) (HD.root h)), n8 (HD.pr h)] = hdB h ∧ True) (by kernel_rfl) (by
    obtain ⟨o, _⟩ := hp
    have hlim : lim = 68719476736 := rfl
    have hl := hdB_len o
    unfold hdB at hl
    rw [tk32 o.par.len, tk32 o.txs.len, tk32 o.root.len]
    exact ⟨by omega, rfl, trivial⟩))
noncomputable def gcodecHeader : Con := fun args H => match args, H with
  | [.agg [.one (.d (.v (.int .i64 x1))), .one (.d (.v (.int .i64 x2))), .one (.d (.v (.int .i64 x3))), .one (.d (.v (.int .i64 x4))), .ints .u8 32 x5, .ints .u8 32 x6, .ints .u8 32 x7, .one (.d (.v (.int .i64 x8)))]], [] => (fun (h : HD) => conC args H [.agg [.one (.d (.v (.int .i64 (h).ch))), .one (.d (.v (.int .i64 (h).ep))), .one (.d (.v (.int .i64 (h).ht))), .one (.d (.v (.int .i64 (h).vw))), .ints .u8 32 (h).par, .ints .u8 32 (h).txs, .ints .u8 32 (h).root, .one (.d (.v (.int .i64 (h).pr)))]] [] ⟨[OkHD h], .s (.a (.rw 0)), [(0, .row (.ints .u8 (hdB h)) 5)]⟩) (⟨x1, x2, x3, x4, x5, x6, x7, x8⟩)
  | _, _ => none
theorem vcodecHeader : Valid Tryd.prog Gs 70 gcodecHeader := by
  intro args H r h hp
  unfold gcodecHeader at h
  split at h
  · rename_i x1 x2 x3 x4 x5 x6 x7 x8
    exact conC_ok h hp fun hp => okcodecHeader (⟨x1, x2, x3, x4, x5, x6, x7, x8⟩) hp
  · cases h
noncomputable def ct_codecHeader : List (Nat × Ct) := (70, ⟨[], false, gcodecHeader, none⟩) :: ct_codecdigest
theorem ctok_codecHeader : CtsOk Tryd.prog Gs ct_codecHeader := CtsOk.cons vcodecHeader (by kernel_rfl) ctok_codecdigest
noncomputable def ancertDigest (h : HD) : Nat → List Nat → List Ann := fun _ _ => []
theorem okcertDigest (h : HD) (hp : allP [OkHD h]) : CallsOk Tryd.prog Gs 55 [.agg [.one (.d (.v (.int .i64 (h).ch))), .one (.d (.v (.int .i64 (h).ep))), .one (.d (.v (.int .i64 (h).ht))), .one (.d (.v (.int .i64 (h).vw))), .ints .u8 32 (h).par, .ints .u8 32 (h).txs, .ints .u8 32 (h).root, .one (.d (.v (.int .i64 (h).pr)))]] [] (.s (.agg [.ints .u8 32 (digH h)])) [] :=
  ok_of (ann := ancertDigest h) ctok_codecHeader mixed Tryd.func55 (by kernel_rfl) (of_nf (p := (0 : Nat) < List.length (List.set (List.set (List.set (List.set (List.set (List.replicate ((4 : Nat) + (1 : Nat)) (0 : Int)) ((0 : Nat) * (1 : Nat)) (98 : Int)) ((1 : Nat) * (1 : Nat)) (108 : Int)) ((2 : Nat) * (1 : Nat)) (111 : Int)) ((3 : Nat) * (1 : Nat)) (99 : Int)) ((4 : Nat) * (1 : Nat)) (107 : Int)) ∧ HD.ch h = HD.ch h ∧ HD.ep h = HD.ep h ∧ HD.ht h = HD.ht h ∧ HD.vw h = HD.vw h ∧ HD.par h = HD.par h ∧ HD.txs h = HD.txs h ∧ HD.root h = HD.root h ∧ HD.pr h = HD.pr h ∧ OkHD h ∧ (∀ (L : List Int), L ∈ [List.set (List.set (List.set (List.set (List.set (List.replicate ((4 : Nat) + (1 : Nat)) (0 : Int)) ((0 : Nat) * (1 : Nat)) (98 : Int)) ((1 : Nat) * (1 : Nat)) (108 : Int)) ((2 : Nat) * (1 : Nat)) (111 : Int)) ((3 : Nat) * (1 : Nat)) (99 : Int)) ((4 : Nat) * (1 : Nat)) (107 : Int), hdB h] → OkB L) ∧ List.length (joinB [List.set (List.set (List.set (List.set (List.set (List.replicate ((4 : Nat) + (1 : Nat)) (0 : Int)) ((0 : Nat) * (1 : Nat)) (98 : Int)) ((1 : Nat) * (1 : Nat)) (108 : Int)) ((2 : Nat) * (1 : Nat)) (111 : Int)) ((3 : Nat) * (1 : Nat)) (99 : Int)) ((4 : Nat) * (1 : Nat)) (107 : Int), hdB h]) + (100 : Nat) ≤ lim ∧ sumB shaK (joinB [List.set (List.set (List.set (List.set (List.set (List.replicate ((4 : Nat) + (1 : Nat)) (0 : Int)) ((0 : Nat) * (1 : Nat)) (98 : Int)) ((1 : Nat) * (1 : Nat)) (108 : Int)) ((2 : Nat) * (1 : Nat)) (111 : Int)) ((3 : Nat) * (1 : Nat)) (99 : Int)) ((4 : Nat) * (1 : Nat)) (107 : Int), hdB h]) = digH h ∧ True) (by kernel_rfl) (by
    obtain ⟨o, _⟩ := hp
    have hlim : lim = 68719476736 := rfl
    have hl := hdB_len o
    refine ⟨by decide, rfl, rfl, rfl, rfl, rfl, rfl, rfl, rfl, o, okLs (lit_ok (by decide)) (okL1 (hdB_ok o)), ?_, rfl, trivial⟩
    rw [joinB_bulk]
    simp only [List.flatten_cons, List.flatten_nil, List.length_append, List.length_set, List.length_replicate, List.length_cons, List.length_nil, hl]
    omega))
noncomputable def gcertDigest : Con := fun args H => match args, H with
  | [.agg [.one (.d (.v (.int .i64 x1))), .one (.d (.v (.int .i64 x2))), .one (.d (.v (.int .i64 x3))), .one (.d (.v (.int .i64 x4))), .ints .u8 32 x5, .ints .u8 32 x6, .ints .u8 32 x7, .one (.d (.v (.int .i64 x8)))]], [] => (fun (h : HD) => conC args H [.agg [.one (.d (.v (.int .i64 (h).ch))), .one (.d (.v (.int .i64 (h).ep))), .one (.d (.v (.int .i64 (h).ht))), .one (.d (.v (.int .i64 (h).vw))), .ints .u8 32 (h).par, .ints .u8 32 (h).txs, .ints .u8 32 (h).root, .one (.d (.v (.int .i64 (h).pr)))]] [] ⟨[OkHD h], .s (.agg [.ints .u8 32 (digH h)]), []⟩) (⟨x1, x2, x3, x4, x5, x6, x7, x8⟩)
  | _, _ => none
theorem vcertDigest : Valid Tryd.prog Gs 55 gcertDigest := by
  intro args H r h hp
  unfold gcertDigest at h
  split at h
  · rename_i x1 x2 x3 x4 x5 x6 x7 x8
    exact conC_ok h hp fun hp => okcertDigest (⟨x1, x2, x3, x4, x5, x6, x7, x8⟩) hp
  · cases h
noncomputable def ct_certDigest : List (Nat × Ct) := (55, ⟨[], false, gcertDigest, none⟩) :: ct_codecHeader
theorem ctok_certDigest : CtsOk Tryd.prog Gs ct_certDigest := CtsOk.cons vcertDigest (by kernel_rfl) ctok_codecHeader
noncomputable def ancertVoteText (v : VT) : Nat → List Nat → List Ann := fun _ _ => []
theorem okcertVoteText (v : VT) (hp : allP [OkD v.blk]) : CallsOk Tryd.prog Gs 39 [.agg [.one (.d (.v (.int .i64 (v).ch))), .one (.d (.v (.int .i64 (v).ep))), .one (.d (.v (.int .i64 (v).vw))), .ints .u8 32 (v).blk, .one (.d (.v (.int .i64 (v).who))), .one (.d (.v (.int .i64 (v).sig.1))), .ints .u8 32 (v).sig.2]] [] (.s (.a (.rw 0))) [(0, .row (.ints .u8 (voteB v.ch v.ep v.vw v.blk)) 5)] :=
  ok_of (ann := ancertVoteText v) ctok_certDigest mixed Tryd.func39 (by kernel_rfl) (of_nf (p := (0 : Nat) < List.length (List.set (List.set (List.set (List.set (List.replicate ((3 : Nat) + (1 : Nat)) (0 : Int)) ((0 : Nat) * (1 : Nat)) (118 : Int)) ((1 : Nat) * (1 : Nat)) (111 : Int)) ((2 : Nat) * (1 : Nat)) (116 : Int)) ((3 : Nat) * (1 : Nat)) (101 : Int)) ∧ List.length (joinB [List.set (List.set (List.set (List.set (List.replicate ((3 : Nat) + (1 : Nat)) (0 : Int)) ((0 : Nat) * (1 : Nat)) (118 : Int)) ((1 : Nat) * (1 : Nat)) (111 : Int)) ((2 : Nat) * (1 : Nat)) (116 : Int)) ((3 : Nat) * (1 : Nat)) (101 : Int), n8 (VT.ch v), n8 (VT.ep v), n8 (VT.vw v), List.take (lenN (32 : Nat) none none) (List.drop (startN (0 : Nat) none) (VT.blk v))]) + (100 : Nat) ≤ lim ∧ joinB [List.set (List.set (List.set (List.set (List.replicate ((3 : Nat) + (1 : Nat)) (0 : Int)) ((0 : Nat) * (1 : Nat)) (118 : Int)) ((1 : Nat) * (1 : Nat)) (111 : Int)) ((2 : Nat) * (1 : Nat)) (116 : Int)) ((3 : Nat) * (1 : Nat)) (101 : Int), n8 (VT.ch v), n8 (VT.ep v), n8 (VT.vw v), List.take (lenN (32 : Nat) none none) (List.drop (startN (0 : Nat) none) (VT.blk v))] = voteB (VT.ch v) (VT.ep v) (VT.vw v) (VT.blk v) ∧ True) (by kernel_rfl) (by
    obtain ⟨o, _⟩ := hp
    have hlim : lim = 68719476736 := rfl
    have hl := voteB_len (a := v.ch) (b := v.ep) (c := v.vw) o.len
    unfold voteB at hl
    rw [all32D o.len]
    exact ⟨by decide, (show (joinB [[118, 111, 116, 101], n8 v.ch, n8 v.ep, n8 v.vw, v.blk]).length + 100 ≤ lim by omega), rfl, trivial⟩))
noncomputable def gcertVoteText : Con := fun args H => match args, H with
  | [.agg [.one (.d (.v (.int .i64 x1))), .one (.d (.v (.int .i64 x2))), .one (.d (.v (.int .i64 x3))), .ints .u8 32 x4, .one (.d (.v (.int .i64 x5))), .one (.d (.v (.int .i64 x6))), .ints .u8 32 x7]], [] => (fun (v : VT) => conC args H [.agg [.one (.d (.v (.int .i64 (v).ch))), .one (.d (.v (.int .i64 (v).ep))), .one (.d (.v (.int .i64 (v).vw))), .ints .u8 32 (v).blk, .one (.d (.v (.int .i64 (v).who))), .one (.d (.v (.int .i64 (v).sig.1))), .ints .u8 32 (v).sig.2]] [] ⟨[OkD v.blk], .s (.a (.rw 0)), [(0, .row (.ints .u8 (voteB v.ch v.ep v.vw v.blk)) 5)]⟩) (⟨x1, x2, x3, x4, x5, (x6, x7)⟩)
  | _, _ => none
theorem vcertVoteText : Valid Tryd.prog Gs 39 gcertVoteText := by
  intro args H r h hp
  unfold gcertVoteText at h
  split at h
  · rename_i x1 x2 x3 x4 x5 x6 x7
    exact conC_ok h hp fun hp => okcertVoteText (⟨x1, x2, x3, x4, x5, (x6, x7)⟩) hp
  · cases h
noncomputable def ct_certVoteText : List (Nat × Ct) := (39, ⟨[], false, gcertVoteText, none⟩) :: ct_certDigest
theorem ctok_certVoteText : CtsOk Tryd.prog Gs ct_certVoteText := CtsOk.cons vcertVoteText (by kernel_rfl) ctok_certDigest
noncomputable def ancertTimeoutText (x1 x2 x3 x4 x5 : Int) (x6 : List Int) (q : QC) : Nat → List Nat → List Ann := fun _ _ => []
theorem okcertTimeoutText (x1 x2 x3 x4 x5 : Int) (x6 : List Int) (q : QC) : CallsOk Tryd.prog Gs 52 [.agg [.one (.d (.v (.int .i64 x1))), .one (.d (.v (.int .i64 x2))), .one (.d (.v (.int .i64 x3))), .one (.d (.v (.int .i64 (q).ch))), .one (.d (.v (.int .i64 (q).ep))), .one (.d (.v (.int .i64 (q).vw))), .ints .u8 32 (q).blk, .one (.d (.si .i64 (q).who)), .one (.d (.sl 33 ((q).sigs).length (lC siE siZ ((q).sigs)))), .one (.d (.v (.int .i64 x4))), .one (.d (.v (.int .i64 x5))), .ints .u8 32 x6]] [] (.s (.a (.rw 0))) [(0, .row (.ints .u8 (tmoB x1 x2 x3 q.vw)) 5)] :=
  ok_of (ann := ancertTimeoutText x1 x2 x3 x4 x5 x6 q) ctok_certVoteText mixed Tryd.func52 (by kernel_rfl) (of_nf (p := (0 : Nat) < List.length (List.set (List.set (List.set (List.set (List.set (List.set (List.set (List.replicate ((6 : Nat) + (1 : Nat)) (0 : Int)) ((0 : Nat) * (1 : Nat)) (116 : Int)) ((1 : Nat) * (1 : Nat)) (105 : Int)) ((2 : Nat) * (1 : Nat)) (109 : Int)) ((3 : Nat) * (1 : Nat)) (101 : Int)) ((4 : Nat) * (1 : Nat)) (111 : Int)) ((5 : Nat) * (1 : Nat)) (117 : Int)) ((6 : Nat) * (1 : Nat)) (116 : Int)) ∧ List.length (joinB [List.set (List.set (List.set (List.set (List.set (List.set (List.set (List.replicate ((6 : Nat) + (1 : Nat)) (0 : Int)) ((0 : Nat) * (1 : Nat)) (116 : Int)) ((1 : Nat) * (1 : Nat)) (105 : Int)) ((2 : Nat) * (1 : Nat)) (109 : Int)) ((3 : Nat) * (1 : Nat)) (101 : Int)) ((4 : Nat) * (1 : Nat)) (111 : Int)) ((5 : Nat) * (1 : Nat)) (117 : Int)) ((6 : Nat) * (1 : Nat)) (116 : Int), n8 x1, n8 x2, n8 x3, n8 (QC.vw q)]) + (100 : Nat) ≤ lim ∧ joinB [List.set (List.set (List.set (List.set (List.set (List.set (List.set (List.replicate ((6 : Nat) + (1 : Nat)) (0 : Int)) ((0 : Nat) * (1 : Nat)) (116 : Int)) ((1 : Nat) * (1 : Nat)) (105 : Int)) ((2 : Nat) * (1 : Nat)) (109 : Int)) ((3 : Nat) * (1 : Nat)) (101 : Int)) ((4 : Nat) * (1 : Nat)) (111 : Int)) ((5 : Nat) * (1 : Nat)) (117 : Int)) ((6 : Nat) * (1 : Nat)) (116 : Int), n8 x1, n8 x2, n8 x3, n8 (QC.vw q)] = tmoB x1 x2 x3 (QC.vw q) ∧ True) (by kernel_rfl) (by
    have hlim : lim = 68719476736 := rfl
    have hl := tmoB_len (a := x1) (b := x2) (c := x3) (d := q.vw)
    unfold tmoB at hl
    exact ⟨by decide, (show (joinB [[116, 105, 109, 101, 111, 117, 116], n8 x1, n8 x2, n8 x3, n8 q.vw]).length + 100 ≤ lim by omega), rfl, trivial⟩))
noncomputable def gcertTimeoutText : Con := fun args H => match args, H with
  | [.agg [.one (.d (.v (.int .i64 x1))), .one (.d (.v (.int .i64 x2))), .one (.d (.v (.int .i64 x3))), .one (.d (.v (.int .i64 y1))), .one (.d (.v (.int .i64 y2))), .one (.d (.v (.int .i64 y3))), .ints .u8 32 y4, .one (.d (.si .i64 y5)), .one (.d (.sl 33 y6 y7)), .one (.d (.v (.int .i64 x4))), .one (.d (.v (.int .i64 x5))), .ints .u8 32 x6]], [] => (fun (x1 x2 x3 x4 x5 : Int) (x6 : List Int) (q : QC) => conC args H [.agg [.one (.d (.v (.int .i64 x1))), .one (.d (.v (.int .i64 x2))), .one (.d (.v (.int .i64 x3))), .one (.d (.v (.int .i64 (q).ch))), .one (.d (.v (.int .i64 (q).ep))), .one (.d (.v (.int .i64 (q).vw))), .ints .u8 32 (q).blk, .one (.d (.si .i64 (q).who)), .one (.d (.sl 33 ((q).sigs).length (lC siE siZ ((q).sigs)))), .one (.d (.v (.int .i64 x4))), .one (.d (.v (.int .i64 x5))), .ints .u8 32 x6]] [] ⟨[], .s (.a (.rw 0)), [(0, .row (.ints .u8 (tmoB x1 x2 x3 q.vw)) 5)]⟩) (x1) (x2) (x3) (x4) (x5) (x6) (⟨y1, y2, y3, y4, y5, lL siG y6 y7⟩)
  | _, _ => none
theorem vcertTimeoutText : Valid Tryd.prog Gs 52 gcertTimeoutText := by
  intro args H r h hp
  unfold gcertTimeoutText at h
  split at h
  · rename_i x1 x2 x3 y1 y2 y3 y4 y5 y6 y7 x4 x5 x6
    exact conC_ok h hp fun hp => okcertTimeoutText (x1) (x2) (x3) (x4) (x5) (x6) (⟨y1, y2, y3, y4, y5, lL siG y6 y7⟩)
  · cases h
noncomputable def ct_certTimeoutText : List (Nat × Ct) := (52, ⟨[], false, gcertTimeoutText, none⟩) :: ct_certVoteText
theorem ctok_certTimeoutText : CtsOk Tryd.prog Gs ct_certTimeoutText := CtsOk.cons vcertTimeoutText (by kernel_rfl) ctok_certVoteText
noncomputable def ancertseats (c : RC) (n : Int) : Nat → List Nat → List Ann := fun _ _ => []
theorem okcertseats (c : RC) (n : Int) : CallsOk Tryd.prog Gs 36 [.agg [.one (.d (.v (.int .i64 (c).ep))), .one (.d (.si .i64 (c).mem)), .one (.d (.sl 1 ((c).seats).length (lC nuE [] ((c).seats))))], .a (.d (.v (.int .i64 n)))] [] (.s (.a (.d (.si .i64 (seatsP c n))))) [] :=
  ok_of (ann := ancertseats c n) ctok_certTimeoutText mixed Tryd.func36 (by kernel_rfl) (of_nf (p := brP (decide (n < (0 : Int))) (seatsP c n = [] ∧ True) (brP (decide (n ≥ (↑(List.length (RC.seats c)) : Int))) (seatsP c n = [] ∧ True) (((0 : Int) ≤ n ∧ n < (↑(List.length (RC.seats c)) : Int)) ∧ List.getD (RC.seats c) (Int.toNat n) [] = seatsP c n ∧ True))) (by kernel_rfl) (by
    unfold seatsP
    refine brI (fun h => ?_) (fun h => brI (fun h2 => ?_) (fun h2 => ?_))
    · have h := of_decide_eq_true h
      rw [if_pos (.inl h)]; exact ⟨rfl, trivial⟩
    · have h2 := of_decide_eq_true h2
      rw [if_pos (.inr h2)]; exact ⟨rfl, trivial⟩
    · have h := of_decide_eq_false h
      have h2 := of_decide_eq_false h2
      rw [if_neg (by omega)]; exact ⟨by omega, rfl, trivial⟩))
noncomputable def gcertseats : Con := fun args H => match args, H with
  | [.agg [.one (.d (.v (.int .i64 x1))), .one (.d (.si .i64 x2)), .one (.d (.sl 1 x3 x4))], .a (.d (.v (.int .i64 n)))], [] => (fun (c : RC) (n : Int) => conC args H [.agg [.one (.d (.v (.int .i64 (c).ep))), .one (.d (.si .i64 (c).mem)), .one (.d (.sl 1 ((c).seats).length (lC nuE [] ((c).seats))))], .a (.d (.v (.int .i64 n)))] [] ⟨[], .s (.a (.d (.si .i64 (seatsP c n)))), []⟩) (⟨x1, x2, lL nuG x3 x4⟩) (n)
  | _, _ => none
theorem vcertseats : Valid Tryd.prog Gs 36 gcertseats := by
  intro args H r h hp
  unfold gcertseats at h
  split at h
  · rename_i x1 x2 x3 x4 n
    exact conC_ok h hp fun hp => okcertseats (⟨x1, x2, lL nuG x3 x4⟩) (n)
  · cases h
noncomputable def ct_certseats : List (Nat × Ct) := (36, ⟨[], true, gcertseats, none⟩) :: ct_certTimeoutText
theorem ctok_certseats : CtsOk Tryd.prog Gs ct_certseats := CtsOk.cons vcertseats (by kernel_rfl) ctok_certTimeoutText
noncomputable def anslicesIndexintint (l : List Int) (n : Int) : Nat → List Nat → List Ann := fun bk_ gs_ => match bk_, gs_ with
    | 0, _ => [{ τ := Nat, t0 := (default : Nat), J := fun i => i ≤ l.length ∧ ∀ j, j < i → l.getD j 0 ≠ n, m := fun i => l.length - i, l := fun i => [(0, .s (.a (.d (.si .i64 l)))), (1, eI .i64 n), (7, eI .i64 (l.length : Int)), (8, eI .i64 (i : Int))], H := fun i => [] }]
    | _, _ => []
theorem okslicesIndexintint (l : List Int) (n : Int) (hp : allP [l.length < 1099511627776]) : CallsOk Tryd.prog Gs 62 [.a (.d (.si .i64 l)), .a (.d (.v (.int .i64 n)))] [] (eI .i64 (idxP l n)) [] :=
  ok_of (ann := anslicesIndexintint l n) ctok_certseats mixed Tryd.func62 (by kernel_rfl) (of_nf (p := (∃ (t : Nat), l = l ∧ n = n ∧ (↑(List.length l) : Int) = (↑(List.length l) : Int) ∧ (0 : Int) = (↑t : Int) ∧ (t ≤ List.length l ∧ ∀ (j : Nat), j < t → List.getD l j (0 : Int) ≠ n) ∧ True) ∧ ∀ (t : Nat), (t ≤ List.length l ∧ ∀ (j : Nat), j < t → List.getD l j (0 : Int) ≠ n) → brP (decide ((↑t : Int) < (↑(List.length l) : Int))) (((0 : Int) ≤ (↑t : Int) ∧ (↑t : Int) < (↑(List.length l) : Int)) ∧ brP (n == List.getD l (Int.toNat (↑t : Int)) (0 : Int)) ((↑t : Int) = idxP l n ∧ True) (∃ (t_1 : Nat), l = l ∧ n = n ∧ (↑(List.length l) : Int) = (↑(List.length l) : Int) ∧ IntKind.wrap IntKind.i64 ((↑t : Int) + (1 : Int)) = (↑t_1 : Int) ∧ (t_1 ≤ List.length l ∧ ∀ (j : Nat), j < t_1 → List.getD l j (0 : Int) ≠ n) ∧ List.length l - t_1 < List.length l - t ∧ True)) ((-1 : Int) = idxP l n ∧ True)) (by kernel_rfl) (by
    obtain ⟨hl, _⟩ := hp
    refine ⟨⟨0, rfl, rfl, rfl, rfl, ⟨Nat.zero_le _, fun j hj => absurd hj (Nat.not_lt_zero j)⟩, trivial⟩, ?_⟩
    rintro t ⟨h1, h2⟩
    refine brI (fun hc => ?_) (fun hc => ?_)
    · have hc : t < l.length := by have := of_decide_eq_true hc; omega
      rw [Int.toNat_natCast]
      refine ⟨by omega, brI (fun he => ?_) (fun he => ?_)⟩
      · exact ⟨(idx_hit h2 hc (beq_iff_eq.1 he).symm).symm, trivial⟩
      · exact ⟨t + 1, rfl, rfl, rfl, by rw [wi _ (by omega) (by omega)]; rfl, ⟨by omega, fun j hj => by
          by_cases hjt : j < t
          · exact h2 j hjt
          · obtain rfl : j = t := by omega
            exact fun e => beq_eq_false_iff_ne.1 he e.symm⟩, by omega, trivial⟩
    · have hc : l.length ≤ t := by have := of_decide_eq_false hc; omega
      exact ⟨(idx_no fun j hj => h2 j (by omega)).symm, trivial⟩))
noncomputable def gslicesIndexintint : Con := fun args H => match args, H with
  | [.a (.d (.si .i64 l)), .a (.d (.v (.int .i64 n)))], [] => some ⟨[l.length < 1099511627776], eI .i64 (idxP l n), []⟩
  | _, _ => none
theorem vslicesIndexintint : Valid Tryd.prog Gs 62 gslicesIndexintint := by
  intro args H r h hp
  unfold gslicesIndexintint at h
  split at h
  · simp only [Option.some.injEq] at h; subst h; exact okslicesIndexintint _ _ hp
  · cases h
noncomputable def ct_slicesIndexintint : List (Nat × Ct) := (62, ⟨[], false, gslicesIndexintint, none⟩) :: ct_certseats
theorem ctok_slicesIndexintint : CtsOk Tryd.prog Gs ct_slicesIndexintint := CtsOk.cons vslicesIndexintint (by kernel_rfl) ctok_certseats
noncomputable def anslicesContainsintint (l : List Int) (n : Int) : Nat → List Nat → List Ann := fun _ _ => []
theorem okslicesContainsintint (l : List Int) (n : Int) (hp : allP [l.length < 1099511627776]) : CallsOk Tryd.prog Gs 37 [.a (.d (.si .i64 l)), .a (.d (.v (.int .i64 n)))] [] (eB (l.contains n)) [] :=
  ok_of (ann := anslicesContainsintint l n) ctok_slicesIndexintint mixed Tryd.func37 (by kernel_rfl) (of_nf (p := List.length l < (1099511627776 : Nat) ∧ decide (idxP l n ≥ (0 : Int)) = List.contains l n ∧ True) (by kernel_rfl) (by
    exact ⟨hp.1, idx_mem l n, trivial⟩))
noncomputable def gslicesContainsintint : Con := fun args H => match args, H with
  | [.a (.d (.si .i64 l)), .a (.d (.v (.int .i64 n)))], [] => some ⟨[l.length < 1099511627776], eB (l.contains n), []⟩
  | _, _ => none
theorem vslicesContainsintint : Valid Tryd.prog Gs 37 gslicesContainsintint := by
  intro args H r h hp
  unfold gslicesContainsintint at h
  split at h
  · simp only [Option.some.injEq] at h; subst h; exact okslicesContainsintint _ _ hp
  · cases h
noncomputable def ct_slicesContainsintint : List (Nat × Ct) := (37, ⟨[], false, gslicesContainsintint, none⟩) :: ct_slicesIndexintint
theorem ctok_slicesContainsintint : CtsOk Tryd.prog Gs ct_slicesContainsintint := CtsOk.cons vslicesContainsintint (by kernel_rfl) ctok_slicesIndexintint
noncomputable def ancertcheckerframe (n b : Int) (L : List SG) (c : RC) (u v w : Int) : Nat → List Nat → List Ann := fun _ _ => []
theorem okcertcheckerframe (n b : Int) (L : List SG) (c : RC) (u v w : Int) : CallsOk Tryd.prog Gs 35 [.agg [.one (.lp 100004 0), .one (.d (.v (.int .i64 (c).ep))), .one (.d (.si .i64 (c).mem)), .one (.d (.sl 1 ((c).seats).length (lC nuE [] ((c).seats))))], .a (.d (.v (.int .i64 u))), .a (.d (.v (.int .i64 v))), .a (.d (.v (.int .i64 w)))] [(100000, .mp 107 false [.i .i64] (hasC L) (valC L) [] (ghS L)), (100001, .mp 106 false [.i .i64] (hasR L) (valR L) [] (ghS L)), (100002, .mp 105 true [.i .i64, .i .i64] (hasF L) (valF L) [] (ghS L)), (100003, .mp 104 true [.i .i64, .i .i64, .s] (hasM L) (valM L) [] (ghS L)), (100004, .cells [.one (.d (.v (.int .i64 (n)))), .one (.d (.v (.int .i64 (b)))), .one (.mp 100003), .one (.mp 100002), .one (.mp 100001), .one (.mp 100000)] 109)] (eI .i64 (frameP c u v w)) [(100000, .mp 107 false [.i .i64] (hasC L) (valC L) [] (ghS L)), (100001, .mp 106 false [.i .i64] (hasR L) (valR L) [] (ghS L)), (100002, .mp 105 true [.i .i64, .i .i64] (hasF L) (valF L) [] (ghS L)), (100003, .mp 104 true [.i .i64, .i .i64, .s] (hasM L) (valM L) [] (ghS L)), (100004, .cells [.one (.d (.v (.int .i64 (n)))), .one (.d (.v (.int .i64 (b)))), .one (.mp 100003), .one (.mp 100002), .one (.mp 100001), .one (.mp 100000)] 109)] :=
  ok_of (ann := ancertcheckerframe n b L c u v w) ctok_slicesContainsintint mixed Tryd.func35 (by kernel_rfl) (of_nf (p := let l0 := (lL nuG (List.length (RC.seats c)) (lC nuE [] (RC.seats c))); brP (RC.ep c != v) ((10 : Int) = frameP c u v w ∧ MpEq [AS.i IntKind.i64] (hasC L) (hasC L) (valC L) (valC L) [] ∧ MpEq [AS.i IntKind.i64] (hasR L) (hasR L) (valR L) (valR L) [] ∧ MpEq [AS.i IntKind.i64, AS.i IntKind.i64] (hasF L) (hasF L) (valF L) (valF L) [] ∧ MpEq [AS.i IntKind.i64, AS.i IntKind.i64, AS.s] (hasM L) (hasM L) (valM L) (valM L) [] ∧ n = n ∧ b = b ∧ True) (RC.ep c = RC.ep c ∧ RC.mem c = RC.mem c ∧ List.length (RC.seats c) = List.length l0 ∧ (∀ (i : Nat), i < List.length l0 → lC nuE [] (RC.seats c) i = lC nuE [] l0 i) ∧ u = u ∧ brP ((↑(List.length (seatsP { ep := RC.ep c, mem := RC.mem c, seats := lL nuG (List.length (RC.seats c)) (lC nuE [] (RC.seats c)) } u)) : Int) == (0 : Int)) ((9 : Int) = frameP c u v w ∧ MpEq [AS.i IntKind.i64] (hasC L) (hasC L) (valC L) (valC L) [] ∧ MpEq [AS.i IntKind.i64] (hasR L) (hasR L) (valR L) (valR L) [] ∧ MpEq [AS.i IntKind.i64, AS.i IntKind.i64] (hasF L) (hasF L) (valF L) (valF L) [] ∧ MpEq [AS.i IntKind.i64, AS.i IntKind.i64, AS.s] (hasM L) (hasM L) (valM L) (valM L) [] ∧ n = n ∧ b = b ∧ True) (brP (decide (w < (1 : Int))) ((11 : Int) = frameP c u v w ∧ MpEq [AS.i IntKind.i64] (hasC L) (hasC L) (valC L) (valC L) [] ∧ MpEq [AS.i IntKind.i64] (hasR L) (hasR L) (valR L) (valR L) [] ∧ MpEq [AS.i IntKind.i64, AS.i IntKind.i64] (hasF L) (hasF L) (valF L) (valF L) [] ∧ MpEq [AS.i IntKind.i64, AS.i IntKind.i64, AS.s] (hasM L) (hasM L) (valM L) (valM L) [] ∧ n = n ∧ b = b ∧ True) ((0 : Int) = frameP c u v w ∧ MpEq [AS.i IntKind.i64] (hasC L) (hasC L) (valC L) (valC L) [] ∧ MpEq [AS.i IntKind.i64] (hasR L) (hasR L) (valR L) (valR L) [] ∧ MpEq [AS.i IntKind.i64, AS.i IntKind.i64] (hasF L) (hasF L) (valF L) (valF L) [] ∧ MpEq [AS.i IntKind.i64, AS.i IntKind.i64, AS.s] (hasM L) (hasM L) (valM L) (valM L) [] ∧ n = n ∧ b = b ∧ True)))) (by kernel_rfl) (by
    conv => zeta
    simp only [lL_self nuG_nuE, lL_self siG_siE, lL_self hdG_hdE, rcEta, qcEta, vtEta, siEta, shS_ghS]
    unfold frameP
    refine brI (fun h => ?_) (fun h => ⟨trivial, trivial, trivial, fun _ _ => trivial, trivial, brI (fun h2 => ?_) (fun h2 => brI (fun h3 => ?_) (fun h3 => ?_))⟩)
    · rw [if_pos (bne_iff_ne.1 h)]
      exact ⟨rfl, MpEq.self fun _ => rfl, MpEq.self fun _ => rfl, MpEq.self fun _ => rfl, MpEq.self fun _ => rfl, trivial, trivial, trivial⟩
    · have h : c.ep = v := by simpa using h
      have h2 : (seatsP c u).length = 0 := by have := beq_iff_eq.1 h2; omega
      rw [if_neg (by simpa using h), if_pos h2]
      exact ⟨rfl, MpEq.self fun _ => rfl, MpEq.self fun _ => rfl, MpEq.self fun _ => rfl, MpEq.self fun _ => rfl, trivial, trivial, trivial⟩
    · have h : c.ep = v := by simpa using h
      have h2 : ¬ (seatsP c u).length = 0 := by have := beq_eq_false_iff_ne.1 h2; omega
      rw [if_neg (by simpa using h), if_neg h2, if_pos (of_decide_eq_true h3)]
      exact ⟨rfl, MpEq.self fun _ => rfl, MpEq.self fun _ => rfl, MpEq.self fun _ => rfl, MpEq.self fun _ => rfl, trivial, trivial, trivial⟩
    · have h : c.ep = v := by simpa using h
      have h2 : ¬ (seatsP c u).length = 0 := by have := beq_eq_false_iff_ne.1 h2; omega
      rw [if_neg (by simpa using h), if_neg h2, if_neg (of_decide_eq_false h3)]
      exact ⟨rfl, MpEq.self fun _ => rfl, MpEq.self fun _ => rfl, MpEq.self fun _ => rfl, MpEq.self fun _ => rfl, trivial, trivial, trivial⟩))
noncomputable def gcertcheckerframe : Con := fun args H => match args, H with
  | [.agg [.one (.lp 100004 0), .one (.d (.v (.int .i64 x1))), .one (.d (.si .i64 x2)), .one (.d (.sl 1 x3 x4))], .a (.d (.v (.int .i64 u))), .a (.d (.v (.int .i64 v))), .a (.d (.v (.int .i64 w)))], [(100000, .mp m1 false q1 c1 w1 r1 g1), (100001, .mp m2 false q2 c2 w2 r2 g2), (100002, .mp m3 true q3 c3 w3 r3 g3), (100003, .mp m4 true q4 c4 w4 r4 g4), (100004, .cells (.one (.d (.v (.int .i64 n))) :: .one (.d (.v (.int .i64 b))) :: z) tz)] => (fun (n b : Int) (L : List SG) (c : RC) (u v w : Int) => conC args H [.agg [.one (.lp 100004 0), .one (.d (.v (.int .i64 (c).ep))), .one (.d (.si .i64 (c).mem)), .one (.d (.sl 1 ((c).seats).length (lC nuE [] ((c).seats))))], .a (.d (.v (.int .i64 u))), .a (.d (.v (.int .i64 v))), .a (.d (.v (.int .i64 w)))] [(100000, .mp 107 false [.i .i64] (hasC L) (valC L) [] (ghS L)), (100001, .mp 106 false [.i .i64] (hasR L) (valR L) [] (ghS L)), (100002, .mp 105 true [.i .i64, .i .i64] (hasF L) (valF L) [] (ghS L)), (100003, .mp 104 true [.i .i64, .i .i64, .s] (hasM L) (valM L) [] (ghS L)), (100004, .cells [.one (.d (.v (.int .i64 (n)))), .one (.d (.v (.int .i64 (b)))), .one (.mp 100003), .one (.mp 100002), .one (.mp 100001), .one (.mp 100000)] 109)] ⟨[], eI .i64 (frameP c u v w), [(100000, .mp 107 false [.i .i64] (hasC L) (valC L) [] (ghS L)), (100001, .mp 106 false [.i .i64] (hasR L) (valR L) [] (ghS L)), (100002, .mp 105 true [.i .i64, .i .i64] (hasF L) (valF L) [] (ghS L)), (100003, .mp 104 true [.i .i64, .i .i64, .s] (hasM L) (valM L) [] (ghS L)), (100004, .cells [.one (.d (.v (.int .i64 (n)))), .one (.d (.v (.int .i64 (b)))), .one (.mp 100003), .one (.mp 100002), .one (.mp 100001), .one (.mp 100000)] 109)]⟩) (n) (b) (shS g1) (⟨x1, x2, lL nuG x3 x4⟩) (u) (v) (w)
  | _, _ => none
theorem vcertcheckerframe : Valid Tryd.prog Gs 35 gcertcheckerframe := by
  intro args H r h hp
  unfold gcertcheckerframe at h
  split at h
  · rename_i x1 x2 x3 x4 u v w m1 q1 c1 w1 r1 g1 m2 q2 c2 w2 r2 g2 m3 q3 c3 w3 r3 g3 m4 q4 c4 w4 r4 g4 n b z tz
    exact conC_ok h hp fun hp => okcertcheckerframe (n) (b) (shS g1) (⟨x1, x2, lL nuG x3 x4⟩) (u) (v) (w)
  · cases h
noncomputable def ct_certcheckerframe : List (Nat × Ct) := (35, ⟨[true], false, gcertcheckerframe, none⟩) :: ct_slicesContainsintint
theorem ctok_certcheckerframe : CtsOk Tryd.prog Gs ct_certcheckerframe := CtsOk.cons vcertcheckerframe (by kernel_rfl) ctok_slicesContainsintint
noncomputable def ancertcheckersigned (n b : Int) (L : List SG) (c : RC) (u k : Int) (t : List Int) (s : SI) : Nat → List Nat → List Ann := fun _ _ => []
theorem okcertcheckersigned (n b : Int) (L : List SG) (c : RC) (u k : Int) (t : List Int) (s : SI) (hp : allP [OkB t, t.length + 300 ≤ lim, (seatsP c u).length < 1099511627776]) : CallsOk Tryd.prog Gs 38 [.agg [.one (.lp 100004 0), .one (.d (.v (.int .i64 (c).ep))), .one (.d (.si .i64 (c).mem)), .one (.d (.sl 1 ((c).seats).length (lC nuE [] ((c).seats))))], .a (.d (.v (.int .i64 u))), .a (.d (.v (.int .i64 k))), .a (.d (.si .u8 t)), .agg [.one (.d (.v (.int .i64 s.1))), .ints .u8 32 s.2]] [(100000, .mp 107 false [.i .i64] (hasC L) (valC L) [] (ghS L)), (100001, .mp 106 false [.i .i64] (hasR L) (valR L) [] (ghS L)), (100002, .mp 105 true [.i .i64, .i .i64] (hasF L) (valF L) [] (ghS L)), (100003, .mp 104 true [.i .i64, .i .i64, .s] (hasM L) (valM L) [] (ghS L)), (100004, .cells [.one (.d (.v (.int .i64 (n)))), .one (.d (.v (.int .i64 (b)))), .one (.mp 100003), .one (.mp 100002), .one (.mp 100001), .one (.mp 100000)] 109)] (eI .i64 (signP L (seatsP c u) k t s)) [(100000, .mp 107 false [.i .i64] (hasC L) (valC L) [] (ghS L)), (100001, .mp 106 false [.i .i64] (hasR L) (valR L) [] (ghS L)), (100002, .mp 105 true [.i .i64, .i .i64] (hasF L) (valF L) [] (ghS L)), (100003, .mp 104 true [.i .i64, .i .i64, .s] (hasM L) (valM L) [] (ghS L)), (100004, .cells [.one (.d (.v (.int .i64 (n)))), .one (.d (.v (.int .i64 (b)))), .one (.mp 100003), .one (.mp 100002), .one (.mp 100001), .one (.mp 100000)] 109)] :=
  ok_of (ann := ancertcheckersigned n b L c u k t s) ctok_certcheckerframe mixed Tryd.func38 (by kernel_rfl) (of_nf (p := let l1 := (seatsP { ep := RC.ep c, mem := RC.mem c, seats := lL nuG (List.length (RC.seats c)) (lC nuE [] (RC.seats c)) } u); let l0 := (lL nuG (List.length (RC.seats c)) (lC nuE [] (RC.seats c))); RC.ep c = RC.ep c ∧ RC.mem c = RC.mem c ∧ List.length (RC.seats c) = List.length l0 ∧ (∀ (i : Nat), i < List.length l0 → lC nuE [] (RC.seats c) i = lC nuE [] l0 i) ∧ u = u ∧ List.length l1 < (1099511627776 : Nat) ∧ brP (!List.contains l1 k) ((14 : Int) = signP L (seatsP c u) k t s ∧ MpEq [AS.i IntKind.i64] (hasC L) (hasC L) (valC L) (valC L) [] ∧ MpEq [AS.i IntKind.i64] (hasR L) (hasR L) (valR L) (valR L) [] ∧ MpEq [AS.i IntKind.i64, AS.i IntKind.i64] (hasF L) (hasF L) (valF L) (valF L) [] ∧ MpEq [AS.i IntKind.i64, AS.i IntKind.i64, AS.s] (hasM L) (hasM L) (valM L) (valM L) [] ∧ n = n ∧ b = b ∧ True) (k = k ∧ t = t ∧ Prod.fst s = Prod.fst s ∧ Prod.snd s = Prod.snd s ∧ MpEq [AS.i IntKind.i64] (hasC L) (hasC (shS (ghS L))) (valC L) (valC (shS (ghS L))) [] ∧ MpEq [AS.i IntKind.i64] (hasR L) (hasR (shS (ghS L))) (valR L) (valR (shS (ghS L))) [] ∧ MpEq [AS.i IntKind.i64, AS.i IntKind.i64] (hasF L) (hasF (shS (ghS L))) (valF L) (valF (shS (ghS L))) [] ∧ MpEq [AS.i IntKind.i64, AS.i IntKind.i64, AS.s] (hasM L) (hasM (shS (ghS L))) (valM L) (valM (shS (ghS L))) [] ∧ n = n ∧ b = b ∧ OkB t ∧ List.length t + (300 : Nat) ≤ lim ∧ brP (!(madB (shS (ghS L)) (k, Prod.fst s, strOfNums t) && Prod.snd s == tagB k (Prod.fst s) t)) ((16 : Int) = signP L (seatsP c u) k t s ∧ MpEq [AS.i IntKind.i64] (hasC (shS (ghS L))) (hasC L) (valC (shS (ghS L))) (valC L) [] ∧ MpEq [AS.i IntKind.i64] (hasR (shS (ghS L))) (hasR L) (valR (shS (ghS L))) (valR L) [] ∧ MpEq [AS.i IntKind.i64, AS.i IntKind.i64] (hasF (shS (ghS L))) (hasF L) (valF (shS (ghS L))) (valF L) [] ∧ MpEq [AS.i IntKind.i64, AS.i IntKind.i64, AS.s] (hasM (shS (ghS L))) (hasM L) (valM (shS (ghS L))) (valM L) [] ∧ n = n ∧ b = b ∧ True) ((0 : Int) = signP L (seatsP c u) k t s ∧ MpEq [AS.i IntKind.i64] (hasC (shS (ghS L))) (hasC L) (valC (shS (ghS L))) (valC L) [] ∧ MpEq [AS.i IntKind.i64] (hasR (shS (ghS L))) (hasR L) (valR (shS (ghS L))) (valR L) [] ∧ MpEq [AS.i IntKind.i64, AS.i IntKind.i64] (hasF (shS (ghS L))) (hasF L) (valF (shS (ghS L))) (valF L) [] ∧ MpEq [AS.i IntKind.i64, AS.i IntKind.i64, AS.s] (hasM (shS (ghS L))) (hasM L) (valM (shS (ghS L))) (valM L) [] ∧ n = n ∧ b = b ∧ True))) (by kernel_rfl) (by
    conv => zeta
    obtain ⟨h1, h2, h3, _⟩ := hp
    simp only [lL_self nuG_nuE, lL_self siG_siE, lL_self hdG_hdE, rcEta, qcEta, vtEta, siEta, shS_ghS]
    unfold signP sigOk
    refine ⟨trivial, trivial, trivial, fun _ _ => trivial, trivial, h3, brI (fun h => ?_) (fun h => ⟨trivial, trivial, trivial, trivial, MpEq.self fun _ => rfl, MpEq.self fun _ => rfl, MpEq.self fun _ => rfl, MpEq.self fun _ => rfl, trivial, trivial, h1, h2, brI (fun g => ?_) (fun g => ?_)⟩)⟩
    · have h : (seatsP c u).contains k = false := by simpa using h
      rw [if_pos h]
      exact ⟨rfl, MpEq.self fun _ => rfl, MpEq.self fun _ => rfl, MpEq.self fun _ => rfl, MpEq.self fun _ => rfl, trivial, trivial, trivial⟩
    · have h : ¬ (seatsP c u).contains k = false := by simpa using h
      rw [if_neg h, if_pos (by rw [Bool.not_eq_true'] at g; exact g)]
      exact ⟨rfl, MpEq.self fun _ => rfl, MpEq.self fun _ => rfl, MpEq.self fun _ => rfl, MpEq.self fun _ => rfl, trivial, trivial, trivial⟩
    · have h : ¬ (seatsP c u).contains k = false := by simpa using h
      rw [if_neg h, if_neg (by rw [Bool.not_eq_false'] at g; rw [g]; decide)]
      exact ⟨rfl, MpEq.self fun _ => rfl, MpEq.self fun _ => rfl, MpEq.self fun _ => rfl, MpEq.self fun _ => rfl, trivial, trivial, trivial⟩))
noncomputable def gcertcheckersigned : Con := fun args H => match args, H with
  | [.agg [.one (.lp 100004 0), .one (.d (.v (.int .i64 x1))), .one (.d (.si .i64 x2)), .one (.d (.sl 1 x3 x4))], .a (.d (.v (.int .i64 u))), .a (.d (.v (.int .i64 k))), .a (.d (.si .u8 t)), .agg [.one (.d (.v (.int .i64 s1))), .ints .u8 32 s2]], [(100000, .mp m1 false q1 c1 w1 r1 g1), (100001, .mp m2 false q2 c2 w2 r2 g2), (100002, .mp m3 true q3 c3 w3 r3 g3), (100003, .mp m4 true q4 c4 w4 r4 g4), (100004, .cells (.one (.d (.v (.int .i64 n))) :: .one (.d (.v (.int .i64 b))) :: z) tz)] => (fun (n b : Int) (L : List SG) (c : RC) (u k : Int) (t : List Int) (s : SI) => conC args H [.agg [.one (.lp 100004 0), .one (.d (.v (.int .i64 (c).ep))), .one (.d (.si .i64 (c).mem)), .one (.d (.sl 1 ((c).seats).length (lC nuE [] ((c).seats))))], .a (.d (.v (.int .i64 u))), .a (.d (.v (.int .i64 k))), .a (.d (.si .u8 t)), .agg [.one (.d (.v (.int .i64 s.1))), .ints .u8 32 s.2]] [(100000, .mp 107 false [.i .i64] (hasC L) (valC L) [] (ghS L)), (100001, .mp 106 false [.i .i64] (hasR L) (valR L) [] (ghS L)), (100002, .mp 105 true [.i .i64, .i .i64] (hasF L) (valF L) [] (ghS L)), (100003, .mp 104 true [.i .i64, .i .i64, .s] (hasM L) (valM L) [] (ghS L)), (100004, .cells [.one (.d (.v (.int .i64 (n)))), .one (.d (.v (.int .i64 (b)))), .one (.mp 100003), .one (.mp 100002), .one (.mp 100001), .one (.mp 100000)] 109)] ⟨[OkB t, t.length + 300 ≤ lim, (seatsP c u).length < 1099511627776], eI .i64 (signP L (seatsP c u) k t s), [(100000, .mp 107 false [.i .i64] (hasC L) (valC L) [] (ghS L)), (100001, .mp 106 false [.i .i64] (hasR L) (valR L) [] (ghS L)), (100002, .mp 105 true [.i .i64, .i .i64] (hasF L) (valF L) [] (ghS L)), (100003, .mp 104 true [.i .i64, .i .i64, .s] (hasM L) (valM L) [] (ghS L)), (100004, .cells [.one (.d (.v (.int .i64 (n)))), .one (.d (.v (.int .i64 (b)))), .one (.mp 100003), .one (.mp 100002), .one (.mp 100001), .one (.mp 100000)] 109)]⟩) (n) (b) (shS g1) (⟨x1, x2, lL nuG x3 x4⟩) (u) (k) (t) ((s1, s2))
  | _, _ => none
theorem vcertcheckersigned : Valid Tryd.prog Gs 38 gcertcheckersigned := by
  intro args H r h hp
  unfold gcertcheckersigned at h
  split at h
  · rename_i x1 x2 x3 x4 u k t s1 s2 m1 q1 c1 w1 r1 g1 m2 q2 c2 w2 r2 g2 m3 q3 c3 w3 r3 g3 m4 q4 c4 w4 r4 g4 n b z tz
    exact conC_ok h hp fun hp => okcertcheckersigned (n) (b) (shS g1) (⟨x1, x2, lL nuG x3 x4⟩) (u) (k) (t) ((s1, s2)) hp
  · cases h
noncomputable def ct_certcheckersigned : List (Nat × Ct) := (38, ⟨[true], true, gcertcheckersigned, none⟩) :: ct_certcheckerframe
theorem ctok_certcheckersigned : CtsOk Tryd.prog Gs ct_certcheckersigned := CtsOk.cons vcertcheckersigned (by kernel_rfl) ctok_certcheckerframe
end Go.Proofs.YtlgffgnkkihaoaaDoor
