/- Certificates: those that are made of right votes; two of one view. -/
import Derived.Test.YtlgffgnkkihaoaaDoorYdG
namespace Go.Proofs.YtlgffgnkkihaoaaDoor
open Go.Dx Go.RowKit
set_option linter.unusedVariables false
set_option linter.unusedSimpArgs false
set_option maxRecDepth 100000
attribute [local irreducible] wpS
attribute [local irreducible] sumB joinB
theorem rg_ltJ {l : List SG} (h : l.length < 1073741824) : (rgs l).length < 1099511627776 := by have := rgs_le l; omega
/-- When a certificate is right, or has too few. -/
theorem qc_right {L : List SG} {c : RC} {q : QC} (hf : frameP c q.ch q.ep q.vw = 0) (hl : q.who.length = q.sigs.length) (hr : q.who.Pairwise (· < ·)) (hg : ∀ i, i < q.who.length → signP L (seatsP c q.ch) (q.who.getD i 0) (voteB q.ch q.ep q.vw q.blk) (q.sigs.getD i siZ) = 0) :
    qcP L c q = if q.who.length < 3 then 15 else 0 := by
  have hs : ∀ i, i < q.who.length → (seatsP c q.ch).contains (q.who.getD i 0) = true := fun i hi => by
    have := hg i hi
    unfold signP at this
    cases h : (seatsP c q.ch).contains (q.who.getD i 0) with
    | true => rfl
    | false => rw [if_pos h] at this; cases this
  have hw : scan (whoE (seatsP c q.ch) q.who) q.who.length = 0 := scan_all fun i hi => whoE_no (fun ⟨h0, h1⟩ => by
    have := List.pairwise_iff_getElem.1 hr (i - 1) i (by omega) hi (by omega)
    rw [List.getD_eq_getElem?_getD, List.getD_eq_getElem?_getD, List.getElem?_eq_getElem hi, List.getElem?_eq_getElem (show i - 1 < q.who.length by omega)] at h1
    have h1 : q.who[i] ≤ q.who[i - 1] := h1
    omega) (hs i hi)
  unfold qcP
  rw [if_neg (by rw [hf]; decide), if_neg (by omega), if_neg (by rw [hw]; decide)]
  split
  · rfl
  · exact scan_all hg
/-- What a right certificate is. -/
theorem qc_of {L : List SG} {c : RC} {q : QC} (h : qcP L c q = 0) : frameP c q.ch q.ep q.vw = 0 ∧ q.who.length = q.sigs.length ∧ q.who.Pairwise (· < ·) ∧ 3 ≤ q.who.length ∧
    (∀ i, i < q.who.length → (seatsP c q.ch).contains (q.who.getD i 0) = true) ∧ ∀ i, i < q.who.length → signP L (seatsP c q.ch) (q.who.getD i 0) (voteB q.ch q.ep q.vw q.blk) (q.sigs.getD i siZ) = 0 := by
  unfold qcP at h
  split at h
  · rename_i h1; exact absurd h h1
  rename_i h1
  split at h
  · cases h
  rename_i h2
  split at h
  · cases h
  rename_i h3
  split at h
  · cases h
  rename_i h4
  have w : ∀ i, i < q.who.length → whoE (seatsP c q.ch) q.who i = 0 := scan_zero (Classical.byContradiction h3)
  have nx : ∀ i, (hi : i + 1 < q.who.length) → q.who[i] < q.who[i + 1] := fun i hi => by
    have := w (i + 1) hi
    unfold whoE at this
    split at this
    · cases this
    · rename_i h5
      rw [List.getD_eq_getElem?_getD, List.getD_eq_getElem?_getD, List.getElem?_eq_getElem hi, Nat.add_sub_cancel, List.getElem?_eq_getElem (show i < q.who.length by omega)] at h5
      have h5 : ¬ q.who[i + 1] ≤ q.who[i] := fun h => h5 (.inl ⟨Nat.succ_pos i, h⟩)
      omega
  refine ⟨Classical.byContradiction h1, Classical.byContradiction h2, ?_, by omega, fun i hi => ?_, fun i hi => scan_zero h i hi⟩
  · refine List.pairwise_iff_getElem.2 fun i j hi hj hij => ?_
    induction j with
    | zero => omega
    | succ j ih =>
      rcases Nat.lt_or_ge i j with h5 | h5
      · have := ih (by omega) h5; have := nx j hj; omega
      · obtain rfl : i = j := by omega
        exact nx i hj
  · have := w i hi
    unfold whoE at this
    split at this
    · cases this
    · rename_i h5
      cases hc : (seatsP c q.ch).contains (q.who.getD i 0) with
      | true => rfl
      | false => exact absurd (.inr hc) h5
theorem any_all {p : VT → Bool} {l : List VT} (h : l.any p = false) : ∀ x ∈ l, p x = false := fun x hx => by
  have := List.any_eq_false.1 h x hx
  simpa using this
/-- What is made of right votes. -/
theorem made_is {L : List SG} {c : RC} {R : List VT} (hv : ∀ x ∈ R, voteP L c x = 0) (h : mkE R = 0) : frameP c (mkQ R).ch (mkQ R).ep (mkQ R).vw = 0 ∧ (mkQ R).who.length = (mkQ R).sigs.length ∧ (mkQ R).who.Pairwise (· < ·) ∧ 3 ≤ (mkQ R).who.length ∧
    ∀ i, i < (mkQ R).who.length → signP L (seatsP c (mkQ R).ch) ((mkQ R).who.getD i 0) (voteB (mkQ R).ch (mkQ R).ep (mkQ R).vw (mkQ R).blk) ((mkQ R).sigs.getD i siZ) = 0 := by
  have h' := h
  unfold mkE at h'
  split at h'
  · cases h'
  rename_i h3
  split at h'
  · cases h'
  rename_i k1
  split at h'
  · cases h'
  rename_i k2
  split at h'
  · cases h'
  rename_i k3
  split at h'
  · cases h'
  rename_i k4
  split at h'
  · cases h'
  rename_i k5
  have a1 := any_all (Bool.eq_false_iff.2 k1); have a2 := any_all (Bool.eq_false_iff.2 k2); have a3 := any_all (Bool.eq_false_iff.2 k3); have a4 := any_all (Bool.eq_false_iff.2 k4)
  have sw := adj_sw (stb_srt R) (Bool.eq_false_iff.2 k5)
  have m0 : R.getD 0 vtZ ∈ R := by
    rw [List.getD_eq_getElem?_getD, List.getElem?_eq_getElem (show 0 < R.length by omega)]; exact List.getElem_mem _
  have fr := hv _ m0
  unfold voteP at fr
  rw [mk_ok h]
  dsimp only
  have f0 : frameP c (R.getD 0 vtZ).ch (R.getD 0 vtZ).ep (R.getD 0 vtZ).vw = 0 := by
    split at fr
    · rename_i h1; exact absurd fr h1
    · rename_i h1; exact Classical.byContradiction h1
  refine ⟨f0, by simp, ?_, by simp [stb_len]; omega, fun i hi => ?_⟩
  · exact List.pairwise_map.2 sw
  · have hi : i < (stb wK R).length := by simpa using hi
    have e1 : ((stb wK R).map VT.who).getD i 0 = (stb wK R)[i].who := by rw [List.getD_eq_getElem?_getD, List.getElem?_map, List.getElem?_eq_getElem hi]; rfl
    have e2 : ((stb wK R).map VT.sig).getD i siZ = (stb wK R)[i].sig := by rw [List.getD_eq_getElem?_getD, List.getElem?_map, List.getElem?_eq_getElem hi]; rfl
    rw [e1, e2]
    have hm : (stb wK R)[i] ∈ R := stb_mem.1 (List.getElem_mem hi)
    generalize (stb wK R)[i] = x at hm
    have b1 := a1 x hm; have b2 := a2 x hm; have b3 := a3 x hm; have b4 := a4 x hm
    simp only [bne_eq_false_iff_eq] at b1 b2 b3 b4
    have hx := hv x hm
    unfold voteP at hx
    rw [b1, b2, b3, b4, if_neg (by rw [f0]; decide)] at hx
    exact hx
theorem made_right {L : List SG} {c : RC} {R : List VT} (hv : ∀ x ∈ R, voteP L c x = 0) (h : mkE R = 0) : qcP L c (mkQ R) = 0 := by
  obtain ⟨h1, h2, h3, h4, h5⟩ := made_is hv h
  rw [qc_right h1 h2 h3 h5, if_neg (by omega)]
theorem take_v {l : List VT} {t : Nat} (h : t < l.length) : l.take (t + 1) = l.take t ++ [l.getD t vtZ] := by
  rw [List.take_succ_eq_append_getElem h, List.getD_eq_getElem?_getD, List.getElem?_eq_getElem h]; rfl
theorem get_v {l : List VT} {t : Nat} (h : t < l.length) : l.getD t vtZ ∈ l := by
  rw [List.getD_eq_getElem?_getD, List.getElem?_eq_getElem h]; exact List.getElem_mem h
theorem take_snoc {l : List VT} {p : VT → Bool} {t : Nat} (h : t < l.length) (hp : p (l.getD t vtZ) = true) : (l.take (t + 1)).filter p = (l.take t).filter p ++ [l.getD t vtZ] := by
  rw [take_v h, List.filter_append, List.filter_cons, hp]; rfl
theorem take_skip {l : List VT} {p : VT → Bool} {t : Nat} (h : t < l.length) (hp : p (l.getD t vtZ) = false) : (l.take (t + 1)).filter p = (l.take t).filter p := by
  rw [take_v h, List.filter_append, List.filter_cons, hp]; simp
theorem take_le {l : List VT} {p : VT → Bool} {t : Nat} : ((l.take t).filter p).length ≤ l.length := Nat.le_trans (List.length_filter_le _ _) (by rw [List.length_take]; omega)
theorem mk_casesJ (l : List VT) : (mkE l = 0 ∧ 3 ≤ l.length) ∨ mkQ l = qcZ0 := by
  by_cases h : mkE l = 0
  · refine .inl ⟨h, ?_⟩
    rcases Nat.lt_or_ge l.length 3 with h3 | h3
    · unfold mkE at h; rw [if_pos h3] at h; cases h
    · exact h3
  · exact .inr (by unfold mkQ; rw [if_neg h])
theorem mk_lensJ (l : List VT) : (mkQ l).who.length = (mkQ l).sigs.length ∧ (mkQ l).who.length ≤ l.length := by
  rcases mk_casesJ l with ⟨h, _⟩ | h
  · rw [mk_ok h]; simp [stb_len]
  · rw [h]; simp
theorem mk_blkJ {l : List VT} (h : ∀ v ∈ l, OkD v.blk) : OkD (mkQ l).blk := by
  rcases mk_casesJ l with ⟨h0, h3⟩ | h0
  · rw [mk_ok h0]
    exact h _ (get_v (by omega))
  · rw [h0]; exact ⟨fun x hx => by rw [(List.mem_replicate.1 hx).2]; decide, rfl⟩
noncomputable def anL06CertMade (l : List SG) (c : RC) (v : List VT) : Nat → List Nat → List Ann := fun bk_ gs_ => match bk_, gs_ with
    | 0, _ => [{ τ := Nat, t0 := (default : Nat), J := fun i => i ≤ v.length, m := fun i => v.length - i, l := fun i => [(2, .s (.a (.d (.sl 69 v.length (lC vtE vtZ v))))), (4, .s (.a (.lp 406 0))), (7, .s (.a (.lp 404 0))), (9, .s (.a (.rw 407))), (10, eI .i64 (i : Int))], H := fun i => [(400, .mp 107 false [.i .i64] (hasC (rgs l)) (valC (rgs l)) [] (ghS (rgs l))), (401, .mp 106 false [.i .i64] (hasR (rgs l)) (valR (rgs l)) [] (ghS (rgs l))), (402, .mp 105 true [.i .i64, .i .i64] (hasF (rgs l)) (valF (rgs l)) [] (ghS (rgs l))), (403, .mp 104 true [.i .i64, .i .i64, .s] (hasM (rgs l)) (valM (rgs l)) [] (ghS (rgs l))), (404, .cells [.one (.d (.v (.int .i64 (12)))), .one (.d (.v (.int .i64 (65536)))), .one (.mp 403), .one (.mp 402), .one (.mp 401), .one (.mp 400)] 109), (406, .cells [.one (.d (.v (.int .i64 (c).ep))), .one (.d (.si .i64 (c).mem)), .one (.d (.sl 1 ((c).seats).length (lC nuE [] ((c).seats))))] 26), (407, .row (.st 69 ((v.take i).filter fun x => decide (voteP (rgs l) c x = 0)).length (lC vtE vtZ ((v.take i).filter fun x => decide (voteP (rgs l) c x = 0)))) 49)] }]
    | _, _ => []
theorem okL06CertMade (l : List SG) (c : RC) (v : List VT) (hp : allP [l.length < 1073741824, ∀ x ∈ l, x.2.2.size + 300 ≤ lim, v.length < 67108864, ∀ x ∈ v, OkD x.blk ∧ x.sig.2.length = 32, ∀ n, (seatsP c n).length < 1099511627776]) : CallsOk Tryd.prog Gs 5 [.a (.d (.sl 3 l.length (lC sgE sgZ l))), .agg [.one (.d (.v (.int .i64 (c).ep))), .one (.d (.si .i64 (c).mem)), .one (.d (.sl 1 ((c).seats).length (lC nuE [] ((c).seats))))], .a (.d (.sl 69 v.length (lC vtE vtZ v)))] [] (eB true) [] :=
  ok_of (ann := anL06CertMade l c v) ctok_L06awake mixed Tryd.func5 (by kernel_rfl) (of_nf (p := let l12 := (valM (shS (ghS (rgs l)))); let l11 := (hasM (shS (ghS (rgs l)))); let l10 := (valF (shS (ghS (rgs l)))); let l9 := (hasF (shS (ghS (rgs l)))); let l8 := (valR (shS (ghS (rgs l)))); let l7 := (hasR (shS (ghS (rgs l)))); let l6 := (valC (shS (ghS (rgs l)))); let l5 := (hasC (shS (ghS (rgs l)))); let l4 := (lC nuE [] (RC.seats c)); let l3 := (List.length (RC.seats c)); let l2 := (lL nuG l3 l4); let l1 := (lL sgD (List.length l) (lC sgE sgZ l)); List.length l = List.length l1 ∧ (∀ (i : Nat), i < List.length l1 → lC sgE sgZ l i = lC sgE sgZ l1 i) ∧ List.length l1 < (1073741824 : Nat) ∧ (∀ (x : SG), x ∈ lL sgD (List.length l) (lC sgE sgZ l) → ByteArray.size (Prod.snd (Prod.snd x)) + (300 : Nat) ≤ lim) ∧ (∃ (t : Nat), List.length v = List.length v ∧ (∀ (i : Nat), i < List.length v → lC vtE vtZ v i = lC vtE vtZ v i) ∧ (0 : Int) = (↑t : Int) ∧ MpEq [AS.i IntKind.i64] (hasC (rgs l1)) (hasC (rgs l)) (valC (rgs l1)) (valC (rgs l)) [] ∧ MpEq [AS.i IntKind.i64] (hasR (rgs l1)) (hasR (rgs l)) (valR (rgs l1)) (valR (rgs l)) [] ∧ MpEq [AS.i IntKind.i64, AS.i IntKind.i64] (hasF (rgs l1)) (hasF (rgs l)) (valF (rgs l1)) (valF (rgs l)) [] ∧ MpEq [AS.i IntKind.i64, AS.i IntKind.i64, AS.s] (hasM (rgs l1)) (hasM (rgs l)) (valM (rgs l1)) (valM (rgs l)) [] ∧ (12 : Int) = (12 : Int) ∧ (65536 : Int) = (65536 : Int) ∧ RC.ep c = RC.ep c ∧ RC.mem c = RC.mem c ∧ List.length (RC.seats c) = List.length (RC.seats c) ∧ (∀ (i : Nat), i < List.length (RC.seats c) → lC nuE [] (RC.seats c) i = lC nuE [] (RC.seats c) i) ∧ (0 : Nat) = List.length (List.filter (fun (x : VT) => decide (voteP (rgs l) c x = (0 : Int))) (List.take t v)) ∧ (∀ (i : Nat), i < List.length (List.filter (fun (x : VT) => decide (voteP (rgs l) c x = (0 : Int))) (List.take t v)) → (List.getD ([] : List (List DC)) i []) = lC vtE vtZ (List.filter (fun (x : VT) => decide (voteP (rgs l) c x = (0 : Int))) (List.take t v)) i) ∧ t ≤ List.length v ∧ True) ∧ ∀ (t : Nat), let l13 := ((0 : Int) ≤ (↑t : Int) ∧ (↑t : Int) < (↑(List.length v) : Int)); let l0 := (List.getD v (Int.toNat (↑t : Int)) vtZ); t ≤ List.length v → brP (decide ((↑t : Int) < (↑(List.length v) : Int))) (l13 ∧ RC.ep c = RC.ep c ∧ RC.mem c = RC.mem c ∧ List.length (RC.seats c) = List.length l2 ∧ (∀ (i : Nat), i < List.length l2 → lC nuE [] (RC.seats c) i = lC nuE [] l2 i) ∧ VT.ch l0 = VT.ch l0 ∧ VT.ep l0 = VT.ep l0 ∧ VT.vw l0 = VT.vw l0 ∧ VT.blk l0 = VT.blk l0 ∧ VT.who l0 = VT.who l0 ∧ Prod.fst (VT.sig l0) = Prod.fst (VT.sig l0) ∧ Prod.snd (VT.sig l0) = Prod.snd (VT.sig l0) ∧ MpEq [AS.i IntKind.i64] (hasC (rgs l)) l5 (valC (rgs l)) l6 [] ∧ MpEq [AS.i IntKind.i64] (hasR (rgs l)) l7 (valR (rgs l)) l8 [] ∧ MpEq [AS.i IntKind.i64, AS.i IntKind.i64] (hasF (rgs l)) l9 (valF (rgs l)) l10 [] ∧ MpEq [AS.i IntKind.i64, AS.i IntKind.i64, AS.s] (hasM (rgs l)) l11 (valM (rgs l)) l12 [] ∧ (12 : Int) = (12 : Int) ∧ (65536 : Int) = (65536 : Int) ∧ OkD (VT.blk l0) ∧ List.length (seatsP { ep := RC.ep c, mem := RC.mem c, seats := lL nuG l3 l4 } (VT.ch l0)) < (1099511627776 : Nat) ∧ brP (voteP (shS (ghS (rgs l))) { ep := RC.ep c, mem := RC.mem c, seats := lL nuG l3 l4 } { ch := VT.ch l0, ep := VT.ep l0, vw := VT.vw l0, blk := VT.blk l0, who := VT.who l0, sig := (Prod.fst (VT.sig l0), Prod.snd (VT.sig l0)) } == (0 : Int)) (l13 ∧ (List.length (List.filter (fun (x : VT) => decide (voteP (rgs l) c x = (0 : Int))) (List.take t v))) + (1 : Nat) ≤ lim ∧ ∃ (t_1 : Nat), List.length v = List.length v ∧ (∀ (i : Nat), i < List.length v → lC vtE vtZ v i = lC vtE vtZ v i) ∧ IntKind.wrap IntKind.i64 ((↑t : Int) + (1 : Int)) = (↑t_1 : Int) ∧ MpEq [AS.i IntKind.i64] l5 (hasC (rgs l)) l6 (valC (rgs l)) [] ∧ MpEq [AS.i IntKind.i64] l7 (hasR (rgs l)) l8 (valR (rgs l)) [] ∧ MpEq [AS.i IntKind.i64, AS.i IntKind.i64] l9 (hasF (rgs l)) l10 (valF (rgs l)) [] ∧ MpEq [AS.i IntKind.i64, AS.i IntKind.i64, AS.s] l11 (hasM (rgs l)) l12 (valM (rgs l)) [] ∧ (12 : Int) = (12 : Int) ∧ (65536 : Int) = (65536 : Int) ∧ RC.ep c = RC.ep c ∧ RC.mem c = RC.mem c ∧ List.length (RC.seats c) = List.length (RC.seats c) ∧ (∀ (i : Nat), i < List.length (RC.seats c) → lC nuE [] (RC.seats c) i = lC nuE [] (RC.seats c) i) ∧ List.length (List.filter (fun (x : VT) => decide (voteP (rgs l) c x = (0 : Int))) (List.take t v)) + (1 : Nat) = List.length (List.filter (fun (x : VT) => decide (voteP (rgs l) c x = (0 : Int))) (List.take t_1 v)) ∧ (∀ (i : Nat), i < List.length (List.filter (fun (x : VT) => decide (voteP (rgs l) c x = (0 : Int))) (List.take t_1 v)) → catF (List.length (List.filter (fun (x : VT) => decide (voteP (rgs l) c x = (0 : Int))) (List.take t v))) (lC vtE vtZ (List.filter (fun (x : VT) => decide (voteP (rgs l) c x = (0 : Int))) (List.take t v))) (fun (i : Nat) => List.getD [(vtE l0)] i []) i = lC vtE vtZ (List.filter (fun (x : VT) => decide (voteP (rgs l) c x = (0 : Int))) (List.take t_1 v)) i) ∧ t_1 ≤ List.length v ∧ List.length v - t_1 < List.length v - t ∧ True) (∃ (t_1 : Nat), List.length v = List.length v ∧ (∀ (i : Nat), i < List.length v → lC vtE vtZ v i = lC vtE vtZ v i) ∧ IntKind.wrap IntKind.i64 ((↑t : Int) + (1 : Int)) = (↑t_1 : Int) ∧ MpEq [AS.i IntKind.i64] l5 (hasC (rgs l)) l6 (valC (rgs l)) [] ∧ MpEq [AS.i IntKind.i64] l7 (hasR (rgs l)) l8 (valR (rgs l)) [] ∧ MpEq [AS.i IntKind.i64, AS.i IntKind.i64] l9 (hasF (rgs l)) l10 (valF (rgs l)) [] ∧ MpEq [AS.i IntKind.i64, AS.i IntKind.i64, AS.s] l11 (hasM (rgs l)) l12 (valM (rgs l)) [] ∧ (12 : Int) = (12 : Int) ∧ (65536 : Int) = (65536 : Int) ∧ RC.ep c = RC.ep c ∧ RC.mem c = RC.mem c ∧ List.length (RC.seats c) = List.length (RC.seats c) ∧ (∀ (i : Nat), i < List.length (RC.seats c) → lC nuE [] (RC.seats c) i = lC nuE [] (RC.seats c) i) ∧ List.length (List.filter (fun (x : VT) => decide (voteP (rgs l) c x = (0 : Int))) (List.take t v)) = List.length (List.filter (fun (x : VT) => decide (voteP (rgs l) c x = (0 : Int))) (List.take t_1 v)) ∧ (∀ (i : Nat), i < List.length (List.filter (fun (x : VT) => decide (voteP (rgs l) c x = (0 : Int))) (List.take t_1 v)) → lC vtE vtZ (List.filter (fun (x : VT) => decide (voteP (rgs l) c x = (0 : Int))) (List.take t v)) i = lC vtE vtZ (List.filter (fun (x : VT) => decide (voteP (rgs l) c x = (0 : Int))) (List.take t_1 v)) i) ∧ t_1 ≤ List.length v ∧ List.length v - t_1 < List.length v - t ∧ True)) (List.length (List.filter (fun (x : VT) => decide (voteP (rgs l) c x = (0 : Int))) (List.take t v)) = List.length (lL vtG (List.length (List.filter (fun (x : VT) => decide (voteP (rgs l) c x = (0 : Int))) (List.take t v))) (lC vtE vtZ (List.filter (fun (x : VT) => decide (voteP (rgs l) c x = (0 : Int))) (List.take t v)))) ∧ (∀ (i : Nat), i < List.length (lL vtG (List.length (List.filter (fun (x : VT) => decide (voteP (rgs l) c x = (0 : Int))) (List.take t v))) (lC vtE vtZ (List.filter (fun (x : VT) => decide (voteP (rgs l) c x = (0 : Int))) (List.take t v)))) → lC vtE vtZ (List.filter (fun (x : VT) => decide (voteP (rgs l) c x = (0 : Int))) (List.take t v)) i = lC vtE vtZ (lL vtG (List.length (List.filter (fun (x : VT) => decide (voteP (rgs l) c x = (0 : Int))) (List.take t v))) (lC vtE vtZ (List.filter (fun (x : VT) => decide (voteP (rgs l) c x = (0 : Int))) (List.take t v)))) i) ∧ List.length (lL vtG (List.length (List.filter (fun (x : VT) => decide (voteP (rgs l) c x = (0 : Int))) (List.take t v))) (lC vtE vtZ (List.filter (fun (x : VT) => decide (voteP (rgs l) c x = (0 : Int))) (List.take t v)))) < (1073741824 : Nat) ∧ (∀ (i : Nat), i < List.length (QC.sigs (mkQ (lL vtG (List.length (List.filter (fun (x : VT) => decide (voteP (rgs l) c x = (0 : Int))) (List.take t v))) (lC vtE vtZ (List.filter (fun (x : VT) => decide (voteP (rgs l) c x = (0 : Int))) (List.take t v)))))) → pureDs (lC siE siZ (QC.sigs (mkQ (lL vtG (List.length (List.filter (fun (x : VT) => decide (voteP (rgs l) c x = (0 : Int))) (List.take t v))) (lC vtE vtZ (List.filter (fun (x : VT) => decide (voteP (rgs l) c x = (0 : Int))) (List.take t v)))))) i) = true) ∧ brP (mkE (lL vtG (List.length (List.filter (fun (x : VT) => decide (voteP (rgs l) c x = (0 : Int))) (List.take t v))) (lC vtE vtZ (List.filter (fun (x : VT) => decide (voteP (rgs l) c x = (0 : Int))) (List.take t v)))) != (0 : Int)) (true = true ∧ True) (RC.ep c = RC.ep c ∧ RC.mem c = RC.mem c ∧ List.length (RC.seats c) = List.length l2 ∧ (∀ (i : Nat), i < List.length l2 → lC nuE [] (RC.seats c) i = lC nuE [] l2 i) ∧ QC.ch (mkQ (lL vtG (List.length (List.filter (fun (x : VT) => decide (voteP (rgs l) c x = (0 : Int))) (List.take t v))) (lC vtE vtZ (List.filter (fun (x : VT) => decide (voteP (rgs l) c x = (0 : Int))) (List.take t v))))) = QC.ch (mkQ (lL vtG (List.length (List.filter (fun (x : VT) => decide (voteP (rgs l) c x = (0 : Int))) (List.take t v))) (lC vtE vtZ (List.filter (fun (x : VT) => decide (voteP (rgs l) c x = (0 : Int))) (List.take t v))))) ∧ QC.ep (mkQ (lL vtG (List.length (List.filter (fun (x : VT) => decide (voteP (rgs l) c x = (0 : Int))) (List.take t v))) (lC vtE vtZ (List.filter (fun (x : VT) => decide (voteP (rgs l) c x = (0 : Int))) (List.take t v))))) = QC.ep (mkQ (lL vtG (List.length (List.filter (fun (x : VT) => decide (voteP (rgs l) c x = (0 : Int))) (List.take t v))) (lC vtE vtZ (List.filter (fun (x : VT) => decide (voteP (rgs l) c x = (0 : Int))) (List.take t v))))) ∧ QC.vw (mkQ (lL vtG (List.length (List.filter (fun (x : VT) => decide (voteP (rgs l) c x = (0 : Int))) (List.take t v))) (lC vtE vtZ (List.filter (fun (x : VT) => decide (voteP (rgs l) c x = (0 : Int))) (List.take t v))))) = QC.vw (mkQ (lL vtG (List.length (List.filter (fun (x : VT) => decide (voteP (rgs l) c x = (0 : Int))) (List.take t v))) (lC vtE vtZ (List.filter (fun (x : VT) => decide (voteP (rgs l) c x = (0 : Int))) (List.take t v))))) ∧ QC.blk (mkQ (lL vtG (List.length (List.filter (fun (x : VT) => decide (voteP (rgs l) c x = (0 : Int))) (List.take t v))) (lC vtE vtZ (List.filter (fun (x : VT) => decide (voteP (rgs l) c x = (0 : Int))) (List.take t v))))) = QC.blk (mkQ (lL vtG (List.length (List.filter (fun (x : VT) => decide (voteP (rgs l) c x = (0 : Int))) (List.take t v))) (lC vtE vtZ (List.filter (fun (x : VT) => decide (voteP (rgs l) c x = (0 : Int))) (List.take t v))))) ∧ QC.who (mkQ (lL vtG (List.length (List.filter (fun (x : VT) => decide (voteP (rgs l) c x = (0 : Int))) (List.take t v))) (lC vtE vtZ (List.filter (fun (x : VT) => decide (voteP (rgs l) c x = (0 : Int))) (List.take t v))))) = QC.who (mkQ (lL vtG (List.length (List.filter (fun (x : VT) => decide (voteP (rgs l) c x = (0 : Int))) (List.take t v))) (lC vtE vtZ (List.filter (fun (x : VT) => decide (voteP (rgs l) c x = (0 : Int))) (List.take t v))))) ∧ List.length (QC.sigs (mkQ (lL vtG (List.length (List.filter (fun (x : VT) => decide (voteP (rgs l) c x = (0 : Int))) (List.take t v))) (lC vtE vtZ (List.filter (fun (x : VT) => decide (voteP (rgs l) c x = (0 : Int))) (List.take t v)))))) = List.length (lL siG (List.length (QC.sigs (mkQ (lL vtG (List.length (List.filter (fun (x : VT) => decide (voteP (rgs l) c x = (0 : Int))) (List.take t v))) (lC vtE vtZ (List.filter (fun (x : VT) => decide (voteP (rgs l) c x = (0 : Int))) (List.take t v))))))) (lC siE siZ (QC.sigs (mkQ (lL vtG (List.length (List.filter (fun (x : VT) => decide (voteP (rgs l) c x = (0 : Int))) (List.take t v))) (lC vtE vtZ (List.filter (fun (x : VT) => decide (voteP (rgs l) c x = (0 : Int))) (List.take t v)))))))) ∧ (∀ (i : Nat), i < List.length (lL siG (List.length (QC.sigs (mkQ (lL vtG (List.length (List.filter (fun (x : VT) => decide (voteP (rgs l) c x = (0 : Int))) (List.take t v))) (lC vtE vtZ (List.filter (fun (x : VT) => decide (voteP (rgs l) c x = (0 : Int))) (List.take t v))))))) (lC siE siZ (QC.sigs (mkQ (lL vtG (List.length (List.filter (fun (x : VT) => decide (voteP (rgs l) c x = (0 : Int))) (List.take t v))) (lC vtE vtZ (List.filter (fun (x : VT) => decide (voteP (rgs l) c x = (0 : Int))) (List.take t v)))))))) → lC siE siZ (QC.sigs (mkQ (lL vtG (List.length (List.filter (fun (x : VT) => decide (voteP (rgs l) c x = (0 : Int))) (List.take t v))) (lC vtE vtZ (List.filter (fun (x : VT) => decide (voteP (rgs l) c x = (0 : Int))) (List.take t v)))))) i = lC siE siZ (lL siG (List.length (QC.sigs (mkQ (lL vtG (List.length (List.filter (fun (x : VT) => decide (voteP (rgs l) c x = (0 : Int))) (List.take t v))) (lC vtE vtZ (List.filter (fun (x : VT) => decide (voteP (rgs l) c x = (0 : Int))) (List.take t v))))))) (lC siE siZ (QC.sigs (mkQ (lL vtG (List.length (List.filter (fun (x : VT) => decide (voteP (rgs l) c x = (0 : Int))) (List.take t v))) (lC vtE vtZ (List.filter (fun (x : VT) => decide (voteP (rgs l) c x = (0 : Int))) (List.take t v)))))))) i) ∧ MpEq [AS.i IntKind.i64] (hasC (rgs l)) l5 (valC (rgs l)) l6 [] ∧ MpEq [AS.i IntKind.i64] (hasR (rgs l)) l7 (valR (rgs l)) l8 [] ∧ MpEq [AS.i IntKind.i64, AS.i IntKind.i64] (hasF (rgs l)) l9 (valF (rgs l)) l10 [] ∧ MpEq [AS.i IntKind.i64, AS.i IntKind.i64, AS.s] (hasM (rgs l)) l11 (valM (rgs l)) l12 [] ∧ (12 : Int) = (12 : Int) ∧ (65536 : Int) = (65536 : Int) ∧ OkD (QC.blk (mkQ (lL vtG (List.length (List.filter (fun (x : VT) => decide (voteP (rgs l) c x = (0 : Int))) (List.take t v))) (lC vtE vtZ (List.filter (fun (x : VT) => decide (voteP (rgs l) c x = (0 : Int))) (List.take t v)))))) ∧ List.length (seatsP { ep := RC.ep c, mem := RC.mem c, seats := lL nuG l3 l4 } (QC.ch (mkQ (lL vtG (List.length (List.filter (fun (x : VT) => decide (voteP (rgs l) c x = (0 : Int))) (List.take t v))) (lC vtE vtZ (List.filter (fun (x : VT) => decide (voteP (rgs l) c x = (0 : Int))) (List.take t v))))))) < (1099511627776 : Nat) ∧ List.length (QC.who (mkQ (lL vtG (List.length (List.filter (fun (x : VT) => decide (voteP (rgs l) c x = (0 : Int))) (List.take t v))) (lC vtE vtZ (List.filter (fun (x : VT) => decide (voteP (rgs l) c x = (0 : Int))) (List.take t v)))))) < (1099511627776 : Nat) ∧ List.length (lL siG (List.length (QC.sigs (mkQ (lL vtG (List.length (List.filter (fun (x : VT) => decide (voteP (rgs l) c x = (0 : Int))) (List.take t v))) (lC vtE vtZ (List.filter (fun (x : VT) => decide (voteP (rgs l) c x = (0 : Int))) (List.take t v))))))) (lC siE siZ (QC.sigs (mkQ (lL vtG (List.length (List.filter (fun (x : VT) => decide (voteP (rgs l) c x = (0 : Int))) (List.take t v))) (lC vtE vtZ (List.filter (fun (x : VT) => decide (voteP (rgs l) c x = (0 : Int))) (List.take t v)))))))) < (1099511627776 : Nat) ∧ (∀ (kk : KK), AV.pure (valC (shS (ghS (rgs l))) kk) = true) ∧ (∀ (kk : KK), AV.pure (valR (shS (ghS (rgs l))) kk) = true) ∧ (∀ (kk : KK), AV.pure (valF (shS (ghS (rgs l))) kk) = true) ∧ (∀ (kk : KK), AV.pure (valM (shS (ghS (rgs l))) kk) = true) ∧ (qcP (shS (ghS (rgs l))) { ep := RC.ep c, mem := RC.mem c, seats := lL nuG l3 l4 } { ch := QC.ch (mkQ (lL vtG (List.length (List.filter (fun (x : VT) => decide (voteP (rgs l) c x = (0 : Int))) (List.take t v))) (lC vtE vtZ (List.filter (fun (x : VT) => decide (voteP (rgs l) c x = (0 : Int))) (List.take t v))))), ep := QC.ep (mkQ (lL vtG (List.length (List.filter (fun (x : VT) => decide (voteP (rgs l) c x = (0 : Int))) (List.take t v))) (lC vtE vtZ (List.filter (fun (x : VT) => decide (voteP (rgs l) c x = (0 : Int))) (List.take t v))))), vw := QC.vw (mkQ (lL vtG (List.length (List.filter (fun (x : VT) => decide (voteP (rgs l) c x = (0 : Int))) (List.take t v))) (lC vtE vtZ (List.filter (fun (x : VT) => decide (voteP (rgs l) c x = (0 : Int))) (List.take t v))))), blk := QC.blk (mkQ (lL vtG (List.length (List.filter (fun (x : VT) => decide (voteP (rgs l) c x = (0 : Int))) (List.take t v))) (lC vtE vtZ (List.filter (fun (x : VT) => decide (voteP (rgs l) c x = (0 : Int))) (List.take t v))))), who := QC.who (mkQ (lL vtG (List.length (List.filter (fun (x : VT) => decide (voteP (rgs l) c x = (0 : Int))) (List.take t v))) (lC vtE vtZ (List.filter (fun (x : VT) => decide (voteP (rgs l) c x = (0 : Int))) (List.take t v))))), sigs := lL siG (List.length (QC.sigs (mkQ (lL vtG (List.length (List.filter (fun (x : VT) => decide (voteP (rgs l) c x = (0 : Int))) (List.take t v))) (lC vtE vtZ (List.filter (fun (x : VT) => decide (voteP (rgs l) c x = (0 : Int))) (List.take t v))))))) (lC siE siZ (QC.sigs (mkQ (lL vtG (List.length (List.filter (fun (x : VT) => decide (voteP (rgs l) c x = (0 : Int))) (List.take t v))) (lC vtE vtZ (List.filter (fun (x : VT) => decide (voteP (rgs l) c x = (0 : Int))) (List.take t v))))))) } == (0 : Int)) = true ∧ True))) (by kernel_rfl) (by
    conv => zeta
    obtain ⟨hl, hs, hv, ho, hS, _⟩ := hp
    have hlim : lim = 68719476736 := rfl
    simp only [Int.toNat_natCast, true_and, and_true, implies_true, lL_self nuG_nuE, lL_self siG_siE, lL_self vtG_vtE, rcEta, qcEta, vtEta, siEta, lL_self sgD_sgE, shS_ghS, mpC, mpR, mpF, mpM]
    have vE : ∀ x : VT, (⟨x.ch, x.ep, x.vw, x.blk, x.who, x.sig⟩ : VT) = x := fun _ => rfl
    refine ⟨hl, hs, ⟨0, rfl, rfl, fun i hi => absurd hi (by simp), Nat.zero_le _⟩, fun t ht => brI (fun h => ?_) (fun h => ?_)⟩
    · have h : (t : Int) < (v.length : Int) := of_decide_eq_true h
      have h : t < v.length := by omega
      have hm := get_v h
      have w1 : IntKind.wrap .i64 ((t : Int) + 1) = ((t + 1 : Nat) : Int) := by rw [wi _ (by omega) (by omega)]; omega
      have tl := take_le (l := v) (p := fun x => decide (voteP (rgs l) c x = 0)) (t := t)
      rw [vE, w1]
      refine ⟨⟨by omega, by omega⟩, (ho _ hm).1, hS _, brI (fun h0 => ?_) (fun h0 => ?_)⟩
      · have h0 := eq_of_beq h0
        have e := take_snoc (p := fun x => decide (voteP (rgs l) c x = 0)) h (decide_eq_true h0)
        refine ⟨⟨by omega, by omega⟩, by omega, t + 1, rfl, by rw [e]; simp, fun i hi => ?_, by omega, by omega⟩
        rw [e]
        rw [e] at hi
        rw [List.length_append] at hi
        exact lC_snoc ((v.take t).filter fun x => decide (voteP (rgs l) c x = 0)) (v.getD t vtZ) rfl i hi
      · have h0 := ne_of_beq_false h0
        have e := take_skip (p := fun x => decide (voteP (rgs l) c x = 0)) h (decide_eq_false h0)
        exact ⟨t + 1, rfl, by rw [e], fun i hi => by rw [e], by omega, by omega⟩
    · have h : ¬ (t : Int) < (v.length : Int) := of_decide_eq_false h
      obtain rfl : t = v.length := by omega
      rw [List.take_length]
      generalize hR : (v.filter fun x => decide (voteP (rgs l) c x = 0)) = R
      have hR1 : ∀ x ∈ R, voteP (rgs l) c x = 0 ∧ OkD x.blk := fun x hx => by
        rw [← hR] at hx
        obtain ⟨h1, h2⟩ := List.mem_filter.1 hx
        exact ⟨of_decide_eq_true h2, (ho _ h1).1⟩
      have hR2 : R.length ≤ v.length := by rw [← hR]; exact List.length_filter_le _ _
      obtain ⟨k1, k2⟩ := mk_lensJ R
      refine ⟨by omega, fun i hi => rfl, brI (fun _ => trivial) (fun h0 => ?_)⟩
      have h0 : mkE R = 0 := by simpa using h0
      exact ⟨mk_blkJ fun x hx => (hR1 x hx).2, hS _, by omega, by omega, fun _ => rfl, fun _ => rfl, fun _ => rfl, fun _ => rfl, by rw [made_right (fun x hx => (hR1 x hx).1) h0]; rfl⟩))
instance : Inhabited QC := ⟨qcZ0⟩
theorem qc_few {L : List SG} {c : RC} {q f : QC} {i : Nat} (h : qcP L c q = 0) (hi : i < q.who.length) (hf : f = { q with who := q.who.eraseIdx i, sigs := q.sigs.eraseIdx i }) : qcP L c f = if f.who.length < 3 then 15 else 0 := by
  obtain ⟨h1, h2, h3, h4, h5, h6⟩ := qc_of h
  subst hf
  refine qc_right h1 ?_ ?_ ?_
  · dsimp only; rw [List.length_eraseIdx_of_lt hi, List.length_eraseIdx_of_lt (h2 ▸ hi), h2]
  · exact h3.sublist (List.eraseIdx_sublist _ _)
  · intro j hj
    dsimp only at hj ⊢
    rw [List.length_eraseIdx_of_lt hi] at hj
    rw [List.getD_eq_getElem?_getD, List.getD_eq_getElem?_getD, List.getElem?_eraseIdx, List.getElem?_eraseIdx]
    split
    · rw [← List.getD_eq_getElem?_getD, ← List.getD_eq_getElem?_getD]; exact h6 j (by omega)
    · rw [← List.getD_eq_getElem?_getD, ← List.getD_eq_getElem?_getD]; exact h6 (j + 1) (by omega)
theorem qc_twice {L : List SG} {c : RC} {q : QC} {s : SI} (h : qcP L c q = 0) : qcP L c { q with who := q.who ++ [q.who.getD (q.who.length - 1) 0], sigs := q.sigs ++ [s] } = 14 := by
  obtain ⟨h1, h2, h3, h4, h5, h6⟩ := qc_of h
  unfold qcP
  dsimp only
  rw [if_neg (by rw [h1]; decide), if_neg (by simp [h2]), if_pos]
  intro hz
  have := scan_zero hz q.who.length (by simp)
  unfold whoE at this
  split at this
  · cases this
  · rename_i h7
    apply h7
    left
    refine ⟨by omega, ?_⟩
    have e1 : (q.who ++ [q.who.getD (q.who.length - 1) 0]).getD q.who.length 0 = q.who.getD (q.who.length - 1) 0 := by
      rw [List.getD_eq_getElem?_getD, List.getElem?_append_right (Nat.le_refl _), Nat.sub_self]; rfl
    have e2 : (q.who ++ [q.who.getD (q.who.length - 1) 0]).getD (q.who.length - 1) 0 = q.who.getD (q.who.length - 1) 0 := by
      rw [List.getD_eq_getElem?_getD, List.getElem?_append_left (by omega), ← List.getD_eq_getElem?_getD]
    rw [e1, e2]
    exact Int.le_refl _
theorem lC_erase {S : List SI} {n : Nat} (h : n < S.length) : ∀ i, i < (S.eraseIdx n).length → catF n (catF 0 (fun i => List.getD ([] : List (List DC)) i []) (lC siE siZ S)) (fun i => lC siE siZ S (n + 1 + i)) i = lC siE siZ (S.eraseIdx n) i := fun i hi => by
  show _ = siE ((S.eraseIdx n).getD i siZ)
  rw [List.getD_eq_getElem?_getD, List.getElem?_eraseIdx]
  rcases Nat.lt_or_ge i n with h1 | h1
  · rw [catF_lt h1, catF_ge (Nat.zero_le _), if_pos h1]; show siE (S.getD i siZ) = _; rw [List.getD_eq_getElem?_getD]
  · rw [catF_ge h1, if_neg (by omega)]; show siE (S.getD (n + 1 + (i - n)) siZ) = _; rw [List.getD_eq_getElem?_getD, show n + 1 + (i - n) = i + 1 by omega]
theorem rem_lt {p : Int} {n : Nat} (h : 0 < n) (hn : n < 4294967296) : ∃ i : Nat, i < n ∧ IntKind.wrap .i64 (Int.tmod (IntKind.wrap .u64 p) (IntKind.wrap .u64 (n : Int))) = (i : Int) ∧ IntKind.wrap .u64 (n : Int) ≠ 0 := by
  have e : IntKind.wrap .u64 (n : Int) = n := by rw [IntKind.wrap_u64]; omega
  have h0 : 0 ≤ IntKind.wrap .u64 p := by rw [IntKind.wrap_u64]; omega
  rw [e]
  have h1 := Int.tmod_lt_of_pos (IntKind.wrap .u64 p) (show (0 : Int) < n by omega)
  have h2 := Int.tmod_nonneg (n : Int) h0
  refine ⟨((IntKind.wrap .u64 p).tmod n).toNat, by omega, ?_, by omega⟩
  rw [wi _ (by omega) (by omega)]; omega
def RtQ (L : List SG) (c : RC) (n : Nat) (q : QC) : Prop := qcP L c q = 0 ∧ OkD q.blk ∧ q.who.length ≤ n
def FwQ (q f : QC) : Prop := ∃ i, i < q.who.length ∧ f = { q with who := q.who.eraseIdx i, sigs := q.sigs.eraseIdx i }
noncomputable def anL06CertFewer (l : List SG) (c : RC) (v : List VT) (p : Int) : Nat → List Nat → List Ann := fun bk_ gs_ => match bk_, gs_ with
    | 0, _ => [{ τ := Nat, t0 := (default : Nat), J := fun i => i ≤ v.length, m := fun i => v.length - i, l := fun i => [(2, .s (.a (.d (.sl 69 v.length (lC vtE vtZ v))))), (3, .s (.a (.d (.v (.int .i64 p))))), (5, .s (.a (.lp 406 0))), (9, .s (.a (.lp 404 0))), (11, .s (.a (.rw 407))), (12, eI .i64 (i : Int))], H := fun i => [(400, .mp 107 false [.i .i64] (hasC (rgs l)) (valC (rgs l)) [] (ghS (rgs l))), (401, .mp 106 false [.i .i64] (hasR (rgs l)) (valR (rgs l)) [] (ghS (rgs l))), (402, .mp 105 true [.i .i64, .i .i64] (hasF (rgs l)) (valF (rgs l)) [] (ghS (rgs l))), (403, .mp 104 true [.i .i64, .i .i64, .s] (hasM (rgs l)) (valM (rgs l)) [] (ghS (rgs l))), (404, .cells [.one (.d (.v (.int .i64 (12)))), .one (.d (.v (.int .i64 (65536)))), .one (.mp 403), .one (.mp 402), .one (.mp 401), .one (.mp 400)] 109), (406, .cells [.one (.d (.v (.int .i64 (c).ep))), .one (.d (.si .i64 (c).mem)), .one (.d (.sl 1 ((c).seats).length (lC nuE [] ((c).seats))))] 26), (407, .row (.st 69 ((v.take i).filter fun x => decide (voteP (rgs l) c x = 0)).length (lC vtE vtZ ((v.take i).filter fun x => decide (voteP (rgs l) c x = 0)))) 49)] }]
    | 1013, _ => [{ τ := QC, t0 := (default : QC), J := fun q => RtQ (rgs l) c v.length q, m := fun _ => 0, l := fun q => [(5, .s (.a (.lp 406 0))), (9, .s (.a (.lp 404 0))), (3, .s (.a (.d (.v (.int .i64 p))))), (13, .s (.a (.lp 408 0)))], H := fun q => [(400, .mp 107 false [.i .i64] (hasC (rgs l)) (valC (rgs l)) [] (ghS (rgs l))), (401, .mp 106 false [.i .i64] (hasR (rgs l)) (valR (rgs l)) [] (ghS (rgs l))), (402, .mp 105 true [.i .i64, .i .i64] (hasF (rgs l)) (valF (rgs l)) [] (ghS (rgs l))), (403, .mp 104 true [.i .i64, .i .i64, .s] (hasM (rgs l)) (valM (rgs l)) [] (ghS (rgs l))), (404, .cells [.one (.d (.v (.int .i64 (12)))), .one (.d (.v (.int .i64 (65536)))), .one (.mp 403), .one (.mp 402), .one (.mp 401), .one (.mp 400)] 109), (406, .cells [.one (.d (.v (.int .i64 (c).ep))), .one (.d (.si .i64 (c).mem)), .one (.d (.sl 1 ((c).seats).length (lC nuE [] ((c).seats))))] 26), (408, .cells [.one (.d (.v (.int .i64 (q).ch))), .one (.d (.v (.int .i64 (q).ep))), .one (.d (.v (.int .i64 (q).vw))), .ints .u8 32 (q).blk, .one (.d (.si .i64 (q).who)), .one (.d (.sl 33 ((q).sigs).length (lC siE siZ ((q).sigs))))] 31)] }]
    | 1014, _ => [{ τ := QC × Nat, t0 := (default : QC × Nat), J := fun q => RtQ (rgs l) c v.length q.1 ∧ q.2 < q.1.who.length, m := fun _ => 0, l := fun q => [(5, .s (.a (.lp 406 0))), (9, .s (.a (.lp 404 0))), (13, .s (.a (.lp 408 0))), (15, eI .i64 (q.2 : Int))], H := fun q => [(400, .mp 107 false [.i .i64] (hasC (rgs l)) (valC (rgs l)) [] (ghS (rgs l))), (401, .mp 106 false [.i .i64] (hasR (rgs l)) (valR (rgs l)) [] (ghS (rgs l))), (402, .mp 105 true [.i .i64, .i .i64] (hasF (rgs l)) (valF (rgs l)) [] (ghS (rgs l))), (403, .mp 104 true [.i .i64, .i .i64, .s] (hasM (rgs l)) (valM (rgs l)) [] (ghS (rgs l))), (404, .cells [.one (.d (.v (.int .i64 (12)))), .one (.d (.v (.int .i64 (65536)))), .one (.mp 403), .one (.mp 402), .one (.mp 401), .one (.mp 400)] 109), (406, .cells [.one (.d (.v (.int .i64 (c).ep))), .one (.d (.si .i64 (c).mem)), .one (.d (.sl 1 ((c).seats).length (lC nuE [] ((c).seats))))] 26), (408, .cells [.one (.d (.v (.int .i64 (q.1).ch))), .one (.d (.v (.int .i64 (q.1).ep))), .one (.d (.v (.int .i64 (q.1).vw))), .ints .u8 32 (q.1).blk, .one (.d (.si .i64 (q.1).who)), .one (.d (.sl 33 ((q.1).sigs).length (lC siE siZ ((q.1).sigs))))] 31)] }]
    | 1017, _ => [{ τ := QC × QC, t0 := (default : QC × QC), J := fun q => RtQ (rgs l) c v.length q.1 ∧ FwQ q.1 q.2, m := fun _ => 0, l := fun q => [(5, .s (.a (.lp 406 0))), (9, .s (.a (.lp 404 0))), (13, .s (.a (.lp 408 0))), (16, .s (.a (.lp 409 0)))], H := fun q => [(400, .mp 107 false [.i .i64] (hasC (rgs l)) (valC (rgs l)) [] (ghS (rgs l))), (401, .mp 106 false [.i .i64] (hasR (rgs l)) (valR (rgs l)) [] (ghS (rgs l))), (402, .mp 105 true [.i .i64, .i .i64] (hasF (rgs l)) (valF (rgs l)) [] (ghS (rgs l))), (403, .mp 104 true [.i .i64, .i .i64, .s] (hasM (rgs l)) (valM (rgs l)) [] (ghS (rgs l))), (404, .cells [.one (.d (.v (.int .i64 (12)))), .one (.d (.v (.int .i64 (65536)))), .one (.mp 403), .one (.mp 402), .one (.mp 401), .one (.mp 400)] 109), (406, .cells [.one (.d (.v (.int .i64 (c).ep))), .one (.d (.si .i64 (c).mem)), .one (.d (.sl 1 ((c).seats).length (lC nuE [] ((c).seats))))] 26), (408, .cells [.one (.d (.v (.int .i64 (q.1).ch))), .one (.d (.v (.int .i64 (q.1).ep))), .one (.d (.v (.int .i64 (q.1).vw))), .ints .u8 32 (q.1).blk, .one (.d (.si .i64 (q.1).who)), .one (.d (.sl 33 ((q.1).sigs).length (lC siE siZ ((q.1).sigs))))] 31), (409, .cells [.one (.d (.v (.int .i64 (q.2).ch))), .one (.d (.v (.int .i64 (q.2).ep))), .one (.d (.v (.int .i64 (q.2).vw))), .ints .u8 32 (q.2).blk, .one (.d (.si .i64 (q.2).who)), .one (.d (.sl 33 ((q.2).sigs).length (lC siE siZ ((q.2).sigs))))] 31)] }]
    | 1020, _ => [{ τ := QC × QC × Int, t0 := (default : QC × QC × Int), J := fun q => RtQ (rgs l) c v.length q.1 ∧ FwQ q.1 q.2.1 ∧ q.2.2 = if q.2.1.who.length < 3 then 15 else 0, m := fun _ => 0, l := fun q => [(5, .s (.a (.lp 406 0))), (9, .s (.a (.lp 404 0))), (13, .s (.a (.lp 408 0))), (16, .s (.a (.lp 409 0))), (17, eI .i64 q.2.2)], H := fun q => [(400, .mp 107 false [.i .i64] (hasC (rgs l)) (valC (rgs l)) [] (ghS (rgs l))), (401, .mp 106 false [.i .i64] (hasR (rgs l)) (valR (rgs l)) [] (ghS (rgs l))), (402, .mp 105 true [.i .i64, .i .i64] (hasF (rgs l)) (valF (rgs l)) [] (ghS (rgs l))), (403, .mp 104 true [.i .i64, .i .i64, .s] (hasM (rgs l)) (valM (rgs l)) [] (ghS (rgs l))), (404, .cells [.one (.d (.v (.int .i64 (12)))), .one (.d (.v (.int .i64 (65536)))), .one (.mp 403), .one (.mp 402), .one (.mp 401), .one (.mp 400)] 109), (406, .cells [.one (.d (.v (.int .i64 (c).ep))), .one (.d (.si .i64 (c).mem)), .one (.d (.sl 1 ((c).seats).length (lC nuE [] ((c).seats))))] 26), (408, .cells [.one (.d (.v (.int .i64 (q.1).ch))), .one (.d (.v (.int .i64 (q.1).ep))), .one (.d (.v (.int .i64 (q.1).vw))), .ints .u8 32 (q.1).blk, .one (.d (.si .i64 (q.1).who)), .one (.d (.sl 33 ((q.1).sigs).length (lC siE siZ ((q.1).sigs))))] 31), (409, .cells [.one (.d (.v (.int .i64 (q.2.1).ch))), .one (.d (.v (.int .i64 (q.2.1).ep))), .one (.d (.v (.int .i64 (q.2.1).vw))), .ints .u8 32 (q.2.1).blk, .one (.d (.si .i64 (q.2.1).who)), .one (.d (.sl 33 ((q.2.1).sigs).length (lC siE siZ ((q.2.1).sigs))))] 31)] }]
    | 1023, _ => [{ τ := QC × QC × Int × QC, t0 := (default : QC × QC × Int × QC), J := fun q => RtQ (rgs l) c v.length q.1 ∧ FwQ q.1 q.2.1 ∧ q.2.2.1 = (if q.2.1.who.length < 3 then 15 else 0) ∧ ∃ s, q.2.2.2 = { q.1 with who := q.1.who ++ [q.1.who.getD (q.1.who.length - 1) 0], sigs := q.1.sigs ++ [s] }, m := fun _ => 0, l := fun q => [(5, .s (.a (.lp 406 0))), (9, .s (.a (.lp 404 0))), (16, .s (.a (.lp 409 0))), (17, eI .i64 q.2.2.1), (18, .s (.a (.lp 410 0)))], H := fun q => [(400, .mp 107 false [.i .i64] (hasC (rgs l)) (valC (rgs l)) [] (ghS (rgs l))), (401, .mp 106 false [.i .i64] (hasR (rgs l)) (valR (rgs l)) [] (ghS (rgs l))), (402, .mp 105 true [.i .i64, .i .i64] (hasF (rgs l)) (valF (rgs l)) [] (ghS (rgs l))), (403, .mp 104 true [.i .i64, .i .i64, .s] (hasM (rgs l)) (valM (rgs l)) [] (ghS (rgs l))), (404, .cells [.one (.d (.v (.int .i64 (12)))), .one (.d (.v (.int .i64 (65536)))), .one (.mp 403), .one (.mp 402), .one (.mp 401), .one (.mp 400)] 109), (406, .cells [.one (.d (.v (.int .i64 (c).ep))), .one (.d (.si .i64 (c).mem)), .one (.d (.sl 1 ((c).seats).length (lC nuE [] ((c).seats))))] 26), (409, .cells [.one (.d (.v (.int .i64 (q.2.1).ch))), .one (.d (.v (.int .i64 (q.2.1).ep))), .one (.d (.v (.int .i64 (q.2.1).vw))), .ints .u8 32 (q.2.1).blk, .one (.d (.si .i64 (q.2.1).who)), .one (.d (.sl 33 ((q.2.1).sigs).length (lC siE siZ ((q.2.1).sigs))))] 31), (410, .cells [.one (.d (.v (.int .i64 (q.2.2.2).ch))), .one (.d (.v (.int .i64 (q.2.2.2).ep))), .one (.d (.v (.int .i64 (q.2.2.2).vw))), .ints .u8 32 (q.2.2.2).blk, .one (.d (.si .i64 (q.2.2.2).who)), .one (.d (.sl 33 ((q.2.2.2).sigs).length (lC siE siZ ((q.2.2.2).sigs))))] 31)] }]
    | _, _ => []
theorem okL06CertFewer (l : List SG) (c : RC) (v : List VT) (p : Int) (hp : allP [l.length < 1073741824, ∀ x ∈ l, x.2.2.size + 300 ≤ lim, v.length < 67108864, ∀ x ∈ v, OkD x.blk ∧ x.sig.2.length = 32, ∀ n, (seatsP c n).length < 1099511627776, -9223372036854775808 ≤ p, p < 9223372036854775808]) : CallsOk Tryd.prog Gs 7 [.a (.d (.sl 3 l.length (lC sgE sgZ l))), .agg [.one (.d (.v (.int .i64 (c).ep))), .one (.d (.si .i64 (c).mem)), .one (.d (.sl 1 ((c).seats).length (lC nuE [] ((c).seats))))], .a (.d (.sl 69 v.length (lC vtE vtZ v))), .a (.d (.v (.int .i64 p)))] [] (eB true) [] :=
  ok_of (ann := anL06CertFewer l c v p) ctok_L06awake mixed Tryd.func7 (by kernel_rfl) (of_nf (p := let l27 := (valM (shS (ghS (rgs l)))); let l26 := (hasM (shS (ghS (rgs l)))); let l25 := (valF (shS (ghS (rgs l)))); let l24 := (hasF (shS (ghS (rgs l)))); let l23 := (valR (shS (ghS (rgs l)))); let l22 := (hasR (shS (ghS (rgs l)))); let l21 := (valC (shS (ghS (rgs l)))); let l20 := (hasC (shS (ghS (rgs l)))); let l18 := (lC nuE [] (RC.seats c)); let l15 := (List.length (RC.seats c)); let l9 := (shS (ghS (shS (ghS (rgs l))))); let l3 := (lL sgD (List.length l) (lC sgE sgZ l)); let l2 := (lL nuG l15 l18); List.length l = List.length l3 ∧ (∀ (i : Nat), i < List.length l3 → lC sgE sgZ l i = lC sgE sgZ l3 i) ∧ List.length l3 < (1073741824 : Nat) ∧ (∀ (x : SG), x ∈ lL sgD (List.length l) (lC sgE sgZ l) → ByteArray.size (Prod.snd (Prod.snd x)) + (300 : Nat) ≤ lim) ∧ (∃ (t : Nat), List.length v = List.length v ∧ (∀ (i : Nat), i < List.length v → lC vtE vtZ v i = lC vtE vtZ v i) ∧ p = p ∧ (0 : Int) = (↑t : Int) ∧ MpEq [AS.i IntKind.i64] (hasC (rgs l3)) (hasC (rgs l)) (valC (rgs l3)) (valC (rgs l)) [] ∧ MpEq [AS.i IntKind.i64] (hasR (rgs l3)) (hasR (rgs l)) (valR (rgs l3)) (valR (rgs l)) [] ∧ MpEq [AS.i IntKind.i64, AS.i IntKind.i64] (hasF (rgs l3)) (hasF (rgs l)) (valF (rgs l3)) (valF (rgs l)) [] ∧ MpEq [AS.i IntKind.i64, AS.i IntKind.i64, AS.s] (hasM (rgs l3)) (hasM (rgs l)) (valM (rgs l3)) (valM (rgs l)) [] ∧ (12 : Int) = (12 : Int) ∧ (65536 : Int) = (65536 : Int) ∧ RC.ep c = RC.ep c ∧ RC.mem c = RC.mem c ∧ List.length (RC.seats c) = List.length (RC.seats c) ∧ (∀ (i : Nat), i < List.length (RC.seats c) → lC nuE [] (RC.seats c) i = lC nuE [] (RC.seats c) i) ∧ (0 : Nat) = List.length (List.filter (fun (x : VT) => decide (voteP (rgs l) c x = (0 : Int))) (List.take t v)) ∧ (∀ (i : Nat), i < List.length (List.filter (fun (x : VT) => decide (voteP (rgs l) c x = (0 : Int))) (List.take t v)) → (List.getD ([] : List (List DC)) i []) = lC vtE vtZ (List.filter (fun (x : VT) => decide (voteP (rgs l) c x = (0 : Int))) (List.take t v)) i) ∧ t ≤ List.length v ∧ True) ∧ ∀ (t : Nat), let l29 := ((0 : Int) ≤ (↑t : Int) ∧ (↑t : Int) < (↑(List.length v) : Int)); let l1 := (List.getD v (Int.toNat (↑t : Int)) vtZ); t ≤ List.length v → brP (decide ((↑t : Int) < (↑(List.length v) : Int))) (l29 ∧ RC.ep c = RC.ep c ∧ RC.mem c = RC.mem c ∧ List.length (RC.seats c) = List.length l2 ∧ (∀ (i : Nat), i < List.length l2 → lC nuE [] (RC.seats c) i = lC nuE [] l2 i) ∧ VT.ch l1 = VT.ch l1 ∧ VT.ep l1 = VT.ep l1 ∧ VT.vw l1 = VT.vw l1 ∧ VT.blk l1 = VT.blk l1 ∧ VT.who l1 = VT.who l1 ∧ Prod.fst (VT.sig l1) = Prod.fst (VT.sig l1) ∧ Prod.snd (VT.sig l1) = Prod.snd (VT.sig l1) ∧ MpEq [AS.i IntKind.i64] (hasC (rgs l)) l20 (valC (rgs l)) l21 [] ∧ MpEq [AS.i IntKind.i64] (hasR (rgs l)) l22 (valR (rgs l)) l23 [] ∧ MpEq [AS.i IntKind.i64, AS.i IntKind.i64] (hasF (rgs l)) l24 (valF (rgs l)) l25 [] ∧ MpEq [AS.i IntKind.i64, AS.i IntKind.i64, AS.s] (hasM (rgs l)) l26 (valM (rgs l)) l27 [] ∧ (12 : Int) = (12 : Int) ∧ (65536 : Int) = (65536 : Int) ∧ OkD (VT.blk l1) ∧ List.length (seatsP { ep := RC.ep c, mem := RC.mem c, seats := lL nuG l15 l18 } (VT.ch l1)) < (1099511627776 : Nat) ∧ brP (voteP (shS (ghS (rgs l))) { ep := RC.ep c, mem := RC.mem c, seats := lL nuG l15 l18 } { ch := VT.ch l1, ep := VT.ep l1, vw := VT.vw l1, blk := VT.blk l1, who := VT.who l1, sig := (Prod.fst (VT.sig l1), Prod.snd (VT.sig l1)) } == (0 : Int)) (l29 ∧ (List.length (List.filter (fun (x : VT) => decide (voteP (rgs l) c x = (0 : Int))) (List.take t v))) + (1 : Nat) ≤ lim ∧ ∃ (t_1 : Nat), List.length v = List.length v ∧ (∀ (i : Nat), i < List.length v → lC vtE vtZ v i = lC vtE vtZ v i) ∧ p = p ∧ IntKind.wrap IntKind.i64 ((↑t : Int) + (1 : Int)) = (↑t_1 : Int) ∧ MpEq [AS.i IntKind.i64] l20 (hasC (rgs l)) l21 (valC (rgs l)) [] ∧ MpEq [AS.i IntKind.i64] l22 (hasR (rgs l)) l23 (valR (rgs l)) [] ∧ MpEq [AS.i IntKind.i64, AS.i IntKind.i64] l24 (hasF (rgs l)) l25 (valF (rgs l)) [] ∧ MpEq [AS.i IntKind.i64, AS.i IntKind.i64, AS.s] l26 (hasM (rgs l)) l27 (valM (rgs l)) [] ∧ (12 : Int) = (12 : Int) ∧ (65536 : Int) = (65536 : Int) ∧ RC.ep c = RC.ep c ∧ RC.mem c = RC.mem c ∧ List.length (RC.seats c) = List.length (RC.seats c) ∧ (∀ (i : Nat), i < List.length (RC.seats c) → lC nuE [] (RC.seats c) i = lC nuE [] (RC.seats c) i) ∧ List.length (List.filter (fun (x : VT) => decide (voteP (rgs l) c x = (0 : Int))) (List.take t v)) + (1 : Nat) = List.length (List.filter (fun (x : VT) => decide (voteP (rgs l) c x = (0 : Int))) (List.take t_1 v)) ∧ (∀ (i : Nat), i < List.length (List.filter (fun (x : VT) => decide (voteP (rgs l) c x = (0 : Int))) (List.take t_1 v)) → catF (List.length (List.filter (fun (x : VT) => decide (voteP (rgs l) c x = (0 : Int))) (List.take t v))) (lC vtE vtZ (List.filter (fun (x : VT) => decide (voteP (rgs l) c x = (0 : Int))) (List.take t v))) (fun (i : Nat) => List.getD [(vtE l1)] i []) i = lC vtE vtZ (List.filter (fun (x : VT) => decide (voteP (rgs l) c x = (0 : Int))) (List.take t_1 v)) i) ∧ t_1 ≤ List.length v ∧ List.length v - t_1 < List.length v - t ∧ True) (∃ (t_1 : Nat), List.length v = List.length v ∧ (∀ (i : Nat), i < List.length v → lC vtE vtZ v i = lC vtE vtZ v i) ∧ p = p ∧ IntKind.wrap IntKind.i64 ((↑t : Int) + (1 : Int)) = (↑t_1 : Int) ∧ MpEq [AS.i IntKind.i64] l20 (hasC (rgs l)) l21 (valC (rgs l)) [] ∧ MpEq [AS.i IntKind.i64] l22 (hasR (rgs l)) l23 (valR (rgs l)) [] ∧ MpEq [AS.i IntKind.i64, AS.i IntKind.i64] l24 (hasF (rgs l)) l25 (valF (rgs l)) [] ∧ MpEq [AS.i IntKind.i64, AS.i IntKind.i64, AS.s] l26 (hasM (rgs l)) l27 (valM (rgs l)) [] ∧ (12 : Int) = (12 : Int) ∧ (65536 : Int) = (65536 : Int) ∧ RC.ep c = RC.ep c ∧ RC.mem c = RC.mem c ∧ List.length (RC.seats c) = List.length (RC.seats c) ∧ (∀ (i : Nat), i < List.length (RC.seats c) → lC nuE [] (RC.seats c) i = lC nuE [] (RC.seats c) i) ∧ List.length (List.filter (fun (x : VT) => decide (voteP (rgs l) c x = (0 : Int))) (List.take t v)) = List.length (List.filter (fun (x : VT) => decide (voteP (rgs l) c x = (0 : Int))) (List.take t_1 v)) ∧ (∀ (i : Nat), i < List.length (List.filter (fun (x : VT) => decide (voteP (rgs l) c x = (0 : Int))) (List.take t_1 v)) → lC vtE vtZ (List.filter (fun (x : VT) => decide (voteP (rgs l) c x = (0 : Int))) (List.take t v)) i = lC vtE vtZ (List.filter (fun (x : VT) => decide (voteP (rgs l) c x = (0 : Int))) (List.take t_1 v)) i) ∧ t_1 ≤ List.length v ∧ List.length v - t_1 < List.length v - t ∧ True)) (List.length (List.filter (fun (x : VT) => decide (voteP (rgs l) c x = (0 : Int))) (List.take t v)) = List.length (lL vtG (List.length (List.filter (fun (x : VT) => decide (voteP (rgs l) c x = (0 : Int))) (List.take t v))) (lC vtE vtZ (List.filter (fun (x : VT) => decide (voteP (rgs l) c x = (0 : Int))) (List.take t v)))) ∧ (∀ (i : Nat), i < List.length (lL vtG (List.length (List.filter (fun (x : VT) => decide (voteP (rgs l) c x = (0 : Int))) (List.take t v))) (lC vtE vtZ (List.filter (fun (x : VT) => decide (voteP (rgs l) c x = (0 : Int))) (List.take t v)))) → lC vtE vtZ (List.filter (fun (x : VT) => decide (voteP (rgs l) c x = (0 : Int))) (List.take t v)) i = lC vtE vtZ (lL vtG (List.length (List.filter (fun (x : VT) => decide (voteP (rgs l) c x = (0 : Int))) (List.take t v))) (lC vtE vtZ (List.filter (fun (x : VT) => decide (voteP (rgs l) c x = (0 : Int))) (List.take t v)))) i) ∧ List.length (lL vtG (List.length (List.filter (fun (x : VT) => decide (voteP (rgs l) c x = (0 : Int))) (List.take t v))) (lC vtE vtZ (List.filter (fun (x : VT) => decide (voteP (rgs l) c x = (0 : Int))) (List.take t v)))) < (1073741824 : Nat) ∧ (∀ (i : Nat), i < List.length (QC.sigs (mkQ (lL vtG (List.length (List.filter (fun (x : VT) => decide (voteP (rgs l) c x = (0 : Int))) (List.take t v))) (lC vtE vtZ (List.filter (fun (x : VT) => decide (voteP (rgs l) c x = (0 : Int))) (List.take t v)))))) → pureDs (lC siE siZ (QC.sigs (mkQ (lL vtG (List.length (List.filter (fun (x : VT) => decide (voteP (rgs l) c x = (0 : Int))) (List.take t v))) (lC vtE vtZ (List.filter (fun (x : VT) => decide (voteP (rgs l) c x = (0 : Int))) (List.take t v)))))) i) = true) ∧ brP (mkE (lL vtG (List.length (List.filter (fun (x : VT) => decide (voteP (rgs l) c x = (0 : Int))) (List.take t v))) (lC vtE vtZ (List.filter (fun (x : VT) => decide (voteP (rgs l) c x = (0 : Int))) (List.take t v)))) != (0 : Int)) (true = true ∧ True) (∃ (t_1 : QC), p = p ∧ MpEq [AS.i IntKind.i64] (hasC (rgs l)) (hasC (rgs l)) (valC (rgs l)) (valC (rgs l)) [] ∧ MpEq [AS.i IntKind.i64] (hasR (rgs l)) (hasR (rgs l)) (valR (rgs l)) (valR (rgs l)) [] ∧ MpEq [AS.i IntKind.i64, AS.i IntKind.i64] (hasF (rgs l)) (hasF (rgs l)) (valF (rgs l)) (valF (rgs l)) [] ∧ MpEq [AS.i IntKind.i64, AS.i IntKind.i64, AS.s] (hasM (rgs l)) (hasM (rgs l)) (valM (rgs l)) (valM (rgs l)) [] ∧ (12 : Int) = (12 : Int) ∧ (65536 : Int) = (65536 : Int) ∧ RC.ep c = RC.ep c ∧ RC.mem c = RC.mem c ∧ List.length (RC.seats c) = List.length (RC.seats c) ∧ (∀ (i : Nat), i < List.length (RC.seats c) → lC nuE [] (RC.seats c) i = lC nuE [] (RC.seats c) i) ∧ QC.ch (mkQ (lL vtG (List.length (List.filter (fun (x : VT) => decide (voteP (rgs l) c x = (0 : Int))) (List.take t v))) (lC vtE vtZ (List.filter (fun (x : VT) => decide (voteP (rgs l) c x = (0 : Int))) (List.take t v))))) = QC.ch t_1 ∧ QC.ep (mkQ (lL vtG (List.length (List.filter (fun (x : VT) => decide (voteP (rgs l) c x = (0 : Int))) (List.take t v))) (lC vtE vtZ (List.filter (fun (x : VT) => decide (voteP (rgs l) c x = (0 : Int))) (List.take t v))))) = QC.ep t_1 ∧ QC.vw (mkQ (lL vtG (List.length (List.filter (fun (x : VT) => decide (voteP (rgs l) c x = (0 : Int))) (List.take t v))) (lC vtE vtZ (List.filter (fun (x : VT) => decide (voteP (rgs l) c x = (0 : Int))) (List.take t v))))) = QC.vw t_1 ∧ QC.blk (mkQ (lL vtG (List.length (List.filter (fun (x : VT) => decide (voteP (rgs l) c x = (0 : Int))) (List.take t v))) (lC vtE vtZ (List.filter (fun (x : VT) => decide (voteP (rgs l) c x = (0 : Int))) (List.take t v))))) = QC.blk t_1 ∧ QC.who (mkQ (lL vtG (List.length (List.filter (fun (x : VT) => decide (voteP (rgs l) c x = (0 : Int))) (List.take t v))) (lC vtE vtZ (List.filter (fun (x : VT) => decide (voteP (rgs l) c x = (0 : Int))) (List.take t v))))) = QC.who t_1 ∧ List.length (QC.sigs (mkQ (lL vtG (List.length (List.filter (fun (x : VT) => decide (voteP (rgs l) c x = (0 : Int))) (List.take t v))) (lC vtE vtZ (List.filter (fun (x : VT) => decide (voteP (rgs l) c x = (0 : Int))) (List.take t v)))))) = List.length (QC.sigs t_1) ∧ (∀ (i : Nat), i < List.length (QC.sigs t_1) → lC siE siZ (QC.sigs (mkQ (lL vtG (List.length (List.filter (fun (x : VT) => decide (voteP (rgs l) c x = (0 : Int))) (List.take t v))) (lC vtE vtZ (List.filter (fun (x : VT) => decide (voteP (rgs l) c x = (0 : Int))) (List.take t v)))))) i = lC siE siZ (QC.sigs t_1) i) ∧ RtQ (rgs l) c (List.length v) t_1 ∧ True) ∧ ∀ (t : QC), RtQ (rgs l) c (List.length v) t → (IntKind.wrap IntKind.u64 (↑(List.length (QC.who t)) : Int) ≠ (0 : Int) ∧ ∃ (t_1 : QC × Nat), IntKind.wrap IntKind.i64 (Int.tmod (IntKind.wrap IntKind.u64 p) (IntKind.wrap IntKind.u64 (↑(List.length (QC.who t)) : Int))) = (↑(Prod.snd t_1) : Int) ∧ MpEq [AS.i IntKind.i64] (hasC (rgs l)) (hasC (rgs l)) (valC (rgs l)) (valC (rgs l)) [] ∧ MpEq [AS.i IntKind.i64] (hasR (rgs l)) (hasR (rgs l)) (valR (rgs l)) (valR (rgs l)) [] ∧ MpEq [AS.i IntKind.i64, AS.i IntKind.i64] (hasF (rgs l)) (hasF (rgs l)) (valF (rgs l)) (valF (rgs l)) [] ∧ MpEq [AS.i IntKind.i64, AS.i IntKind.i64, AS.s] (hasM (rgs l)) (hasM (rgs l)) (valM (rgs l)) (valM (rgs l)) [] ∧ (12 : Int) = (12 : Int) ∧ (65536 : Int) = (65536 : Int) ∧ RC.ep c = RC.ep c ∧ RC.mem c = RC.mem c ∧ List.length (RC.seats c) = List.length (RC.seats c) ∧ (∀ (i : Nat), i < List.length (RC.seats c) → lC nuE [] (RC.seats c) i = lC nuE [] (RC.seats c) i) ∧ QC.ch t = QC.ch (Prod.fst t_1) ∧ QC.ep t = QC.ep (Prod.fst t_1) ∧ QC.vw t = QC.vw (Prod.fst t_1) ∧ QC.blk t = QC.blk (Prod.fst t_1) ∧ QC.who t = QC.who (Prod.fst t_1) ∧ List.length (QC.sigs t) = List.length (QC.sigs (Prod.fst t_1)) ∧ (∀ (i : Nat), i < List.length (QC.sigs (Prod.fst t_1)) → lC siE siZ (QC.sigs t) i = lC siE siZ (QC.sigs (Prod.fst t_1)) i) ∧ (RtQ (rgs l) c (List.length v) (Prod.fst t_1) ∧ Prod.snd t_1 < List.length (QC.who (Prod.fst t_1))) ∧ True) ∧ ∀ (t : QC × Nat), let l17 := ((↑(Prod.snd t) : Int) + (1 : Int)); let l7 := (List.length (QC.sigs (Prod.fst t))); let l6 := (some (IntKind.i64, (↑(Prod.snd t) : Int))); let l5 := (some (IntKind.i64, IntKind.wrap IntKind.i64 l17)); RtQ (rgs l) c (List.length v) (Prod.fst t) ∧ Prod.snd t < List.length (QC.who (Prod.fst t)) → ((0 : Int) ≤ (↑(Prod.snd t) : Int) ∧ (↑(Prod.snd t) : Int) ≤ (↑(List.length (QC.who (Prod.fst t))) : Int)) ∧ Cont.len (Cont.ints IntKind.i64 []) + Cont.len (Cont.ints IntKind.i64 (cutL (QC.who (Prod.fst t)) none l6)) ≤ lim ∧ ((0 : Int) ≤ IntKind.wrap IntKind.i64 l17 ∧ IntKind.wrap IntKind.i64 l17 ≤ (↑(List.length (QC.who (Prod.fst t))) : Int)) ∧ Cont.len (Cont.ints IntKind.i64 ([] ++ cutL (QC.who (Prod.fst t)) none l6)) + Cont.len (Cont.ints IntKind.i64 (cutL (QC.who (Prod.fst t)) l5 none)) ≤ lim ∧ (((0 : Int) ≤ (↑(Prod.snd t) : Int) ∧ (↑(Prod.snd t) : Int) ≤ (↑l7 : Int)) ∧ (0 : Nat) + (lenN l7 none l6) ≤ lim ∧ ((0 : Int) ≤ IntKind.wrap IntKind.i64 l17 ∧ IntKind.wrap IntKind.i64 l17 ≤ (↑l7 : Int)) ∧ ((0 : Nat) + lenN l7 none l6) + (lenN l7 l5 none) ≤ lim ∧ ∃ (t_1 : QC × QC), MpEq [AS.i IntKind.i64] (hasC (rgs l)) (hasC (rgs l)) (valC (rgs l)) (valC (rgs l)) [] ∧ MpEq [AS.i IntKind.i64] (hasR (rgs l)) (hasR (rgs l)) (valR (rgs l)) (valR (rgs l)) [] ∧ MpEq [AS.i IntKind.i64, AS.i IntKind.i64] (hasF (rgs l)) (hasF (rgs l)) (valF (rgs l)) (valF (rgs l)) [] ∧ MpEq [AS.i IntKind.i64, AS.i IntKind.i64, AS.s] (hasM (rgs l)) (hasM (rgs l)) (valM (rgs l)) (valM (rgs l)) [] ∧ (12 : Int) = (12 : Int) ∧ (65536 : Int) = (65536 : Int) ∧ RC.ep c = RC.ep c ∧ RC.mem c = RC.mem c ∧ List.length (RC.seats c) = List.length (RC.seats c) ∧ (∀ (i : Nat), i < List.length (RC.seats c) → lC nuE [] (RC.seats c) i = lC nuE [] (RC.seats c) i) ∧ QC.ch (Prod.fst t) = QC.ch (Prod.fst t_1) ∧ QC.ep (Prod.fst t) = QC.ep (Prod.fst t_1) ∧ QC.vw (Prod.fst t) = QC.vw (Prod.fst t_1) ∧ QC.blk (Prod.fst t) = QC.blk (Prod.fst t_1) ∧ QC.who (Prod.fst t) = QC.who (Prod.fst t_1) ∧ List.length (QC.sigs (Prod.fst t)) = List.length (QC.sigs (Prod.fst t_1)) ∧ (∀ (i : Nat), i < List.length (QC.sigs (Prod.fst t_1)) → lC siE siZ (QC.sigs (Prod.fst t)) i = lC siE siZ (QC.sigs (Prod.fst t_1)) i) ∧ QC.ch (Prod.fst t) = QC.ch (Prod.snd t_1) ∧ QC.ep (Prod.fst t) = QC.ep (Prod.snd t_1) ∧ QC.vw (Prod.fst t) = QC.vw (Prod.snd t_1) ∧ QC.blk (Prod.fst t) = QC.blk (Prod.snd t_1) ∧ [] ++ cutL (QC.who (Prod.fst t)) none l6 ++ cutL (QC.who (Prod.fst t)) l5 none = QC.who (Prod.snd t_1) ∧ (0 : Nat) + lenN l7 none l6 + lenN l7 l5 none = List.length (QC.sigs (Prod.snd t_1)) ∧ (∀ (i : Nat), i < List.length (QC.sigs (Prod.snd t_1)) → catF ((0 : Nat) + lenN l7 none l6) (catF (0 : Nat) (fun (i : Nat) => (List.getD ([] : List (List DC)) i [])) (cutF (lC siE siZ (QC.sigs (Prod.fst t))) none)) (cutF (lC siE siZ (QC.sigs (Prod.fst t))) l5) i = lC siE siZ (QC.sigs (Prod.snd t_1)) i) ∧ (RtQ (rgs l) c (List.length v) (Prod.fst t_1) ∧ FwQ (Prod.fst t_1) (Prod.snd t_1)) ∧ True) ∧ ∀ (t : QC × QC), RtQ (rgs l) c (List.length v) (Prod.fst t) ∧ FwQ (Prod.fst t) (Prod.snd t) → brP (decide ((↑(List.length (QC.who (Prod.snd t))) : Int) < (3 : Int))) (∃ (t_1 : QC × QC × Int), let l10 := (Prod.fst (Prod.snd t_1)); (15 : Int) = Prod.snd (Prod.snd t_1) ∧ MpEq [AS.i IntKind.i64] (hasC (rgs l)) (hasC (rgs l)) (valC (rgs l)) (valC (rgs l)) [] ∧ MpEq [AS.i IntKind.i64] (hasR (rgs l)) (hasR (rgs l)) (valR (rgs l)) (valR (rgs l)) [] ∧ MpEq [AS.i IntKind.i64, AS.i IntKind.i64] (hasF (rgs l)) (hasF (rgs l)) (valF (rgs l)) (valF (rgs l)) [] ∧ MpEq [AS.i IntKind.i64, AS.i IntKind.i64, AS.s] (hasM (rgs l)) (hasM (rgs l)) (valM (rgs l)) (valM (rgs l)) [] ∧ (12 : Int) = (12 : Int) ∧ (65536 : Int) = (65536 : Int) ∧ RC.ep c = RC.ep c ∧ RC.mem c = RC.mem c ∧ List.length (RC.seats c) = List.length (RC.seats c) ∧ (∀ (i : Nat), i < List.length (RC.seats c) → lC nuE [] (RC.seats c) i = lC nuE [] (RC.seats c) i) ∧ QC.ch (Prod.fst t) = QC.ch (Prod.fst t_1) ∧ QC.ep (Prod.fst t) = QC.ep (Prod.fst t_1) ∧ QC.vw (Prod.fst t) = QC.vw (Prod.fst t_1) ∧ QC.blk (Prod.fst t) = QC.blk (Prod.fst t_1) ∧ QC.who (Prod.fst t) = QC.who (Prod.fst t_1) ∧ List.length (QC.sigs (Prod.fst t)) = List.length (QC.sigs (Prod.fst t_1)) ∧ (∀ (i : Nat), i < List.length (QC.sigs (Prod.fst t_1)) → lC siE siZ (QC.sigs (Prod.fst t)) i = lC siE siZ (QC.sigs (Prod.fst t_1)) i) ∧ QC.ch (Prod.snd t) = QC.ch l10 ∧ QC.ep (Prod.snd t) = QC.ep l10 ∧ QC.vw (Prod.snd t) = QC.vw l10 ∧ QC.blk (Prod.snd t) = QC.blk l10 ∧ QC.who (Prod.snd t) = QC.who l10 ∧ List.length (QC.sigs (Prod.snd t)) = List.length (QC.sigs l10) ∧ (∀ (i : Nat), i < List.length (QC.sigs l10) → lC siE siZ (QC.sigs (Prod.snd t)) i = lC siE siZ (QC.sigs l10) i) ∧ (RtQ (rgs l) c (List.length v) (Prod.fst t_1) ∧ FwQ (Prod.fst t_1) l10 ∧ Prod.snd (Prod.snd t_1) = if List.length (QC.who l10) < (3 : Nat) then (15 : Int) else (0 : Int)) ∧ True) (∃ (t_1 : QC × QC × Int), let l11 := (Prod.fst (Prod.snd t_1)); (0 : Int) = Prod.snd (Prod.snd t_1) ∧ MpEq [AS.i IntKind.i64] (hasC (rgs l)) (hasC (rgs l)) (valC (rgs l)) (valC (rgs l)) [] ∧ MpEq [AS.i IntKind.i64] (hasR (rgs l)) (hasR (rgs l)) (valR (rgs l)) (valR (rgs l)) [] ∧ MpEq [AS.i IntKind.i64, AS.i IntKind.i64] (hasF (rgs l)) (hasF (rgs l)) (valF (rgs l)) (valF (rgs l)) [] ∧ MpEq [AS.i IntKind.i64, AS.i IntKind.i64, AS.s] (hasM (rgs l)) (hasM (rgs l)) (valM (rgs l)) (valM (rgs l)) [] ∧ (12 : Int) = (12 : Int) ∧ (65536 : Int) = (65536 : Int) ∧ RC.ep c = RC.ep c ∧ RC.mem c = RC.mem c ∧ List.length (RC.seats c) = List.length (RC.seats c) ∧ (∀ (i : Nat), i < List.length (RC.seats c) → lC nuE [] (RC.seats c) i = lC nuE [] (RC.seats c) i) ∧ QC.ch (Prod.fst t) = QC.ch (Prod.fst t_1) ∧ QC.ep (Prod.fst t) = QC.ep (Prod.fst t_1) ∧ QC.vw (Prod.fst t) = QC.vw (Prod.fst t_1) ∧ QC.blk (Prod.fst t) = QC.blk (Prod.fst t_1) ∧ QC.who (Prod.fst t) = QC.who (Prod.fst t_1) ∧ List.length (QC.sigs (Prod.fst t)) = List.length (QC.sigs (Prod.fst t_1)) ∧ (∀ (i : Nat), i < List.length (QC.sigs (Prod.fst t_1)) → lC siE siZ (QC.sigs (Prod.fst t)) i = lC siE siZ (QC.sigs (Prod.fst t_1)) i) ∧ QC.ch (Prod.snd t) = QC.ch l11 ∧ QC.ep (Prod.snd t) = QC.ep l11 ∧ QC.vw (Prod.snd t) = QC.vw l11 ∧ QC.blk (Prod.snd t) = QC.blk l11 ∧ QC.who (Prod.snd t) = QC.who l11 ∧ List.length (QC.sigs (Prod.snd t)) = List.length (QC.sigs l11) ∧ (∀ (i : Nat), i < List.length (QC.sigs l11) → lC siE siZ (QC.sigs (Prod.snd t)) i = lC siE siZ (QC.sigs l11) i) ∧ (RtQ (rgs l) c (List.length v) (Prod.fst t_1) ∧ FwQ (Prod.fst t_1) l11 ∧ Prod.snd (Prod.snd t_1) = if List.length (QC.who l11) < (3 : Nat) then (15 : Int) else (0 : Int)) ∧ True) ∧ ∀ (t : QC × QC × Int), let l31 := ((0 : Nat) + List.length (QC.sigs (Prod.fst t))); let l16 := (List.length (QC.sigs (Prod.fst t))); let l30 := ((↑l16 : Int) - (1 : Int)); let l14 := ((↑(List.length (QC.who (Prod.fst t))) : Int) - (1 : Int)); (RtQ (rgs l) c (List.length v) (Prod.fst t) ∧ FwQ (Prod.fst t) (Prod.fst (Prod.snd t)) ∧ Prod.snd (Prod.snd t) = if List.length (QC.who (Prod.fst (Prod.snd t))) < (3 : Nat) then (15 : Int) else (0 : Int)) → Cont.len (Cont.ints IntKind.i64 []) + Cont.len (Cont.ints IntKind.i64 (QC.who (Prod.fst t))) ≤ lim ∧ ((0 : Int) ≤ IntKind.wrap IntKind.i64 l14 ∧ IntKind.wrap IntKind.i64 l14 < (↑(List.length (QC.who (Prod.fst t))) : Int)) ∧ Cont.len (Cont.ints IntKind.i64 ([] ++ QC.who (Prod.fst t))) + Cont.len (Cont.ints IntKind.i64 [List.getD (QC.who (Prod.fst t)) (Int.toNat (IntKind.wrap IntKind.i64 l14)) (0 : Int)]) ≤ lim ∧ ((0 : Nat) + l16 ≤ lim ∧ ((0 : Int) ≤ IntKind.wrap IntKind.i64 l30 ∧ IntKind.wrap IntKind.i64 l30 < (↑l16 : Int)) ∧ l31 + (1 : Nat) ≤ lim ∧ ∃ (t_1 : QC × QC × Int × QC), let l28 := (Prod.snd (Prod.snd t_1)); let l12 := (Prod.fst (Prod.snd t_1)); let l8 := (Prod.snd l28); Prod.snd (Prod.snd t) = Prod.fst l28 ∧ MpEq [AS.i IntKind.i64] (hasC (rgs l)) (hasC (rgs l)) (valC (rgs l)) (valC (rgs l)) [] ∧ MpEq [AS.i IntKind.i64] (hasR (rgs l)) (hasR (rgs l)) (valR (rgs l)) (valR (rgs l)) [] ∧ MpEq [AS.i IntKind.i64, AS.i IntKind.i64] (hasF (rgs l)) (hasF (rgs l)) (valF (rgs l)) (valF (rgs l)) [] ∧ MpEq [AS.i IntKind.i64, AS.i IntKind.i64, AS.s] (hasM (rgs l)) (hasM (rgs l)) (valM (rgs l)) (valM (rgs l)) [] ∧ (12 : Int) = (12 : Int) ∧ (65536 : Int) = (65536 : Int) ∧ RC.ep c = RC.ep c ∧ RC.mem c = RC.mem c ∧ List.length (RC.seats c) = List.length (RC.seats c) ∧ (∀ (i : Nat), i < List.length (RC.seats c) → lC nuE [] (RC.seats c) i = lC nuE [] (RC.seats c) i) ∧ QC.ch (Prod.fst (Prod.snd t)) = QC.ch l12 ∧ QC.ep (Prod.fst (Prod.snd t)) = QC.ep l12 ∧ QC.vw (Prod.fst (Prod.snd t)) = QC.vw l12 ∧ QC.blk (Prod.fst (Prod.snd t)) = QC.blk l12 ∧ QC.who (Prod.fst (Prod.snd t)) = QC.who l12 ∧ List.length (QC.sigs (Prod.fst (Prod.snd t))) = List.length (QC.sigs l12) ∧ (∀ (i : Nat), i < List.length (QC.sigs l12) → lC siE siZ (QC.sigs (Prod.fst (Prod.snd t))) i = lC siE siZ (QC.sigs l12) i) ∧ QC.ch (Prod.fst t) = QC.ch l8 ∧ QC.ep (Prod.fst t) = QC.ep l8 ∧ QC.vw (Prod.fst t) = QC.vw l8 ∧ QC.blk (Prod.fst t) = QC.blk l8 ∧ [] ++ QC.who (Prod.fst t) ++ [List.getD (QC.who (Prod.fst t)) (Int.toNat (IntKind.wrap IntKind.i64 l14)) (0 : Int)] = QC.who l8 ∧ (0 : Nat) + List.length (QC.sigs (Prod.fst t)) + (1 : Nat) = List.length (QC.sigs l8) ∧ (∀ (i : Nat), i < List.length (QC.sigs l8) → catF l31 (catF (0 : Nat) (fun (i : Nat) => (List.getD ([] : List (List DC)) i [])) (lC siE siZ (QC.sigs (Prod.fst t)))) (fun (i : Nat) => List.getD [(siE (List.getD (QC.sigs (Prod.fst t)) (Int.toNat (IntKind.wrap IntKind.i64 l30)) siZ))] i []) i = lC siE siZ (QC.sigs l8) i) ∧ (RtQ (rgs l) c (List.length v) (Prod.fst t_1) ∧ FwQ (Prod.fst t_1) l12 ∧ (Prod.fst l28 = if List.length (QC.who l12) < (3 : Nat) then (15 : Int) else (0 : Int)) ∧ ∃ (s : SI), Prod.snd l28 = { ch := QC.ch (Prod.fst t_1), ep := QC.ep (Prod.fst t_1), vw := QC.vw (Prod.fst t_1), blk := QC.blk (Prod.fst t_1), who := QC.who (Prod.fst t_1) ++ [List.getD (QC.who (Prod.fst t_1)) (List.length (QC.who (Prod.fst t_1)) - (1 : Nat)) (0 : Int)], sigs := QC.sigs (Prod.fst t_1) ++ [s] }) ∧ True) ∧ ∀ (t : QC × QC × Int × QC), let l4 := (QC.sigs (Prod.fst (Prod.snd t))); let l19 := (lL siG (List.length l4) (lC siE siZ l4)); let l0 := (Prod.snd (Prod.snd (Prod.snd t))); let l13 := (lL siG (List.length (QC.sigs l0)) (lC siE siZ (QC.sigs l0))); (RtQ (rgs l) c (List.length v) (Prod.fst t) ∧ FwQ (Prod.fst t) (Prod.fst (Prod.snd t)) ∧ (Prod.fst (Prod.snd (Prod.snd t)) = if List.length (QC.who (Prod.fst (Prod.snd t))) < (3 : Nat) then (15 : Int) else (0 : Int)) ∧ ∃ (s : SI), Prod.snd (Prod.snd (Prod.snd t)) = { ch := QC.ch (Prod.fst t), ep := QC.ep (Prod.fst t), vw := QC.vw (Prod.fst t), blk := QC.blk (Prod.fst t), who := QC.who (Prod.fst t) ++ [List.getD (QC.who (Prod.fst t)) (List.length (QC.who (Prod.fst t)) - (1 : Nat)) (0 : Int)], sigs := QC.sigs (Prod.fst t) ++ [s] }) → RC.ep c = RC.ep c ∧ RC.mem c = RC.mem c ∧ List.length (RC.seats c) = List.length l2 ∧ (∀ (i : Nat), i < List.length l2 → lC nuE [] (RC.seats c) i = lC nuE [] l2 i) ∧ QC.ch (Prod.fst (Prod.snd t)) = QC.ch (Prod.fst (Prod.snd t)) ∧ QC.ep (Prod.fst (Prod.snd t)) = QC.ep (Prod.fst (Prod.snd t)) ∧ QC.vw (Prod.fst (Prod.snd t)) = QC.vw (Prod.fst (Prod.snd t)) ∧ QC.blk (Prod.fst (Prod.snd t)) = QC.blk (Prod.fst (Prod.snd t)) ∧ QC.who (Prod.fst (Prod.snd t)) = QC.who (Prod.fst (Prod.snd t)) ∧ List.length l4 = List.length l19 ∧ (∀ (i : Nat), i < List.length l19 → lC siE siZ l4 i = lC siE siZ l19 i) ∧ MpEq [AS.i IntKind.i64] (hasC (rgs l)) l20 (valC (rgs l)) l21 [] ∧ MpEq [AS.i IntKind.i64] (hasR (rgs l)) l22 (valR (rgs l)) l23 [] ∧ MpEq [AS.i IntKind.i64, AS.i IntKind.i64] (hasF (rgs l)) l24 (valF (rgs l)) l25 [] ∧ MpEq [AS.i IntKind.i64, AS.i IntKind.i64, AS.s] (hasM (rgs l)) l26 (valM (rgs l)) l27 [] ∧ (12 : Int) = (12 : Int) ∧ (65536 : Int) = (65536 : Int) ∧ OkD (QC.blk (Prod.fst (Prod.snd t))) ∧ List.length (seatsP { ep := RC.ep c, mem := RC.mem c, seats := lL nuG l15 l18 } (QC.ch (Prod.fst (Prod.snd t)))) < (1099511627776 : Nat) ∧ List.length (QC.who (Prod.fst (Prod.snd t))) < (1099511627776 : Nat) ∧ List.length l19 < (1099511627776 : Nat) ∧ brP (qcP (shS (ghS (rgs l))) { ep := RC.ep c, mem := RC.mem c, seats := lL nuG l15 l18 } { ch := QC.ch (Prod.fst (Prod.snd t)), ep := QC.ep (Prod.fst (Prod.snd t)), vw := QC.vw (Prod.fst (Prod.snd t)), blk := QC.blk (Prod.fst (Prod.snd t)), who := QC.who (Prod.fst (Prod.snd t)), sigs := lL siG (List.length l4) (lC siE siZ l4) } == Prod.fst (Prod.snd (Prod.snd t))) (RC.ep c = RC.ep c ∧ RC.mem c = RC.mem c ∧ List.length (RC.seats c) = List.length l2 ∧ (∀ (i : Nat), i < List.length l2 → lC nuE [] (RC.seats c) i = lC nuE [] l2 i) ∧ QC.ch l0 = QC.ch l0 ∧ QC.ep l0 = QC.ep l0 ∧ QC.vw l0 = QC.vw l0 ∧ QC.blk l0 = QC.blk l0 ∧ QC.who l0 = QC.who l0 ∧ List.length (QC.sigs l0) = List.length l13 ∧ (∀ (i : Nat), i < List.length l13 → lC siE siZ (QC.sigs l0) i = lC siE siZ l13 i) ∧ MpEq [AS.i IntKind.i64] l20 (hasC l9) l21 (valC l9) [] ∧ MpEq [AS.i IntKind.i64] l22 (hasR l9) l23 (valR l9) [] ∧ MpEq [AS.i IntKind.i64, AS.i IntKind.i64] l24 (hasF l9) l25 (valF l9) [] ∧ MpEq [AS.i IntKind.i64, AS.i IntKind.i64, AS.s] l26 (hasM l9) l27 (valM l9) [] ∧ (12 : Int) = (12 : Int) ∧ (65536 : Int) = (65536 : Int) ∧ OkD (QC.blk l0) ∧ List.length (seatsP { ep := RC.ep c, mem := RC.mem c, seats := lL nuG l15 l18 } (QC.ch l0)) < (1099511627776 : Nat) ∧ List.length (QC.who l0) < (1099511627776 : Nat) ∧ List.length l13 < (1099511627776 : Nat) ∧ (qcP l9 { ep := RC.ep c, mem := RC.mem c, seats := lL nuG l15 l18 } { ch := QC.ch l0, ep := QC.ep l0, vw := QC.vw l0, blk := QC.blk l0, who := QC.who l0, sigs := lL siG (List.length (QC.sigs l0)) (lC siE siZ (QC.sigs l0)) } == (14 : Int)) = true ∧ True) (false = true ∧ True))) (by kernel_rfl) (by
    conv => zeta
    obtain ⟨hl, hs, hv, ho, hS, p0, p1, _⟩ := hp
    have hlim : lim = 68719476736 := rfl
    simp only [Int.toNat_natCast, true_and, and_true, implies_true, lL_self nuG_nuE, lL_self siG_siE, lL_self vtG_vtE, rcEta, qcEta, vtEta, siEta, lL_self sgD_sgE, shS_ghS, mpC, mpR, mpF, mpM]
    have vE : ∀ x : VT, (⟨x.ch, x.ep, x.vw, x.blk, x.who, x.sig⟩ : VT) = x := fun _ => rfl
    refine ⟨hl, hs, ⟨0, rfl, rfl, fun i hi => absurd hi (by simp), Nat.zero_le _⟩, fun t ht => brI (fun h => ?_) (fun h => ?_)⟩
    · have h : (t : Int) < (v.length : Int) := of_decide_eq_true h
      have h : t < v.length := by omega
      have hm := get_v h
      have w1 : IntKind.wrap .i64 ((t : Int) + 1) = ((t + 1 : Nat) : Int) := by rw [wi _ (by omega) (by omega)]; omega
      have tl := take_le (l := v) (p := fun x => decide (voteP (rgs l) c x = 0)) (t := t)
      rw [vE, w1]
      refine ⟨⟨by omega, by omega⟩, (ho _ hm).1, hS _, brI (fun h0 => ?_) (fun h0 => ?_)⟩
      · have h0 := eq_of_beq h0
        have e := take_snoc (p := fun x => decide (voteP (rgs l) c x = 0)) h (decide_eq_true h0)
        refine ⟨⟨by omega, by omega⟩, by omega, t + 1, rfl, by rw [e]; simp, fun i hi => ?_, by omega, by omega⟩
        rw [e]
        rw [e] at hi
        rw [List.length_append] at hi
        exact lC_snoc ((v.take t).filter fun x => decide (voteP (rgs l) c x = 0)) (v.getD t vtZ) rfl i hi
      · have h0 := ne_of_beq_false h0
        have e := take_skip (p := fun x => decide (voteP (rgs l) c x = 0)) h (decide_eq_false h0)
        exact ⟨t + 1, rfl, by rw [e], fun i hi => by rw [e], by omega, by omega⟩
    · have h : ¬ (t : Int) < (v.length : Int) := of_decide_eq_false h
      obtain rfl : t = v.length := by omega
      rw [List.take_length]
      generalize hR : (v.filter fun x => decide (voteP (rgs l) c x = 0)) = R
      have hR1 : ∀ x ∈ R, voteP (rgs l) c x = 0 ∧ OkD x.blk := fun x hx => by
        rw [← hR] at hx
        obtain ⟨h1, h2⟩ := List.mem_filter.1 hx
        exact ⟨of_decide_eq_true h2, (ho _ h1).1⟩
      have hR2 : R.length ≤ v.length := by rw [← hR]; exact List.length_filter_le _ _
      obtain ⟨k1, k2⟩ := mk_lensJ R
      refine ⟨by omega, fun i hi => rfl, brI (fun _ => trivial) (fun h0 => ?_), ?_⟩
      · have h0 : mkE R = 0 := by simpa using h0
        exact ⟨mkQ R, rfl, rfl, rfl, rfl, rfl, rfl, fun _ _ => rfl, made_right (fun x hx => (hR1 x hx).1) h0, mk_blkJ fun x hx => (hR1 x hx).2, by omega⟩
      intro q hq
      obtain ⟨q1, q2, q3⟩ := id hq
      obtain ⟨q4, q5, q6, q7, -, -⟩ := qc_of q1
      obtain ⟨j, j1, j2, j3⟩ := rem_lt (p := p) (n := q.who.length) (by omega) (by omega)
      refine ⟨⟨j3, (q, j), j2, rfl, rfl, rfl, rfl, rfl, rfl, fun _ _ => rfl, hq, j1⟩, ?_⟩
      rintro ⟨q, j⟩ ⟨hq, j1⟩
      dsimp only at hq j1
      obtain ⟨q1, q2, q3⟩ := id hq
      obtain ⟨q4, q5, q6, q7, -, -⟩ := qc_of q1
      dsimp only
      have w1 : IntKind.wrap .i64 ((j : Int) + 1) = ((j + 1 : Nat) : Int) := by rw [wi _ (by omega) (by omega)]; omega
      rw [w1]
      have t1 : ((j + 1 : Nat) : Int).toNat = j + 1 := by omega
      have t0 : ((j : Nat) : Int).toNat = j := by omega
      simp only [cutL, cutF, lenN, t1, t0, Nat.zero_add, Cont.len, List.nil_append, List.length_take, List.length_drop, List.length_append, List.length_nil]
      refine ⟨⟨by omega, by omega⟩, by omega, ⟨by omega, by omega⟩, by omega, ⟨⟨by omega, by omega⟩, by omega, ⟨by omega, by omega⟩, by omega, ⟨q, { q with who := q.who.eraseIdx j, sigs := q.sigs.eraseIdx j }⟩, rfl, rfl, rfl, rfl, rfl, rfl, fun _ _ => rfl, rfl, rfl, rfl, rfl, by rw [List.eraseIdx_eq_take_drop_succ], ?_, lC_erase (by omega), hq, j, j1, rfl⟩, ?_⟩
      · dsimp only; rw [List.length_eraseIdx_of_lt (by omega)]; omega
      rintro ⟨q, f⟩ ⟨hq, hf⟩
      dsimp only at hq hf ⊢
      refine ⟨brI (fun h => ?_) (fun h => ?_), ?_⟩
      · have h : f.who.length < 3 := by have h : (f.who.length : Int) < 3 := of_decide_eq_true h; omega
        exact ⟨⟨q, f, 15⟩, rfl, rfl, rfl, rfl, rfl, rfl, rfl, fun _ _ => rfl, rfl, rfl, rfl, rfl, rfl, rfl, fun _ _ => rfl, hq, hf, (if_pos h).symm⟩
      · have h : ¬ f.who.length < 3 := by have h : ¬ (f.who.length : Int) < 3 := of_decide_eq_false h; omega
        exact ⟨⟨q, f, 0⟩, rfl, rfl, rfl, rfl, rfl, rfl, rfl, fun _ _ => rfl, rfl, rfl, rfl, rfl, rfl, rfl, fun _ _ => rfl, hq, hf, (if_neg h).symm⟩
      rintro ⟨q, f, w⟩ ⟨hq, hf, hw⟩
      dsimp only at hq hf hw
      obtain ⟨q1, q2, q3⟩ := id hq
      obtain ⟨q4, q5, q6, q7, -, -⟩ := qc_of q1
      dsimp only
      have w1 : IntKind.wrap .i64 ((q.who.length : Int) - 1) = ((q.who.length - 1 : Nat) : Int) := by rw [wi _ (by omega) (by omega)]; omega
      rw [← q5, w1]
      have t1 : ((q.who.length - 1 : Nat) : Int).toNat = q.who.length - 1 := by omega
      simp only [t1, Nat.zero_add, Cont.len, List.nil_append, List.length_append, List.length_nil, List.length_cons]
      refine ⟨by omega, ⟨by omega, by omega⟩, by omega, ⟨by omega, ⟨by omega, by omega⟩, by omega, ⟨q, f, w, { q with who := q.who ++ [q.who.getD (q.who.length - 1) 0], sigs := q.sigs ++ [q.sigs.getD (q.who.length - 1) siZ] }⟩, rfl, rfl, rfl, rfl, rfl, rfl, rfl, fun _ _ => rfl, rfl, rfl, rfl, rfl, rfl, by dsimp only; rw [List.length_append, q5]; rfl, fun i hi => ?_, hq, hf, hw, _, rfl⟩, ?_⟩
      · have cf : catF 0 (fun i => (List.getD ([] : List (List DC)) i [])) (lC siE siZ q.sigs) = lC siE siZ q.sigs := by funext i; rw [catF_ge (Nat.zero_le _)]; rfl
        rw [cf, q5]
        dsimp only at hi
        rw [List.length_append] at hi
        exact lC_snoc q.sigs _ rfl i hi
      rintro ⟨q, f, w, g⟩ ⟨hq, hf, hw, s, hg⟩
      dsimp only at hq hf hw hg
      obtain ⟨q1, q2, q3⟩ := id hq
      obtain ⟨q4, q5, q6, q7, -, -⟩ := qc_of q1
      dsimp only
      obtain ⟨i, i1, i2⟩ := hf
      rw [qc_few q1 i1 i2, hw]
      subst i2
      subst hg
      have e1 := List.length_eraseIdx_of_lt (l := q.who) i1
      have e2 := List.length_eraseIdx_of_lt (l := q.sigs) (q5 ▸ i1)
      refine ⟨q2, hS _, by dsimp only; omega, by dsimp only; omega, brI (fun _ => ⟨q2, hS _, by simp only [List.length_append, List.length_cons, List.length_nil]; omega, by simp only [List.length_append, List.length_cons, List.length_nil]; omega, by rw [qc_twice q1]; rfl⟩) (fun h => ?_)⟩
      rw [beq_self_eq_true] at h; cases h))
theorem nodup_le : ∀ (D S : List Int), D.Nodup → (∀ x ∈ D, x ∈ S) → D.length ≤ S.length
  | [], S, _, _ => Nat.zero_le _
  | x :: D, S, h, hs => by
    obtain ⟨h1, h2⟩ := List.nodup_cons.1 h
    have hx := hs x (List.mem_cons_self ..)
    have := nodup_le D (S.erase x) h2 fun y hy => by
      have hne : y ≠ x := fun e => h1 (e ▸ hy)
      exact (List.mem_erase_of_ne hne).2 (hs y (List.mem_cons_of_mem _ hy))
    rw [List.length_erase_of_mem hx] at this
    have := List.length_pos_of_mem hx
    simp only [List.length_cons]
    omega
def bothN (a b : List Int) : Nat := (a.filter fun x => b.contains x).length
theorem both_two {A B S : List Int} (ha : A.Pairwise (· < ·)) (hb : B.Pairwise (· < ·)) (la : 3 ≤ A.length) (lb : 3 ≤ B.length) (ls : S.length ≤ 4) (sa : ∀ x ∈ A, x ∈ S) (sb : ∀ x ∈ B, x ∈ S) : 2 ≤ bothN A B := by
  have na : A.Nodup := ha.imp fun h => by omega
  have nb : B.Nodup := hb.imp fun h => by omega
  have e : (A.filter fun x => B.contains x).length + (A.filter fun x => !B.contains x).length = A.length := by
    rw [← List.countP_eq_length_filter, ← List.countP_eq_length_filter]
    have := List.length_eq_countP_add_countP (p := fun x => B.contains x) (l := A)
    rw [this]
    congr 1
    refine List.countP_congr fun x _ => ?_
    cases B.contains x <;> simp
  have nd : ((A.filter fun x => !B.contains x) ++ B).Nodup := List.nodup_append.2 ⟨na.sublist List.filter_sublist, nb, fun x hx y hy e => by
    have := (List.mem_filter.1 hx).2
    rw [e] at this
    rw [List.contains_iff_mem.2 hy] at this
    cases this⟩
  have := nodup_le _ S nd fun x hx => by
    rcases List.mem_append.1 hx with h | h
    · exact sa x (List.mem_filter.1 h).1
    · exact sb x h
  rw [List.length_append] at this
  unfold bothN
  omega
theorem seat_of {S W : List Int} (h : ∀ i, i < W.length → S.contains (W.getD i 0) = true) : ∀ x ∈ W, x ∈ S := fun x hx => by
  obtain ⟨i, hi, e⟩ := List.mem_iff_getElem.1 hx
  have := h i hi
  rw [List.getD_eq_getElem?_getD, List.getElem?_eq_getElem hi] at this
  rw [← e]
  exact List.contains_iff_mem.1 this
theorem take_iJ {l : List Int} {t : Nat} (h : t < l.length) : l.take (t + 1) = l.take t ++ [l.getD t 0] := by
  rw [List.take_succ_eq_append_getElem h, List.getD_eq_getElem?_getD, List.getElem?_eq_getElem h]; rfl
theorem both_hit {a b : List Int} {t : Nat} (h : t < a.length) (hb : b.contains (a.getD t 0) = true) : bothN (a.take (t + 1)) b = bothN (a.take t) b + 1 := by
  unfold bothN
  rw [take_iJ h, List.filter_append, List.filter_cons, hb]; simp
theorem both_miss {a b : List Int} {t : Nat} (h : t < a.length) (hb : b.contains (a.getD t 0) = false) : bothN (a.take (t + 1)) b = bothN (a.take t) b := by
  unfold bothN
  rw [take_iJ h, List.filter_append, List.filter_cons, hb]; simp
theorem both_le (a b : List Int) : bothN a b ≤ a.length := List.length_filter_le _ _
noncomputable def anL06both (a b : List Int) : Nat → List Nat → List Ann := fun bk_ gs_ => match bk_, gs_ with
    | 0, _ => [{ τ := Nat, t0 := (default : Nat), J := fun i => i ≤ a.length, m := fun i => a.length - i, l := fun i => [(0, .s (.a (.d (.si .i64 a)))), (1, .s (.a (.d (.si .i64 b)))), (5, eI .i64 ((bothN (a.take i) b : Nat) : Int)), (6, eI .i64 (i : Int))], H := fun i => [] }]
    | _, _ => []
theorem okL06both (a b : List Int) (hp : allP [a.length < 1099511627776, b.length < 1099511627776]) : CallsOk Tryd.prog Gs 20 [.a (.d (.si .i64 a)), .a (.d (.si .i64 b))] [] (eI .i64 ((bothN a b : Nat) : Int)) [] :=
  ok_of (ann := anL06both a b) ctok_L06awake mixed Tryd.func20 (by kernel_rfl) (of_nf (p := (∃ (t : Nat), a = a ∧ b = b ∧ (0 : Int) = (↑(bothN (List.take t a) b) : Int) ∧ (0 : Int) = (↑t : Int) ∧ t ≤ List.length a ∧ True) ∧ ∀ (t : Nat), t ≤ List.length a → brP (decide ((↑t : Int) < (↑(List.length a) : Int))) (((0 : Int) ≤ (↑t : Int) ∧ (↑t : Int) < (↑(List.length a) : Int)) ∧ List.length b < (1099511627776 : Nat) ∧ brP (List.contains b (List.getD a (Int.toNat (↑t : Int)) (0 : Int))) (∃ (t_1 : Nat), a = a ∧ b = b ∧ IntKind.wrap IntKind.i64 ((↑(bothN (List.take t a) b) : Int) + (1 : Int)) = (↑(bothN (List.take t_1 a) b) : Int) ∧ IntKind.wrap IntKind.i64 ((↑t : Int) + (1 : Int)) = (↑t_1 : Int) ∧ t_1 ≤ List.length a ∧ List.length a - t_1 < List.length a - t ∧ True) (∃ (t_1 : Nat), a = a ∧ b = b ∧ (↑(bothN (List.take t a) b) : Int) = (↑(bothN (List.take t_1 a) b) : Int) ∧ IntKind.wrap IntKind.i64 ((↑t : Int) + (1 : Int)) = (↑t_1 : Int) ∧ t_1 ≤ List.length a ∧ List.length a - t_1 < List.length a - t ∧ True)) ((↑(bothN (List.take t a) b) : Int) = (↑(bothN a b) : Int) ∧ True)) (by kernel_rfl) (by
    obtain ⟨ha, hb, _⟩ := hp
    simp only [Int.toNat_natCast, true_and, and_true, implies_true, lL_self nuG_nuE, lL_self siG_siE, lL_self vtG_vtE, rcEta, qcEta, vtEta, siEta, lL_self sgD_sgE, shS_ghS, mpC, mpR, mpF, mpM]
    refine ⟨⟨0, rfl, rfl, Nat.zero_le _⟩, fun t ht => brI (fun h => ?_) (fun h => ?_)⟩
    · have h : (t : Int) < (a.length : Int) := of_decide_eq_true h
      have h : t < a.length := by omega
      have w1 : IntKind.wrap .i64 ((t : Int) + 1) = ((t + 1 : Nat) : Int) := by rw [wi _ (by omega) (by omega)]; omega
      have bl := both_le (a.take t) b
      rw [List.length_take] at bl
      have w2 : IntKind.wrap .i64 ((bothN (a.take t) b : Int) + 1) = ((bothN (a.take t) b + 1 : Nat) : Int) := by rw [wi _ (by omega) (by omega)]; omega
      rw [w1, w2]
      refine ⟨⟨by omega, by omega⟩, hb, brI (fun h0 => ?_) (fun h0 => ?_)⟩
      · exact ⟨t + 1, by rw [both_hit h h0], rfl, h, by omega⟩
      · exact ⟨t + 1, by rw [both_miss h h0], rfl, h, by omega⟩
    · have h : ¬ (t : Int) < (a.length : Int) := of_decide_eq_false h
      obtain rfl : t = a.length := by omega
      rw [List.take_length]))
noncomputable def gL06both : Con := fun args H => match args, H with
  | [.a (.d (.si .i64 a)), .a (.d (.si .i64 b))], [] => some ⟨[a.length < 1099511627776, b.length < 1099511627776], eI .i64 ((bothN a b : Nat) : Int), []⟩
  | _, _ => none
theorem vL06both : Valid Tryd.prog Gs 20 gL06both := by
  intro args H r h hp
  unfold gL06both at h
  split at h
  · simp only [Option.some.injEq] at h; subst h; exact okL06both _ _ hp
  · cases h
noncomputable def ct_L06both : List (Nat × Ct) := (20, ⟨[], false, gL06both, none⟩) :: ct_L06awake
theorem ctok_L06both : CtsOk Tryd.prog Gs ct_L06both := CtsOk.cons vL06both (by kernel_rfl) ctok_L06awake
noncomputable def anL06CertOverlap (l : List SG) (c : RC) (p q : QC) : Nat → List Nat → List Ann := fun bk_ gs_ => match bk_, gs_ with
    | 0, _ => [{ τ := Nat, t0 := (default : Nat), J := fun i => i ≤ p.who.length ∧ qcP (rgs l) c p = 0 ∧ qcP (rgs l) c q = 0 ∧ p.ch = q.ch ∧ (seatsP c p.ch).length ≤ 4, m := fun i => p.who.length - i, l := fun i => [(6, .s (.a (.lp 408 0))), (7, .s (.a (.lp 409 0))), (10, .s (.a (.lp 404 0))), (12, eI .i64 (i : Int))], H := fun i => [(403, .row (.st 3 ((rgs l)).length (lC sgE sgZ ((rgs l)))) 80), (404, .cells [.one (.d (.v (.int .i64 12))), .one (.d (.v (.int .i64 65536))), .one (.rw 403)] 121), (408, .cells [.one (.d (.v (.int .i64 (p).ch))), .one (.d (.v (.int .i64 (p).ep))), .one (.d (.v (.int .i64 (p).vw))), .ints .u8 32 (p).blk, .one (.d (.si .i64 (p).who)), .one (.d (.sl 33 ((p).sigs).length (lC siE siZ ((p).sigs))))] 31), (409, .cells [.one (.d (.v (.int .i64 (q).ch))), .one (.d (.v (.int .i64 (q).ep))), .one (.d (.v (.int .i64 (q).vw))), .ints .u8 32 (q).blk, .one (.d (.si .i64 (q).who)), .one (.d (.sl 33 ((q).sigs).length (lC siE siZ ((q).sigs))))] 31)] }]
    | _, _ => []
theorem okL06CertOverlap (l : List SG) (c : RC) (p q : QC) (hp : allP [l.length < 1073741824, ∀ x ∈ l, x.2.2.size + 300 ≤ lim, OkQC p, OkQC q, ∀ n, (seatsP c n).length < 1099511627776]) : CallsOk Tryd.prog Gs 6 [.a (.d (.sl 3 l.length (lC sgE sgZ l))), .agg [.one (.d (.v (.int .i64 (c).ep))), .one (.d (.si .i64 (c).mem)), .one (.d (.sl 1 ((c).seats).length (lC nuE [] ((c).seats))))], .agg [.one (.d (.v (.int .i64 (p).ch))), .one (.d (.v (.int .i64 (p).ep))), .one (.d (.v (.int .i64 (p).vw))), .ints .u8 32 (p).blk, .one (.d (.si .i64 (p).who)), .one (.d (.sl 33 ((p).sigs).length (lC siE siZ ((p).sigs))))], .agg [.one (.d (.v (.int .i64 (q).ch))), .one (.d (.v (.int .i64 (q).ep))), .one (.d (.v (.int .i64 (q).vw))), .ints .u8 32 (q).blk, .one (.d (.si .i64 (q).who)), .one (.d (.sl 33 ((q).sigs).length (lC siE siZ ((q).sigs))))]] [] (eB true) [] :=
  ok_of (ann := anL06CertOverlap l c p q) ctok_L06both mixed Tryd.func6 (by kernel_rfl) (of_nf (p := let l12 := (List.length (QC.sigs p)); let l11 := (lC nuE [] (RC.seats c)); let l10 := (List.length (RC.seats c)); let l9 := (seatsP { ep := RC.ep c, mem := RC.mem c, seats := lL nuG l10 l11 } (QC.ch p)); let l8 := (lL sgD (List.length l) (lC sgE sgZ l)); let l7 := (lL siG (List.length (QC.sigs q)) (lC siE siZ (QC.sigs q))); let l6 := (lL siG l12 (lC siE siZ (QC.sigs p))); let l5 := (voteB (QC.ch p) (QC.ep p) (QC.vw p) (QC.blk p)); let l2 := (lL sgD (List.length (rgs l)) (lC sgE sgZ (rgs l))); let l1 := (lL nuG l10 l11); let l0 := (rgs l8); let l4 := (shS (ghS (shS (ghS l0)))); List.length l = List.length l8 ∧ (∀ (i : Nat), i < List.length l8 → lC sgE sgZ l i = lC sgE sgZ l8 i) ∧ List.length l8 < (1073741824 : Nat) ∧ (∀ (x : SG), x ∈ lL sgD (List.length l) (lC sgE sgZ l) → ByteArray.size (Prod.snd (Prod.snd x)) + (300 : Nat) ≤ lim) ∧ RC.ep c = RC.ep c ∧ RC.mem c = RC.mem c ∧ List.length (RC.seats c) = List.length l1 ∧ (∀ (i : Nat), i < List.length l1 → lC nuE [] (RC.seats c) i = lC nuE [] l1 i) ∧ QC.ch p = QC.ch p ∧ brP (decide ((↑(List.length l9) : Int) > (4 : Int))) (true = true ∧ True) (brP (QC.ch p != QC.ch q) (true = true ∧ True) (brP (QC.vw p != QC.vw q) (true = true ∧ True) (brP (QC.blk p == QC.blk q) (true = true ∧ True) (RC.ep c = RC.ep c ∧ RC.mem c = RC.mem c ∧ List.length (RC.seats c) = List.length l1 ∧ (∀ (i : Nat), i < List.length l1 → lC nuE [] (RC.seats c) i = lC nuE [] l1 i) ∧ QC.ch p = QC.ch p ∧ QC.ep p = QC.ep p ∧ QC.vw p = QC.vw p ∧ QC.blk p = QC.blk p ∧ QC.who p = QC.who p ∧ List.length (QC.sigs p) = List.length l6 ∧ (∀ (i : Nat), i < List.length l6 → lC siE siZ (QC.sigs p) i = lC siE siZ l6 i) ∧ MpEq [AS.i IntKind.i64] (hasC l0) (hasC (shS (ghS l0))) (valC l0) (valC (shS (ghS l0))) [] ∧ MpEq [AS.i IntKind.i64] (hasR l0) (hasR (shS (ghS l0))) (valR l0) (valR (shS (ghS l0))) [] ∧ MpEq [AS.i IntKind.i64, AS.i IntKind.i64] (hasF l0) (hasF (shS (ghS l0))) (valF l0) (valF (shS (ghS l0))) [] ∧ MpEq [AS.i IntKind.i64, AS.i IntKind.i64, AS.s] (hasM l0) (hasM (shS (ghS l0))) (valM l0) (valM (shS (ghS l0))) [] ∧ (12 : Int) = (12 : Int) ∧ (65536 : Int) = (65536 : Int) ∧ OkD (QC.blk p) ∧ List.length l9 < (1099511627776 : Nat) ∧ List.length (QC.who p) < (1099511627776 : Nat) ∧ List.length l6 < (1099511627776 : Nat) ∧ brP (qcP (shS (ghS l0)) { ep := RC.ep c, mem := RC.mem c, seats := lL nuG l10 l11 } { ch := QC.ch p, ep := QC.ep p, vw := QC.vw p, blk := QC.blk p, who := QC.who p, sigs := lL siG l12 (lC siE siZ (QC.sigs p)) } != (0 : Int)) (true = true ∧ True) (RC.ep c = RC.ep c ∧ RC.mem c = RC.mem c ∧ List.length (RC.seats c) = List.length l1 ∧ (∀ (i : Nat), i < List.length l1 → lC nuE [] (RC.seats c) i = lC nuE [] l1 i) ∧ QC.ch q = QC.ch q ∧ QC.ep q = QC.ep q ∧ QC.vw q = QC.vw q ∧ QC.blk q = QC.blk q ∧ QC.who q = QC.who q ∧ List.length (QC.sigs q) = List.length l7 ∧ (∀ (i : Nat), i < List.length l7 → lC siE siZ (QC.sigs q) i = lC siE siZ l7 i) ∧ MpEq [AS.i IntKind.i64] (hasC (shS (ghS l0))) (hasC l4) (valC (shS (ghS l0))) (valC l4) [] ∧ MpEq [AS.i IntKind.i64] (hasR (shS (ghS l0))) (hasR l4) (valR (shS (ghS l0))) (valR l4) [] ∧ MpEq [AS.i IntKind.i64, AS.i IntKind.i64] (hasF (shS (ghS l0))) (hasF l4) (valF (shS (ghS l0))) (valF l4) [] ∧ MpEq [AS.i IntKind.i64, AS.i IntKind.i64, AS.s] (hasM (shS (ghS l0))) (hasM l4) (valM (shS (ghS l0))) (valM l4) [] ∧ (12 : Int) = (12 : Int) ∧ (65536 : Int) = (65536 : Int) ∧ OkD (QC.blk q) ∧ List.length (seatsP { ep := RC.ep c, mem := RC.mem c, seats := lL nuG l10 l11 } (QC.ch q)) < (1099511627776 : Nat) ∧ List.length (QC.who q) < (1099511627776 : Nat) ∧ List.length l7 < (1099511627776 : Nat) ∧ brP (qcP l4 { ep := RC.ep c, mem := RC.mem c, seats := lL nuG l10 l11 } { ch := QC.ch q, ep := QC.ep q, vw := QC.vw q, blk := QC.blk q, who := QC.who q, sigs := lL siG (List.length (QC.sigs q)) (lC siE siZ (QC.sigs q)) } != (0 : Int)) (true = true ∧ True) ((∃ (t : Nat), (0 : Int) = (↑t : Int) ∧ List.length l0 = List.length (rgs l) ∧ (∀ (i : Nat), i < List.length (rgs l) → lC sgE sgZ l0 i = lC sgE sgZ (rgs l) i) ∧ (12 : Int) = (12 : Int) ∧ (65536 : Int) = (65536 : Int) ∧ QC.ch p = QC.ch p ∧ QC.ep p = QC.ep p ∧ QC.vw p = QC.vw p ∧ QC.blk p = QC.blk p ∧ QC.who p = QC.who p ∧ List.length (QC.sigs p) = List.length (QC.sigs p) ∧ (∀ (i : Nat), i < List.length (QC.sigs p) → lC siE siZ (QC.sigs p) i = lC siE siZ (QC.sigs p) i) ∧ QC.ch q = QC.ch q ∧ QC.ep q = QC.ep q ∧ QC.vw q = QC.vw q ∧ QC.blk q = QC.blk q ∧ QC.who q = QC.who q ∧ List.length (QC.sigs q) = List.length (QC.sigs q) ∧ (∀ (i : Nat), i < List.length (QC.sigs q) → lC siE siZ (QC.sigs q) i = lC siE siZ (QC.sigs q) i) ∧ (t ≤ List.length (QC.who p) ∧ qcP (rgs l) c p = (0 : Int) ∧ qcP (rgs l) c q = (0 : Int) ∧ QC.ch p = QC.ch q ∧ List.length (seatsP c (QC.ch p)) ≤ (4 : Nat)) ∧ True) ∧ ∀ (t : Nat), let l3 := (List.getD (QC.sigs p) (Int.toNat (↑t : Int)) siZ); t ≤ List.length (QC.who p) ∧ qcP (rgs l) c p = (0 : Int) ∧ qcP (rgs l) c q = (0 : Int) ∧ QC.ch p = QC.ch q ∧ List.length (seatsP c (QC.ch p)) ≤ (4 : Nat) → brP (decide ((↑t : Int) < (↑(List.length (QC.who p)) : Int))) (((0 : Int) ≤ (↑t : Int) ∧ (↑t : Int) < (↑(List.length (QC.who p)) : Int)) ∧ QC.ch p = QC.ch p ∧ QC.ep p = QC.ep p ∧ QC.vw p = QC.vw p ∧ QC.blk p = QC.blk p ∧ (0 : Int) = (0 : Int) ∧ (0 : Int) = (0 : Int) ∧ List.replicate (32 : Nat) (0 : Int) = List.replicate (32 : Nat) (0 : Int) ∧ OkD (QC.blk p) ∧ ((0 : Int) ≤ (↑t : Int) ∧ (↑t : Int) < (↑l12 : Int)) ∧ List.getD (QC.who p) (Int.toNat (↑t : Int)) (0 : Int) = List.getD (QC.who p) (Int.toNat (↑t : Int)) (0 : Int) ∧ strOfNums l5 = strOfNums l5 ∧ Prod.fst l3 = Prod.fst l3 ∧ Prod.snd l3 = Prod.snd l3 ∧ List.length (rgs l) = List.length l2 ∧ (∀ (i : Nat), i < List.length l2 → lC sgE sgZ (rgs l) i = lC sgE sgZ l2 i) ∧ (12 : Int) = (12 : Int) ∧ (65536 : Int) = (65536 : Int) ∧ ByteArray.size (strOfNums l5) + (300 : Nat) ≤ lim ∧ List.length l2 < (1099511627776 : Nat) ∧ brP (!(madB l2 (List.getD (QC.who p) (Int.toNat (↑t : Int)) (0 : Int), Prod.fst l3, strOfNums l5) && Prod.snd l3 == tagB (List.getD (QC.who p) (Int.toNat (↑t : Int)) (0 : Int)) (Prod.fst l3) (numsOf (strOfNums l5)))) (false = true ∧ True) (∃ (t_1 : Nat), IntKind.wrap IntKind.i64 ((↑t : Int) + (1 : Int)) = (↑t_1 : Int) ∧ List.length l2 = List.length (rgs l) ∧ (∀ (i : Nat), i < List.length (rgs l) → lC sgE sgZ l2 i = lC sgE sgZ (rgs l) i) ∧ (12 : Int) = (12 : Int) ∧ (65536 : Int) = (65536 : Int) ∧ QC.ch p = QC.ch p ∧ QC.ep p = QC.ep p ∧ QC.vw p = QC.vw p ∧ QC.blk p = QC.blk p ∧ QC.who p = QC.who p ∧ List.length (QC.sigs p) = List.length (QC.sigs p) ∧ (∀ (i : Nat), i < List.length (QC.sigs p) → lC siE siZ (QC.sigs p) i = lC siE siZ (QC.sigs p) i) ∧ QC.ch q = QC.ch q ∧ QC.ep q = QC.ep q ∧ QC.vw q = QC.vw q ∧ QC.blk q = QC.blk q ∧ QC.who q = QC.who q ∧ List.length (QC.sigs q) = List.length (QC.sigs q) ∧ (∀ (i : Nat), i < List.length (QC.sigs q) → lC siE siZ (QC.sigs q) i = lC siE siZ (QC.sigs q) i) ∧ (t_1 ≤ List.length (QC.who p) ∧ qcP (rgs l) c p = (0 : Int) ∧ qcP (rgs l) c q = (0 : Int) ∧ QC.ch p = QC.ch q ∧ List.length (seatsP c (QC.ch p)) ≤ (4 : Nat)) ∧ List.length (QC.who p) - t_1 < List.length (QC.who p) - t ∧ True)) (List.length (QC.who p) < (1099511627776 : Nat) ∧ List.length (QC.who q) < (1099511627776 : Nat) ∧ decide ((↑(bothN (QC.who p) (QC.who q)) : Int) ≥ (2 : Int)) = true ∧ True)))))))) (by kernel_rfl) (by
    conv => zeta
    obtain ⟨hl, hs, op, oq, hS, _⟩ := hp
    have hlim : lim = 68719476736 := rfl
    simp only [Int.toNat_natCast, true_and, and_true, implies_true, lL_self nuG_nuE, lL_self siG_siE, lL_self vtG_vtE, rcEta, qcEta, vtEta, siEta, lL_self sgD_sgE, shS_ghS, mpC, mpR, mpF, mpM]
    have rg := rg_ltJ hl
    have d1 := op.blk; have d2 := oq.blk; have w1 := op.who; have w2 := op.sigs; have w3 := oq.who; have w4 := oq.sigs
    have vl := voteB_len (a := p.ch) (b := p.ep) (c := p.vw) d1.len
    have vo := voteB_ok (a := p.ch) (b := p.ep) (c := p.vw) d1.ok
    refine ⟨hl, hs, brI (fun _ => trivial) (fun h1 => brI (fun _ => trivial) (fun h2 => brI (fun _ => trivial) (fun _ => brI (fun _ => trivial) (fun _ => ⟨d1, hS _, by omega, by omega, brI (fun _ => trivial) (fun h3 => ⟨d2, hS _, by omega, by omega, brI (fun _ => trivial) (fun h4 => ?_)⟩)⟩))))⟩
    have h1 : (seatsP c p.ch).length ≤ 4 := by have := of_decide_eq_false h1; omega
    have h2 : p.ch = q.ch := by simpa using h2
    have h3 : qcP (rgs l) c p = 0 := by simpa using h3
    have h4 : qcP (rgs l) c q = 0 := by simpa using h4
    refine ⟨⟨0, rfl, Nat.zero_le _, h3, h4, h2, h1⟩, fun t ht => brI (fun h => ?_) (fun h => ?_)⟩
    · have h : (t : Int) < (p.who.length : Int) := of_decide_eq_true h
      have h : t < p.who.length := by omega
      obtain ⟨q4, q5, q6, q7, q8, q9⟩ := qc_of h3
      refine ⟨⟨by omega, by omega⟩, d1, ⟨by omega, by omega⟩, by rw [strSz]; omega, rg, brI (fun h0 => ?_) (fun _ => ⟨t + 1, by rw [wi _ (by omega) (by omega)]; rfl, ⟨h, ht.2⟩, by omega⟩)⟩
      have := q9 t h
      unfold signP at this
      rw [if_neg (by rw [q8 t h]; decide)] at this
      split at this
      · cases this
      · rename_i hh
        rw [numStr vo] at h0
        exact absurd h0 (by unfold sigOk at hh; cases hx : (madB (rgs l) (p.who.getD t 0, (p.sigs.getD t siZ).1, strOfNums (voteB p.ch p.ep p.vw p.blk)) && (p.sigs.getD t siZ).2 == tagB (p.who.getD t 0) (p.sigs.getD t siZ).1 (voteB p.ch p.ep p.vw p.blk)) with | true => decide | false => exact absurd hx hh)
    · obtain ⟨q4, q5, q6, q7, q8, q9⟩ := qc_of h3
      obtain ⟨r4, r5, r6, r7, r8, r9⟩ := qc_of h4
      have := both_two q6 r6 q7 r7 h1 (seat_of q8) (seat_of (by rw [h2]; exact r8))
      exact ⟨by omega, by omega, decide_eq_true (by omega)⟩))
end Go.Proofs.YtlgffgnkkihaoaaDoor
