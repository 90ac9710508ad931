/- SHA-256 as both texts reckon it: no Go in sight. -/
import Derived.Test.YtlgffgnkkihaoaaDoorDxWp
import Derived.Test.YtlgffgnkkihaoaaDoorProg
import Derived.Laws.Bits64
import Derived.Laws.BitsAllLaws
namespace Go.Proofs.YtlgffgnkkihaoaaDoor
open Go.RowKit Go.Dx
set_option linter.unusedVariables false
set_option linter.unusedSimpArgs false
theorem mixed : Tryd.prog.follows .mixedOrders = true := by kernel_rfl
def shaK : List Int := [1116352408, 1899447441, 3049323471, 3921009573, 961987163, 1508970993, 2453635748, 2870763221, 3624381080, 310598401, 607225278, 1426881987, 1925078388, 2162078206, 2614888103, 3248222580, 3835390401, 4022224774, 264347078, 604807628, 770255983, 1249150122, 1555081692, 1996064986, 2554220882, 2821834349, 2952996808, 3210313671, 3336571891, 3584528711, 113926993, 338241895, 666307205, 773529912, 1294757372, 1396182291, 1695183700, 1986661051, 2177026350, 2456956037, 2730485921, 2820302411, 3259730800, 3345764771, 3516065817, 3600352804, 4094571909, 275423344, 430227734, 506948616, 659060556, 883997877, 958139571, 1322822218, 1537002063, 1747873779, 1955562222, 2024104815, 2227730452, 2361852424, 2428436474, 2756734187, 3204031479, 3329325298]
def Gs : List (Nat × List DC) := [(0, [.ints .u32 64 shaK])]
def OkB (L : List Int) : Prop := ∀ x ∈ L, 0 ≤ x ∧ x < 256
def rotr (n : Nat) (x : Int) : Int := bOr .u32 (IntKind.wrap .u32 (x * 2 ^ (32 - n))) (Int.fdiv x (2 ^ n))
def sm0 (x : Int) : Int := bXor .u32 (bXor .u32 (rotr 7 x) (rotr 18 x)) (Int.fdiv x (2 ^ (3 : Nat)))
def sm1 (x : Int) : Int := bXor .u32 (bXor .u32 (rotr 17 x) (rotr 19 x)) (Int.fdiv x (2 ^ (10 : Nat)))
def bg1 (x : Int) : Int := bXor .u32 (bXor .u32 (rotr 6 x) (rotr 11 x)) (rotr 25 x)
def bg0 (x : Int) : Int := bXor .u32 (bXor .u32 (rotr 2 x) (rotr 13 x)) (rotr 22 x)
def chs (e f g : Int) : Int := bXor .u32 (bAnd .u32 e f) (bAnd .u32 (bXor .u32 4294967295 e) g)
def maj (a b c : Int) : Int := bXor .u32 (bXor .u32 (bAnd .u32 a b) (bAnd .u32 a c)) (bAnd .u32 b c)
/-- Four bytes as a number. -/
def be4 (b : List Int) (i : Nat) : Int := b.getD i 0 * 16777216 + b.getD (i + 1) 0 * 65536 + b.getD (i + 2) 0 * 256 + b.getD (i + 3) 0
def nxt (l : List Int) (t : Nat) : Int :=
  IntKind.wrap .u32 (IntKind.wrap .u32 (IntKind.wrap .u32 (l.getD (t - 16) 0 + sm0 (l.getD (t - 15) 0)) + l.getD (t - 7) 0) + sm1 (l.getD (t - 2) 0))
/-- The sixty-four words, t of them reckoned. -/
def sch (b : List Int) : Nat → List Int
  | 0 => List.replicate 64 0
  | t + 1 => (sch b t).set t (if t < 16 then be4 b (4 * t) else nxt (sch b t) t)
theorem sch_len (b : List Int) : ∀ t, (sch b t).length = 64
  | 0 => by simp [sch]
  | t + 1 => by simp [sch, sch_len b t]
def t1of (v : List Int) (k w : Int) : Int :=
  IntKind.wrap .u32 (IntKind.wrap .u32 (IntKind.wrap .u32 (IntKind.wrap .u32 (v.getD 7 0 + bg1 (v.getD 4 0)) + chs (v.getD 4 0) (v.getD 5 0) (v.getD 6 0)) + k) + w)
def t2of (v : List Int) : Int := IntKind.wrap .u32 (bg0 (v.getD 0 0) + maj (v.getD 0 0) (v.getD 1 0) (v.getD 2 0))
def rnd (v : List Int) (k w : Int) : List Int :=
  [IntKind.wrap .u32 (t1of v k w + t2of v), v.getD 0 0, v.getD 1 0, v.getD 2 0, IntKind.wrap .u32 (v.getD 3 0 + t1of v k w), v.getD 4 0, v.getD 5 0, v.getD 6 0]
def rnds (K w v : List Int) : Nat → List Int
  | 0 => v
  | t + 1 => rnd (rnds K w v t) (K.getD t 0) (w.getD t 0)
theorem rnds_len (K w : List Int) {v : List Int} (h : v.length = 8) : ∀ t, (rnds K w v t).length = 8
  | 0 => h
  | t + 1 => rfl
def addv (h v : List Int) : Nat → List Int
  | 0 => h
  | i + 1 => (addv h v i).set i (IntKind.wrap .u32 ((addv h v i).getD i 0 + v.getD i 0))
theorem addv_len {h : List Int} (v : List Int) (hl : h.length = 8) : ∀ t, (addv h v t).length = 8
  | 0 => hl
  | t + 1 => by simp [addv, addv_len v hl t]
/-- A block is taken. -/
def comp (K h b : List Int) : List Int := addv h (rnds K (sch b 64) h 64) 8
theorem comp_len (K : List Int) {h : List Int} (b : List Int) (hl : h.length = 8) : (comp K h b).length = 8 := addv_len _ hl 8
structure HS where
  h : List Int
  rest : List Int
  n : Int
structure HS.ok (s : HS) : Prop where
  hl : s.h.length = 8
  rl : s.rest.length = 64
  rb : OkB s.rest
  n0 : 0 ≤ s.n
  n1 : s.n < 18446744073709551616
def put1 (K : List Int) (s : HS) (x : Int) : HS :=
  if IntKind.wrap .u64 (s.n + 1) % 64 = 0 then ⟨comp K s.h (s.rest.set (s.n % 64).toNat x), s.rest.set (s.n % 64).toNat x, IntKind.wrap .u64 (s.n + 1)⟩
  else ⟨s.h, s.rest.set (s.n % 64).toNat x, IntKind.wrap .u64 (s.n + 1)⟩
/-- Bytes are taken. -/
def wr (K : List Int) (s : HS) (L : List Int) : HS := L.foldl (put1 K) s
theorem wr_nil (K : List Int) (s : HS) : wr K s [] = s := rfl
theorem wr_app (K : List Int) (s : HS) (A B : List Int) : wr K s (A ++ B) = wr K (wr K s A) B := by simp [wr]
theorem u64_lt (x : Int) : 0 ≤ IntKind.wrap .u64 x ∧ IntKind.wrap .u64 x < 18446744073709551616 := by
  rw [IntKind.wrap_u64]; omega
theorem put1_ok {K : List Int} {s : HS} (h : s.ok) {x : Int} (hx : 0 ≤ x ∧ x < 256) : (put1 K s x).ok := by
  have hb : OkB (s.rest.set (s.n % 64).toNat x) := fun y hy => by
    rcases List.mem_or_eq_of_mem_set hy with hy | rfl
    · exact h.rb y hy
    · exact hx
  have hn := u64_lt (s.n + 1)
  unfold put1
  split
  · exact ⟨comp_len _ _ h.hl, by simp [h.rl], hb, hn.1, hn.2⟩
  · exact ⟨h.hl, by simp [h.rl], hb, hn.1, hn.2⟩
theorem wr_ok {K : List Int} : ∀ {L : List Int} {s : HS}, s.ok → OkB L → (wr K s L).ok
  | [], s, h, _ => h
  | x :: L, s, h, hL => by
    have := put1_ok (K := K) h (hL x (by simp))
    exact wr_ok (L := L) this (fun y hy => hL y (by simp [hy]))
/-- So many bytes as fit behind those that are there. -/
def chunk (K : List Int) (s : HS) (L : List Int) : HS :=
  if IntKind.wrap .u64 (s.n + (L.length : Int)) % 64 = 0 then ⟨comp K s.h (s.rest.take (s.n % 64).toNat ++ L ++ s.rest.drop ((s.n % 64).toNat + L.length)), s.rest.take (s.n % 64).toNat ++ L ++ s.rest.drop ((s.n % 64).toNat + L.length), IntKind.wrap .u64 (s.n + (L.length : Int))⟩
  else ⟨s.h, s.rest.take (s.n % 64).toNat ++ L ++ s.rest.drop ((s.n % 64).toNat + L.length), IntKind.wrap .u64 (s.n + (L.length : Int))⟩
theorem seg_cons {xs : List Int} {i : Nat} (hi : i < xs.length) (x : Int) (L : List Int) : (xs.set i x).take (i + 1) ++ L ++ (xs.set i x).drop (i + 1 + L.length) = xs.take i ++ (x :: L) ++ xs.drop (i + (x :: L).length) := by
  have e1 : (xs.set i x).take (i + 1) = xs.take i ++ [x] := by
    rw [List.set_eq_take_append_cons_drop, if_pos hi, List.take_append, List.take_take]
    simp [Nat.min_eq_left (Nat.le_of_lt hi)]
  have e2 : (xs.set i x).drop (i + 1 + L.length) = xs.drop (i + (x :: L).length) := by
    rw [List.drop_set_of_lt (by omega)]
    simp [Nat.add_assoc, Nat.add_comm 1]
  rw [e1, e2]; simp
theorem wr_chunk (K : List Int) : ∀ (L : List Int) {s : HS}, s.ok → OkB L → 0 < L.length → (s.n % 64).toNat + L.length ≤ 64 → wr K s L = chunk K s L
  | [], s, _, _, h, _ => absurd h (Nat.lt_irrefl _)
  | [x], s, hs, _, _, h => by
    have hi : (s.n % 64).toNat < s.rest.length := by rw [hs.rl]; simp at h; omega
    have e := seg_cons hi x []
    simp only [List.append_nil, List.length_nil, Nat.add_zero] at e
    rw [List.take_append_drop] at e
    show put1 K s x = _
    unfold put1 chunk
    rw [← e]
    rfl
  | x :: y :: L, s, hs, hL, _, h => by
    have hi : (s.n % 64).toNat < s.rest.length := by rw [hs.rl]; simp at h; omega
    have hn0 := hs.n0
    have hn1 := hs.n1
    simp only [List.length_cons] at h
    have hne : ¬ IntKind.wrap .u64 (s.n + 1) % 64 = 0 := by rw [IntKind.wrap_u64]; omega
    have hp : put1 K s x = ⟨s.h, s.rest.set (s.n % 64).toNat x, IntKind.wrap .u64 (s.n + 1)⟩ := by unfold put1; rw [if_neg hne]
    have hm : (IntKind.wrap .u64 (s.n + 1) % 64).toNat = (s.n % 64).toNat + 1 := by rw [IntKind.wrap_u64]; omega
    have h1 := put1_ok (K := K) hs (hL x (by simp))
    have ih := wr_chunk K (y :: L) (s := put1 K s x) h1 (fun z hz => hL z (by simp only [List.mem_cons] at hz ⊢; exact .inr hz)) (by simp) (by rw [hp]; simp only [hm, List.length_cons]; omega)
    show wr K (put1 K s x) (y :: L) = _
    rw [ih]
    unfold chunk
    rw [hp]
    simp only [hm]
    rw [seg_cons hi x (y :: L)]
    have hw : IntKind.wrap .u64 (IntKind.wrap .u64 (s.n + 1) + ((y :: L).length : Int)) = IntKind.wrap .u64 (s.n + ((x :: y :: L).length : Int)) := by
      simp only [IntKind.wrap_u64, List.length_cons]; push_cast; omega
    rw [hw]
/-- The beginning. -/
def hs0 : HS := ⟨[1779033703, 3144134277, 1013904242, 2773480762, 1359893119, 2600822924, 528734635, 1541459225], List.replicate 64 0, 0⟩
theorem hs0_ok : hs0.ok := ⟨rfl, by simp [hs0], fun x hx => by
  have := (List.mem_replicate.1 hx).2
  subst this; omega, by decide, by decide⟩
/-- A number's eight bytes. -/
def be8 (n : Int) : List Int := [IntKind.wrap .u8 (Int.fdiv n (2 ^ (56 : Nat))), IntKind.wrap .u8 (Int.fdiv n (2 ^ (48 : Nat))), IntKind.wrap .u8 (Int.fdiv n (2 ^ (40 : Nat))), IntKind.wrap .u8 (Int.fdiv n (2 ^ (32 : Nat))),
  IntKind.wrap .u8 (Int.fdiv n (2 ^ (24 : Nat))), IntKind.wrap .u8 (Int.fdiv n (2 ^ (16 : Nat))), IntKind.wrap .u8 (Int.fdiv n (2 ^ (8 : Nat))), IntKind.wrap .u8 n]
theorem u8_lt (x : Int) : 0 ≤ IntKind.wrap .u8 x ∧ IntKind.wrap .u8 x < 256 := by rw [IntKind.wrap_u8']; omega
theorem be8_ok (n : Int) : OkB (be8 n) := fun x hx => by
  simp only [be8, List.mem_cons, List.not_mem_nil, or_false] at hx
  rcases hx with rfl | rfl | rfl | rfl | rfl | rfl | rfl | rfl <;> exact u8_lt _
/-- How many noughts. -/
def padz (n : Int) : Nat := ((55 - n) % 64).toNat
def pad (n : Int) : List Int := 128 :: List.replicate (padz n) 0 ++ be8 (IntKind.wrap .u64 (8 * n))
theorem rep_ok (n : Nat) : OkB (List.replicate n 0) := fun x hx => by
  have := (List.mem_replicate.1 hx).2
  subst this; omega
theorem okB_app {A B : List Int} (hA : OkB A) (hB : OkB B) : OkB (A ++ B) := fun x hx => by
  rcases List.mem_append.1 hx with h | h
  · exact hA x h
  · exact hB x h
theorem pad_ok (n : Int) : OkB (pad n) := okB_app (fun x hx => by
  rcases List.mem_cons.1 hx with rfl | h
  · omega
  · exact rep_ok _ x h) (be8_ok _)
/-- A number laid over four bytes. -/
def put4 (d : List Int) (o : Nat) (x : Int) : List Int :=
  (((d.set o (IntKind.wrap .u8 (Int.fdiv x (2 ^ (24 : Nat))))).set (o + 1) (IntKind.wrap .u8 (Int.fdiv x (2 ^ (16 : Nat))))).set (o + 2) (IntKind.wrap .u8 (Int.fdiv x (2 ^ (8 : Nat))))).set (o + 3) (IntKind.wrap .u8 (Int.fdiv x (2 ^ (0 : Nat))))
theorem put4_len (d : List Int) (o : Nat) (x : Int) : (put4 d o x).length = d.length := by simp [put4]
def digF (h : List Int) : Nat → List Int
  | 0 => List.replicate 32 0
  | i + 1 => put4 (digF h i) (4 * i) (h.getD i 0)
theorem digF_len (h : List Int) : ∀ i, (digF h i).length = 32
  | 0 => by simp [digF]
  | i + 1 => by simp [digF, put4_len, digF_len h i]
/-- The digest of all that was taken. -/
def sumH (K : List Int) (s : HS) : List Int := digF (wr K s (pad s.n)).h 8
theorem sumH_len (K : List Int) (s : HS) : (sumH K s).length = 32 := digF_len _ 8
def sumB (K L : List Int) : List Int := sumH K (wr K hs0 L)
theorem sumB_len (K L : List Int) : (sumB K L).length = 32 := sumH_len _ _
def bV (L : List Int) : List Value := L.map (Value.int .u8)
theorem bV_app (A B : List Int) : bV (A ++ B) = bV A ++ bV B := by simp [bV]
theorem bV_len (L : List Int) : (bV L).length = L.length := by simp [bV]
/-- Bits laid side by side are a sum. -/
theorem or_nat (a b k : Nat) (hk : b < 2 ^ k) (hb : a * 2 ^ k + b < 4294967296) : bOr .u32 ((a * 2 ^ k : Nat) : Int) (b : Int) = ((a * 2 ^ k + b : Nat) : Int) := by
  have h1 : a * 2 ^ k < 4294967296 := by omega
  have h2 : b < 4294967296 := by omega
  have o1 : ∀ n : Nat, n < 4294967296 → (BitVec.ofInt 32 (n : Int)).toNat = n := fun n hn => by
    rw [BitVec.ofInt_natCast, BitVec.toNat_ofNat]; exact Nat.mod_eq_of_lt hn
  unfold bOr
  show IntKind.wrap .u32 ((BitVec.ofInt 32 _ ||| BitVec.ofInt 32 _).toNat : Int) = _
  rw [BitVec.toNat_or, o1 _ h1, o1 _ h2, IntKind.wrap_u32']
  have : a * 2 ^ k ||| b = a * 2 ^ k + b := by
    rw [← Nat.shiftLeft_eq, ← Nat.shiftLeft_add_eq_or_of_lt hk]
  rw [this]
  omega
theorem or_add {m y : Int} (k : Nat) {p : Nat} (hp : 2 ^ k = p) (hm : 0 ≤ m) (hy : 0 ≤ y) (hk : y < (p : Int)) (hb : m * (p : Int) + y < 4294967296) : bOr .u32 (m * (p : Int)) y = m * (p : Int) + y := by
  obtain ⟨a, rfl⟩ := Int.eq_ofNat_of_zero_le hm
  obtain ⟨b, rfl⟩ := Int.eq_ofNat_of_zero_le hy
  subst hp
  have e : ((a : Int) * ((2 ^ k : Nat) : Int)) = ((a * 2 ^ k : Nat) : Int) := (Int.natCast_mul a (2 ^ k)).symm
  rw [e] at hb ⊢
  have hk' : b < 2 ^ k := Int.ofNat_lt.1 hk
  have hb' : a * 2 ^ k + b < 4294967296 := by omega
  rw [or_nat a b k hk' hb', Int.natCast_add]
theorem getD_ok {L : List Int} (h : OkB L) (i : Nat) : 0 ≤ L.getD i 0 ∧ L.getD i 0 < 256 := by
  rcases Nat.lt_or_ge i L.length with hl | hl
  · have : L.getD i 0 = L[i] := by simp [hl]
    rw [this]; exact h _ (List.getElem_mem hl)
  · rw [List.getD_eq_getElem?_getD, List.getElem?_eq_none hl]; decide
theorem wrap32_of {x : Int} (h0 : 0 ≤ x) (h1 : x < 4294967296) : IntKind.wrap .u32 x = x := by rw [IntKind.wrap_u32']; omega
/-- Four bytes as be.Uint32 reads them. -/
theorem or_step {a b : Int} (h0 : 0 ≤ a) (h1 : a < 16777216) (h2 : 0 ≤ b ∧ b < 256) : bOr .u32 (IntKind.wrap .u32 (a * 2 ^ (8 : Nat))) (IntKind.wrap .u32 b) = a * 256 + b := by
  have e : a * 2 ^ (8 : Nat) = a * ((256 : Nat) : Int) := rfl
  rw [e, wrap32_of (x := a * ((256 : Nat) : Int)) (by omega) (by omega), wrap32_of (x := b) (by omega) (by omega), or_add 8 rfl h0 h2.1 (by omega) (by omega)]
  rfl
theorem or_zero {b : Int} (h2 : 0 ≤ b ∧ b < 256) : bOr .u32 0 (IntKind.wrap .u32 b) = b := by
  have := or_step (a := 0) (by omega) (by omega) h2
  rw [show IntKind.wrap .u32 (0 * 2 ^ (8 : Nat)) = 0 from rfl] at this
  rw [this]; omega
theorem be4_or {L : List Int} (h : OkB L) :
    bOr .u32 (IntKind.wrap .u32 (bOr .u32 (IntKind.wrap .u32 (bOr .u32 (IntKind.wrap .u32 (bOr .u32 0 (IntKind.wrap .u32 (L.getD 0 0)) * 2 ^ (8 : Nat))) (IntKind.wrap .u32 (L.getD 1 0)) * 2 ^ (8 : Nat))) (IntKind.wrap .u32 (L.getD 2 0)) * 2 ^ (8 : Nat))) (IntKind.wrap .u32 (L.getD 3 0)) = be4 L 0 := by
  have a0 := getD_ok h 0
  have a1 := getD_ok h 1
  have a2 := getD_ok h 2
  have a3 := getD_ok h 3
  unfold be4
  rw [or_zero a0, or_step (by omega) (by omega) a1, or_step (by omega) (by omega) a2, or_step (by omega) (by omega) a3]
  simp only [Nat.zero_add]
  omega
end Go.Proofs.YtlgffgnkkihaoaaDoor
