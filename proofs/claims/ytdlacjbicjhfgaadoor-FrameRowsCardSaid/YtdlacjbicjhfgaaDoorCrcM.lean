/- Plain: what chapter 1's sums tell: a seed that differs, a burst of 32 bits, one or three single bits. -/
import Derived.Test.YtdlacjbicjhfgaaDoorCrcL
import Derived.Test.YtdlacjbicjhfgaaDoorCrcO
namespace Go.Proofs.YtdlacjbicjhfgaaDoor
open Go.RowKit Go.Proofs.YtdlacjbicjhfgaaDoorW.PrintWords

theorem crcBit_zero : crcBit 0 = 0 := by decide
theorem crcBits_zero : ∀ n, crcBits n 0 = 0
  | 0 => rfl
  | n + 1 => by rw [crcBits_succ, crcBits_zero n]; rfl
theorem crcBit_ne (r : Nat) (hr : r < 4294967296) (h : crcBit r = 0) : r = 0 := by
  unfold crcBit at h
  split at h
  · rename_i ho
    exfalso
    have h1 : r / 2 = 3988292384 := by
      have := congrArg (· ^^^ 3988292384) h
      simpa [Nat.xor_assoc] using this
    omega
  · omega
theorem crcBits_ne : ∀ n r, r < 4294967296 → crcBits n r = 0 → r = 0
  | 0, _, _, h => h
  | n + 1, r, hr, h => crcBit_ne r hr (crcBits_ne n (crcBit r) (crcBit_lt r hr) h)
theorem crcBits_add : ∀ m n r, crcBits (m + n) r = crcBits n (crcBits m r)
  | 0, n, r => by simp [crcBits]
  | m + 1, n, r => by rw [show m + 1 + n = (m + n) + 1 by omega]; show crcBits (m + n) (crcBit r) = _; rw [crcBits_add m n]; rfl
theorem xor_zero_eq {a b : Nat} (h : a ^^^ b = 0) : a = b := by
  have := congrArg (· ^^^ b) h
  simpa [Nat.xor_assoc] using this
theorem crcBits_inj (n a b : Nat) (ha : a < 4294967296) (hb : b < 4294967296) (h : crcBits n a = crcBits n b) : a = b := by
  have h1 : crcBits n (a ^^^ b) = 0 := by rw [crcBits_xor, h, Nat.xor_self]
  exact xor_zero_eq (crcBits_ne n _ (Nat.xor_lt_two_pow (n := 32) ha hb) h1)
theorem crcBits_two (j : Nat) : crcBits j (2 ^ j) = 1 := by
  induction j with
  | zero => rfl
  | succ j ih =>
    show crcBits j (crcBit (2 ^ (j + 1))) = 1
    have : crcBit (2 ^ (j + 1)) = 2 ^ j := by
      unfold crcBit
      rw [if_neg (by omega)]
      omega
    rw [this, ih]
theorem crcFold_zeros (r m : Nat) : crcFold r (noughts m) = crcBits (8 * m) r := by
  induction m generalizing r with
  | zero => rfl
  | succ m ih =>
    show crcFold (crcStep r (Int.toNat 0)) (noughts m) = _
    rw [ih, show 8 * (m + 1) = 8 + 8 * m by omega, crcBits_add]
    unfold crcStep
    simp
theorem crcFold_xor (a b : Nat) (xs : List Int) (hx : ∀ x ∈ xs, 0 ≤ x) : crcFold (a ^^^ b) xs = crcFold a xs ^^^ crcBits (8 * xs.length) b := by
  have h := crcFold_apart xs (noughts xs.length) a b (by simp [noughts])
  rw [apart_noughts xs hx, crcFold_zeros] at h
  exact h
/-- a bit of bytes, turned: the lowest of each byte first -/
def flipAt (c : List Int) (p : Nat) : List Int := c.set (p / 8) ((((c.getD (p / 8) 0).toNat ^^^ 2 ^ (p % 8) : Nat) : Int))
theorem flipAt_len (c : List Int) (p : Nat) : (flipAt c p).length = c.length := by simp [flipAt]
theorem flipAt_bytes (c : List Int) (p : Nat) (h : ∀ x ∈ c, 0 ≤ x ∧ x < 256) : ∀ x ∈ flipAt c p, 0 ≤ x ∧ x < 256 := by
  intro x hx
  rcases List.mem_or_eq_of_mem_set hx with h1 | h1
  · exact h x h1
  · have h2 : (c.getD (p / 8) 0).toNat < 2 ^ 8 := by
      by_cases hp : p / 8 < c.length
      · have := h (c.getD (p / 8) 0) (by rw [List.getD_eq_getElem?_getD, List.getElem?_eq_getElem hp]; exact List.getElem_mem hp)
        omega
      · have : c.getD (p / 8) 0 = 0 := by simp [List.getD, List.getElem?_eq_none (show c.length ≤ p / 8 by omega)]
        rw [this]; decide
    have h3 : 2 ^ (p % 8) < 2 ^ 8 := Nat.pow_lt_pow_right (by omega) (by omega)
    have := Nat.xor_lt_two_pow h2 h3
    omega
theorem crcStep_add (r x y : Nat) : crcStep r (x ^^^ y) = crcStep r x ^^^ crcStep 0 y := by
  have := crcStep_xor r 0 x y
  rwa [Nat.xor_zero] at this
theorem crcFold_flip (r p : Nat) (c : List Int) (hp : p < 8 * c.length) (hx : ∀ x ∈ c, 0 ≤ x ∧ x < 256) :
    crcFold r (flipAt c p) = crcFold r c ^^^ crcBits (8 * c.length - p) 1 := by
  have hk : p / 8 < c.length := by omega
  have hc : c = c.take (p / 8) ++ c.getD (p / 8) 0 :: c.drop (p / 8 + 1) := by
    have e : c.getD (p / 8) 0 = c[p / 8] := by simp [List.getD, List.getElem?_eq_getElem hk]
    rw [e, ← List.drop_eq_getElem_cons hk, List.take_append_drop]
  have hf : flipAt c p = c.take (p / 8) ++ (((c.getD (p / 8) 0).toNat ^^^ 2 ^ (p % 8) : Nat) : Int) :: c.drop (p / 8 + 1) := by
    unfold flipAt
    rw [List.set_eq_take_append_cons_drop, if_pos hk]
  have hdl : (c.drop (p / 8 + 1)).length = c.length - (p / 8 + 1) := by simp
  have hpos : ∀ x ∈ c.drop (p / 8 + 1), 0 ≤ x := fun x h => (hx x (List.mem_of_mem_drop h)).1
  rw [hf]
  conv => rhs; rw [hc]
  have hlen : (c.take (p / 8) ++ c.getD (p / 8) 0 :: c.drop (p / 8 + 1)).length = c.length := by rw [← hc]
  rw [hlen, crcFold_append, crcFold_append]
  generalize c.getD (p / 8) 0 = x
  generalize hd : c.drop (p / 8 + 1) = d at *
  generalize crcFold r (c.take (p / 8)) = q
  show crcFold (crcStep q (Int.toNat ((x.toNat ^^^ 2 ^ (p % 8) : Nat) : Int))) d = crcFold (crcStep q x.toNat) d ^^^ _
  rw [Int.toNat_natCast, crcStep_add, crcFold_xor _ _ d hpos, hdl]
  congr 1
  unfold crcStep
  rw [Nat.zero_xor, ← crcBits_add]
  have : 8 + 8 * (c.length - (p / 8 + 1)) = p % 8 + (8 * c.length - p) := by omega
  rw [this, crcBits_add, crcBits_two]
/-- the register behind a seed and bytes -/
def crcT (s : Nat) (c : List Int) : Nat := crcFold 4294967295 (four s ++ c)
theorem crcT_flip (s p : Nat) (c : List Int) (hp : p < 8 * c.length) (hx : ∀ x ∈ c, 0 ≤ x ∧ x < 256) : crcT s (flipAt c p) = crcT s c ^^^ crcBits (8 * c.length - p) 1 := by
  unfold crcT
  rw [crcFold_append, crcFold_append, crcFold_flip _ _ _ hp hx]
theorem byte_split (b : Nat) : ∀ r, crcStep r b = crcBits 8 (r ^^^ b) := fun _ => rfl
theorem crcBits_shift (k : Nat) : ∀ r x, x < 2 ^ k → crcBits k (r ^^^ x) = crcBits k (r ^^^ x) := fun _ _ _ => rfl
/-- a number of 32 bits goes in byte by byte as in one go -/
theorem crcBit_low (r y : Nat) : crcBit (r ^^^ (2 * y)) = crcBit r ^^^ y := by
  rw [crcBit_xor]
  congr 1
  unfold crcBit
  rw [if_neg (by omega)]
  omega
theorem crcBits_low : ∀ k r y, crcBits k (r ^^^ (2 ^ k * y)) = crcBits k r ^^^ y
  | 0, r, y => by simp [crcBits]
  | k + 1, r, y => by
    show crcBits k (crcBit (r ^^^ _)) = crcBits k (crcBit r) ^^^ y
    rw [show 2 ^ (k + 1) * y = 2 * (2 ^ k * y) by rw [Nat.pow_succ]; ac_rfl, crcBit_low, crcBits_low k]
theorem split_low (n k : Nat) : n = n % 2 ^ k ^^^ (2 ^ k * (n / 2 ^ k)) := by
  apply Nat.eq_of_testBit_eq
  intro i
  rw [Nat.testBit_xor, Nat.testBit_mod_two_pow, Nat.testBit_two_pow_mul, Nat.testBit_div_two_pow]
  by_cases h : i < k
  · simp [h, show ¬ k ≤ i by omega]
  · simp [h, show k ≤ i by omega, show i - k + k = i by omega]
theorem crcBits_byte (r n m : Nat) : crcBits (8 + m) (r ^^^ n) = crcBits m (crcStep r (n % 256) ^^^ n / 256) := by
  rw [crcBits_add]
  congr 1
  have h := split_low n 8
  rw [show (2 : Nat) ^ 8 = 256 by rfl] at h
  conv => lhs; rw [h, ← Nat.xor_assoc]
  have h2 := crcBits_low 8 (r ^^^ n % 256) (n / 256)
  rw [show (2 : Nat) ^ 8 = 256 by rfl] at h2
  rw [h2]
  rfl
theorem crcFold_four (r n : Nat) (hn : n < 4294967296) : crcFold r (four n) = crcBits 32 (r ^^^ n) := by
  rw [show 32 = 8 + (8 + (8 + (8 + 0))) by rfl, crcBits_byte, crcBits_byte, crcBits_byte, crcBits_byte]
  show crcStep (crcStep (crcStep (crcStep r _) _) _) _ = _
  have e1 : n / 256 / 256 / 256 / 256 = 0 := by omega
  rw [e1, Nat.xor_zero]
  simp only [Int.toNat_natCast]
  rw [Nat.div_div_eq_div_mul, Nat.div_div_eq_div_mul]
  rfl
/-- what is sealed, and opened by a seed -/
theorem sealB_iff (t u : List Int) (s : Nat) (ht : ∀ x ∈ t, 0 ≤ x ∧ x < 256) (n : Nat) (hn : n < 4294967296) (hu : u = four n) :
    sealB t s = t ++ u ↔ crcT s (t ++ u) = crcBits 32 4294967295 := by
  subst hu
  have hF := crcFold_lt (four s ++ t) 4294967295 (by omega) (by
    intro x hx
    rcases List.mem_append.1 hx with h | h
    · exact four_bytes _ _ h
    · exact ht x h)
  have hm : crcMore 0 (four s ++ t) = 4294967295 - crcFold 4294967295 (four s ++ t) := rfl
  unfold crcT
  rw [← List.append_assoc, crcFold_append, crcFold_four _ n hn]
  generalize crcFold 4294967295 (four s ++ t) = q at *
  have hx := xor_ones32 q hF
  constructor
  · intro h
    have h1 : four (4294967295 - q) = four n := by rw [← hm]; exact List.append_cancel_left h
    have h2 : 4294967295 - q = n := by
      simp only [four, List.cons.injEq, and_true] at h1
      omega
    rw [← h2, ← hx, ← Nat.xor_assoc, Nat.xor_self, Nat.zero_xor]
  · intro h
    have h1 := crcBits_inj 32 _ _ (Nat.xor_lt_two_pow (n := 32) hF hn) (by omega) h
    have h2 : n = 4294967295 - q := by
      rw [← hx, ← h1, ← Nat.xor_assoc, Nat.xor_self, Nat.zero_xor]
    show t ++ four (crcMore 0 (four s ++ t)) = _
    rw [hm, ← h2]
theorem four_of (u : List Int) (hl : u.length = 4) (hu : ∀ x ∈ u, 0 ≤ x ∧ x < 256) : ∃ n, n < 4294967296 ∧ u = four n := by
  match u, hl with
  | [a, b, c, d], _ =>
    have ha := hu a (by simp)
    have hb := hu b (by simp)
    have hc := hu c (by simp)
    have hd := hu d (by simp)
    obtain ⟨a, rfl⟩ := Int.eq_ofNat_of_zero_le ha.1
    obtain ⟨b, rfl⟩ := Int.eq_ofNat_of_zero_le hb.1
    obtain ⟨c, rfl⟩ := Int.eq_ofNat_of_zero_le hc.1
    obtain ⟨d, rfl⟩ := Int.eq_ofNat_of_zero_le hd.1
    refine ⟨a + 256 * b + 65536 * c + 16777216 * d, by omega, ?_⟩
    simp only [four, List.cons.injEq, and_true]
    omega

def crcR : Nat := crcBits 32 4294967295
theorem openB_iff (b : List Int) (s : Nat) (hl : 4 ≤ b.length) (hb : ∀ x ∈ b, 0 ≤ x ∧ x < 256) : (openB b s).2 = none ↔ crcT s b = crcR := by
  have hcat : b.take (b.length - 4) ++ b.drop (b.length - 4) = b := List.take_append_drop _ _
  obtain ⟨n, hn, hu⟩ := four_of (b.drop (b.length - 4)) (by simp; omega) (fun x hx => hb x (List.mem_of_mem_drop hx))
  have h := sealB_iff (b.take (b.length - 4)) (b.drop (b.length - 4)) s (fun x hx => hb x (List.mem_of_mem_take hx)) n hn hu
  rw [hcat] at h
  unfold openB
  rw [if_neg (by omega)]
  show _ ↔ crcT s b = crcBits 32 4294967295
  rw [← h]
  by_cases he : sealB (b.take (b.length - 4)) s = b
  · simp [he]
  · simp [he]
theorem openB_some (b : List Int) (s : Nat) (hl : 4 ≤ b.length) (h : (openB b s).2 = none) : (openB b s).1 = b.take (b.length - 4) := by
  unfold openB at h ⊢
  rw [if_neg (by omega)] at h ⊢
  by_cases he : sealB (b.take (b.length - 4)) s = b
  · rw [if_pos he]
  · rw [if_neg he] at h; cases h
theorem openB_seal (b : List Int) (s : Nat) : openB (sealB b s) s = (b, none) := by
  have hl := sealB_len b s
  have ht : (sealB b s).take b.length = b := by simp [sealB]
  unfold openB
  rw [if_neg (by omega), hl, show b.length + 4 - 4 = b.length by omega, ht, if_pos rfl]
theorem crcT_seal (b : List Int) (s : Nat) (hb : ∀ x ∈ b, 0 ≤ x ∧ x < 256) : crcT s (sealB b s) = crcR := by
  have h := (openB_iff (sealB b s) s (by rw [sealB_len]; omega) (sealB_bytes b s hb)).1 (by rw [openB_seal])
  exact h
/-- another seed -/
theorem crcT_seed (s t : Nat) (c : List Int) (hs : s < 4294967296) (ht : t < 4294967296) (hc : ∀ x ∈ c, 0 ≤ x ∧ x < 256) (h : crcT s c = crcT t c) : s = t := by
  unfold crcT at h
  rw [crcFold_append, crcFold_append, crcFold_four _ s hs, crcFold_four _ t ht] at h
  have h1 := crcFold_xor (crcBits 32 (4294967295 ^^^ s)) (crcBits 32 (4294967295 ^^^ s) ^^^ crcBits 32 (4294967295 ^^^ t)) c (fun x hx => (hc x hx).1)
  rw [← Nat.xor_assoc, Nat.xor_self, Nat.zero_xor, h] at h1
  have l1 := crcBits_lt 32 _ (Nat.xor_lt_two_pow (n := 32) (show 4294967295 < 2 ^ 32 by omega) (show s < 2 ^ 32 by omega))
  have l2 := crcBits_lt 32 _ (Nat.xor_lt_two_pow (n := 32) (show 4294967295 < 2 ^ 32 by omega) (show t < 2 ^ 32 by omega))
  have h2 : crcBits (8 * c.length) (crcBits 32 (4294967295 ^^^ s) ^^^ crcBits 32 (4294967295 ^^^ t)) = 0 := by
    have := congrArg (fun x => crcFold (crcBits 32 (4294967295 ^^^ t)) c ^^^ x) h1
    simpa [← Nat.xor_assoc] using this.symm
  have h3 := xor_zero_eq (crcBits_ne _ _ (Nat.xor_lt_two_pow (n := 32) l1 l2) h2)
  have h4 := crcBits_inj 32 _ _ (Nat.xor_lt_two_pow (n := 32) (show 4294967295 < 2 ^ 32 by omega) (show s < 2 ^ 32 by omega)) (Nat.xor_lt_two_pow (n := 32) (show 4294967295 < 2 ^ 32 by omega) (show t < 2 ^ 32 by omega)) h3
  have := congrArg (4294967295 ^^^ ·) h4
  simpa [← Nat.xor_assoc] using this
theorem openB_seed (b : List Int) (s t : Nat) (hb : ∀ x ∈ b, 0 ≤ x ∧ x < 256) (hs : s < 4294967296) (ht : t < 4294967296) : (openB (sealB b s) t).2 = none ↔ t = s := by
  rw [openB_iff _ _ (by rw [sealB_len]; omega) (sealB_bytes b s hb), ← crcT_seal b s hb]
  exact ⟨fun h => crcT_seed t s _ ht hs (sealB_bytes b s hb) h, fun h => by rw [h]⟩
/-- all numbers unlike, told by halving -/
def unlike : Nat → List Nat → Bool
  | _, [] => true
  | 0, [_] => true
  | 0, _ :: _ :: _ => false
  | d + 1, l => unlike d ((l.filter (· % 2 == 0)).map (· / 2)) && unlike d ((l.filter (· % 2 == 1)).map (· / 2))
theorem unlike_join : ∀ (l : List Nat), ((l.filter (· % 2 == 0)).map (· / 2)).Pairwise (· ≠ ·) → ((l.filter (· % 2 == 1)).map (· / 2)).Pairwise (· ≠ ·) → l.Pairwise (· ≠ ·)
  | [], _, _ => List.Pairwise.nil
  | x :: l, h0, h1 => by
    rcases Nat.mod_two_eq_zero_or_one x with hx | hx
    · rw [List.filter_cons_of_pos (by simp [hx])] at h0
      rw [List.filter_cons_of_neg (by simp [hx])] at h1
      rw [List.map_cons, List.pairwise_cons] at h0
      refine List.pairwise_cons.2 ⟨fun y hy e => ?_, unlike_join l h0.2 h1⟩
      subst e
      exact h0.1 (x / 2) (List.mem_map.2 ⟨x, List.mem_filter.2 ⟨hy, by simp [hx]⟩, rfl⟩) rfl
    · rw [List.filter_cons_of_neg (by simp [hx])] at h0
      rw [List.filter_cons_of_pos (by simp [hx])] at h1
      rw [List.map_cons, List.pairwise_cons] at h1
      refine List.pairwise_cons.2 ⟨fun y hy e => ?_, unlike_join l h0 h1.2⟩
      subst e
      exact h1.1 (x / 2) (List.mem_map.2 ⟨x, List.mem_filter.2 ⟨hy, by simp [hx]⟩, rfl⟩) rfl
theorem unlike_ne : ∀ (d : Nat) (l : List Nat), unlike d l = true → l.Pairwise (· ≠ ·)
  | 0, [], _ => List.Pairwise.nil
  | 0, [_], _ => List.pairwise_singleton _ _
  | 0, _ :: _ :: _, h => by simp [unlike] at h
  | d + 1, [], _ => List.Pairwise.nil
  | d + 1, x :: l, h => by
    rw [unlike, Bool.and_eq_true] at h
    · exact unlike_join _ (unlike_ne d _ h.1) (unlike_ne d _ h.2)
    · exact List.cons_ne_nil _ _
def crcRow : Nat → Nat → List Nat
  | 0, _ => []
  | n + 1, r => r :: crcRow n (crcBit r)
theorem crcRow_len : ∀ n r, (crcRow n r).length = n
  | 0, _ => rfl
  | n + 1, r => by simp [crcRow, crcRow_len n]
theorem crcRow_get : ∀ (n r i : Nat) (h : i < (crcRow n r).length), (crcRow n r)[i] = crcBits i r
  | 0, _, _, h => by simp [crcRow] at h
  | n + 1, r, 0, _ => rfl
  | n + 1, r, i + 1, h => by
    show (crcRow n (crcBit r))[i]'(by simpa [crcRow] using h) = _
    rw [crcRow_get n (crcBit r) i]
    rfl
set_option maxRecDepth 1000000 in
theorem row_unlike : unlike 32 ((crcRow 4033 1).map (· / 2)) = true := by decide +kernel
/-- three single bits are never told as nothing -/
theorem two_one (u v : Nat) (h : v < u) (hu : u ≤ 4032) : crcBits u 1 ^^^ crcBits v 1 ≠ 1 := by
  intro e
  have h1 := unlike_ne 32 _ row_unlike
  rw [List.pairwise_iff_getElem] at h1
  have hl : ((crcRow 4033 1).map (· / 2)).length = 4033 := by rw [List.length_map, crcRow_len]
  have h2 := h1 v u (by rw [hl]; omega) (by rw [hl]; omega) h
  simp only [List.getElem_map] at h2
  rw [crcRow_get, crcRow_get] at h2
  apply h2
  have := congrArg (· / 2) e
  simp only [Nat.xor_div_two] at this
  exact (xor_zero_eq this).symm
theorem two_bits (u v : Nat) (h : u ≠ v) (hu : u ≤ 4032) (hv : v ≤ 4032) : crcBits u 1 ^^^ crcBits v 1 ≠ 1 := by
  rcases Nat.lt_or_ge v u with h1 | h1
  · exact two_one u v h1 hu
  · rw [Nat.xor_comm]; exact two_one v u (by omega) hv
theorem three_min (a b c : Nat) (hac : c ≤ a) (hbc : c ≤ b) (hab : a ≠ b) (ha : a ≤ 4032) (hb : b ≤ 4032) : crcBits a 1 ^^^ crcBits b 1 ^^^ crcBits c 1 ≠ 0 := by
  intro h
  have ea : crcBits a 1 = crcBits c (crcBits (a - c) 1) := by rw [← crcBits_add]; congr 1; omega
  have eb : crcBits b 1 = crcBits c (crcBits (b - c) 1) := by rw [← crcBits_add]; congr 1; omega
  rw [ea, eb, ← crcBits_xor] at h
  have l1 := crcBits_lt (a - c) 1 (by omega)
  have l2 := crcBits_lt (b - c) 1 (by omega)
  have h1 := crcBits_inj c _ _ (Nat.xor_lt_two_pow (n := 32) l1 l2) (by omega) (xor_zero_eq h)
  exact two_bits _ _ (by omega) (by omega) (by omega) h1
theorem one_ne (a : Nat) : crcBits a 1 ≠ 0 := fun h => by have := crcBits_ne a 1 (by omega) h; omega
theorem three_bits (a b c : Nat) (ha : a ≤ 4032) (hb : b ≤ 4032) (hc : c ≤ 4032) : crcBits a 1 ^^^ crcBits b 1 ^^^ crcBits c 1 ≠ 0 := by
  by_cases hab : a = b
  · subst hab; rw [Nat.xor_self, Nat.zero_xor]; exact one_ne c
  by_cases hac : a = c
  · subst hac; rw [Nat.xor_comm (crcBits a 1), Nat.xor_assoc, Nat.xor_self, Nat.xor_zero]; exact one_ne b
  by_cases hbc : b = c
  · subst hbc; rw [Nat.xor_assoc, Nat.xor_self, Nat.xor_zero]; exact one_ne a
  rcases Nat.le_total a b with h1 | h1 <;> rcases Nat.le_total a c with h2 | h2 <;> rcases Nat.le_total b c with h3 | h3
  · rw [Nat.xor_assoc, Nat.xor_comm]; exact three_min b c a (by omega) (by omega) hbc hb hc
  · rw [Nat.xor_assoc, Nat.xor_comm]; exact three_min b c a (by omega) (by omega) hbc hb hc
  · exact three_min a b c (by omega) (by omega) hab ha hb
  · exact three_min a b c (by omega) (by omega) hab ha hb
  · rw [Nat.xor_comm (crcBits a 1), Nat.xor_assoc, Nat.xor_comm]; exact three_min a c b (by omega) (by omega) hac ha hc
  · exact three_min a b c (by omega) (by omega) hab ha hb
  · rw [Nat.xor_comm (crcBits a 1), Nat.xor_assoc, Nat.xor_comm]; exact three_min a c b (by omega) (by omega) hac ha hc
  · exact three_min a b c (by omega) (by omega) hab ha hb
/-- a burst's first k bits, turned from a place on -/
def burstAt (c : List Int) (frm burst : Nat) : Nat → List Int
  | 0 => c
  | k + 1 => if burst / 2 ^ k % 2 = 1 then flipAt (burstAt c frm burst k) (frm + k) else burstAt c frm burst k
theorem burstAt_len (c : List Int) (frm burst : Nat) : ∀ k, (burstAt c frm burst k).length = c.length
  | 0 => rfl
  | k + 1 => by unfold burstAt; split <;> simp [flipAt_len, burstAt_len c frm burst k]
theorem burstAt_bytes (c : List Int) (frm burst : Nat) (h : ∀ x ∈ c, 0 ≤ x ∧ x < 256) : ∀ k, ∀ x ∈ burstAt c frm burst k, 0 ≤ x ∧ x < 256
  | 0 => h
  | k + 1 => by
    unfold burstAt
    split
    · exact flipAt_bytes _ _ (burstAt_bytes c frm burst h k)
    · exact burstAt_bytes c frm burst h k
theorem mod_succ_xor (n k : Nat) : n % 2 ^ (k + 1) = n % 2 ^ k ^^^ (if n / 2 ^ k % 2 = 1 then 2 ^ k else 0) := by
  apply Nat.eq_of_testBit_eq
  intro i
  rw [Nat.testBit_xor, Nat.testBit_mod_two_pow, Nat.testBit_mod_two_pow]
  have hk : n.testBit k = decide (n / 2 ^ k % 2 = 1) := by rw [Nat.testBit_eq_decide_div_mod_eq]
  by_cases h : n / 2 ^ k % 2 = 1
  · rw [if_pos h, Nat.testBit_two_pow]
    by_cases h1 : i = k
    · subst h1; simp [hk, h]
    · by_cases h2 : i < k
      · simp [h2, show i < k + 1 by omega, show k ≠ i by omega]
      · simp [h2, show ¬ i < k + 1 by omega, show k ≠ i by omega]
  · rw [if_neg h, Nat.zero_testBit]
    by_cases h1 : i = k
    · subst h1; simp [hk, h]
    · by_cases h2 : i < k
      · simp [h2, show i < k + 1 by omega]
      · simp [h2, show ¬ i < k + 1 by omega]
theorem burst_tells (s : Nat) (c : List Int) (frm burst : Nat) (hc : ∀ x ∈ c, 0 ≤ x ∧ x < 256) (hf : frm + 32 ≤ 8 * c.length) : ∀ k, k ≤ 32 →
    crcT s (burstAt c frm burst k) = crcT s c ^^^ crcBits (8 * c.length - frm) (burst % 2 ^ k)
  | 0, _ => by rw [Nat.pow_zero, Nat.mod_one, crcBits_zero, Nat.xor_zero]; rfl
  | k + 1, hk => by
    have ih := burst_tells s c frm burst hc hf k (by omega)
    rw [mod_succ_xor, crcBits_xor, ← Nat.xor_assoc, ← ih]
    have e : burstAt c frm burst (k + 1) = if burst / 2 ^ k % 2 = 1 then flipAt (burstAt c frm burst k) (frm + k) else burstAt c frm burst k := rfl
    rw [e]
    by_cases h : burst / 2 ^ k % 2 = 1
    · rw [if_pos h, if_pos h, crcT_flip _ _ _ (by rw [burstAt_len]; omega) (burstAt_bytes c frm burst hc k), burstAt_len]
      congr 1
      have : 8 * c.length - frm = k + (8 * c.length - (frm + k)) := by omega
      rw [this, crcBits_add, crcBits_two]
    · rw [if_neg h, if_neg h, crcBits_zero, Nat.xor_zero]

end Go.Proofs.YtdlacjbicjhfgaaDoor
