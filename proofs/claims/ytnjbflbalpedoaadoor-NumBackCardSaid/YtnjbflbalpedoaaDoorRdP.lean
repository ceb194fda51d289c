/- Plain: what chapter 2's reader answers, as functions of the bytes that are left and the first error (errors by their places: 101 and on). -/
import Derived.Test.YtnjbflbalpedoaaDoorNumP
import Derived.Laws.DeepNot64
namespace Go.Proofs.YtnjbflbalpedoaaDoor
open Go.RowKit Go.Proofs.YtnjbflbalpedoaaDoorW.PrintWords

/-- one byte: it, whether there was one, what is left, the error -/
def rdOne : List Int → Option Nat → Int × Bool × List Int × Option Nat
  | bs, some e => (0, false, bs, some e)
  | [], none => (0, false, [], some 101)
  | c :: r, none => (c, true, r, none)
/-- a number without a sign, from its place k on, u read so far -/
def rdWhole : Nat → Nat → List Int → Nat × List Int × Option Nat
  | _, _, [] => (0, [], some 101)
  | k, u, c :: r => if k = 9 ∧ 1 < c ∨ c = 0 ∧ 0 < k then (0, r, some 102) else if c < 128 then (u + c.toNat * 128 ^ k, r, none) else rdWhole (k + 1) (u + (c.toNat - 128) * 128 ^ k) r
def unzz (u : Nat) : Int := if u % 2 = 0 then (u / 2 : Nat) else -((u / 2 : Nat) : Int) - 1
/-- what is left, and the error, behind a number's bytes -/
def rdBs (bs : List Int) : Option Nat → List Int | some _ => bs | none => (rdWhole 0 0 bs).2.1
def rdErr (bs : List Int) : Option Nat → Option Nat | some e => some e | none => (rdWhole 0 0 bs).2.2
def rdInt (bs : List Int) (err : Option Nat) (low high : Int) : Int × List Int × Option Nat :=
  match err with
  | some e => (0, bs, some e)
  | none => match rdWhole 0 0 bs with
    | (_, r, some e) => (0, r, some e)
    | (u, r, none) => if unzz u < low ∨ high < unzz u then (0, r, some 107) else (unzz u, r, none)
def rdTextG (most : Int) : Int × List Int × Option Nat → List Int × List Int × Option Nat
  | (_, r, some e) => ([], r, some e)
  | (n, r, none) => if most < n then ([], r, some 105) else if (r.length : Int) < n then ([], r, some 101) else (r.take n.toNat, r.drop n.toNat, none)
def rdText (bs : List Int) (err : Option Nat) (most : Int) : List Int × List Int × Option Nat := rdTextG most (rdInt bs err 0 2147483647)
def rdFlag (bs : List Int) (err : Option Nat) : Bool × List Int × Option Nat :=
  match err, bs with
  | some e, bs => (false, bs, some e)
  | none, [] => (false, [], some 101)
  | none, c :: r => if 1 < c then (false, r, some 102) else (decide (c = 1), r, none)
def rdDone (bs : List Int) (err : Option Nat) : Option Nat :=
  match err with
  | some e => some e
  | none => if 0 < bs.length then some 102 else none

theorem i64_xor0 (a : Nat) (ha : a < 9223372036854775808) : bits .xor .i64 (a : Int) 0 = (a : Int) := by
  show IntKind.i64.wrap ((BitVec.ofInt 64 (a : Int) ^^^ BitVec.ofInt 64 0).toNat : Int) = _
  have h1 : BitVec.ofInt 64 0 = 0#64 := by decide
  rw [h1, BitVec.xor_zero, ofInt_u64 a (by omega)]
  simp [IntKind.wrap, IntKind.bits, IntKind.signed]
  omega
theorem i64_xor1 (a : Nat) (ha : a < 9223372036854775808) : bits .xor .i64 (a : Int) (-1) = -1 - (a : Int) := by
  have h := i64_not a ha
  rw [← h]
  unfold bits
  simp [BitVec.xor_comm]
theorem unzz_eq (u : Nat) (hu : u < 18446744073709551616) : bits .xor .i64 ((u : Int) / 2) (wrap64 (-wrap64 (bits .and .u64 (u : Int) 1))) = unzz u := by
  have h1 : bits .and .u64 (u : Int) 1 = ((u % 2 : Nat) : Int) := by
    have := u64_and_nat u 1 hu (by omega)
    rw [show ((1 : Nat) : Int) = 1 from rfl] at this
    rw [this, nat_mask1]
  have h2 : (u : Int) / 2 = ((u / 2 : Nat) : Int) := by omega
  rw [h1, h2]
  unfold unzz
  by_cases h : u % 2 = 0
  · rw [if_pos h, h, show wrap64 (-wrap64 ((0 : Nat) : Int)) = 0 by unfold wrap64; omega, i64_xor0 _ (by omega)]
  · have h' : u % 2 = 1 := by omega
    rw [if_neg h, h', show wrap64 (-wrap64 ((1 : Nat) : Int)) = -1 by unfold wrap64; omega, i64_xor1 _ (by omega)]
    omega
theorem unzz_zz (n : Int) : unzz (zz n).toNat = n := by
  unfold unzz zz
  split <;> split <;> omega
theorem unzz_range (u : Nat) (hu : u < 18446744073709551616) : -9223372036854775808 ≤ unzz u ∧ unzz u ≤ 9223372036854775807 := by
  unfold unzz; split <;> omega
/-- u with the seven low bits of c laid at place k -/
theorem or_shl (u k : Nat) (c : Int) (hk : k ≤ 9) (hu : u < 128 ^ k) (hc0 : 0 ≤ c) (hc : c < 256) (h9 : k = 9 → c % 128 < 2) :
    bits .or .u64 (u : Int) (((c.toNat % 128) * 128 ^ k : Nat) : Int) = ((u + (c.toNat % 128) * 128 ^ k : Nat) : Int) := by
  have h1 : (c.toNat % 128) * 128 ^ k < 18446744073709551616 ∧ u < 18446744073709551616 := by
    have hm : c.toNat % 128 < 128 := by omega
    have h9' : k = 9 → c.toNat % 128 < 2 := fun h => by have := h9 h; omega
    match k, hk, hu, h9' with
    | 0, _, _, _ | 1, _, _, _ | 2, _, _, _ | 3, _, _, _ | 4, _, _, _ | 5, _, _, _ | 6, _, _, _ | 7, _, _, _ | 8, _, _, _ | 9, _, _, _ => omega
  rw [u64_or_nat _ _ h1.2 h1.1, Nat.or_comm, show (128 : Nat) = 2 ^ 7 from rfl, ← Nat.pow_mul] at *
  rw [nat_join (7 * k) _ _ (Nat.mul_mod_left _ _) hu, Nat.add_comm]

theorem pow128 (k : Nat) : (2 : Int) ^ (7 * k) = ((128 ^ k : Nat) : Int) := by
  rw [Int.pow_mul]; norm_cast
theorem u128_lt (u k : Nat) (c : Int) (hk : k ≤ 9) (hu : u < 128 ^ k) (h9 : k = 9 → c % 128 < 2) (hc0 : 0 ≤ c) : u + (c.toNat % 128) * 128 ^ k < 18446744073709551616 ∧ u + (c.toNat % 128) * 128 ^ k < 128 ^ (k + 1) := by
  have hm : c.toNat % 128 < 128 := by omega
  have h9' : k = 9 → c.toNat % 128 < 2 := fun h => by have := h9 h; omega
  match k, hk, hu, h9' with
  | 0, _, _, _ | 1, _, _, _ | 2, _, _, _ | 3, _, _, _ | 4, _, _, _ | 5, _, _, _ | 6, _, _, _ | 7, _, _, _ | 8, _, _, _ | 9, _, _, _ => omega
theorem rdStep (u k : Nat) (c : Int) (hk : k ≤ 9) (hu : u < 128 ^ k) (hc0 : 0 ≤ c) (hc : c < 256) (h9 : k = 9 → c % 128 < 2) :
    bits .or .u64 (u : Int) (IntKind.u64.wrap (IntKind.u64.wrap (bits .and .u8 c 127) * 2 ^ (7 * k))) = ((u + (c.toNat % 128) * 128 ^ k : Nat) : Int) := by
  have h1 : bits .and .u8 c 127 = ((c.toNat % 128 : Nat) : Int) := by
    rw [u8_and c 127 hc0 hc (by omega) (by omega), show (127 : Int).toNat = 127 from rfl, nat_mask7]
  have h2 := u128_lt 0 k c hk (Nat.pow_pos (by omega)) h9 hc0
  rw [h1, IntKind.wrap_u64, IntKind.wrap_u64, Int.emod_eq_of_lt (a := ((c.toNat % 128 : Nat) : Int)) (by omega) (by omega), pow128, ← Int.natCast_mul, Int.emod_eq_of_lt (by omega) (by omega)]
  exact or_shl u k c hk hu hc0 hc h9

theorem rdInt_none (bs : List Int) (low high : Int) : rdInt bs none low high = match rdErr bs none with | some e => (0, rdBs bs none, some e) | none => if unzz (rdWhole 0 0 bs).1 < low ∨ high < unzz (rdWhole 0 0 bs).1 then (0, rdBs bs none, some 107) else (unzz (rdWhole 0 0 bs).1, rdBs bs none, none) := by
  unfold rdInt rdErr rdBs
  rcases rdWhole 0 0 bs with ⟨u, r, e⟩
  cases e <;> rfl

theorem rdInt_range (bs : List Int) (err : Option Nat) (low high : Int) (h : (rdInt bs err low high).2.2 = none) : low ≤ (rdInt bs err low high).1 ∧ (rdInt bs err low high).1 ≤ high := by
  unfold rdInt at *
  cases err with
  | some e => simp at h
  | none =>
    rcases hw : rdWhole 0 0 bs with ⟨u, r, e⟩
    rw [hw] at h
    cases e with
    | some e => simp at h
    | none =>
      simp only at h ⊢
      split at h
      · simp at h
      · rename_i hn
        rw [if_neg hn]
        simp only
        omega

/-! what was put is read -/
theorem pow128_9 : (128 : Nat) ^ 9 = 9223372036854775808 := by decide +kernel
theorem rdWhole_enc (rest : List Int) (v : Nat) : ∀ k u, (0 < k → 0 < v) → v * 128 ^ k < 18446744073709551616 → k ≤ 9 → rdWhole k u (encU v ++ rest) = (u + v * 128 ^ k, rest, none) := by
  induction v using Nat.strongRecOn with
  | _ v ih =>
    intro k u h0 h1 hk
    by_cases hb : 127 < v
    · have hk9 : k ≠ 9 := by rintro rfl; rw [pow128_9] at h1; omega
      rw [encU_big v hb, List.cons_append]
      simp only [rdWhole]
      rw [if_neg (by omega), if_neg (by omega)]
      have e1 : ((v % 128 + 128 : Nat) : Int).toNat - 128 = v % 128 := by omega
      have e2 : v * 128 ^ k = (v % 128) * 128 ^ k + (v / 128) * 128 ^ (k + 1) := by
        rw [Nat.pow_succ, Nat.mul_comm (128 ^ k) 128, ← Nat.mul_assoc, ← Nat.add_mul, show v % 128 + v / 128 * 128 = v by omega]
      have h2 : (v / 128) * 128 ^ (k + 1) < 18446744073709551616 := by rw [e2] at h1; exact Nat.lt_of_le_of_lt (Nat.le_add_left _ _) h1
      rw [e1, ih (v / 128) (by omega) (k + 1) _ (fun _ => by omega) h2 (by omega), e2, Nat.add_assoc]
    · rw [encU_small v hb, List.cons_append, List.nil_append]
      simp only [rdWhole]
      have h9 : k = 9 → v < 2 := by rintro rfl; rw [pow128_9] at h1; omega
      rw [if_neg (by omega), if_pos (by omega)]
      simp
theorem rdInt_enc (n : Int) (rest : List Int) (low high : Int) (h0 : -9223372036854775808 ≤ n) (h1 : n ≤ 9223372036854775807) :
    rdInt (enc [n] ++ rest) none low high = if n < low ∨ high < n then (0, rest, some 107) else (n, rest, none) := by
  have hz := zz_range n h0 h1
  have hw := rdWhole_enc rest (zz n).toNat 0 0 (by omega) (by omega) (by omega)
  unfold rdInt
  rw [enc_one, hw]
  simp only [Nat.pow_zero, Nat.mul_one, Nat.zero_add, unzz_zz]
theorem strOfNums_bytesOf (s : ByteArray) : strOfNums (bytesOf s) = s := by
  unfold strOfNums bytesOf
  rw [List.map_map]
  have : ((fun n : Int => UInt8.ofNat n.toNat) ∘ fun b : UInt8 => (b.toNat : Int)) = id := by funext b; simp
  rw [this, List.map_id]
theorem rdText_enc (s : ByteArray) (rest : List Int) (most : Int) (hs : s.size ≤ 2147483647) :
    rdText (enc [(s.size : Int)] ++ bytesOf s ++ rest) none most = if most < s.size then ([], bytesOf s ++ rest, some 105) else (bytesOf s, rest, none) := by
  unfold rdText
  rw [List.append_assoc, rdInt_enc _ _ _ _ (by omega) (by omega), if_neg (by omega)]
  simp only [rdTextG]
  by_cases h : most < s.size
  · rw [if_pos h, if_pos h]
  · rw [if_neg h, if_neg h, if_neg (by simp [bytesOf_length]; omega)]
    have hl : (s.size : Int).toNat = (bytesOf s).length := by rw [bytesOf_length]; omega
    rw [hl, List.take_left, List.drop_left]
theorem encU_bytes (u : Nat) : ∀ x ∈ encU u, 0 ≤ x ∧ x < 256 := by
  induction u using Nat.strongRecOn with
  | _ u ih =>
    intro x hx
    by_cases hb : 127 < u
    · rw [encU_big u hb] at hx
      rcases List.mem_cons.1 hx with rfl | hx
      · omega
      · exact ih (u / 128) (by omega) x hx
    · rw [encU_small u hb] at hx
      have := List.mem_singleton.1 hx
      omega
theorem enc_bytes (l : List Int) : ∀ x ∈ enc l, 0 ≤ x ∧ x < 256 := by
  intro x hx
  obtain ⟨n, _, h⟩ := List.mem_flatMap.1 hx
  exact encU_bytes _ x h
theorem bytesOf_bytes (s : ByteArray) : ∀ x ∈ bytesOf s, 0 ≤ x ∧ x < 256 := by
  intro x hx
  obtain ⟨b, _, rfl⟩ := List.mem_map.1 hx
  have := b.toNat_lt
  omega
theorem encT_bytes (l : List ByteArray) : ∀ x ∈ encT l, 0 ≤ x ∧ x < 256 := by
  intro x hx
  obtain ⟨s, _, h⟩ := List.mem_flatMap.1 hx
  rcases List.mem_append.1 h with h | h
  · exact enc_bytes _ x h
  · exact bytesOf_bytes s x h
theorem encF_bytes (l : List Bool) : ∀ x ∈ encF l, 0 ≤ x ∧ x < 256 := by
  intro x hx
  obtain ⟨b, _, rfl⟩ := List.mem_map.1 hx
  split <;> omega
theorem encT_drop (l : List ByteArray) (k : Nat) (h : k < l.length) : encT (l.drop k) = enc [((l.getD k ByteArray.empty).size : Int)] ++ bytesOf (l.getD k ByteArray.empty) ++ encT (l.drop (k + 1)) := by
  have e : l.getD k ByteArray.empty = l[k] := by simp [List.getD, List.getElem?_eq_getElem h]
  rw [e, List.drop_eq_getElem_cons h]
  rfl
theorem enc_drop (l : List Int) (k : Nat) (h : k < l.length) : enc (l.drop k) = enc [l.getD k 0] ++ enc (l.drop (k + 1)) := by
  have e : l.getD k 0 = l[k] := by simp [List.getD, List.getElem?_eq_getElem h]
  rw [e, List.drop_eq_getElem_cons h, enc_one]
  rfl

theorem encT_len (l : List ByteArray) (m : Nat) (h : ∀ j, j < l.length → (l.getD j ByteArray.empty).size ≤ m) (hm : m ≤ 2147483647) : (encT l).length ≤ (m + 10) * l.length := by
  induction l with
  | nil => simp [encT]
  | cons s l ih =>
    have h1 := ih (fun j hj => by have := h (j + 1) (by simp; omega); simpa using this)
    have h2 : s.size ≤ m := by have := h 0 (by simp); simpa using this
    have h3 := enc_one_len (s.size : Int) (by omega) (by omega)
    have h4 : encT (s :: l) = enc [(s.size : Int)] ++ bytesOf s ++ encT l := rfl
    rw [h4]
    simp only [List.length_append, bytesOf_length, List.length_cons]
    rw [Nat.mul_add]
    omega

/-! cut off -/
theorem rdWhole_cut (v : Nat) : ∀ j k u, j < (encU v).length → (0 < k → 0 < v) → v * 128 ^ k < 18446744073709551616 → k ≤ 9 → rdWhole k u ((encU v).take j) = (0, [], some 101) := by
  induction v using Nat.strongRecOn with
  | _ v ih =>
    intro j k u hj h0 h1 hk
    cases j with
    | zero => rw [List.take_zero]; rfl
    | succ j =>
      by_cases hb : 127 < v
      · have hk9 : k ≠ 9 := by rintro rfl; rw [pow128_9] at h1; omega
        rw [encU_big v hb] at hj ⊢
        simp only [List.length_cons] at hj
        rw [List.take_succ_cons]
        simp only [rdWhole]
        rw [if_neg (by omega), if_neg (by omega)]
        have e2 : v * 128 ^ k = (v % 128) * 128 ^ k + (v / 128) * 128 ^ (k + 1) := by
          rw [Nat.pow_succ, Nat.mul_comm (128 ^ k) 128, ← Nat.mul_assoc, ← Nat.add_mul, show v % 128 + v / 128 * 128 = v by omega]
        have h2 : (v / 128) * 128 ^ (k + 1) < 18446744073709551616 := by rw [e2] at h1; exact Nat.lt_of_le_of_lt (Nat.le_add_left _ _) h1
        exact ih (v / 128) (by omega) j (k + 1) _ (by omega) (fun _ => by omega) h2 (by omega)
      · rw [encU_small v hb] at hj
        simp at hj
/-- what is left to read, cut off: an error told, or a shorter beginning of what is left to read -/
def Cut (R bs : List Int) (err : Option Nat) : Prop := err = some 101 ∨ (err = none ∧ ∃ m, m < R.length ∧ bs = R.take m)
theorem Cut.int {n : Int} {R bs : List Int} {err : Option Nat} (h : Cut (enc [n] ++ R) bs err) (h0 : -9223372036854775808 ≤ n) (h1 : n ≤ 9223372036854775807) :
    Cut R (rdInt bs err (-9223372036854775808) 9223372036854775807).2.1 (rdInt bs err (-9223372036854775808) 9223372036854775807).2.2 := by
  rcases h with rfl | ⟨rfl, m, hm, rfl⟩
  · exact .inl rfl
  · rcases Nat.lt_or_ge m (enc [n]).length with hl | hl
    · have hz := zz_range n h0 h1
      rw [List.take_append_of_le_length (by omega), enc_one]
      rw [enc_one] at hl
      have hw := rdWhole_cut (zz n).toNat m 0 0 hl (by omega) (by omega) (by omega)
      unfold rdInt
      rw [hw]
      exact .inl rfl
    · have ht : (enc [n] ++ R).take m = enc [n] ++ R.take (m - (enc [n]).length) := by rw [List.take_append, List.take_of_length_le hl]
      rw [ht, rdInt_enc n _ _ _ h0 h1, if_neg (by omega)]
      simp only [List.length_append] at hm
      exact .inr ⟨rfl, m - (enc [n]).length, by omega, rfl⟩
theorem Cut.text {s : ByteArray} {R bs : List Int} {err : Option Nat} {most : Int} (h : Cut (enc [(s.size : Int)] ++ bytesOf s ++ R) bs err) (hs : s.size ≤ 2147483647) (hm : (s.size : Int) ≤ most) :
    Cut R (rdText bs err most).2.1 (rdText bs err most).2.2 := by
  rcases h with rfl | ⟨rfl, m, hlm, rfl⟩
  · exact .inl rfl
  · rw [List.append_assoc] at hlm ⊢
    simp only [List.length_append, bytesOf_length] at hlm
    rcases Nat.lt_or_ge m (enc [(s.size : Int)]).length with hl | hl
    · have hz := zz_range (s.size : Int) (by omega) (by omega)
      rw [List.take_append_of_le_length (by omega), enc_one]
      rw [enc_one] at hl
      have hw := rdWhole_cut (zz (s.size : Int)).toNat m 0 0 hl (by omega) (by omega) (by omega)
      unfold rdText rdInt
      rw [hw]
      exact .inl rfl
    · have ht : (enc [(s.size : Int)] ++ (bytesOf s ++ R)).take m = enc [(s.size : Int)] ++ (bytesOf s ++ R).take (m - (enc [(s.size : Int)]).length) := by rw [List.take_append, List.take_of_length_le hl]
      unfold rdText
      rw [ht, rdInt_enc _ _ _ _ (by omega) (by omega), if_neg (by omega)]
      simp only [rdTextG]
      rw [if_neg (by omega)]
      generalize hq : m - (enc [(s.size : Int)]).length = q
      by_cases hq2 : q < s.size
      · rw [if_pos (by simp [bytesOf_length]; omega)]
        exact .inl rfl
      · have hbl : (bytesOf s).length ≤ q := by rw [bytesOf_length]; omega
        have ht2 : (bytesOf s ++ R).take q = bytesOf s ++ R.take (q - s.size) := by rw [List.take_append, List.take_of_length_le hbl, bytesOf_length]
        have hl3 : (s.size : Int).toNat = (bytesOf s).length := by rw [bytesOf_length]; omega
        rw [ht2, if_neg (by simp [bytesOf_length]; omega), hl3, List.take_left, List.drop_left]
        exact .inr ⟨rfl, q - s.size, by omega, rfl⟩
theorem Cut.flag {f : Bool} {bs : List Int} {err : Option Nat} (h : Cut (encF [f]) bs err) : (rdFlag bs err).2.2 = some 101 := by
  rcases h with rfl | ⟨rfl, m, hm, rfl⟩
  · rfl
  · have : m = 0 := by simp [encF] at hm; omega
    subst this
    rfl
theorem rdFlag_enc (f : Bool) (rest : List Int) : rdFlag (encF [f] ++ rest) none = (f, rest, none) := by
  cases f <;> rfl

end Go.Proofs.YtnjbflbalpedoaaDoor
