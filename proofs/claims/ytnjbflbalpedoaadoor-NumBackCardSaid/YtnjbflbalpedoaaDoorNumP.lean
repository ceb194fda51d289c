/- Plain laws on numbers in bytes (chapter 2): the code 'enc' of a list of numbers. -/
import Derived.Test.YtnjbflbalpedoaaDoorBase
namespace Go.Proofs.YtnjbflbalpedoaaDoor
open Go.RowKit Go.Proofs.YtnjbflbalpedoaaDoorW.PrintWords

def zz (n : Int) : Int := if 0 ≤ n then 2 * n else -2 * n - 1
theorem zz_range (n : Int) (h0 : -9223372036854775808 ≤ n) (h1 : n ≤ 9223372036854775807) : 0 ≤ zz n ∧ zz n ≤ 18446744073709551615 := by
  unfold zz; split <;> omega
theorem xor_ones (x : Nat) (hx : x < 18446744073709551616) : x ^^^ 18446744073709551615 = 18446744073709551615 - x := by
  have h := congrArg BitVec.toNat (BitVec.xor_allOnes (x := BitVec.ofNat 64 x))
  simpa [BitVec.toNat_xor, BitVec.toNat_not, Nat.mod_eq_of_lt hx] using h
theorem zz_eq (n : Int) (h0 : -9223372036854775808 ≤ n) (h1 : n ≤ 9223372036854775807) :
    bits .xor .u64 (IntKind.u64.wrap (IntKind.u64.wrap n * 2)) (IntKind.u64.wrap (n / 9223372036854775808)) = zz n := by
  simp only [IntKind.wrap_u64]
  by_cases h : 0 ≤ n
  · obtain ⟨a, ha⟩ : ∃ a : Nat, n % 18446744073709551616 * 2 % 18446744073709551616 = (a : Int) := ⟨_, (Int.toNat_of_nonneg (by omega)).symm⟩
    have hb : n / 9223372036854775808 % 18446744073709551616 = ((0 : Nat) : Int) := by omega
    rw [ha, hb, bits_xor_u64_nat _ _ (by omega) (by omega), Nat.xor_zero, ← ha]
    unfold zz; rw [if_pos h]; omega
  · obtain ⟨a, ha⟩ : ∃ a : Nat, n % 18446744073709551616 * 2 % 18446744073709551616 = (a : Int) := ⟨_, (Int.toNat_of_nonneg (by omega)).symm⟩
    have hb : n / 9223372036854775808 % 18446744073709551616 = ((18446744073709551615 : Nat) : Int) := by omega
    rw [ha, hb, bits_xor_u64_nat _ _ (by omega) (by omega), xor_ones a (by omega)]
    unfold zz; rw [if_neg h]; omega
def encU (u : Nat) : List Int := if h : 127 < u then ((u % 128 + 128 : Nat) : Int) :: encU (u / 128) else [(u : Int)]
termination_by u
theorem encU_big (u : Nat) (h : 127 < u) : encU u = ((u % 128 + 128 : Nat) : Int) :: encU (u / 128) := by rw [encU, dif_pos h]
theorem encU_small (u : Nat) (h : ¬ 127 < u) : encU u = [(u : Int)] := by rw [encU, dif_neg h]
def enc (l : List Int) : List Int := l.flatMap fun n => encU (zz n).toNat
theorem encU_len (n : Nat) : ∀ u, u < 128 ^ (n + 1) → (encU u).length ≤ n + 1 := by
  induction n with
  | zero => intro u h; rw [encU_small u (by omega)]; simp
  | succ n ih =>
    intro u h
    by_cases hb : 127 < u
    · rw [encU_big u hb]
      have := ih (u / 128) (by rw [Nat.pow_succ] at h; omega)
      simp; omega
    · rw [encU_small u hb]; simp
theorem encU_len10 (u : Nat) (h : u < 18446744073709551616) : (encU u).length ≤ 10 := encU_len 9 u (by omega)
theorem enc_len (l : List Int) (hr : ∀ n ∈ l, -9223372036854775808 ≤ n ∧ n ≤ 9223372036854775807) : (enc l).length ≤ 10 * l.length := by
  induction l with
  | nil => simp [enc]
  | cons n l ih =>
    have h1 := ih (fun m hm => hr m (List.mem_cons_of_mem _ hm))
    have h2 := hr n (List.mem_cons_self ..)
    have h3 := zz_range n h2.1 h2.2
    have h4 := encU_len10 (zz n).toNat (by omega)
    simp only [enc, List.flatMap_cons, List.length_append, List.length_cons] at *
    omega
theorem or128_all : ∀ a : Fin 256, a.val ||| 128 = a.val % 128 + 128 := by decide +kernel
theorem or128 (u : Nat) : bits .or .u8 ((u : Int) % 256) 128 = ((u % 128 + 128 : Nat) : Int) := by
  have h := or128_all ⟨u % 256, Nat.mod_lt _ (by omega)⟩
  have h2 := u8_or_nat (u % 256) 128 (Nat.mod_lt _ (by omega)) (by omega)
  rw [show ((u : Int) % 256) = ((u % 256 : Nat) : Int) from by omega]
  simp only at h
  rw [show (128 : Int) = ((128 : Nat) : Int) from rfl, h2, h]
  omega
theorem enc_snoc (l : List Int) (k : Nat) (h : k < l.length) : enc (l.take (k + 1)) = enc (l.take k) ++ encU (zz (l.getD k 0)).toNat := by
  have e : l.getD k 0 = l[k] := by simp [List.getD, List.getElem?_eq_getElem h]
  unfold enc
  rw [List.take_succ_eq_append_getElem h, e, List.flatMap_append, List.flatMap_singleton]
theorem encU_gt (n : Nat) : ∀ u, n + 1 < (encU u).length ↔ 128 ^ (n + 1) ≤ u := by
  induction n with
  | zero =>
    intro u
    by_cases hb : 127 < u
    · have : 0 < (encU (u / 128)).length := by
        by_cases hb : 127 < u / 128
        · rw [encU_big _ hb]; simp
        · rw [encU_small _ hb]; simp
      rw [encU_big u hb]; simp; omega
    · rw [encU_small u hb]; simp; omega
  | succ n ih =>
    intro u
    by_cases hb : 127 < u
    · have := ih (u / 128)
      rw [encU_big u hb, Nat.pow_succ]; simp only [List.length_cons]; omega
    · have : 128 ^ (n + 1 + 1) ≥ 128 := by rw [Nat.pow_succ]; have : 0 < 128 ^ (n + 1) := Nat.pow_pos (by omega); omega
      rw [encU_small u hb]; simp; omega
theorem encU_inj (u : Nat) : ∀ v, encU u = encU v → u = v := by
  induction u using Nat.strongRecOn with
  | _ u ih =>
    intro v h
    by_cases hu : 127 < u <;> by_cases hv : 127 < v
    · rw [encU_big u hu, encU_big v hv] at h
      injection h with h1 h2
      have := ih (u / 128) (by omega) _ h2
      omega
    · rw [encU_big u hu, encU_small v hv] at h
      injection h with h1 h2
      omega
    · rw [encU_small u hu, encU_big v hv] at h
      injection h with h1 h2
      omega
    · rw [encU_small u hu, encU_small v hv] at h
      injection h with h1 h2
      omega
theorem enc_one (a : Int) : enc [a] = encU (zz a).toNat := by simp [enc]
theorem zz_inj (a b : Int) (h : (zz a).toNat = (zz b).toNat) : a = b := by
  unfold zz at h; split at h <;> split at h <;> omega
theorem enc_inj (a b : Int) : enc [a] = enc [b] ↔ a = b := by
  rw [enc_one, enc_one]; exact ⟨fun h => zz_inj _ _ (encU_inj _ _ h), fun h => by rw [h]⟩
theorem enc_pos (a : Int) : 1 ≤ (enc [a]).length := by
  rw [enc_one]
  by_cases hb : 127 < (zz a).toNat
  · rw [encU_big _ hb]; simp
  · rw [encU_small _ hb]; simp
theorem few_cond (a : Int) (k : Nat) (h1 : 1 ≤ k) (h2 : (k : Int) < 10) : (wrap64 (2 ^ (7 * k - 1)) ≤ a ∨ a < wrap64 (-2 ^ (7 * k - 1))) ↔ k < (enc [a]).length := by
  obtain ⟨n, rfl⟩ : ∃ n, k = n + 1 := ⟨k - 1, by omega⟩
  rw [enc_one, encU_gt]
  have hn : n < 9 := by omega
  unfold zz
  match n, hn with
  | 0, _ => simp [wrap64]; split <;> omega
  | 1, _ => simp [wrap64]; split <;> omega
  | 2, _ => simp [wrap64]; split <;> omega
  | 3, _ => simp [wrap64]; split <;> omega
  | 4, _ => simp [wrap64]; split <;> omega
  | 5, _ => simp [wrap64]; split <;> omega
  | 6, _ => simp [wrap64]; split <;> omega
  | 7, _ => simp [wrap64]; split <;> omega
  | 8, _ => simp [wrap64]; split <;> omega
theorem zz_shl (n : Int) (h0 : 0 ≤ n) (h1 : n ≤ 9223372036854775807) : IntKind.u64.wrap (IntKind.u64.wrap n * 2) = zz n := by
  simp only [IntKind.wrap_u64]; unfold zz; rw [if_pos h0]; omega
theorem zz_not (n : Int) (h0 : -9223372036854775808 ≤ n) (h1 : n < 0) : bits .xor .u64 IntKind.u64.max (IntKind.u64.wrap (IntKind.u64.wrap n * 2)) = zz n := by
  simp only [IntKind.wrap_u64]
  obtain ⟨a, ha⟩ : ∃ a : Nat, n % 18446744073709551616 * 2 % 18446744073709551616 = (a : Int) := ⟨_, (Int.toNat_of_nonneg (by omega)).symm⟩
  have hm : IntKind.u64.max = ((18446744073709551615 : Nat) : Int) := by decide
  rw [ha, hm, bits_xor_u64_nat _ _ (by omega) (by omega), Nat.xor_comm, xor_ones a (by omega)]
  unfold zz; rw [if_neg (by omega)]; omega
theorem enc_one_len (a : Int) (h0 : -9223372036854775808 ≤ a) (h1 : a ≤ 9223372036854775807) : (enc [a]).length ≤ 10 := by
  have := enc_len [a] (by simp; omega)
  simpa using this
theorem enc_take_le (l : List Int) (k : Nat) : (enc (l.take k)).length ≤ (enc l).length := by
  have h : enc l = enc (l.take k) ++ enc (l.drop k) := by unfold enc; rw [← List.flatMap_append, List.take_append_drop]
  rw [h]; simp
/-- texts in bytes; flags in bytes -/
def encT (l : List ByteArray) : List Int := l.flatMap fun s => enc [(s.size : Int)] ++ bytesOf s
def encF (l : List Bool) : List Int := l.map fun b => if b then 1 else 0
theorem encT_snoc (l : List ByteArray) (k : Nat) (h : k < l.length) : encT (l.take (k + 1)) = encT (l.take k) ++ (enc [((l.getD k ByteArray.empty).size : Int)] ++ bytesOf (l.getD k ByteArray.empty)) := by
  have e : l.getD k ByteArray.empty = l[k] := by simp [List.getD, List.getElem?_eq_getElem h]
  unfold encT
  rw [List.take_succ_eq_append_getElem h, e, List.flatMap_append, List.flatMap_singleton]
theorem encF_snoc (l : List Bool) (k : Nat) (h : k < l.length) : encF (l.take (k + 1)) = encF (l.take k) ++ [if l.getD k false then 1 else 0] := by
  have e : l.getD k false = l[k] := by simp [List.getD, List.getElem?_eq_getElem h]
  unfold encF
  rw [List.take_succ_eq_append_getElem h, e, List.map_append, List.map_singleton]
theorem encT_take_le (l : List ByteArray) (k : Nat) : (encT (l.take k)).length ≤ (encT l).length := by
  have h : encT l = encT (l.take k) ++ encT (l.drop k) := by unfold encT; rw [← List.flatMap_append, List.take_append_drop]
  rw [h]; simp
theorem encF_len (l : List Bool) : (encF l).length = l.length := by simp [encF]

end Go.Proofs.YtnjbflbalpedoaaDoor
