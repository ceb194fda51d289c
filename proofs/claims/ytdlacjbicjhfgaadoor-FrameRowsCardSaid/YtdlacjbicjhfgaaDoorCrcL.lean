/- Plain: chapter 1's sums are linear: what is taken apart has its sums taken apart. -/
import Derived.Test.YtdlacjbicjhfgaaDoorCrcP
namespace Go.Proofs.YtdlacjbicjhfgaaDoor
open Go.RowKit Go.Proofs.YtdlacjbicjhfgaaDoorW.PrintWords

theorem crcBit_eq (r : Nat) : crcBit r = (r / 2) ^^^ (if r % 2 = 1 then 3988292384 else 0) := by
  unfold crcBit
  split <;> simp
theorem xor4 (a b c d : Nat) : (a ^^^ b) ^^^ (c ^^^ d) = (a ^^^ c) ^^^ (b ^^^ d) := by
  rw [Nat.xor_assoc, Nat.xor_assoc, ← Nat.xor_assoc b c d, Nat.xor_comm b c, Nat.xor_assoc c b d]
theorem crcBit_xor (a b : Nat) : crcBit (a ^^^ b) = crcBit a ^^^ crcBit b := by
  rw [crcBit_eq, crcBit_eq, crcBit_eq, xor4]
  congr 1
  · exact Nat.xor_div_two
  · have := @Nat.xor_mod_two_eq_one a b
    rcases Nat.mod_two_eq_zero_or_one a with ha | ha <;> rcases Nat.mod_two_eq_zero_or_one b with hb | hb <;> simp [this, ha, hb]
theorem crcBits_xor (n : Nat) : ∀ a b, crcBits n (a ^^^ b) = crcBits n a ^^^ crcBits n b := by
  induction n with
  | zero => intro a b; rfl
  | succ n ih => intro a b; show crcBits n (crcBit (a ^^^ b)) = _; rw [crcBit_xor, ih]; rfl
theorem crcStep_xor (r s a b : Nat) : crcStep (r ^^^ s) (a ^^^ b) = crcStep r a ^^^ crcStep s b := by
  unfold crcStep
  rw [xor4, crcBits_xor]
/-- two rows taken apart, place by place -/
def apart : List Int → List Int → List Int
  | x :: xs, y :: ys => ((x.toNat ^^^ y.toNat : Nat) : Int) :: apart xs ys
  | _, _ => []
theorem apart_len : ∀ (xs ys : List Int), xs.length = ys.length → (apart xs ys).length = xs.length
  | [], [], _ => rfl
  | x :: xs, y :: ys, h => by simp [apart, apart_len xs ys (by simpa using h)]
theorem apart_bytes : ∀ (xs ys : List Int), (∀ x ∈ xs, 0 ≤ x ∧ x < 256) → (∀ x ∈ ys, 0 ≤ x ∧ x < 256) → ∀ x ∈ apart xs ys, 0 ≤ x ∧ x < 256
  | [], _, _, _ => by simp [apart]
  | _ :: _, [], _, _ => by simp [apart]
  | x :: xs, y :: ys, hx, hy => by
    intro z hz
    simp only [apart, List.mem_cons] at hz
    rcases hz with rfl | hz
    · have h1 := hx x (List.mem_cons_self ..)
      have h2 := hy y (List.mem_cons_self ..)
      have := Nat.xor_lt_two_pow (n := 8) (show x.toNat < 2 ^ 8 by omega) (show y.toNat < 2 ^ 8 by omega)
      omega
    · exact apart_bytes xs ys (fun a h => hx a (List.mem_cons_of_mem _ h)) (fun a h => hy a (List.mem_cons_of_mem _ h)) z hz
theorem apart_get : ∀ (xs ys : List Int) (k : Nat), xs.length = ys.length → k < xs.length → (apart xs ys).getD k 0 = (((xs.getD k 0).toNat ^^^ (ys.getD k 0).toNat : Nat) : Int)
  | x :: xs, y :: ys, 0, _, _ => by simp [apart]
  | x :: xs, y :: ys, k + 1, h, hk => by
    have := apart_get xs ys k (by simpa using h) (by simpa using hk)
    simpa [apart] using this
theorem crcFold_apart : ∀ (xs ys : List Int) (r s : Nat), xs.length = ys.length → crcFold (r ^^^ s) (apart xs ys) = crcFold r xs ^^^ crcFold s ys
  | [], [], r, s, _ => rfl
  | x :: xs, y :: ys, r, s, h => by
    have := crcFold_apart xs ys (crcStep r x.toNat) (crcStep s y.toNat) (by simpa using h)
    rw [← crcStep_xor] at this
    exact this
def noughts (n : Nat) : List Int := List.replicate n 0
theorem apart_noughts : ∀ (xs : List Int), (∀ x ∈ xs, 0 ≤ x) → apart xs (noughts xs.length) = xs
  | [], _ => rfl
  | x :: xs, h => by
    have := apart_noughts xs (fun a ha => h a (List.mem_cons_of_mem _ ha))
    have hx := h x (List.mem_cons_self ..)
    simp only [noughts, List.length_cons, List.replicate_succ, apart] at *
    rw [this]
    simp
    omega
theorem not_not32 (a b : Nat) (ha : a < 4294967296) (hb : b < 4294967296) : (4294967295 - a) ^^^ (4294967295 - b) = a ^^^ b := by
  rw [← xor_ones32 a ha, ← xor_ones32 b hb, xor4]
  simp
/-- the law: sums of rows of one length that are taken apart -/
theorem crcMore_apart (xs ys : List Int) (h : xs.length = ys.length) (hx : ∀ x ∈ xs, 0 ≤ x ∧ x < 256) (hy : ∀ x ∈ ys, 0 ≤ x ∧ x < 256) :
    crcMore 0 (apart xs ys) = crcMore 0 xs ^^^ crcMore 0 ys ^^^ crcMore 0 (noughts xs.length) := by
  have hz : ∀ x ∈ noughts xs.length, (0 : Int) ≤ x ∧ x < 256 := by
    intro x hx
    have := List.eq_of_mem_replicate hx
    omega
  have hab := apart_bytes xs ys hx hy
  have hl := apart_len xs ys h
  have h1 := crcFold_apart (apart xs ys) (noughts xs.length) (4294967295 ^^^ 4294967295) 4294967295 (by rw [hl]; simp [noughts])
  rw [crcFold_apart xs ys _ _ h] at h1
  have h2 := apart_noughts (apart xs ys) (fun x hx => (hab x hx).1)
  rw [hl] at h2
  rw [h2, show 4294967295 ^^^ 4294967295 ^^^ 4294967295 = 4294967295 by decide] at h1
  unfold crcMore
  rw [Nat.sub_zero, h1]
  have l1 := crcFold_lt xs 4294967295 (by omega) hx
  have l2 := crcFold_lt ys 4294967295 (by omega) hy
  have l3 := crcFold_lt (noughts xs.length) 4294967295 (by omega) hz
  rw [not_not32 _ _ l1 l2]
  have l12 := Nat.xor_lt_two_pow (n := 32) l1 l2
  rw [← xor_ones32 _ l3, ← xor_ones32 _ (Nat.xor_lt_two_pow (n := 32) l12 l3), Nat.xor_assoc]

theorem nums_noughts (n : Nat) : (madeCells (Value.int .u8 0).cells (n * 1)).toList = nums .u8 (noughts n) := by
  rw [show (Value.int .u8 0).cells = #[.int .u8 0] from rfl, Nat.mul_one, toList_madeCells_one]
  simp [nums, noughts]

end Go.Proofs.YtdlacjbicjhfgaaDoor
