/- Plain: chapter 1's sums as functions of numbers and lists. -/
import Derived.Test.YtdlacjbicjhfgaaDoorBase
namespace Go.Proofs.YtdlacjbicjhfgaaDoor
open Go.RowKit Go.Proofs.YtdlacjbicjhfgaaDoorW.PrintWords

def crcBit (r : Nat) : Nat := if r % 2 = 1 then (r / 2) ^^^ 3988292384 else r / 2
/-- n bits on -/
def crcBits : Nat → Nat → Nat
  | 0, r => r
  | n + 1, r => crcBits n (crcBit r)
def crcStep (r b : Nat) : Nat := crcBits 8 (r ^^^ b)
def crcFold (r : Nat) (xs : List Int) : Nat := xs.foldl (fun r x => crcStep r x.toNat) r
def crcMore (s : Nat) (xs : List Int) : Nat := 4294967295 - crcFold (4294967295 - s) xs
theorem crcBit_lt (r : Nat) (h : r < 4294967296) : crcBit r < 4294967296 := by
  unfold crcBit
  split
  · exact Nat.xor_lt_two_pow (n := 32) (by omega) (by omega)
  · omega
theorem crcBits_succ (n r : Nat) : crcBits (n + 1) r = crcBit (crcBits n r) := by
  induction n generalizing r with
  | zero => rfl
  | succ n ih => rw [crcBits, ih (crcBit r)]; rfl
theorem crcBits_lt (n : Nat) : ∀ r, r < 4294967296 → crcBits n r < 4294967296 := by
  induction n with
  | zero => intro r h; exact h
  | succ n ih => intro r h; exact ih _ (crcBit_lt r h)
theorem crcStep_lt (r b : Nat) (hr : r < 4294967296) (hb : b < 256) : crcStep r b < 4294967296 := crcBits_lt 8 _ (Nat.xor_lt_two_pow (n := 32) hr (by omega))
theorem crcFold_lt (xs : List Int) : ∀ r, r < 4294967296 → (∀ x ∈ xs, 0 ≤ x ∧ x < 256) → crcFold r xs < 4294967296 := by
  induction xs with
  | nil => intro r h _; exact h
  | cons x xs ih =>
    intro r h hb
    have hx := hb x (List.mem_cons_self ..)
    exact ih _ (crcStep_lt r x.toNat h (by omega)) (fun y hy => hb y (List.mem_cons_of_mem _ hy))
theorem crcFold_snoc (r : Nat) (xs : List Int) (k : Nat) (h : k < xs.length) : crcFold r (xs.take (k + 1)) = crcStep (crcFold r (xs.take k)) (xs.getD k 0).toNat := by
  have e : xs.getD k 0 = xs[k] := by simp [List.getD, List.getElem?_eq_getElem h]
  unfold crcFold
  rw [List.take_succ_eq_append_getElem h, List.foldl_append, e]
  rfl
theorem crcFold_append (r : Nat) (xs ys : List Int) : crcFold r (xs ++ ys) = crcFold (crcFold r xs) ys := List.foldl_append
theorem crcMore_lt (s : Nat) (xs : List Int) : crcMore s xs < 4294967296 := by unfold crcMore; omega
theorem crcMore_append (s : Nat) (xs ys : List Int) (hs : s < 4294967296) (hx : ∀ x ∈ xs, 0 ≤ x ∧ x < 256) : crcMore s (xs ++ ys) = crcMore (crcMore s xs) ys := by
  unfold crcMore
  have := crcFold_lt xs (4294967295 - s) (by omega) hx
  rw [crcFold_append, show 4294967295 - (4294967295 - crcFold (4294967295 - s) xs) = crcFold (4294967295 - s) xs by omega]
theorem xor_ones32 (x : Nat) (hx : x < 4294967296) : x ^^^ 4294967295 = 4294967295 - x := by
  have h := congrArg BitVec.toNat (BitVec.xor_allOnes (x := BitVec.ofNat 32 x))
  simpa [BitVec.toNat_xor, BitVec.toNat_not, Nat.mod_eq_of_lt hx] using h
theorem crcMore_nil (s : Nat) (hs : s < 4294967296) : crcMore s [] = s := by unfold crcMore crcFold; simp; omega
/-- Go's ^x of a number of 32 bits, as the walk spells it -/
theorem not32 (x : Nat) (hx : x < 4294967296) : bits .xor .u32 IntKind.u32.max (x : Int) = ((4294967295 - x : Nat) : Int) := by
  have hm : IntKind.u32.max = ((4294967295 : Nat) : Int) := by decide
  rw [hm, u32_xor_nat _ _ (by omega) hx, Nat.xor_comm, xor_ones32 x hx]
/-- a number's four bytes, the lowest first -/
def four (n : Nat) : List Int := [((n % 256 : Nat) : Int), ((n / 256 % 256 : Nat) : Int), ((n / 65536 % 256 : Nat) : Int), ((n / 16777216 % 256 : Nat) : Int)]
theorem four_bytes (n : Nat) : ∀ x ∈ four n, 0 ≤ x ∧ x < 256 := by
  intro x hx
  simp [four] at hx
  omega

end Go.Proofs.YtdlacjbicjhfgaaDoor
