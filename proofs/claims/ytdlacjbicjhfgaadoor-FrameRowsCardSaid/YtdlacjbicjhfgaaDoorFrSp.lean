/- Plain: frames in a row of which one is spoilt: those ahead of it and behind it come out, it does not. -/
import Derived.Test.YtdlacjbicjhfgaaDoorFrS
namespace Go.Proofs.YtdlacjbicjhfgaaDoor
open Go.RowKit Go.Proofs.YtdlacjbicjhfgaaDoorW.PrintWords

theorem rdF_first (z : Int) (r : List Int) (hz : z ≠ 76) : rdF (z :: r) = (0, [], 0, some 102) := by
  refine rdF_shape1 rfl (fun h => hz ?_)
  obtain ⟨m, hm⟩ : ∃ m, min (z :: r).length 3 = m + 1 := ⟨min (z :: r).length 3 - 1, by simp; omega⟩
  rw [hm] at h
  simp only [List.take_succ_cons, List.cons.injEq] at h
  exact h.1
theorem rdF_second (z z2 : Int) (r : List Int) (hz : z2 ≠ 104) : rdF (z :: z2 :: r) = (0, [], 0, some 102) := by
  refine rdF_shape1 rfl (fun h => hz ?_)
  obtain ⟨m, hm⟩ : ∃ m, min (z :: z2 :: r).length 3 = m + 2 := ⟨min (z :: z2 :: r).length 3 - 2, by simp; omega⟩
  rw [hm] at h
  simp only [List.take_succ_cons, List.cons.injEq] at h
  exact h.2.1
theorem next_first (z : Int) (r : List Int) (hz : z ≠ 76) : nextF (z :: r).length (z :: r) = nextF r.length r := by
  have h := nextF_skip (b := z :: r) (c := 102) (by simp) (by rw [rdF_first z r hz]) (by omega)
  rw [h]
  rfl
theorem next_second (z z2 : Int) (r : List Int) (hz : z2 ≠ 104) : nextF (z :: z2 :: r).length (z :: z2 :: r) = nextF (z2 :: r).length (z2 :: r) := by
  have h := nextF_skip (b := z :: z2 :: r) (c := 102) (by simp) (by rw [rdF_second z z2 r hz]) (by omega)
  rw [h]
  rfl
theorem next_frame (kind : Int) (body tail : List Int) (h : body.length ≤ 4000) : nextF (frameB kind body ++ tail).length (frameB kind body ++ tail) = (some (kind, body), tail) := by
  have h1 := rdF_frame kind body tail h
  have hl := frameB_len kind body
  rw [nextF_ok (by simp; omega) (by rw [h1]), h1]
  simp only
  rw [← hl, List.drop_left']
  rfl
def fr2 (i : Nat) : List Int := frameB (i : Int) [(i : Int), 7]
/-- the sum of the i-th -/
def sum2 (i : Nat) : Nat := crcMore 0 (frHead (i : Int) [(i : Int), 7])
theorem head2 (i : Nat) : frHead (i : Int) [(i : Int), 7] = [76, 104, 1, (i : Int), 2, 0, (i : Int), 7] := by simp [frHead]
theorem sums_plain : ∀ i, i < 5 → ∀ z ∈ four (sum2 i), z ≠ 76 := by
  intro i hi
  have : ∀ i : Fin 5, ∀ z ∈ four (sum2 i.val), z ≠ 76 := by decide +kernel
  exact this ⟨i, hi⟩
/-- the i-th with its first byte turned -/
def sp2 (i x : Nat) : List Int := [76, 104, 1, (i : Int), 2, 0, ((i ^^^ x : Nat) : Int), 7] ++ four (sum2 i)
theorem sp2_sum (i x : Nat) (hi : i < 256) (hx : x < 256) (h0 : x ≠ 0) : crcMore 0 [76, 104, 1, (i : Int), 2, 0, ((i ^^^ x : Nat) : Int), 7] ≠ sum2 i := by
  have hix : i ^^^ x < 2 ^ 8 := Nat.xor_lt_two_pow (n := 8) (by omega) (by omega)
  have e1 : ∀ y : Int, [76, 104, 1, (i : Int), 2, 0, y, 7] = [76, 104, 1, (i : Int), 2, 0] ++ ([y] ++ [7]) := fun _ => rfl
  have hb : ∀ y : Nat, y < 256 → ∀ z ∈ [76, 104, 1, (i : Int), 2, 0, (y : Int), 7], 0 ≤ z ∧ z < 256 := by
    intro y hy z hz
    simp only [List.mem_cons, List.not_mem_nil, or_false] at hz
    omega
  have l1 := crcFold_lt _ 4294967295 (by omega) (hb (i ^^^ x) (by omega))
  have l2 := crcFold_lt _ 4294967295 (by omega) (hb i hi)
  intro h
  have h1 : crcFold 4294967295 [76, 104, 1, (i : Int), 2, 0, ((i ^^^ x : Nat) : Int), 7] = crcFold 4294967295 [76, 104, 1, (i : Int), 2, 0, (i : Int), 7] := by
    unfold sum2 crcMore at h
    rw [head2, Nat.sub_zero] at h
    omega
  rw [e1, e1, crcFold_append, crcFold_append, crcFold_append, crcFold_append] at h1
  generalize crcFold 4294967295 [76, 104, 1, (i : Int), 2, 0] = q at h1
  have h2 : crcFold q [((i ^^^ x : Nat) : Int)] = crcFold q [(i : Int)] ^^^ crcBits 8 x := by
    show crcStep q (Int.toNat _) = crcStep q (Int.toNat _) ^^^ _
    rw [Int.toNat_natCast, Int.toNat_natCast, crcStep_add]
    congr 1
    unfold crcStep
    rw [Nat.zero_xor]
  rw [h2, crcFold_xor _ _ [7] (by simp)] at h1
  have h3 := congrArg (crcFold (crcFold q [(i : Int)]) [7] ^^^ ·) h1
  simp only [← Nat.xor_assoc, Nat.xor_self, Nat.zero_xor] at h3
  have h4 := crcBits_ne _ _ (crcBits_lt 8 x (by omega)) h3
  exact h0 (crcBits_ne 8 x (by omega) h4)
theorem next_spoilt (i x : Nat) (tail : List Int) (hi : i < 5) (hx : x < 256) (h0 : x ≠ 0) : nextF (sp2 i x ++ tail).length (sp2 i x ++ tail) = nextF tail.length tail := by
  have hs := sums_plain i hi
  have hsum := sp2_sum i x (by omega) hx h0
  obtain ⟨a, b, c, d, hf⟩ : ∃ a b c d, four (sum2 i) = [a, b, c, d] := ⟨_, _, _, _, rfl⟩
  have e : sp2 i x ++ tail = 76 :: 104 :: 1 :: (i : Int) :: 2 :: 0 :: ((i ^^^ x : Nat) : Int) :: 7 :: a :: b :: c :: d :: tail := by unfold sp2; rw [hf]; rfl
  have hn : frN (76 :: 104 :: 1 :: (i : Int) :: 2 :: 0 :: ((i ^^^ x : Nat) : Int) :: 7 :: a :: b :: c :: d :: tail) = 2 := rfl
  have hcode : (rdF (76 :: 104 :: 1 :: (i : Int) :: 2 :: 0 :: ((i ^^^ x : Nat) : Int) :: 7 :: a :: b :: c :: d :: tail)).2.2.2 = some 103 := by
    have hse : four (crcMore 0 [76, 104, 1, (i : Int), 2, 0, ((i ^^^ x : Nat) : Int), 7]) ≠ [a, b, c, d] := by
      rw [← hf]
      intro h
      apply hsum
      have l1 := crcMore_lt 0 [76, 104, 1, (i : Int), 2, 0, ((i ^^^ x : Nat) : Int), 7]
      have l2 : sum2 i < 4294967296 := crcMore_lt 0 _
      simp only [four, List.cons.injEq, and_true] at h
      omega
    have h := rdF_sum (b := 76 :: 104 :: 1 :: (i : Int) :: 2 :: 0 :: ((i ^^^ x : Nat) : Int) :: 7 :: a :: b :: c :: d :: tail) (k := 3) (by simp) rfl (by simp) (by rw [hn]; omega) (by rw [hn]; simp) (by rw [hn]; exact hse)
    rw [h]
  rw [hf] at hs
  have hi76 : (i : Int) ≠ 76 := by omega
  have ha := hs a (by simp)
  have hb := hs b (by simp)
  have hc := hs c (by simp)
  have hd := hs d (by simp)
  rw [e, nextF_skip (c := 103) (by simp) hcode (by omega)]
  show nextF (104 :: _).length (104 :: _) = _
  rw [next_first 104 _ (by decide), next_first 1 _ (by decide), next_first (i : Int) _ hi76, next_first 2 _ (by decide), next_first 0 _ (by decide), next_second _ 7 _ (by decide), next_first 7 _ (by decide), next_first a _ ha, next_first b _ hb, next_first c _ hc, next_first d _ hd]
/-- the i-th as it was fed -/
def fed2 (at_ x i : Nat) : List Int := if i = at_ then sp2 i x else fr2 i
/-- what was fed from the j-th to behind the n-th -/
def feds (at_ x n : Nat) : Nat → List Int
  | 0 => []
  | m + 1 => fed2 at_ x (n - (m + 1)) ++ feds at_ x n m
theorem feds_step (at_ x n j : Nat) (h : j < n) : feds at_ x n (n - j) = fed2 at_ x j ++ feds at_ x n (n - (j + 1)) := by
  obtain ⟨m, hm⟩ : ∃ m, n - j = m + 1 := ⟨n - j - 1, by omega⟩
  rw [hm]
  show fed2 at_ x (n - (m + 1)) ++ _ = _
  rw [show n - (m + 1) = j by omega, show n - (j + 1) = m by omega]
/-- what waits ahead of the j-th asking -/
def waits (at_ x n j : Nat) : List Int := if j ≤ at_ then feds at_ x n (n - j) else feds at_ x n (n - (j + 1))
theorem waits_next (at_ x n j : Nat) (hn : n ≤ 5) (ha : at_ < n) (hx : x < 256) (h0 : x ≠ 0) (hj : j < n) :
    (nextF (waits at_ x n j).length (waits at_ x n j)).2 = waits at_ x n (j + 1) ∧ ((nextF (waits at_ x n j).length (waits at_ x n j)).1.isSome = decide (j + 1 < n)) ∧
      (j < at_ → (nextF (waits at_ x n j).length (waits at_ x n j)).1 = some ((j : Int), [(j : Int), 7])) := by
  have good : ∀ i, i < n → i ≠ at_ → nextF (feds at_ x n (n - i)).length (feds at_ x n (n - i)) = (some ((i : Int), [(i : Int), 7]), feds at_ x n (n - (i + 1))) := fun i hi hia => by
    rw [feds_step at_ x n i hi]
    unfold fed2
    rw [if_neg hia]
    exact next_frame (i : Int) [(i : Int), 7] _ (by simp)
  have after : ∀ i, at_ < i → i ≤ n → (nextF (feds at_ x n (n - i)).length (feds at_ x n (n - i))).2 = feds at_ x n (n - (i + 1)) ∧ ((nextF (feds at_ x n (n - i)).length (feds at_ x n (n - i))).1.isSome = decide (i < n)) := fun i hi hin => by
    by_cases h : i < n
    · rw [good i h (by omega)]
      simp [h]
    · obtain rfl : i = n := by omega
      rw [Nat.sub_self, show i - (i + 1) = 0 by omega]
      simp [feds, nextF]
  unfold waits
  rcases Nat.lt_trichotomy j at_ with h | h | h
  · rw [if_pos (by omega), if_pos (by omega), good j hj (by omega)]
    refine ⟨rfl, ?_, fun _ => rfl⟩
    simp
    omega
  · subst h
    rw [if_pos (by omega), if_neg (by omega), feds_step j x n j hj]
    have e : fed2 j x j = sp2 j x := by unfold fed2; rw [if_pos rfl]
    rw [e, next_spoilt j x _ (by omega) hx h0]
    exact ⟨(after (j + 1) (by omega) (by omega)).1, (after (j + 1) (by omega) (by omega)).2, fun h => by omega⟩
  · rw [if_neg (by omega), if_neg (by omega)]
    exact ⟨(after (j + 1) (by omega) (by omega)).1, (after (j + 1) (by omega) (by omega)).2, fun h => by omega⟩

/-- what was fed ahead of the j-th -/
def pre2 (at_ x : Nat) : Nat → List Int
  | 0 => []
  | j + 1 => pre2 at_ x j ++ fed2 at_ x j
theorem pre2_feds (at_ x n : Nat) : ∀ j, j ≤ n → pre2 at_ x j ++ feds at_ x n (n - j) = feds at_ x n n
  | 0, _ => by simp [pre2]
  | j + 1, h => by
    rw [← pre2_feds at_ x n j (by omega), feds_step at_ x n j (by omega)]
    simp [pre2]
theorem pre2_all (at_ x n : Nat) : pre2 at_ x n = feds at_ x n n := by
  have := pre2_feds at_ x n n (Nat.le_refl _)
  rw [Nat.sub_self] at this
  simpa [feds] using this
theorem fed2_len (at_ x j : Nat) : (fed2 at_ x j).length = 12 := by
  unfold fed2
  split
  · simp [sp2, four]
  · unfold fr2; rw [frameB_len]; rfl
theorem pre2_len (at_ x : Nat) : ∀ j, (pre2 at_ x j).length = 12 * j
  | 0 => rfl
  | j + 1 => by simp [pre2, pre2_len at_ x j, fed2_len]; omega
theorem waits_zero (at_ x n : Nat) : waits at_ x n 0 = pre2 at_ x n := by
  unfold waits
  rw [if_pos (Nat.zero_le _), pre2_all, Nat.sub_zero]
theorem waits_end (at_ x n : Nat) (h : at_ < n) : waits at_ x n n = [] := by
  unfold waits
  rw [if_neg (by omega), show n - (n + 1) = 0 by omega]
  rfl
theorem waits_len (at_ x n j : Nat) : (waits at_ x n j).length ≤ 12 * n := by
  have h : ∀ m, (feds at_ x n m).length = 12 * m := fun m => by
    induction m with
    | zero => rfl
    | succ m ih => show (fed2 at_ x _ ++ feds at_ x n m).length = _; rw [List.length_append, fed2_len, ih]; omega
  unfold waits
  split <;> rw [h] <;> omega

theorem fed2_bytes (at_ x j : Nat) (hj : j < 256) (hx : x < 256) : ∀ z ∈ fed2 at_ x j, 0 ≤ z ∧ z < 256 := by
  unfold fed2
  split
  · intro z hz
    have hix : j ^^^ x < 2 ^ 8 := Nat.xor_lt_two_pow (n := 8) (by omega) (by omega)
    unfold sp2 at hz
    rcases List.mem_append.1 hz with h | h
    · simp only [List.mem_cons, List.not_mem_nil, or_false] at h
      omega
    · exact four_bytes _ z h
  · exact frameB_bytes _ _ (by omega) (by intro z hz; simp at hz; omega)

end Go.Proofs.YtdlacjbicjhfgaaDoor
