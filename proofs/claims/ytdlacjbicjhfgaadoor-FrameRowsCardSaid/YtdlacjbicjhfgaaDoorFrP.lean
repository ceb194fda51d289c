/- Plain: chapter 3's frames as functions of lists. -/
import Derived.Test.YtdlacjbicjhfgaaDoorCrcO
namespace Go.Proofs.YtdlacjbicjhfgaaDoor
open Go.RowKit Go.Proofs.YtdlacjbicjhfgaaDoorW.PrintWords

/-- a frame without its sum -/
def frHead (kind : Int) (body : List Int) : List Int := [76, 104, 1] ++ ([kind, ((body.length % 256 : Nat) : Int), ((body.length / 256 % 256 : Nat) : Int)] ++ body)
def frameB (kind : Int) (body : List Int) : List Int := frHead kind body ++ four (crcMore 0 (frHead kind body))
theorem frHead_len (kind : Int) (body : List Int) : (frHead kind body).length = body.length + 6 := by simp [frHead]
theorem frameB_len (kind : Int) (body : List Int) : (frameB kind body).length = body.length + 10 := by simp [frameB, frHead_len, four]
theorem frHead_bytes (kind : Int) (body : List Int) (hk : 0 ≤ kind ∧ kind < 256) (hb : ∀ x ∈ body, 0 ≤ x ∧ x < 256) : ∀ x ∈ frHead kind body, 0 ≤ x ∧ x < 256 := by
  intro x hx
  simp only [frHead, List.mem_append, List.mem_cons, List.not_mem_nil, or_false] at hx
  rcases hx with (h | h | h) | (h | h | h) | h
  · omega
  · omega
  · omega
  · omega
  · omega
  · omega
  · exact hb x h
theorem frameB_bytes (kind : Int) (body : List Int) (hk : 0 ≤ kind ∧ kind < 256) (hb : ∀ x ∈ body, 0 ≤ x ∧ x < 256) : ∀ x ∈ frameB kind body, 0 ≤ x ∧ x < 256 := by
  intro x hx
  rcases List.mem_append.1 hx with h | h
  · exact frHead_bytes kind body hk hb x h
  · exact four_bytes _ x h
/-- the length that a head tells -/
def frN (b : List Int) : Nat := (b.getD 4 0).toNat + 256 * (b.getD 5 0).toNat
/-- the frame that bytes begin with: kind, body, how many bytes, the error -/
def rdF (b : List Int) : Int × List Int × Nat × Option Nat :=
  if b.take (min b.length 3) ≠ ([76, 104, 1] : List Int).take (min b.length 3) then (0, [], 0, some 102)
  else if b.length < 6 then (0, [], 0, some 101)
  else if 4000 < frN b then (0, [], 0, some 102)
  else if b.length < frN b + 10 then (0, [], 0, some 101)
  else if four (crcMore 0 (b.take (frN b + 6))) ≠ (b.take (frN b + 10)).drop (frN b + 6) then (0, [], 0, some 103)
  else (b.getD 3 0, (b.take (frN b + 6)).drop 6, frN b + 10, none)

theorem rdF_shape1 {b : List Int} {k : Nat} (hk : k = min b.length 3) (h : b.take k ≠ ([76, 104, 1] : List Int).take k) : rdF b = (0, [], 0, some 102) := by
  unfold rdF; subst hk; rw [if_pos h]
theorem rdF_end1 {b : List Int} {k : Nat} (hk : k = min b.length 3) (h : b.take k = ([76, 104, 1] : List Int).take k) (h6 : b.length < 6) : rdF b = (0, [], 0, some 101) := by
  unfold rdF; subst hk; rw [if_neg (fun e => e h), if_pos h6]
theorem rdF_shape2 {b : List Int} {k : Nat} (hk : k = min b.length 3) (h : b.take k = ([76, 104, 1] : List Int).take k) (h6 : ¬ b.length < 6) (hn : 4000 < frN b) : rdF b = (0, [], 0, some 102) := by
  unfold rdF; subst hk; rw [if_neg (fun e => e h), if_neg h6, if_pos hn]
theorem rdF_end2 {b : List Int} {k : Nat} (hk : k = min b.length 3) (h : b.take k = ([76, 104, 1] : List Int).take k) (h6 : ¬ b.length < 6) (hn : ¬ 4000 < frN b) (ha : b.length < frN b + 10) : rdF b = (0, [], 0, some 101) := by
  unfold rdF; subst hk; rw [if_neg (fun e => e h), if_neg h6, if_neg hn, if_pos ha]
theorem rdF_sum {b : List Int} {k : Nat} (hk : k = min b.length 3) (h : b.take k = ([76, 104, 1] : List Int).take k) (h6 : ¬ b.length < 6) (hn : ¬ 4000 < frN b) (ha : ¬ b.length < frN b + 10) (hs : four (crcMore 0 (b.take (frN b + 6))) ≠ (b.take (frN b + 10)).drop (frN b + 6)) : rdF b = (0, [], 0, some 103) := by
  unfold rdF; subst hk; rw [if_neg (fun e => e h), if_neg h6, if_neg hn, if_neg ha, if_pos hs]
theorem rdF_ok {b : List Int} {k : Nat} (hk : k = min b.length 3) (h : b.take k = ([76, 104, 1] : List Int).take k) (h6 : ¬ b.length < 6) (hn : ¬ 4000 < frN b) (ha : ¬ b.length < frN b + 10) (hs : four (crcMore 0 (b.take (frN b + 6))) = (b.take (frN b + 10)).drop (frN b + 6)) : rdF b = (b.getD 3 0, (b.take (frN b + 6)).drop 6, frN b + 10, none) := by
  unfold rdF; subst hk; rw [if_neg (fun e => e h), if_neg h6, if_neg hn, if_neg ha, if_neg (fun e => e hs)]

end Go.Proofs.YtdlacjbicjhfgaaDoor
