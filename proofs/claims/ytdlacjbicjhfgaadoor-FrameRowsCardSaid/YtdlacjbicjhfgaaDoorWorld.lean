/- The contract of the statements' helper that brings a number below another one. -/
import Derived.Test.YtdlacjbicjhfgaaDoorProg
import Derived.Test.YtdlacjbicjhfgaaDoorBase
namespace Go.Proofs.YtdlacjbicjhfgaaDoor
open Go.RowKit Go.Proofs.YtdlacjbicjhfgaaDoorW.PrintWords

/-- a number below another one: Go's remainder, lifted -/
def numberW (n m : Int) : Int := n % m
theorem numberW_range (n m : Int) (hm : 0 < m) : 0 ≤ numberW n m ∧ numberW n m < m := ⟨Int.emod_nonneg _ (by omega), Int.emod_lt_of_pos _ hm⟩
theorem tmod_emod (n m : Int) (hm : 0 < m) : (0 ≤ n.tmod m ∧ n.tmod m = n % m) ∨ (n.tmod m < 0 ∧ n.tmod m + m = n % m) := by
  rw [Int.tmod_eq_emod]
  have h0 := Int.emod_nonneg n (show m ≠ 0 by omega)
  have h1 := Int.emod_lt_of_pos n hm
  split <;> omega

set_option maxHeartbeats 800000 in
theorem number_any (n m : Int) (w : World) (hm : 0 < m) (hm2 : m ≤ 9223372036854775807) (h0 : -9223372036854775808 ≤ n) (h1 : n ≤ 9223372036854775807) :
    Calls Tryd.prog 11 #[.int .i64 n, .int .i64 m] w fun e w' => e = .returned (.int .i64 (numberW n m)) ∧ w = w' := by
  have hz : (m == 0) = false := by simp; omega
  have hne : ¬ m = 0 := by omega
  have hr : (IntKind.i64.wrap (n.tmod m)) = n.tmod m := by
    have h2 := Int.emod_nonneg n (show m ≠ 0 by omega)
    have h3 := Int.emod_lt_of_pos n hm
    rcases tmod_emod n m hm with ⟨a, b⟩ | ⟨a, b⟩
    · exact IntWalk.i64_in _ (by omega)
    · exact IntWalk.i64_in _ (by omega)
  go_enter Tryd.func11, Tryd.ntmps11
  go_wp2
  · have hneg : n.tmod m < 0 := by assumption
    have h3 := Int.emod_lt_of_pos n hm
    have h4 : wrap64 (n.tmod m + m) = numberW n m := by
      rcases tmod_emod n m hm with ⟨a, b⟩ | ⟨a, b⟩
      · omega
      · unfold numberW; rw [← b, IntWalk.wrap64_in _ (by have := Int.emod_nonneg n (show m ≠ 0 by omega); omega)]
    go_ret
    exact ⟨by rw [← h4]; rfl, rfl⟩
  · have hpos : 0 ≤ n.tmod m := by assumption
    have h4 : n.tmod m = numberW n m := by
      rcases tmod_emod n m hm with ⟨a, b⟩ | ⟨a, b⟩
      · exact b
      · omega
    go_ret
    exact ⟨by rw [← h4]; rfl, rfl⟩

end Go.Proofs.YtdlacjbicjhfgaaDoor
