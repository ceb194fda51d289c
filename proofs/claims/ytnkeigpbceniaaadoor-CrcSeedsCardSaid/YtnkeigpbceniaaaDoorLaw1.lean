/- The contract of the first look of chapter 1's statements: it returns true, and memory that was there stays. -/
import Derived.Test.YtnkeigpbceniaaaDoorCrcS
namespace Go.Proofs.YtnkeigpbceniaaaDoor
open Go.RowKit Go.Proofs.YtnkeigpbceniaaaDoorW.PrintWords

set_option maxHeartbeats 400000 in
theorem first1_any (w : World) : Calls Tryd.prog 6 #[] w fun e w' => e = .returned (.bool true) ∧ Below w.heap.size w w' := by
  have Hs := Lib.hid (seal_any none 0 [] 1 w (C_nil _ _ _) (Nat.zero_le _) (fun _ => rfl) (by simp) (by omega) (by simp))
  have hs0 := fun W => sum_any none 0 [] W (C_nil _ _ _) (by simp)
  have hz : crcMore 0 ([] : List (List Int)).flatten = 0 := crcMore_nil 0 (by omega)
  rw [hz] at hs0
  have HS0 := Lib.hid hs0
  have hl := sealB_len [] 1
  clear hs0 hz
  go_enter Tryd.func6, Tryd.ntmps6
  go_wp2_with fail
  refine Hs.out.mono ?_
  rintro e w1 ⟨A, c, rfl, ho, hb⟩
  clear Hs
  rw [hl] at ho ⊢
  go_wp2_with fail
  refine (HS0.out _).mono ?_
  rintro e w2 ⟨rfl, rfl⟩
  clear HS0
  go_wp2
  go_ret
  exact ⟨rfl, hb⟩

end Go.Proofs.YtnkeigpbceniaaaDoor
