/- The contract of the first look of chapter 3's statements. -/
import Derived.Test.YtdlacjbicjhfgaaDoorFrW
namespace Go.Proofs.YtdlacjbicjhfgaaDoor
open Go.RowKit Go.Proofs.YtdlacjbicjhfgaaDoorW.PrintWords

set_option maxHeartbeats 400000 in
theorem first3_any {L : List Nat} (ad : Nat → Addr) (w : World) (hE : EOk L ad w) (hL5 : 105 ∈ L) : Calls Tryd.prog 7 #[] w fun e w' => e = .returned (.bool true) ∧ Below w.heap.size w w' := by
  have hp := fput_any ad 1 none 0 [] w hE hL5 (by omega) (C_nil _ _ _) (Nat.zero_le _) (fun _ => rfl) (by simp) (by simp)
  simp only [List.length_nil] at hp
  have Hp := Lib.hid hp
  clear hp
  have hl : (frameB 1 []).length = 10 := frameB_len 1 []
  clear hE
  generalize frameB 1 [] = f at *
  go_enter Tryd.func7, Tryd.ntmps7
  go_wp2_with fail
  with_reducible refine Hp.out.mono ?_
  rintro e w1 (⟨_, A, c, rfl, ho, hb⟩ | ⟨h, _⟩)
  · clear Hp
    go_wp2
    go_ret
    exact ⟨rfl, hb⟩
  · omega

end Go.Proofs.YtdlacjbicjhfgaaDoor
