/- The contract of the first look of chapter 2's statements: it returns true, and memory that was there stays. -/
import Derived.Test.YtnjbflbalpedoaaDoorNumW
namespace Go.Proofs.YtnjbflbalpedoaaDoor
open Go.RowKit Go.Proofs.YtnjbflbalpedoaaDoorW.PrintWords

set_option maxHeartbeats 400000 in
theorem first_any (w : World) : Calls Tryd.prog 6 #[] w fun e w' => e = .returned (.bool true) ∧ Below w.heap.size w w' := by
  have hl : Kd.C (Kd.int .i64) (w.alloc (.cells #[.int .i64 (-1)] 2)) (some ⟨w.heap.size, 0, none⟩) [(-1 : Int)].length [-1] := C_lit [(-1 : Int)] (blk_new _ _) (by simp)
  have he : enc [-1] = [1] := by
    have : (zz (-1)).toNat = 1 := by decide
    simp [enc, this, encU_small]
  have hput := put_any none 0 [] (some ⟨w.heap.size, 0, none⟩) 1 [-1] _ (C_nil _ _ _) hl (by simp) (by rw [he]; simp)
  rw [he] at hput
  have Hput := Lib.hid hput
  clear hput he
  go_enter Tryd.func6, Tryd.ntmps6
  go_wp2_with (go_at_call 22; refine Hput.out.mono ?_; rintro e w1 ⟨A', c', rfl, ho, hb⟩)
  obtain ⟨a', ha, hcell⟩ := C_nat (k := 0) (C_own ho) (by simp)
  have hb2 : Below w.heap.size w w1 := ((Below.refl _ w).alloc (Nat.le_refl _) _).trans (hb.mono (by simp))
  subst ha
  simp at hcell
  have hcell' : w1.cell? a' = some (Value.int IntKind.u8 1) := by simpa [go_sem] using hcell
  clear hcell
  go_simp
  go_wp2
  go_ret
  exact ⟨rfl, hb2⟩

end Go.Proofs.YtnjbflbalpedoaaDoor
