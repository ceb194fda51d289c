/- Contracts of functions that the statement reaches: for every input in the stated bounds the Go function returns what is written, and memory that was there stays. -/
import Derived.Test.YtnjbflbalpedoaaA1
namespace Go.Proofs.Ytnjbflbalpedoaa
open Go.RowKit Go.Proofs.YtnjbflbalpedoaaW.PrintWords

structure Drawn (w w' : World) : Prop where mk :: (out : ∃ n, w' = w.drewN n)
theorem Drawn.refl (w : World) : Drawn w w := ⟨⟨0, rfl⟩⟩
theorem Drawn.step {w w' : World} (h : Drawn w w') (n : Nat) : Drawn w (w'.drewN n) := by
  obtain ⟨⟨m, rfl⟩⟩ := h
  exact ⟨⟨m + n, by simp [World.drewN, Nat.add_assoc]⟩⟩
theorem take_eq_iff (xs ys : List Int) (h : xs.length = ys.length) (k : Nat) (hk : k < xs.length) (ht : xs.take k = ys.take k) :
    xs.take (k + 1) = ys.take (k + 1) ↔ xs.getD k 0 = ys.getD k 0 := by
  have hk2 : k < ys.length := h ▸ hk
  rw [List.take_succ_eq_append_getElem hk, List.take_succ_eq_append_getElem hk2, ht]
  simp only [List.append_cancel_left_eq, List.cons.injEq, and_true, List.getD_eq_getElem?_getD, List.getElem?_eq_getElem hk, List.getElem?_eq_getElem hk2, Option.getD_some]

set_option maxHeartbeats 800000 in
set_option maxRecDepth 100000 in
theorem same_any (A B : Option Addr) (c d : Nat) (xs ys : List Int) (w : World) (hx : Kd.C (Kd.int .u8) w A xs.length xs) (hy : Kd.C (Kd.int .u8) w B ys.length ys) :
    Calls Try.prog 7 #[.slice A xs.length c, .slice B ys.length d] w fun e w' => e = .returned (.bool (decide (xs = ys))) ∧ Drawn w w' := by
  by_cases hn : xs.length = ys.length
  · have b0 : ((xs.length : Int) != (ys.length : Int)) = false := bne_eq_false_iff_eq.mpr (by rw [hn])
    have b1 : (xs.length != ys.length) = false := by simp [hn]
    have b2 : (xs.length == ys.length) = true := by simp [hn]
    have Hn := Lib.hid hn
    clear hn
    have hxl : xs.length ≤ 9223372036854775807 := hx.2.1
    go_enter Try.func7, Try.ntmps7
    go_wp2
    go_loopw [5] (fun i wr => ∃ k : Nat, k ≤ xs.length ∧ i = .int .i64 k ∧ Hid (xs.take k = ys.take k) ∧ Drawn w wr) (fun i _ => xs.length - (intOf i).toNat)
    case atStart => exact ⟨0, Nat.zero_le _, rfl, rfl, Drawn.refl _⟩
    case round =>
      obtain ⟨k, hk, rfl, ht, ⟨m, rfl⟩⟩ := hrel
      by_cases hlt : k < xs.length
      · have hlt2 : k < ys.length := by have := Hn.out; omega
        obtain ⟨a1, rfl, hc1⟩ := C_nat hx hlt
        obtain ⟨a2, rfl, hc2⟩ := C_nat hy hlt2
        have h5 := take_eq_iff xs ys Hn.out k hlt ht.out
        generalize xs.getD k 0 = p at hc1 h5
        generalize ys.getD k 0 = q at hc2 h5
        have H5 := Lib.hid h5
        clear h5
        by_cases hpq : p = q
        · subst hpq
          go_wp2
          go_quiet (fail)
          go_wp2
          go_roundw
          case rel => exact ⟨k + 1, by omega, by go_num, (by have := H5.out; simp at this; exact this), ⟨_, rfl⟩⟩
          case measure => simp [intOf]; omega
        · have e0 : (p == q) = false := by simpa using hpq
          go_wp2
          go_quiet (fail)
          go_wp2
          go_ret
          refine ⟨?_, ⟨_, rfl⟩⟩
          have : xs ≠ ys := fun h => hpq (H5.out.1 (by rw [h]))
          simp [this]
      · obtain rfl : k = xs.length := by omega
        go_wp2
        go_ret
        refine ⟨?_, Drawn.refl _ |>.step _⟩
        have h1 := ht.out
        rw [List.take_length, Hn.out, List.take_length] at h1
        simp [h1]
  · have b0 : ((xs.length : Int) != (ys.length : Int)) = true := bne_iff_ne.mpr (by omega)
    have b1 : (xs.length != ys.length) = true := by simpa using hn
    have b2 : (xs.length == ys.length) = false := by simpa using hn
    have Hn := Lib.hid hn
    clear hn
    go_enter Try.func7, Try.ntmps7
    go_wp2
    go_ret
    exact ⟨by rw [decide_eq_false (fun h => Hn.out (by rw [h]))]; rfl, Drawn.refl _⟩

end Go.Proofs.Ytnjbflbalpedoaa
