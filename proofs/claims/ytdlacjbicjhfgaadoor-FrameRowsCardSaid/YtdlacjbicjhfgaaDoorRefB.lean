/- Contracts of the reference's plain copies and equalities of bytes: each returns what is written, and memory that was there stays. -/
import Derived.Test.YtdlacjbicjhfgaaDoorProg
import Derived.Test.YtdlacjbicjhfgaaDoorBase
namespace Go.Proofs.YtdlacjbicjhfgaaDoor
open Go.RowKit Go.Proofs.YtdlacjbicjhfgaaDoorW.PrintWords

set_option maxHeartbeats 800000 in
set_option maxRecDepth 100000 in
theorem same_any (A B : Option Addr) (c d : Nat) (xs ys : List Int) (w : World) (hx : Kd.C (Kd.int .u8) w A xs.length xs) (hy : Kd.C (Kd.int .u8) w B ys.length ys) :
    Calls Tryd.prog 12 #[.slice A xs.length c, .slice B ys.length d] w fun e w' => e = .returned (.bool (decide (xs = ys))) ∧ Drawn w w' := by
  by_cases hn : xs.length = ys.length
  · have b0 : ((xs.length : Int) != (ys.length : Int)) = false := bne_eq_false_iff_eq.mpr (by rw [hn])
    have b1 : (xs.length != ys.length) = false := by simp [hn]
    have b2 : (xs.length == ys.length) = true := by simp [hn]
    have Hn := Lib.hid hn
    clear hn
    have hxl : xs.length ≤ 9223372036854775807 := hx.2.1
    go_enter Tryd.func12, Tryd.ntmps12
    go_wp2
    go_loopw [5] (fun i wr => ∃ k : Nat, k ≤ xs.length ∧ i = .int .i64 k ∧ Hid (xs.take k = ys.take k) ∧ Drawn w wr) (fun i _ => xs.length - (intOf i).toNat)
    case atStart => exact ⟨0, Nat.zero_le _, rfl, rfl, Drawn.refl _⟩
    case round =>
      obtain ⟨k, hk, rfl, ht, ⟨m, rfl⟩⟩ := hrel
      by_cases hlt : k < xs.length
      · have hlt2 : k < ys.length := by have := Hn.out; omega
        obtain ⟨a1, rfl, hc1⟩ := C_nat hx hlt
        obtain ⟨a2, rfl, hc2⟩ := C_nat hy hlt2
        have h5 := take_eq_iff xs ys Hn.out k hlt ht.out
        generalize xs.getD k 0 = p at hc1 h5
        generalize ys.getD k 0 = q at hc2 h5
        have H5 := Lib.hid h5
        clear h5
        by_cases hpq : p = q
        · subst hpq
          go_wp2
          go_quiet (fail)
          go_wp2
          go_roundw
          case rel => exact ⟨k + 1, by omega, by go_num, (by have := H5.out; simp at this; exact this), ⟨_, rfl⟩⟩
          case measure => simp [intOf]; omega
        · have e0 : (p == q) = false := by simpa using hpq
          go_wp2
          go_quiet (fail)
          go_wp2
          go_ret
          refine ⟨?_, ⟨_, rfl⟩⟩
          have : xs ≠ ys := fun h => hpq (H5.out.1 (by rw [h]))
          simp [this]
      · obtain rfl : k = xs.length := by omega
        go_wp2
        go_ret
        refine ⟨?_, Drawn.refl _ |>.step _⟩
        have h1 := ht.out
        rw [List.take_length, Hn.out, List.take_length] at h1
        simp [h1]
  · have b0 : ((xs.length : Int) != (ys.length : Int)) = true := bne_iff_ne.mpr (by omega)
    have b1 : (xs.length != ys.length) = true := by simpa using hn
    have b2 : (xs.length == ys.length) = false := by simpa using hn
    have Hn := Lib.hid hn
    clear hn
    go_enter Tryd.func12, Tryd.ntmps12
    go_wp2
    go_ret
    exact ⟨by rw [decide_eq_false (fun h => Hn.out (by rw [h]))]; rfl, Drawn.refl _⟩

theorem infoB : (Tryd.prog.info? 5).map (fun i => (i.zero, i.size, i.bytes)) = some (some (.int .u8 0), 1, 1) := by kernel_rfl
set_option maxHeartbeats 800000 in
set_option maxRecDepth 100000 in
theorem refBytes_any (A : Option Addr) (c : Nat) (xs : List Int) (w : World) (hx : Kd.C (Kd.int .u8) w A xs.length xs) (hbig : xs.length ≤ 140737488355328) :
    Calls Tryd.prog 10 #[.slice A xs.length c] w fun e w' => ∃ A' c', e = .returned (.slice A' xs.length c') ∧ w'.ownsRow w.heap.size 5 1 (.slice A' xs.length c') xs.length (nums .u8 xs) ∧ Below w.heap.size w w' := by
  obtain ⟨i0, hi, hz0, hz1, hz2⟩ := info_parts infoB
  obtain ⟨wm, hrun, hown, hgr⟩ := run_make_own (P := Tryd.prog) w 0 22 5 i0 (.int .u8 0) 1 Tryd.underlying22 hi hz0 hz1 .i64 .i64 xs.length (by rw [hz2]; omega) (by simp only [maxLen]; omega) (Nat.zero_le _)
  have hbm : Below w.heap.size w wm := ⟨hgr.os, hgr.tape, hgr.output, hgr.size, fun k hk => hgr.block k hk (by simp)⟩
  go_enter Tryd.func10, Tryd.ntmps10
  go_wp2
  go_loopw [3, 4] (fun v i wr => ∃ k : Nat, k ≤ xs.length ∧ i = .int .i64 k ∧ ∃ A1 c1, v = .slice A1 (xs.take k).length c1 ∧ wr.ownsRow 0 5 1 (.slice A1 (xs.take k).length c1) (xs.take k).length (nums .u8 (xs.take k)) ∧
      (∀ q, (Value.slice A1 (xs.take k).length c1).ownBlock = some q → w.heap.size ≤ q) ∧ Below w.heap.size w wr) (fun _ i _ => xs.length - (intOf i).toNat)
  case atStart => exact ⟨0, Nat.zero_le _, rfl, _, _, rfl, hown, fun k hk => by simp [Value.ownBlock] at hk; omega, hbm⟩
  case round =>
    clear hrun hown hgr hbm
    obtain ⟨k, hk, rfl, A1, c1, rfl, ho, hge, hB⟩ := hrel
    by_cases hlt : k < xs.length
    · obtain ⟨ad, rfl, hcell0⟩ := C_nat hx hlt
      have hcell := pw_cell_below hB hcell0
      clear hcell0
      have hsn : xs.take (k + 1) = xs.take k ++ [xs.getD k 0] := by
        rw [List.take_succ_eq_append_getElem hlt]; simp [List.getD, List.getElem?_eq_getElem hlt]
      have hln : (xs.take k).length ≤ k := List.length_take_le _ _
      generalize xs.getD k 0 = x at hcell hsn
      generalize xs.take k = X at *
      have Hsn := Lib.hid hsn
      clear hsn
      go_wp2_with (at_builtin; refine app_one rfl _ _ 22 5 (.int .u8 0) 1 rfl Tryd.underlying22 infoB rfl (by decide) _ (nums .u8 X) _ rfl rfl rfl ?ho ?hl ?_)
      case ho => rw [nums_length]; exact ho
      case hl => rw [nums_length]; omega
      rw [nums_length]
      intro A2 c2 w2 ho1 hGr
      go_wp2
      go_roundw
      case rel =>
        have hs := hB.size
        refine ⟨k + 1, by omega, by go_num, A2, c2, by rw [Hsn.out]; simp, by rw [Hsn.out, nums_append, List.length_append]; exact ho1, ?_, hB.trans ((hGr.below _ hs hge))⟩
        rw [Hsn.out, List.length_append]
        intro b hb
        rcases hGr.at_ with e | ⟨b', e, hb'⟩
        · exact hge b (by rw [← e]; exact hb)
        · have hb2 : (Value.slice A2 (X.length + 1) c2).ownBlock = some b := hb
          rw [e] at hb2
          injection hb2 with hb2
          omega
      case measure => simp [intOf]; omega
    · obtain rfl : k = xs.length := by omega
      rw [List.take_length] at ho
      go_wp2
      go_ret
      refine ⟨A1, c1, by simp, ⟨ho.1, ?_⟩, hB⟩
      rcases ho.2 with h | ⟨g, cap, cur, he, _, hr⟩
      · exact .inl h
      · refine .inr ⟨g, cap, cur, he, ?_, hr⟩
        injection he with h1 h2 h3
        exact hge g (by rw [h1]; rfl)

end Go.Proofs.YtdlacjbicjhfgaaDoor
