/- Contracts of chapter 3's frames (package frame): each returns what the plain functions say; memory that was there stays. -/
import Derived.Test.YtdlacjbicjhfgaaDoorProg
import Derived.Test.YtdlacjbicjhfgaaDoorFrP
import Derived.Test.YtdlacjbicjhfgaaDoorCrcRow
import Derived.Deep.RegionHeld3
namespace Go.Proofs.YtdlacjbicjhfgaaDoor
open Go.RowKit Go.Proofs.YtdlacjbicjhfgaaDoorW.PrintWords

set_option maxHeartbeats 400000 in
theorem magic_any (w : World) :
    Calls Tryd.prog 19 #[] w fun e w' => e = .returned (.slice (some ⟨w.heap.size, 0, none⟩) 3 3) ∧ w' = w.alloc (.cells (([76, 104, 1] : List Int).map (Value.int .u8)).toArray 5) := by
  go_enter Tryd.func19, Tryd.ntmps19
  go_wp2
  go_ret
  exact ⟨rfl, rfl⟩

set_option maxHeartbeats 800000 in
set_option maxRecDepth 100000 in
theorem fsum_any (A : Option Addr) (c : Nat) (b : List Int) (w : World) (hx : Kd.C (Kd.int .u8) w A b.length b) (hc : b.length ≤ c) (hby : ∀ x ∈ b, 0 ≤ x ∧ x < 256) :
    Calls Tryd.prog 20 #[.slice A b.length c] w fun e w' => ∃ g, e = .returned (.slice (some ⟨g, 0, none⟩) 4 4) ∧ w.heap.size ≤ g ∧ w'.heap[g]? = some (.cells (nums .u8 (four (crcMore 0 b))).toArray 5 (0, 0)) ∧ Below w.heap.size w w' := by
  have HS := Lib.hid (sumOne_any A c b w hx hc hby)
  have hxl := crcMore_lt 0 b
  generalize crcMore 0 b = x at *
  clear hby
  go_enter Tryd.func20, Tryd.ntmps20
  go_wp2_with fail
  with_reducible refine HS.out.mono ?_
  rintro e w1 ⟨rfl, hw1⟩
  have hb1 : Below w.heap.size w w1 := by rw [← hw1]; exact (Below.refl _ _).alloc (Nat.le_refl _) _
  clear hw1 HS
  have h0 : IntKind.wrap .u8 (x : Int) = ((x % 256 : Nat) : Int) := by go_num
  go_wp2
  go_ret
  refine ⟨_, rfl, hb1.size, ?_, hb1.alloc hb1.size _⟩
  rw [blk_new]
  have h3 : (x : Int) / 16777216 % 256 = (x : Int) / 16777216 := by omega
  simp [four, nums, h3]

set_option maxHeartbeats 1600000 in
set_option maxRecDepth 100000 in
theorem fput_any {L : List Nat} (ad : Nat → Addr) (kind : Int) (A : Option Addr) (c : Nat) (b : List Int) (w : World) (hE : EOk L ad w) (hL5 : 105 ∈ L) (hk : 0 ≤ kind ∧ kind < 256) (hx : Kd.C (Kd.int .u8) w A b.length b) (hc : b.length ≤ c) (hn : A = none → c = 0) (hby : ∀ x ∈ b, 0 ≤ x ∧ x < 256) (hl : b.length ≤ 140737488351232) :
    Calls Tryd.prog 8 #[.int .u8 kind, .slice A b.length c] w fun e w' => (b.length ≤ 4000 ∧ ∃ A' c', e = .returned (.tuple #[.slice A' (frameB kind b).length c', .nilIface]) ∧ w'.ownsRow w.heap.size 5 1 (.slice A' (frameB kind b).length c') (frameB kind b).length (nums .u8 (frameB kind b)) ∧ Below w.heap.size w w') ∨
      (4000 < b.length ∧ e = .returned (.tuple #[.slice none 0 0, errV ad (some 105)]) ∧ Below w.heap.size w w') := by
  have HB := Lib.hid hby
  have HN := Lib.hid hn
  clear hby hn
  by_cases h4 : 4000 < b.length
  · have e1 := (hE 105 hL5).1
    have hb0 : decide ((4000 : Int) < (b.length : Int)) = true := decide_eq_true (by omega)
    have H4 := Lib.hid h4
    simp only [errV, gnum] at e1
    clear hE h4
    go_enter Tryd.func8, Tryd.ntmps8
    go_wp2
    go_quiet (fail)
    go_wp2
    go_ret2
    exact .inr ⟨H4.out, rfl, below_drewN (Below.refl _ _) _⟩
  · have hb0 : decide ((4000 : Int) < (b.length : Int)) = false := decide_eq_false (by omega)
    have h4' : b.length ≤ 4000 := by omega
    have hFB := frHead_bytes kind b hk HB.out
    have hfl := frHead_len kind b
    have e1 : ((b.length % 256 : Nat) : Int) = (b.length : Int) % 256 := by omega
    have e2 : ((b.length / 256 % 256 : Nat) : Int) = (b.length : Int) / 256 := by omega
    have HF := Lib.hid (show [[76, 104, 1], [kind, (b.length : Int) % 256, (b.length : Int) / 256], b].flatten = frHead kind b by unfold frHead; rw [e1, e2]; simp)
    clear e1 e2
    have HFF := Lib.hid (show frameB kind b = frHead kind b ++ four (crcMore 0 (frHead kind b)) from rfl)
    have HFFL := Lib.hid (frameB_len kind b)
    generalize frameB kind b = fb at *
    generalize frHead kind b = fh at *
    have HFB := Lib.hid hFB
    have HFL := Lib.hid hfl
    clear hE h4 hFB hfl
    go_enter Tryd.func8, Tryd.ntmps8
    go_wp2_with fail
    with_reducible refine (magic_any _).mono ?_
    rintro e w1 ⟨rfl, hw1⟩
    have hcm : Kd.C (Kd.int .u8) w1 (some ⟨w.heap.size, 0, none⟩) 3 [76, 104, 1] := by rw [hw1]; exact C_ints .u8 5 [76, 104, 1] (by simp)
    have hb1 : Below w.heap.size w w1 := by rw [hw1]; exact (Below.refl _ _).alloc (Nat.le_refl _) _
    clear hw1
    have hs1 := hb1.size
    have w0 : IntKind.wrap .u8 (b.length : Int) = ((b.length % 256 : Nat) : Int) := by go_num
    have hb2 : Below w1.heap.size w1 (w1.alloc (.cells #[.int .u8 kind, .int .u8 ((b.length : Int) % 256), .int .u8 ((b.length : Int) / 256)] 5)) := (Below.refl _ _).alloc (Nat.le_refl _) _
    have hB2 := below_then hb1 hs1 hb2
    have hch := C_ints (w := w1) .u8 5 [kind, (b.length : Int) % 256, (b.length : Int) / 256] (by simp)
    have hcc := CC_three (c := 3) (d := 3) (e := c) (xs := [76, 104, 1]) (ys := [kind, (b.length : Int) % 256, (b.length : Int) / 256]) (Kd.C_below hcm hb2) hch (Kd.C_below hx hB2) (by simp) (by simp) hc
    have hfl2 := HFL.out
    have hcat := concatB_any _ 3 _ _ hcc (by rw [HF.out]; omega) (by
      intro k a B n d ha hk hcell hB
      obtain rfl := Option.some.inj ha
      rw [add_plain, cell_of_row _ _ k _ _ _ (blk_new _ _)] at hcell
      match k with
      | 0 => simp at hcell; obtain ⟨rfl, rfl, rfl⟩ := hcell; cases hB
      | 1 => simp at hcell; obtain ⟨rfl, rfl, rfl⟩ := hcell; cases hB
      | 2 => simp at hcell; obtain ⟨rfl, rfl, rfl⟩ := hcell; exact HN.out hB
      | k + 3 => exact absurd hk (by simp))
    rw [HF.out] at hcat
    simp only [List.length_cons, List.length_nil, Nat.zero_add, Nat.reduceAdd, sizeA] at hcat
    have HC := Lib.hid hcat
    clear hcat hcc hch hfl2
    go_wp2_with fail
    with_reducible refine HC.out.mono ?_
    rintro e w4 ⟨A4, c4, rfl, ho4, hb4⟩
    have hB4 : Below w.heap.size w w4 := (hB2.alloc hB2.size _).trans (hb4.mono (by omega))
    have hC4 := C_own ho4
    have HSM := Lib.hid (fsum_any A4 c4 fh w4 hC4 (own_cap ho4) HFB.out)
    have hown : ∀ k, (Value.slice A4 fh.length c4).ownBlock = some k → w.heap.size ≤ k := fun k hk => by
      have := own_base ho4 k hk
      omega
    clear HC
    go_wp2_with fail
    with_reducible refine HSM.out.mono ?_
    rintro e w5 ⟨g, rfl, hg, hgc, hb5⟩
    have hB5 := below_then hB4 hB4.size hb5
    have ho5 := own_weaken (own_below ho4 hb5) (Nat.zero_le _)
    have hC5 : Kd.C (Kd.int .u8) w5 (some ⟨g, 0, none⟩) (four (crcMore 0 fh)).length (four (crcMore 0 fh)) := C_lit _ hgc (by simp [four])
    have hfl3 : fh.length ≤ 4006 := by have := HFL.out; omega
    clear HSM hgc ho4 hC4
    generalize crcMore 0 fh = x at *
    go_wp2_with (at_builtin; refine app_sl rfl _ _ 22 5 .u8 (.int .u8 0) 1 rfl Tryd.underlying22 infoC rfl (by decide) _ fh.length _ (some ⟨g, 0, none⟩) 4 (four x) rfl rfl (fun h => by cases h) ho5 hC5 (by simp [four]; omega) ?_)
    rw [← nums_append, ← List.length_append, ← HFF.out]
    intro A6 c6 w6 ho6 hG
    go_wp2
    go_ret2
    refine .inl ⟨h4', A6, c6, by simp [HFF.out], own_up _ ho6 ?_, hB5.trans (hG.below _ hB5.size hown)⟩
    intro k hk
    rcases hG.at_ with e | ⟨b', e, hb'⟩
    · exact hown k (by rw [← e]; exact hk)
    · rw [e] at hk
      injection hk with hk
      have := hB5.size
      omega

end Go.Proofs.YtdlacjbicjhfgaaDoor
