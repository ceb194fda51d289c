/- The walk of the statement FrameSpoilt: for every number, place and byte it returns true, and memory that was there stays. -/
import Derived.Test.YtdlacjbicjhfgaaDoorLaw3
import Derived.Test.YtdlacjbicjhfgaaDoorFrSp
import Derived.Test.YtdlacjbicjhfgaaDoorWorld
namespace Go.Proofs.YtdlacjbicjhfgaaDoor
open Go.RowKit Go.Proofs.YtdlacjbicjhfgaaDoorW.PrintWords

theorem StAt.fresh {w : World} : StAt (w.alloc (.cells #[.slice none 0 0] 39)) (· = w.heap.size) w.heap.size [] := by
  refine ⟨.slice none 0 0, rfl, ?_, ?_, blk_new _ _, .inl ⟨rfl, rfl⟩, by simp⟩
  · intro k hk; cases hk
  · intro k hk; subst hk; simp
theorem fr2_len (j : Nat) : (fr2 j).length = 12 := by unfold fr2; rw [frameB_len]; rfl

set_option maxHeartbeats 3200000 in
set_option maxRecDepth 100000 in
theorem frameSpoilt_walk (ad : Nat → Addr) (n0 at0 x0 : Int) (w : World) (hE : EOk [101, 102, 103, 105] ad w) (hI : EInj [101, 102, 103, 105] ad)
    (hn : (Lit.int .i64 n0).wf = true) (ha : (Lit.int .i64 at0).wf = true) (hx : (Lit.int .u8 x0).wf = true) :
    Calls Tryd.prog 6 #[.int .i64 n0, .int .i64 at0, .int .u8 x0] w fun e w' => e = .returned (.bool true) ∧ Below w.heap.size w w' := by
  obtain ⟨hn0, hn1⟩ := wf_range hn
  obtain ⟨ha0, ha1⟩ := wf_range ha
  obtain ⟨hx0, hx1⟩ := wf_byte hx
  obtain ⟨x, rfl⟩ := Int.eq_ofNat_of_zero_le hx0
  have hx : x < 256 := by omega
  have HE := Lib.hid hE
  clear hn ha hx0 hx1 hE
  go_enter Tryd.func6, Tryd.ntmps6
  go_wp2_with fail
  with_reducible refine (first3_any ad _ HE.out (by decide)).mono ?_
  rintro e w1 ⟨rfl, hB1⟩
  have hr := numberW_range n0 5 (by omega)
  have HN := Lib.hid (number_any n0 5 w1 (by omega) (by omega) hn0 hn1)
  generalize numberW n0 5 = n at *
  obtain ⟨m, rfl⟩ := Int.eq_ofNat_of_zero_le hr.1
  have hm : m < 5 := by omega
  clear hr
  go_wp2_with fail
  with_reducible refine HN.out.mono ?_
  rintro e w2 ⟨rfl, rfl⟩
  clear HN
  have hr := numberW_range at0 ((m : Int) + 1) (by omega)
  have HN := Lib.hid (number_any at0 ((m : Int) + 1) w1 (by omega) (by omega) ha0 ha1)
  generalize numberW at0 ((m : Int) + 1) = a at *
  obtain ⟨a, rfl⟩ := Int.eq_ofNat_of_zero_le hr.1
  have ha : a < m + 1 := by omega
  clear hr
  go_wp2_with fail
  with_reducible refine HN.out.mono ?_
  rintro e w2 ⟨rfl, rfl⟩
  clear HN
  by_cases h0 : x = 0
  · subst h0
    go_wp2
    go_ret
    exact ⟨rfl, hB1⟩
  have b0 : ((x : Int) == 0) = false := by simp; omega
  go_wp2_with fail
  have hb2 : Below w1.heap.size w1 (w1.alloc (.cells #[.slice none 0 0] 39)) := (Below.refl _ _).alloc (Nat.le_refl _) _
  have hSt2 := StAt.fresh (w := w1)
  have hB2 := below_then hB1 hB1.size hb2
  have hs1 := hB1.size
  generalize hgg : w1.heap.size = g at *
  have hs2 : g < (w1.alloc (.cells #[.slice none 0 0] 39)).heap.size := by simp; omega
  generalize w1.alloc (.cells #[.slice none 0 0] 39) = w2 at *
  have HNX := Lib.hid (waits_next a x (m + 1))
  have hE2 := HE.out.below hB2
  have hNG : NoG [101, 102, 103, 105] ad (· = g) := HE.out.noG _ (fun k hk => by subst hk; omega)
  have HE2 := Lib.hid hE2
  have HST := Lib.hid hSt2
  clear hE2 hSt2 hgg hb2
  go_loopw [9, 10] (fun vf vi wr => ∃ (j : Nat) (S' : Nat → Prop), j ≤ m + 1 ∧ vi = .int .i64 j ∧ vf = .int .i64 (12 * (j : Int)) ∧ StAt wr S' g (pre2 a x j) ∧ Chg (· = g) w2 wr ∧ ∀ k, S' k → k = g ∨ w2.heap.size ≤ k) (fun _ vi _ => m + 1 - (intOf vi).toNat)
  case atStart => exact ⟨0, (· = g), Nat.zero_le _, rfl, rfl, HST.out, Chg.refl _ _, fun k h => .inl h⟩
  case round =>
    clear HST
    obtain ⟨j, S', hj, rfl, rfl, hSt, hC, hS'⟩ := hrel
    have hszr := hC.size
    have hBr : Below w.heap.size w wr := hB2.trans (hC.below _ (by omega) (fun k hk e => by omega))
    by_cases hlt : j < m + 1
    · have hEr := HE2.out.chg hNG hC
      have hltI : (j : Int) < (m : Int) + 1 := by omega
      have w8 : IntKind.wrap .u8 (j : Int) = (j : Int) := by simp [IntKind.wrap, IntKind.bits, IntKind.signed]; omega
      have hcb : Kd.C (Kd.int .u8) (wr.alloc (.cells #[.int .u8 (j : Int), .int .u8 7] 5)) (some ⟨wr.heap.size, 0, none⟩) 2 [(j : Int), 7] := C_ints .u8 5 [(j : Int), 7] (by simp)
      have hb3 : Below wr.heap.size wr (wr.alloc (.cells #[.int .u8 (j : Int), .int .u8 7] 5)) := (Below.refl _ _).alloc (Nat.le_refl _) _
      have hfp := fput_any ad (j : Int) (some ⟨wr.heap.size, 0, none⟩) 2 [(j : Int), 7] _ (hEr.below hb3) (by decide) (by omega) hcb (by simp) (fun h => by cases h) (by intro z hz; simp at hz; omega) (by simp)
      rw [show frameB (j : Int) [(j : Int), 7] = fr2 j from rfl, fr2_len] at hfp
      simp only [List.length_cons, List.length_nil, Nat.zero_add, Nat.reduceAdd] at hfp
      have HSL : Hid (∀ k, S' k → k < wr.heap.size) := by obtain ⟨_, _, _, h, _⟩ := hSt; exact h
      have hSt3 := hSt.below hb3
      have hs3 := hb3.size
      have HFP := Lib.hid hfp
      clear hfp hcb
      go_wp2_with fail
      generalize wr.alloc (.cells #[.int .u8 (j : Int), .int .u8 7] 5) = w3 at *
      with_reducible refine HFP.out.mono ?_
      rintro e w4 (⟨_, A4, c4, rfl, ho4, hb4⟩ | ⟨h, _⟩)
      rotate_left
      · omega
      rename_i zz
      clear zz HFP
      obtain ⟨g4, rfl⟩ := own_some ho4 (by omega)
      have hgl4 := ho4.lt g4 rfl
      have hs4 := hb4.size
      have hb34 := below_then hb3 hs3 hb4
      have hSt4 := hSt3.below hb4
      have hB4 := below_then hBr hBr.size hb34
      clear hSt3 hb4 hSt
      have hpl := pre2_len a x j
      by_cases hja : j = a
      · subst hja
        have hjj : ((j : Int) == (j : Int)) = true := by simp
        have hcx : w4.cell? ⟨g4, 6, none⟩ = some (.int .u8 (j : Int)) := by
          rw [ho4.cellAt 6 (by omega)]
          rfl
        have hfx := ho4.frozenAt 6
        have hxr := u8_xor_nat j x (by omega) hx
        have hst := (ho4.stored 6 (.int .u8 ((j ^^^ x : Nat) : Int))).1
        have hset : (fr2 j).set 6 ((j ^^^ x : Nat) : Int) = fed2 j x j := by
          unfold fed2
          rw [if_pos rfl]
          show (frHead (j : Int) [(j : Int), 7] ++ four (sum2 j)).set 6 _ = _
          rw [head2]
          rfl
        rw [← nums_set, hset, ← hxr] at hst
        have hsc : Below wr.heap.size wr (w4.setCell ⟨g4, 6, none⟩ (.int .u8 (bits .xor .u8 (j : Int) (x : Int)))) := hb34.setCell (by simp; omega) _
        have hSt5 : StAt (w4.setCell ⟨g4, 6, none⟩ (.int .u8 (bits .xor .u8 (j : Int) (x : Int)))) S' g (pre2 j x j) := hSt4.move (by simp [World.setCell]) (fun k hk => Below.heap_setCell _ _ _ _ (fun e2 => by
          have e3 : k = g4 := e2
          have := HSL.out k hk
          omega))
        have hfd := feed_any S' g (pre2 j x j) (some ⟨g4, 0, none⟩) c4 (fed2 j x j) _ hSt5 (C_own hst) (fun h => by cases h) (fed2_bytes j x j (by omega) hx) (by rw [hpl, fed2_len]; omega)
        rw [fed2_len] at hfd
        have HFD := Lib.hid hfd
        have HPL := Lib.hid hpl
        have hb5 := hsc
        have hB5 := below_then hBr hBr.size hsc
        clear hfd hst hxr hset hSt5 hSt4 ho4 hsc hpl
        go_wp2_with fail
        generalize w4.setCell ⟨g4, 6, none⟩ (.int .u8 (bits .xor .u8 (j : Int) (x : Int))) = w5 at *
        with_reducible refine HFD.out.mono ?_
        rintro e w6 ⟨rfl, S6, hSt6, hC6, hS6⟩
        clear HFD
        have hs5 := hb5.size
        have hC5 : Chg (· = g) w2 w5 := hC.next (Chg.of_below (S := fun _ => False) hb5) (fun _ h => h.elim)
        go_wp2
        go_roundw
        case rel => exact ⟨j + 1, S6, by omega, by go_num, congrArg _ (by omega), hSt6, hC5.next hC6 (fun k hk hlt => (hS' k hk).resolve_right (by omega)), fun k hk => (hS6 k hk).elim (hS' k) (fun h => .inr (by omega))⟩
        case measure => simp [intOf]; omega
      · have hjj : ((j : Int) == (a : Int)) = false := by simp; omega
        have hset : fr2 j = fed2 a x j := by unfold fed2; rw [if_neg hja]
        rw [hset] at ho4
        have hfd := feed_any S' g (pre2 a x j) (some ⟨g4, 0, none⟩) c4 (fed2 a x j) _ hSt4 (C_own ho4) (fun h => by cases h) (fed2_bytes a x j (by omega) hx) (by rw [hpl, fed2_len]; omega)
        rw [fed2_len] at hfd
        have HFD := Lib.hid hfd
        have HPL := Lib.hid hpl
        clear hfd hset hSt4 ho4 hpl hja
        go_wp2_with fail
        with_reducible refine HFD.out.mono ?_
        rintro e w6 ⟨rfl, S6, hSt6, hC6, hS6⟩
        clear HFD
        have hC5 : Chg (· = g) w2 w4 := hC.next (Chg.of_below (S := fun _ => False) hb34) (fun _ h => h.elim)
        go_wp2
        go_roundw
        case rel => exact ⟨j + 1, S6, by omega, by go_num, congrArg _ (by omega), hSt6, hC5.next hC6 (fun k hk hlt => (hS' k hk).resolve_right (by omega)), fun k hk => (hS6 k hk).elim (hS' k) (fun h => .inr (by omega))⟩
        case measure => simp [intOf]; omega
    · obtain rfl : j = m + 1 := by omega
      rw [← waits_zero a x (m + 1)] at hSt
      have HWL := Lib.hid (waits_len a x (m + 1))
      have HWE := Lib.hid (waits_end a x (m + 1) ha)
      have hwz := Lib.hid hSt
      clear hSt
      go_wp2_with fail
      obtain ⟨wo, rfl⟩ : ∃ wo : World, wo = wr := ⟨_, rfl⟩
      go_loopw [13, 14] (fun vg vi w3 => ∃ (q p : Nat) (S3 : Nat → Prop), q ≤ m + 1 ∧ vi = .int .i64 q ∧ vg = .int .i64 p ∧ Hid (p = min q m) ∧ StAt w3 S3 g (waits a x (m + 1) q) ∧ Chg (· = g) w2 w3 ∧ ∀ k, S3 k → k = g ∨ w2.heap.size ≤ k) (fun _ vi _ => m + 1 - (intOf vi).toNat)
      case atStart => exact ⟨0, 0, S', Nat.zero_le _, rfl, rfl, by show _ = _; omega, hwz.out, hC, hS'⟩
      case round =>
        clear hwz
        obtain ⟨q, p, S3, hq, rfl, rfl, HP, hSt3, hC3, hS3⟩ := hrel
        have hsz3 := hC3.size
        have hB3 : Below w.heap.size w wr := hB2.trans (hC3.below _ (by omega) (fun k hk e => by omega))
        by_cases hlt : q < m + 1
        · obtain rfl : p = q := by have := HP.out; omega
          have hltI : (p : Int) < (m : Int) + 1 := by omega
          have hE3 := HE2.out.chg hNG hC3
          have hNG3 : NoG [101, 102, 103, 105] ad S3 := HE.out.noG _ (fun k hk => by have := hS3 k hk; have := hB2.size; omega)
          have hnx := snext_any ad S3 g (waits a x (m + 1) p) wr hSt3 hE3 hI hNG3 (by decide) (by decide) (by decide) (by have := HWL.out p; omega)
          obtain ⟨h1, h2, h3⟩ := HNX.out p (by omega) ha hx h0 hlt
          have HNP := Lib.hid hnx
          have HH1 := Lib.hid h1
          have HH2 := Lib.hid h2
          have HH3 := Lib.hid h3
          have w8 : IntKind.wrap .u8 (p : Int) = (p : Int) := by simp [IntKind.wrap, IntKind.bits, IntKind.signed]; omega
          clear hnx h1 h2 h3 hE3 hNG3 hSt3
          go_wp2_with fail
          with_reducible refine HNP.out.mono ?_
          intro e w4 hpost
          unfold NextPost at hpost
          obtain ⟨A, c, S4, he, _, hSt4, hC4, hS4⟩ := hpost
          rename_i zz
          clear zz HNP
          subst he
          rw [HH1.out] at hSt4
          generalize (nextF (waits a x (m + 1) p).length (waits a x (m + 1) p)).1 = o at *
          clear HH1
          have hC5 : Chg (· = g) w2 w4 := hC3.next hC4 (fun k hk hlt => (hS3 k hk).resolve_right (by omega))
          have HS5 : Hid (∀ k, S4 k → k = g ∨ w2.heap.size ≤ k) := fun k hk => (hS4 k hk).elim (hS3 k) (fun h => .inr (by omega))
          cases o with
          | none =>
            have hpm : p = m := by have h := HH2.out; simp at h; omega
            have HPM := Lib.hid hpm
            clear hpm HH3 HH2
            simp only [nextV]
            go_wp2
            go_roundw
            case rel => exact ⟨p + 1, p, S4, by omega, by go_num, rfl, by show _ = _; have := HPM.out; omega, hSt4, hC5, HS5.out⟩
            case measure => simp [intOf]; omega
          | some kb =>
            obtain ⟨kk, bb⟩ := kb
            have hpm : p + 1 < m + 1 := by have h := HH2.out; simp at h; omega
            simp only [nextV]
            by_cases hpa : p < a
            · have h := HH3.out hpa
              simp only [Option.some.injEq, Prod.mk.injEq] at h
              obtain ⟨rfl, rfl⟩ := h
              have hd : decide ((p : Int) < (a : Int)) = true := decide_eq_true (by omega)
              clear HH3 HH2
              go_wp2
              go_roundw
              case rel => exact ⟨p + 1, p + 1, S4, by omega, by go_num, by go_num, by show _ = _; omega, hSt4, hC5, HS5.out⟩
              case measure => simp [intOf]; omega
            · have hd : decide ((p : Int) < (a : Int)) = false := decide_eq_false (by omega)
              clear HH3 HH2
              go_wp2
              go_roundw
              case rel => exact ⟨p + 1, p + 1, S4, by omega, by go_num, by go_num, by show _ = _; omega, hSt4, hC5, HS5.out⟩
              case measure => simp [intOf]; omega
        · obtain rfl : q = m + 1 := by omega
          obtain rfl : p = m := by have := HP.out; omega
          rw [HWE.out] at hSt3
          have hsl := sleft_any S3 g [] wr hSt3
          simp only [List.length_nil] at hsl
          have HSL2 := Lib.hid hsl
          have d1 : decide ((a : Int) ≤ (p : Int)) = true := decide_eq_true (by omega)
          have d2 : decide ((p : Int) < (p : Int) + 1) = true := decide_eq_true (by omega)
          clear hsl hSt3
          go_wp2_with fail
          with_reducible refine HSL2.out.mono ?_
          rintro e w5 ⟨rfl, rfl⟩
          go_wp2
          go_ret
          exact ⟨by simp; omega, hB3⟩

end Go.Proofs.YtdlacjbicjhfgaaDoor
