/- The walk of the statement NumTexts: for every texts, bound and flags it returns true, and memory that was there stays. -/
import Derived.Test.YtnjbflbalpedoaaDoorLaw2
import Derived.Test.YtnjbflbalpedoaaDoorRdT
namespace Go.Proofs.YtnjbflbalpedoaaDoor
open Go.RowKit Go.Proofs.YtnjbflbalpedoaaDoorW.PrintWords

/-- is one of the first k texts too long? -/
def lgT (l : List ByteArray) (most : Int) (k : Nat) : Bool := (l.take k).any fun s => decide (most < s.size)
theorem lgT_succ (l : List ByteArray) (most : Int) (k : Nat) (h : k < l.length) : lgT l most (k + 1) = (lgT l most k || decide (most < (l.getD k ByteArray.empty).size)) := by
  have e : l.getD k ByteArray.empty = l[k] := by simp [List.getD, List.getElem?_eq_getElem h]
  unfold lgT
  rw [e, List.take_succ_eq_append_getElem h, List.any_append]
  simp

set_option maxHeartbeats 1600000 in
set_option maxRecDepth 100000 in
theorem numTexts_walk (ad : Nat → Addr) (a0 : Option Addr) (cap0 : Nat) (l0 : List ByteArray) (most : Int) (a2 : Option Addr) (cap2 : Nat) (l2 : List Bool) (w : World) (hE : EOk [101, 102, 105, 107] ad w) (_ : EInj [101, 102, 105, 107] ad)
    (hC0 : Kd.C Kd.string w a0 l0.length l0) (_ : ∀ s ∈ l0, s.size ≤ maxLen) (_ : l0.length ≤ cap0) (_ : a0 = none → cap0 = 0) (_ : (Lit.int .i64 most).wf = true) (hC2 : Kd.C Kd.bool w a2 l2.length l2) (_ : l2.length ≤ cap2) (_ : a2 = none → cap2 = 0) :
    Calls Tryd.prog 4 #[.slice a0 l0.length cap0, .int .i64 most, .slice a2 l2.length cap2] w fun e w' => e = .returned (.bool true) ∧ Below w.heap.size w w' := by
  rename_i z1 z2 z3 z4 z5 z6 z7
  clear z1 z2 z3 z4 z5 z6 z7
  go_enter Tryd.func4, Tryd.ntmps4
  go_wp2_with fail
  refine (first_any _).mono ?_
  rintro e w1 ⟨rfl, hB1⟩
  go_wp2_with fail
  · go_ret; exact ⟨rfl, hB1⟩
  · have g0 : l0.length ≤ 10 := by have : (l0.length : Int) ≤ 10 := by assumption
                                   omega
    have g2 : l2.length ≤ 20 := by have : (l2.length : Int) ≤ 20 := by assumption
                                   omega
    have m0 : 0 ≤ most := by assumption
    have m1 : most ≤ 60 := by omega
    go_loop [9] (fun i => ∃ k : Nat, k ≤ l0.length ∧ i = .int .i64 k ∧ Hid (∀ j, j < k → (l0.getD j ByteArray.empty).size ≤ 50)) (fun i => l0.length - (intOf i).toNat)
    case atStart => exact ⟨0, Nat.zero_le _, rfl, fun j hj => by omega⟩
    case round =>
      obtain ⟨k, hk, rfl, HS⟩ := hrel
      by_cases hlt : k < l0.length
      · obtain ⟨a, rfl, hcell⟩ := S_nat (Kd.C_below hC0 hB1) hlt
        have hlast : (l0.getD k ByteArray.empty).size ≤ 50 → ∀ j, j < k + 1 → (l0.getD j ByteArray.empty).size ≤ 50 := fun h j hj => by
          rcases Nat.lt_or_ge j k with h1 | h1
          · exact HS.out j h1
          · obtain rfl : j = k := by omega
            exact h
        generalize l0.getD k ByteArray.empty = s at hcell hlast
        have HL := Lib.hid hlast
        clear hlast
        go_wp2_with fail
        · go_ret; exact ⟨rfl, hB1⟩
        · have hs : (s.size : Int) ≤ 50 := by assumption
          exact ⟨⟨k + 1, by omega, by go_num, HL.out (by omega)⟩, by simp [intOf]; omega⟩
      · obtain rfl : k = l0.length := by omega
        have hlen := encT_len l0 50 HS.out (by omega)
        have hs1 := hB1.size
        have hp := putText_any none 0 [] a0 cap0 l0 _ (C_nil _ _ _) (Kd.C_below hC0 hB1) (by simp; omega)
        rw [List.nil_append] at hp
        have Hp := Lib.hid hp
        clear hp
        go_wp2_with fail
        refine Hp.out.mono ?_
        rintro e w2 ⟨A, c, rfl, ho, hb2⟩
        clear Hp
        have hB2 := below_then hB1 hs1 hb2
        have hs2 := hB2.size
        have Hr := Lib.hid (read_any ad A c (encT l0) w2 (C_own ho) (encT_bytes l0) (by omega))
        clear ho hb2 hB1
        go_wp2_with fail
        refine Hr.out.mono ?_
        rintro e w3 ⟨g, rfl, hg2, hg3, hb3, hRd⟩
        clear Hr
        have hR0 := hRd (· = g) rfl (fun k hk => .inr hk)
        have hB3 := below_then hB2 hs2 hb3
        have hE3 := hE.below hB3
        have hG : NoG [101, 102, 105, 107] ad (· = g) := hE.noG _ (fun k hk => by subst hk; omega)
        clear hRd hb3 hB2 hE
        go_wp2_with fail
        go_loopw [8, 11] (fun vl vi wr => ∃ (k : Nat) (bs : List Int), k ≤ l0.length ∧ vl = .bool (lgT l0 most k) ∧ vi = .int .i64 k ∧ RdAt ad wr (· = g) g bs (if lgT l0 most k then some 105 else none) ∧ Hid (lgT l0 most k = false → bs = encT (l0.drop k)) ∧ Chg (· = g) w3 wr) (fun _ vi _ => l0.length - (intOf vi).toNat)
        case atStart => exact ⟨0, encT l0, Nat.zero_le _, rfl, rfl, hR0, fun _ => by simp, Chg.refl _ _⟩
        case round =>
          clear hR0
          obtain ⟨k, bs, hk, rfl, rfl, hR, HBS, hC⟩ := hrel
          have hBr : Below w.heap.size w wr := hB3.trans (hC.below _ (by omega) (fun k hk e => by omega))
          by_cases hlt : k < l0.length
          · have hsn := lgT_succ l0 most k hlt
            have hdr := encT_drop l0 k hlt
            have hsz := HS.out k hlt
            have hcl : ∀ w' : World, Below w.heap.size w w' → ∃ a, a0 = some a ∧ w'.cell? (a.add k) = some (.string (l0.getD k ByteArray.empty)) := fun w' hb => S_nat (Kd.C_below hC0 hb) hlt
            generalize l0.getD k ByteArray.empty = s at hsn hdr hsz hcl
            have HSN := Lib.hid hsn
            have HDR := Lib.hid hdr
            have HCL := Lib.hid hcl
            clear hsn hdr hcl
            have hEr := hE3.chg hG hC
            have hszr := hC.size
            cases hlg : lgT l0 most k with
            | true =>
              rw [hlg] at hR HSN
              have Ht : Hid (Calls Tryd.prog 11 #[.pointer (some ⟨g, 0, none⟩), .int .i64 most] wr fun e w' => e = .returned (.string ByteArray.empty) ∧ RdAt ad w' (· = g) g bs (some 105) ∧ Chg (· = g) wr w') := rText_any ad (· = g) g bs (some 105) most wr hR hEr hG (fun _ h => h)
              clear hR hEr HBS hlg
              go_wp2_with fail
              refine Ht.out.mono ?_
              clear Ht
              rintro e w4 ⟨rfl, hR4, hC4⟩
              have hl1 : lgT l0 most (k + 1) = true := by rw [HSN.out]; rfl
              have HL1 := Lib.hid hl1
              clear hl1
              go_wp2
              go_roundw
              case rel => exact ⟨k + 1, bs, by omega, by rw [HL1.out], by go_num, by rw [HL1.out]; exact hR4, (fun h => by rw [HL1.out] at h; cases h), hC.same hC4⟩
              case measure => simp [intOf]; omega
            | false =>
              rw [hlg] at hR HSN
              have hbs : bs = enc [(s.size : Int)] ++ bytesOf s ++ encT (l0.drop (k + 1)) := by rw [HBS.out hlg, HDR.out]
              have hte := rdText_enc s (encT (l0.drop (k + 1))) most (by omega)
              rw [← hbs] at hte
              have Ht := rText_any ad (· = g) g bs none most wr hR hEr hG (fun _ h => h)
              clear hR hEr HBS hlg hbs
              by_cases hm : most < s.size
              · rw [if_pos hm] at hte
                rw [hte] at Ht
                have Ht2 : Hid (Calls Tryd.prog 11 #[.pointer (some ⟨g, 0, none⟩), .int .i64 most] wr fun e w' => e = .returned (.string ByteArray.empty) ∧ RdAt ad w' (· = g) g (bytesOf s ++ encT (l0.drop (k + 1))) (some 105) ∧ Chg (· = g) wr w') := Ht
                have hl1 : lgT l0 most (k + 1) = true := by rw [HSN.out, decide_eq_true hm]; rfl
                have HL1 := Lib.hid hl1
                clear Ht hte hl1
                go_wp2_with fail
                refine Ht2.out.mono ?_
                clear Ht2
                rintro e w4 ⟨rfl, hR4, hC4⟩
                obtain ⟨a, rfl, hcell⟩ := HCL.out w4 (hBr.trans (hC4.below _ (by omega) (fun k hk e => by omega)))
                have hmb : decide (most < (s.size : Int)) = true := decide_eq_true hm
                go_wp2
                go_roundw
                case rel => exact ⟨k + 1, _, by omega, by rw [HL1.out], by go_num, by rw [HL1.out]; exact hR4, (fun h => by rw [HL1.out] at h; cases h), hC.same hC4⟩
                case measure => simp [intOf]; omega
              · rw [if_neg hm] at hte
                rw [hte] at Ht
                have Ht2 : Hid (Calls Tryd.prog 11 #[.pointer (some ⟨g, 0, none⟩), .int .i64 most] wr fun e w' => e = .returned (.string s) ∧ RdAt ad w' (· = g) g (encT (l0.drop (k + 1))) none ∧ Chg (· = g) wr w') := by
                  have h := Ht
                  simp only [strOfNums_bytesOf] at h
                  exact h
                have hl1 : lgT l0 most (k + 1) = false := by rw [HSN.out, decide_eq_false hm]; rfl
                have HL1 := Lib.hid hl1
                clear Ht hte hl1
                go_wp2_with fail
                refine Ht2.out.mono ?_
                clear Ht2
                rintro e w4 ⟨rfl, hR4, hC4⟩
                obtain ⟨a, rfl, hcell⟩ := HCL.out w4 (hBr.trans (hC4.below _ (by omega) (fun k hk e => by omega)))
                have hmb : decide (most < (s.size : Int)) = false := decide_eq_false (by omega)
                go_wp2
                go_roundw
                case rel => exact ⟨k + 1, _, by omega, by rw [HL1.out], by go_num, by rw [HL1.out]; exact hR4, fun h => rfl, hC.same hC4⟩
                case measure => simp [intOf]; omega
          · obtain rfl : k = l0.length := by omega
            have hszr := hC.size
            have hp := putFlag_any none 0 [] a2 cap2 l2 _ (C_nil _ _ _) (Kd.C_below hC2 hBr) (by simp; omega)
            rw [List.nil_append] at hp
            have Hp := Lib.hid hp
            have hEr := hE3.chg hG hC
            clear hp
            go_wp2_with fail
            refine Hp.out.mono ?_
            rintro e w4 ⟨B, d, rfl, ho4, hb4⟩
            have hB4 := below_then hBr (by omega) hb4
            have hR4 : RdAt ad w4 (· = g) g bs (if lgT l0 most l0.length then some 105 else none) := hR.below hb4
            have hE4 := hEr.below hb4
            have hfl := encF_len l2
            rw [hfl]
            clear Hp ho4 hb4 hR hEr hE3 hB3
            cases hlg : lgT l0 most l0.length with
            | true =>
              rw [hlg] at hR4
              have hD0 := rDone_any ad (· = g) g bs (some 105) w4 hR4 hE4 (fun _ h => h)
              simp only [rdDone, errV] at hD0
              have hD := Lib.hid hD0
              clear hD0
              clear hR4 hE4 HBS
              go_wp2_with fail
              refine hD.out.mono ?_
              rintro e w5 ⟨rfl, rfl⟩
              go_wp2
              go_ret
              exact ⟨rfl, hB4⟩
            | false =>
              rw [hlg] at hR4
              have hb0 : bs = [] := by rw [HBS.out hlg, List.drop_length]; rfl
              subst hb0
              have hD0 := rDone_any ad (· = g) g [] none w4 hR4 hE4 (fun _ h => h)
              have hdn : rdDone [] none = none := rfl
              rw [hdn] at hD0
              simp only [errV] at hD0
              have hD := Lib.hid hD0
              clear hD0 hdn
              clear hR4 hE4 HBS
              go_wp2_with fail
              refine hD.out.mono ?_
              rintro e w5 ⟨rfl, rfl⟩
              go_wp2
              go_ret
              exact ⟨rfl, hB4⟩
  · go_ret; exact ⟨rfl, hB1⟩
  · go_ret; exact ⟨rfl, hB1⟩
  · go_ret; exact ⟨rfl, hB1⟩

end Go.Proofs.YtnjbflbalpedoaaDoor
