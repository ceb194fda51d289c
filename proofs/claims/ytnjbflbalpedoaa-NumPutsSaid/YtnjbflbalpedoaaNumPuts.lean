/- The walk of the statement NumPuts: for every bytes, numbers, texts, flags it returns true, and memory that was there stays. -/
import Derived.Test.YtnjbflbalpedoaaLaw2
import Derived.Test.YtnjbflbalpedoaaRef1N
namespace Go.Proofs.Ytnjbflbalpedoaa
open Go.RowKit Go.Proofs.YtnjbflbalpedoaaW.PrintWords

set_option maxHeartbeats 1600000 in
set_option maxRecDepth 100000 in
theorem numPuts_walk (a0 : Option Addr) (cap0 : Nat) (l0 : List Int) (a1 : Option Addr) (cap1 : Nat) (l1 : List Int) (a2 : Option Addr) (cap2 : Nat) (l2 : List ByteArray) (a3 : Option Addr) (cap3 : Nat) (l3 : List Bool) (w : World)
    (hC0 : Kd.C (Kd.int .u8) w a0 l0.length l0) (_ : ∀ x ∈ l0, (Lit.int .u8 x).wf = true) (_ : l0.length * 1 ≤ 140737488351232) (_ : l0.length ≤ cap0) (_ : a0 = none → cap0 = 0)
    (hC1 : Kd.C (Kd.int .i64) w a1 l1.length l1) (hw1 : ∀ x ∈ l1, (Lit.int .i64 x).wf = true) (_ : l1.length * 8 ≤ 140737488351232) (_ : l1.length ≤ cap1) (_ : a1 = none → cap1 = 0)
    (hC2 : Kd.C Kd.string w a2 l2.length l2) (_ : ∀ s ∈ l2, s.size ≤ maxLen) (_ : l2.length ≤ cap2) (_ : a2 = none → cap2 = 0) (hC3 : Kd.C Kd.bool w a3 l3.length l3) (_ : l3.length ≤ cap3) (_ : a3 = none → cap3 = 0) :
    Calls Try.prog 4 #[.slice a0 l0.length cap0, .slice a1 l1.length cap1, .slice a2 l2.length cap2, .slice a3 l3.length cap3] w fun e w' => e = .returned (.bool true) ∧ Below w.heap.size w w' := by
  rename_i z1 z2 z3 z4 z5 z6 z7 z8 z9 z10 z11
  clear z1 z2 z3 z4 z5 z6 z7 z8 z9 z10 z11
  have HW1 := Lib.hid hw1
  clear hw1
  go_enter Try.func4, Try.ntmps4
  go_wp2_with fail
  refine (first_any _).mono ?_
  rintro e w1 ⟨rfl, hB1⟩
  go_wp2_with fail
  · go_ret; exact ⟨rfl, hB1⟩
  · have g0 : l0.length ≤ 50 := by have : (l0.length : Int) ≤ 50 := by assumption
                                   omega
    have g1 : l1.length ≤ 20 := by have : (l1.length : Int) ≤ 20 := by assumption
                                   omega
    have g2 : l2.length ≤ 10 := by have : (l2.length : Int) ≤ 10 := by assumption
                                   omega
    have g3 : l3.length ≤ 20 := by omega
    have HR := Lib.hid (fun n hn => wf_range (HW1.out n hn))
    clear HW1
    go_loop [10] (fun i => ∃ k : Nat, k ≤ l2.length ∧ i = .int .i64 k ∧ Hid (∀ j, j < k → (l2.getD j ByteArray.empty).size ≤ 300)) (fun i => l2.length - (intOf i).toNat)
    case atStart => exact ⟨0, Nat.zero_le _, rfl, fun j hj => by omega⟩
    case round =>
      obtain ⟨k, hk, rfl, HS⟩ := hrel
      by_cases hlt : k < l2.length
      · obtain ⟨ad, rfl, hcell⟩ := S_nat (Kd.C_below hC2 hB1) hlt
        have hlast : (l2.getD k ByteArray.empty).size ≤ 300 → ∀ j, j < k + 1 → (l2.getD j ByteArray.empty).size ≤ 300 := fun h j hj => by
          rcases Nat.lt_or_ge j k with h1 | h1
          · exact HS.out j h1
          · obtain rfl : j = k := by omega
            exact h
        generalize l2.getD k ByteArray.empty = s at hcell hlast
        have HL := Lib.hid hlast
        clear hlast
        go_wp2_with fail
        · go_ret; exact ⟨rfl, hB1⟩
        · have hs : (s.size : Int) ≤ 300 := by assumption
          exact ⟨⟨k + 1, by omega, by go_num, HL.out (by omega)⟩, by simp [intOf]; omega⟩
      · obtain rfl : k = l2.length := by omega
        have hs1 := hB1.size
        go_wp2_with fail
        refine (refBytes_any a0 cap0 l0 _ (Kd.C_below hC0 hB1) (by omega)).mono ?_
        rintro e wx ⟨Ax, cx, rfl, hox, hbx⟩
        have hBx := below_then hB1 hs1 hbx
        have hsx := hbx.size
        go_wp2_with fail
        refine (refBytes_any a0 cap0 l0 _ (Kd.C_below hC0 hBx) (by omega)).mono ?_
        rintro e wy ⟨Ay, cy, rfl, hoy, hby⟩
        have hBy := below_then hBx (by omega) hby
        have hsy := hby.size
        go_wp2_with fail
        refine (refBytes_any a0 cap0 l0 _ (Kd.C_below hC0 hBy) (by omega)).mono ?_
        rintro e wz ⟨Az, cz, rfl, hoz, hbz⟩
        have hBz := below_then hBy (by omega) hbz
        have hsz := hbz.size
        have hdxy : Dis (.slice Ax l0.length cx) (.slice Ay l0.length cy) := Dis.of_lt (b := 0) hox hoy (by omega)
        have hdxz : Dis (.slice Ax l0.length cx) (.slice Az l0.length cz) := Dis.of_lt (b := 0) hox hoz (by omega)
        have hdyz : Dis (.slice Ay l0.length cy) (.slice Az l0.length cz) := Dis.of_lt (b := 0) hoy hoz (by omega)
        have hxge : ∀ k, (Value.slice Ax l0.length cx).ownBlock = some k → w.heap.size ≤ k := fun k hk => by have := own_base hox k hk; omega
        have hyge : ∀ k, (Value.slice Ay l0.length cy).ownBlock = some k → w.heap.size ≤ k := fun k hk => by have := own_base hoy k hk; omega
        have hzge : ∀ k, (Value.slice Az l0.length cz).ownBlock = some k → w.heap.size ≤ k := fun k hk => by have := own_base hoz k hk; omega
        have hox0 := own_weaken (pw_own_below (pw_own_below hox hby) hbz) (Nat.zero_le _)
        have hoy0 := own_weaken (pw_own_below hoy hbz) (Nat.zero_le _)
        have hoz0 := own_weaken hoz (Nat.zero_le _)
        clear hox hoy hoz hbx hby hbz hBx hBy hB1
        have hszw : w.heap.size ≤ wz.heap.size := by omega
        clear hsx hsy hsz hs1
        have hml := enc_len l1 HR.out
        go_wp2_with fail
        go_loopw [11, 14] (fun v i wr => ∃ (k : Nat) (X : List Int) (A : Option Addr) (c : Nat), k ≤ l1.length ∧ i = .int .i64 k ∧ Hid (X = l0 ++ enc (l1.take k)) ∧ v = .slice A X.length c ∧ wr.ownsRow 0 5 1 (.slice A X.length c) X.length (nums .u8 X) ∧ Grw wz wr (.slice Ax l0.length cx) (.slice A X.length c)) (fun _ i _ => l1.length - (intOf i).toNat)
        case atStart => exact ⟨0, l0, Ax, cx, Nat.zero_le _, rfl, by simp [Hid, enc], rfl, hox0, Grw.refl _ _⟩
        case round =>
          clear hox0
          obtain ⟨k, X, A, c, hk, rfl, HX, rfl, ho, hG⟩ := hrel
          have hBr : Below w.heap.size w wr := hBz.trans (hG.below _ hszw hxge)
          by_cases hlt : k < l1.length
          · obtain ⟨ad, rfl, hcell⟩ := C_nat (Kd.C_below hC1 hBr) hlt
            have hrk := HR.out (l1.getD k 0) (by rw [List.getD_eq_getElem?_getD, List.getElem?_eq_getElem hlt]; exact List.getElem_mem hlt)
            have hsn := enc_snoc l1 k hlt
            have hle := enc_take_le l1 k
            generalize l1.getD k 0 = n at hcell hrk hsn
            obtain ⟨hr0, hr1⟩ := hrk
            have hn1 := enc_one_len n hr0 hr1
            have hXl : X.length ≤ 300 := by rw [HX.out]; simp; omega
            rw [← enc_one] at hsn
            have HSN := Lib.hid hsn
            clear hsn
            have Hput := Lib.hid (ref1Put_any A c X n wr ho hr0 hr1 (by omega))
            clear ho
            go_wp2_with fail
            refine Hput.out.mono ?_
            rintro e w2 ⟨A2, c2, rfl, ho2, hG2⟩
            clear Hput
            have hXX : X ++ enc [n] = l0 ++ enc (l1.take (k + 1)) := by rw [HX.out, HSN.out]; simp
            generalize X ++ enc [n] = X2 at *
            have HXX := Lib.hid hXX
            clear hXX
            go_wp2
            go_roundw
            case rel => exact ⟨k + 1, X2, A2, c2, by omega, by go_num, HXX, rfl, ho2, hG.trans hG2⟩
            case measure => simp [intOf]; omega
          · obtain rfl : k = l1.length := by omega
            obtain ⟨hoy1, hdyx⟩ := hG.other hdxy.symm hoy0
            obtain ⟨hoz1, hdzx⟩ := hG.other hdxz.symm hoz0
            have hdxz1 := hdzx.symm
            obtain ⟨wo1, rfl⟩ : ∃ wo : World, wo = wr := ⟨_, rfl⟩
            have hxge1 : ∀ k, (Value.slice A X.length c).ownBlock = some k → w.heap.size ≤ k := fun k hk => by
              rcases hG.at_ with e | ⟨b, e, hb⟩
              · exact hxge k (e ▸ hk)
              · rw [e] at hk; injection hk with hk; omega
            have hso1 : w.heap.size ≤ wo1.heap.size := by have := hG.gr.size; omega
            rw [List.take_length] at HX
            clear hoy0 hoz0 hG hBz hszw hdxy hdxz hxge
            go_wp2_with fail
            go_loopw [12, 15] (fun v i wr => ∃ (k : Nat) (Y : List Int) (B : Option Addr) (d : Nat), k ≤ l2.length ∧ i = .int .i64 k ∧ Hid (Y = l0 ++ encT (l2.take k)) ∧ Hid (Y.length ≤ 50 + 310 * k) ∧ v = .slice B Y.length d ∧ wr.ownsRow 0 5 1 (.slice B Y.length d) Y.length (nums .u8 Y) ∧ Grw wo1 wr (.slice Ay l0.length cy) (.slice B Y.length d)) (fun _ i _ => l2.length - (intOf i).toNat)
            case atStart => exact ⟨0, l0, Ay, cy, Nat.zero_le _, rfl, by simp [Hid, encT], by simp [Hid]; omega, rfl, hoy1, Grw.refl _ _⟩
            case round =>
              clear hoy1
              obtain ⟨k, Y, B, d, hk, rfl, HY, HYL, rfl, hoY, hG⟩ := hrel
              have hBr2 : Below w.heap.size w wr := hBr.trans (hG.below _ hso1 hyge)
              by_cases hlt : k < l2.length
              · obtain ⟨ad, rfl, hcell⟩ := S_nat (Kd.C_below hC2 hBr2) hlt
                have hsk := HS.out k hlt
                have hsn := encT_snoc l2 k hlt
                generalize l2.getD k ByteArray.empty = s at hcell hsk hsn
                have hn1 := enc_one_len (s.size : Int) (by omega) (by omega)
                have HSN := Lib.hid hsn
                clear hsn
                have hYl := HYL.out
                have Hput := Lib.hid (ref1PutText_any B d Y s wr hoY (by omega) (by omega))
                clear hoY
                go_wp2_with fail
                refine Hput.out.mono ?_
                rintro e w2 ⟨A2, c2, rfl, ho2, hG2⟩
                clear Hput
                have hXX : Y ++ enc [(s.size : Int)] ++ bytesOf s = l0 ++ encT (l2.take (k + 1)) := by rw [HY.out, HSN.out]; simp
                have hXL : (Y ++ enc [(s.size : Int)] ++ bytesOf s).length ≤ 50 + 310 * (k + 1) := by simp [bytesOf_length]; omega
                generalize Y ++ enc [(s.size : Int)] ++ bytesOf s = X2 at *
                have HXX := Lib.hid hXX
                clear hXX
                have HXL := Lib.hid hXL
                clear hXL
                go_wp2
                go_roundw
                case rel => exact ⟨k + 1, X2, A2, c2, by omega, by go_num, HXX, HXL, rfl, ho2, hG.trans hG2⟩
                case measure => simp [intOf]; omega
              · obtain rfl : k = l2.length := by omega
                obtain ⟨hox2, hdxy2⟩ := hG.other hdyx.symm ho
                obtain ⟨hoz2, hdzy⟩ := hG.other hdyz.symm hoz1
                have hdyz2 := hdzy.symm
                have hdxz2 := hdxz1
                obtain ⟨wo2, rfl⟩ : ∃ wo : World, wo = wr := ⟨_, rfl⟩
                have hyge1 : ∀ k, (Value.slice B Y.length d).ownBlock = some k → w.heap.size ≤ k := fun k hk => by
                  rcases hG.at_ with e | ⟨b, e, hb⟩
                  · exact hyge k (e ▸ hk)
                  · rw [e] at hk; injection hk with hk; omega
                have hso2 : w.heap.size ≤ wo2.heap.size := by have := hG.gr.size; omega
                rw [List.take_length] at HY
                clear ho hoz1 hG hBr hso1 hdyx hyge hdyz
                go_wp2_with fail
                go_loopw [13, 16] (fun v i wr => ∃ (k : Nat) (Z : List Int) (C : Option Addr) (f : Nat), k ≤ l3.length ∧ i = .int .i64 k ∧ Hid (Z = l0 ++ encF (l3.take k)) ∧ v = .slice C Z.length f ∧ wr.ownsRow 0 5 1 (.slice C Z.length f) Z.length (nums .u8 Z) ∧ Grw wo2 wr (.slice Az l0.length cz) (.slice C Z.length f)) (fun _ i _ => l3.length - (intOf i).toNat)
                case atStart => exact ⟨0, l0, Az, cz, Nat.zero_le _, rfl, by simp [Hid, encF], rfl, hoz2, Grw.refl _ _⟩
                case round =>
                  clear hoz2
                  obtain ⟨k, Z, C, f, hk, rfl, HZ, rfl, hoZ, hG⟩ := hrel
                  have hBr : Below w.heap.size w wr := hBr2.trans (hG.below _ hso2 hzge)
                  by_cases hlt : k < l3.length
                  · obtain ⟨ad, rfl, hcell⟩ := B_nat (Kd.C_below hC3 hBr) hlt
                    have hsn := encF_snoc l3 k hlt
                    generalize l3.getD k false = b at hcell hsn
                    have HSN := Lib.hid hsn
                    clear hsn
                    have hZl : Z.length ≤ 100 := by rw [HZ.out]; simp [encF]; omega
                    have Hput := Lib.hid (ref1PutFlag_any C f Z b wr hoZ (by omega))
                    clear hoZ
                    go_wp2_with fail
                    refine Hput.out.mono ?_
                    rintro e w2 ⟨A2, c2, rfl, ho2, hG2⟩
                    clear Hput
                    have hXX : Z ++ encF [b] = l0 ++ encF (l3.take (k + 1)) := by rw [HZ.out, HSN.out]; simp [encF]
                    generalize Z ++ encF [b] = X2 at *
                    have HXX := Lib.hid hXX
                    clear hXX
                    go_wp2
                    go_roundw
                    case rel => exact ⟨k + 1, X2, A2, c2, by omega, by go_num, HXX, rfl, ho2, hG.trans hG2⟩
                    case measure => simp [intOf]; omega
                  · obtain rfl : k = l3.length := by omega
                    obtain ⟨hox3, _⟩ := hG.other hdxz2 hox2
                    obtain ⟨hoy3, _⟩ := hG.other hdyz2 hoY
                    rw [List.take_length] at HZ
                    have hYl := HYL.out
                    have hcx := C_own hox3
                    have hcy := C_own hoy3
                    have hcz := C_own hoZ
                    have hsr : w.heap.size ≤ wr.heap.size := hBr.size
                    have hel := enc_len l1 HR.out
                    have hp := put_any a0 cap0 l0 a1 cap1 l1 wr (Kd.C_below hC0 hBr) (Kd.C_below hC1 hBr) HR.out (by omega)
                    rw [← HX.out] at hp
                    have Hp := Lib.hid hp
                    clear hp
                    go_wp2_with fail
                    refine Hp.out.mono ?_
                    rintro e w5 ⟨P, p, rfl, hoP, hb5⟩
                    have hs := same_any P A p c X X w5 (C_own hoP) (Kd.C_below hcx hb5)
                    rw [decide_eq_true rfl] at hs
                    have Hs := Lib.hid hs
                    clear hs Hp hoP
                    have hB5 := below_then hBr hsr hb5
                    have hY5 := Kd.C_below hcy hb5
                    have hZ5 := Kd.C_below hcz hb5
                    have hs5 := hb5.size
                    clear hcx hcy hcz hb5 hox3 hoy3 hoZ hBr
                    go_wp2_with fail
                    refine Hs.out.mono ?_
                    rintro e w6 ⟨rfl, ⟨m, rfl⟩⟩
                    clear Hs
                    have hd5 : Below w5.heap.size w5 (w5.drewN m) := pw_below_drewN (Below.refl _ _) m
                    have hB6 := below_then hB5 (by omega) hd5
                    have hp := putText_any a0 cap0 l0 a2 cap2 l2 _ (Kd.C_below hC0 hB6) (Kd.C_below hC2 hB6) (by have := congrArg List.length HY.out; simp at this; omega)
                    rw [← HY.out] at hp
                    have Hp := Lib.hid hp
                    clear hp
                    have hY6 := Kd.C_below hY5 hd5
                    have hZ6 := Kd.C_below hZ5 hd5
                    have hs6 := hB6.size
                    clear hB5 hY5 hZ5 hd5
                    go_wp2_with fail
                    refine Hp.out.mono ?_
                    rintro e w7 ⟨P2, p2, rfl, hoP, hb7⟩
                    have hs := same_any P2 B p2 d Y Y w7 (C_own hoP) (Kd.C_below hY6 hb7)
                    rw [decide_eq_true rfl] at hs
                    have Hs := Lib.hid hs
                    clear hs Hp hoP
                    have hB7 := below_then hB6 hs6 hb7
                    have hZ7 := Kd.C_below hZ6 hb7
                    have hs7 := hB7.size
                    clear hB6 hY6 hZ6 hb7
                    go_wp2_with fail
                    refine Hs.out.mono ?_
                    rintro e w8 ⟨rfl, ⟨m2, rfl⟩⟩
                    clear Hs
                    have hd7 : Below w7.heap.size w7 (w7.drewN m2) := pw_below_drewN (Below.refl _ _) m2
                    have hB8 := below_then hB7 hs7 hd7
                    have hp := putFlag_any a0 cap0 l0 a3 cap3 l3 _ (Kd.C_below hC0 hB8) (Kd.C_below hC3 hB8) (by omega)
                    rw [← HZ.out] at hp
                    have Hp := Lib.hid hp
                    clear hp
                    have hZ8 := Kd.C_below hZ7 hd7
                    have hs8 := hB8.size
                    clear hB7 hZ7 hd7
                    go_wp2_with fail
                    refine Hp.out.mono ?_
                    rintro e w9 ⟨P3, p3, rfl, hoP, hb9⟩
                    have hs := same_any P3 C p3 f Z Z w9 (C_own hoP) (Kd.C_below hZ8 hb9)
                    rw [decide_eq_true rfl] at hs
                    have Hs := Lib.hid hs
                    clear hs Hp hoP
                    have hB9 := below_then hB8 hs8 hb9
                    go_wp2_with fail
                    refine Hs.out.mono ?_
                    rintro e w10 ⟨rfl, ⟨m3, rfl⟩⟩
                    go_wp2
                    go_ret
                    exact ⟨rfl, pw_below_drewN hB9 m3⟩
  · go_ret; exact ⟨rfl, hB1⟩
  · go_ret; exact ⟨rfl, hB1⟩
  · go_ret; exact ⟨rfl, hB1⟩

end Go.Proofs.Ytnjbflbalpedoaa
