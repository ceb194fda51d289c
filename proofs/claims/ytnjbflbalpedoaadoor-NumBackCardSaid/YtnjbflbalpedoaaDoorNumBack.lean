/- The walk of the statement NumBack: for every numbers, text, flag, tail and cut it returns true, and memory that was there stays. -/
import Derived.Test.YtnjbflbalpedoaaDoorLaw2
import Derived.Test.YtnjbflbalpedoaaDoorRefB
import Derived.Test.YtnjbflbalpedoaaDoorRdT
import Derived.Test.YtnjbflbalpedoaaDoorSee
import Derived.Test.YtnjbflbalpedoaaDoorWorld
import Derived.Test.YtnjbflbalpedoaaDoorBase2
namespace Go.Proofs.YtnjbflbalpedoaaDoor
open Go.RowKit Go.Proofs.YtnjbflbalpedoaaDoorW.PrintWords

theorem rdSub : ∀ c ∈ rdErrs, c ∈ allE := by decide

set_option maxHeartbeats 1600000 in
set_option maxRecDepth 100000 in
theorem numBack_walk (ad : Nat → Addr) (a0 : Option Addr) (cap0 : Nat) (l0 : List Int) (s : ByteArray) (f : Bool) (a3 : Option Addr) (cap3 : Nat) (l3 : List Int) (cut : Int) (w : World) (hE : EOk allE ad w) (hI : EInj allE ad)
    (hC0 : Kd.C (Kd.int .i64) w a0 l0.length l0) (hw0 : ∀ x ∈ l0, (Lit.int .i64 x).wf = true) (_ : l0.length * 8 ≤ 140737488351232) (_ : l0.length ≤ cap0) (_ : a0 = none → cap0 = 0) (_ : s.size ≤ 140737488351232)
    (hC3 : Kd.C (Kd.int .u8) w a3 l3.length l3) (hw3 : ∀ x ∈ l3, (Lit.int .u8 x).wf = true) (_ : l3.length * 1 ≤ 140737488351232) (_ : l3.length ≤ cap3) (hn3 : a3 = none → cap3 = 0) (hcut : (Lit.int .i64 cut).wf = true) :
    Calls Tryd.prog 5 #[.slice a0 l0.length cap0, .string s, .bool f, .slice a3 l3.length cap3, .int .i64 cut] w fun e w' => e = .returned (.bool true) ∧ Below w.heap.size w w' := by
  rename_i z1 z2 z3 z4 z5 z6
  clear z1 z2 z3 z4 z5 z6
  have HR := Lib.hid (fun n hn => wf_range (hw0 n hn))
  have HB3 := Lib.hid (fun n hn => wf_byte (hw3 n hn))
  obtain ⟨hcut0, hcut1⟩ := wf_range hcut
  have HN3 := Lib.hid hn3
  clear hw0 hw3 hcut hn3
  go_enter Tryd.func5, Tryd.ntmps5
  go_wp2_with fail
  refine (first_any _).mono ?_
  rintro e w1 ⟨rfl, hB1⟩
  go_wp2_with fail
  · go_ret; exact ⟨rfl, hB1⟩
  · have g0 : l0.length ≤ 15 := by have : (l0.length : Int) ≤ 15 := by assumption
                                   omega
    have g1 : s.size ≤ 100 := by have : (s.size : Int) ≤ 100 := by assumption
                                 omega
    have g3 : l3.length ≤ 40 := by omega
    have hel := enc_len l0 HR.out
    have hes := enc_one_len (s.size : Int) (by omega) (by omega)
    -- the bytes that are put
    have hp := put_any none 0 [] a0 cap0 l0 w1 (C_nil _ _ _) (Kd.C_below hC0 hB1) HR.out (by simp; omega)
    rw [List.nil_append] at hp
    have Hp := Lib.hid hp
    clear hp
    refine Hp.out.mono ?_
    rintro e w2 ⟨A, c, rfl, ho2, hb2⟩
    clear Hp
    have hs1 := hB1.size
    have hB2 := below_then hB1 hs1 hb2
    have hs2 := hB2.size
    have hX : Kd.C (Kd.int .u8) (w2.alloc (.cells #[.string s] 9)) A (enc l0).length (enc l0) := Kd.C_below (C_own ho2) ((Below.refl _ _).alloc (Nat.le_refl _) _)
    have hp := putText_any A c (enc l0) (some ⟨w2.heap.size, 0, none⟩) 1 [s] _ hX (C_strs 9 [s] (by simp)) (by simp [encT, bytesOf_length]; omega)
    have Hp := Lib.hid hp
    clear hp hX ho2 hb2 hB1 hs1
    go_wp2_with fail
    refine Hp.out.mono ?_
    rintro e w3 ⟨A3, c3, rfl, ho3, hb3⟩
    clear Hp
    have hB3 := Below.new hB2 hb3
    have hs3 := hB3.size
    have hlT : (enc l0 ++ encT [s]).length ≤ 300 := by simp [encT, bytesOf_length]; omega
    generalize hXT : enc l0 ++ encT [s] = XT at *
    have HXT := Lib.hid hXT
    clear hXT
    have hX : Kd.C (Kd.int .u8) (w3.alloc (.cells #[.bool f] 4)) A3 XT.length XT := Kd.C_below (C_own ho3) ((Below.refl _ _).alloc (Nat.le_refl _) _)
    have hp := putFlag_any A3 c3 XT (some ⟨w3.heap.size, 0, none⟩) 1 [f] _ hX (C_bools 4 [f] (by simp)) (by simp; omega)
    have Hp := Lib.hid hp
    clear hp hX ho3 hb3 hB2 hs2
    go_wp2_with fail
    refine Hp.out.mono ?_
    rintro e w4 ⟨A4, c4, rfl, ho4, hb4⟩
    clear Hp
    have hB4 := Below.new hB3 hb4
    have hs4 := hB4.size
    have hlF : (XT ++ encF [f]).length ≤ 301 := by simp [encF]; omega
    have hlF1 : 1 ≤ (XT ++ encF [f]).length := by simp [encF]
    have hXF0 : XT ++ encF [f] = enc l0 ++ (enc [(s.size : Int)] ++ bytesOf s ++ encF [f]) := by rw [← HXT.out]; simp [encT]
    generalize hXF : XT ++ encF [f] = X at *
    have HX := Lib.hid hXF0
    clear hXF hXF0 HXT hlT hb4 hB3 hs3
    have hXb : ∀ x ∈ X, 0 ≤ x ∧ x < 256 := by
      rw [HX.out]
      intro x hx
      rcases List.mem_append.1 hx with h | h
      · exact enc_bytes _ x h
      · rcases List.mem_append.1 h with h | h
        · rcases List.mem_append.1 h with h | h
          · exact enc_bytes _ x h
          · exact bytesOf_bytes s x h
        · exact encF_bytes _ x h
    have HXB := Lib.hid hXb
    clear hXb
    -- the reader of all
    have hcX := C_own ho4
    have hlc4 : X.length ≤ c4 := own_le ho4
    have Hp := Lib.hid (refBytes_any A4 c4 X w4 hcX (by omega))
    clear ho4
    go_wp2_with fail
    refine Hp.out.mono ?_
    rintro e w5 ⟨A5, c5, rfl, ho5, hb5⟩
    clear Hp
    have hB5 := below_then hB4 hs4 hb5
    have hs5 := hB5.size
    have hC3' := Kd.C_below hC3 hB5
    go_wp2_with (at_builtin; refine app_sl rfl _ _ 22 5 .u8 (.int .u8 0) 1 rfl Tryd.underlying22 infoB rfl (by decide) _ X.length (nums .u8 X) a3 cap3 l3 rfl rfl HN3.out (own_weaken ho5 (Nat.zero_le _)) hC3' (by omega) ?_)
    intro A6 c6 w6 ho6 hG6
    have hb6 : Below w5.heap.size w5 w6 ∨ True := .inr trivial
    have hB6 : Below w.heap.size w w6 := hB5.trans (hG6.below _ hs5 (fun k hk => by have := own_base ho5 k hk; omega))
    have hcX6 : Kd.C (Kd.int .u8) w6 A4 X.length X := Kd.C_below hcX (hb5.trans (hG6.below _ hb5.size (fun k hk => own_base ho5 k hk)))
    have hs6 := hB6.size
    rw [← nums_append] at ho6
    have hn6 : X.length + l3.length = (X ++ l3).length := by simp
    rw [hn6] at ho6
    have hr := read_any ad A6 c6 (X ++ l3) w6 (C_own ho6) (fun x hx => (List.mem_append.1 hx).elim (HXB.out x) (HB3.out x)) (by simp; omega)
    rw [← hn6] at hr
    have Hr := Lib.hid hr
    clear hr ho6 hG6 ho5 hb5 hcX hC3' hb6 hB4 hs4 hB5 hs5 hn6
    go_wp2_with fail
    refine Hr.out.mono ?_
    rintro e w7 ⟨g, rfl, hg2, hg3, hb7, hRd⟩
    clear Hr
    have hR0 := hRd (fun k => g ≤ k) (Nat.le_refl g) (fun k hk => .inr hk)
    have hB7 := below_then hB6 hs6 hb7
    have hs7 := hB7.size
    have hE7 := hE.below hB7
    have hG : NoG allE ad (fun k => g ≤ k) := hE.noG _ (fun k hk => by omega)
    have hG1 : NoG allE ad (· = g) := hE.noG _ (fun k hk => by omega)
    have hcX7 := Kd.C_below hcX6 hb7
    have hcXs : ∀ w', Chg (· = g) w7 w' → Kd.C (Kd.int .u8) w' A4 X.length X := (Stab.of_C hcX6 (fun k (hk : k = g) => by omega)).next (Chg.of_below hb7) (fun k hk => .inl hk)
    have hgw : w.heap.size ≤ g := by omega
    clear hRd hb7 hB6 hcX6 hs6 hg2
    go_wp2_with fail
    go_loopw [14] (fun vi wr => ∃ k : Nat, k ≤ l0.length ∧ vi = .int .i64 k ∧ RdAt ad wr (fun k => g ≤ k) g (enc (l0.drop k) ++ (enc [(s.size : Int)] ++ bytesOf s ++ encF [f]) ++ l3) none ∧ Chg (· = g) w7 wr) (fun vi _ => l0.length - (intOf vi).toNat)
    case atStart => exact ⟨0, Nat.zero_le _, rfl, by rw [HX.out] at hR0; exact hR0, Chg.refl _ _⟩
    case round =>
      clear hR0
      obtain ⟨k, hk, rfl, hR, hC⟩ := hrel
      have hBr : Below w.heap.size w wr := hB7.trans (hC.below _ (by omega) (fun k hk e => by omega))
      have hEr := hE7.chg hG1 hC
      by_cases hlt : k < l0.length
      · obtain ⟨a, rfl, hcw⟩ := C_nat hC0 hlt
        have hab : (a.add k).block < w.heap.size := World.block_lt_of_cell? w _ hcw
        have hcell := (hBr.cell (p := a.add k) hab).trans hcw
        clear hcw
        have hrk := HR.out (l0.getD k 0) (by rw [List.getD_eq_getElem?_getD, List.getElem?_eq_getElem hlt]; exact List.getElem_mem hlt)
        have hdr := enc_drop l0 k hlt
        generalize l0.getD k 0 = n at hcell hrk hdr
        obtain ⟨hr0, hr1⟩ := hrk
        have hri := rdInt_enc n (enc (l0.drop (k + 1)) ++ (enc [(s.size : Int)] ++ bytesOf s ++ encF [f]) ++ l3) (-9223372036854775808) 9223372036854775807 hr0 hr1
        rw [if_neg (by omega)] at hri
        have hre : enc (l0.drop k) ++ (enc [(s.size : Int)] ++ bytesOf s ++ encF [f]) ++ l3 = enc [n] ++ (enc (l0.drop (k + 1)) ++ (enc [(s.size : Int)] ++ bytesOf s ++ encF [f]) ++ l3) := by rw [hdr]; simp only [List.append_assoc]
        rw [hre] at hR
        have hbd := (Below.refl wr.heap.size wr).drew
        have Hi := rInt_any ad (fun k => g ≤ k) g _ none (-9223372036854775808) 9223372036854775807 wr.drew (hR.below hbd) (hEr.below hbd) hG rdSub
        rw [hri] at Hi
        dsimp only at Hi
        have HI2 := Lib.hid Hi
        clear Hi hri hre hdr hR hbd hEr
        go_wp2_with fail
        go_region_held3 (fun w' => w'.cell? (a.add k) = some (.int .i64 n))
          (first
            | go_keep
            | (exact hCn.cell (by assumption) (by show ¬ (a.add k).block = g; omega)))
          ((go_at_call 8; refine HI2.out.mono ?_; rintro e wn ⟨rfl, hRn, hCn⟩))
        all_goals
          go_wp2
          go_roundw
          case rel => exact ⟨k + 1, by omega, by go_num, hRn, hC.same hCn.undrew⟩
          case measure => simp [intOf]; omega
      · obtain rfl : k = l0.length := by omega
        have hre : enc (l0.drop l0.length) ++ (enc [(s.size : Int)] ++ bytesOf s ++ encF [f]) ++ l3 = enc [(s.size : Int)] ++ bytesOf s ++ (encF [f] ++ l3) := by rw [List.drop_length]; simp [enc]
        rw [hre] at hR
        have hte := rdText_enc s (encF [f] ++ l3) 100 (by omega)
        rw [if_neg (by omega)] at hte
        have Ht := rText_any ad (fun k => g ≤ k) g _ none 100 wr hR hEr hG rdSub
        rw [hte] at Ht
        dsimp only at Ht
        rw [strOfNums_bytesOf] at Ht
        have HT := Lib.hid Ht
        clear Ht hte hre hR
        go_wp2_with fail
        refine HT.out.mono ?_
        clear HT
        rintro e wt ⟨rfl, hRt, hCt⟩
        have hCt2 := hC.same hCt
        have Hf := rFlag_any ad (fun k => g ≤ k) g _ none wt hRt (hE7.chg hG1 hCt2) hG rdSub
        rw [rdFlag_enc] at Hf
        dsimp only at Hf
        have HF := Lib.hid Hf
        clear Hf hRt hCt hEr hBr hC
        go_wp2_with fail
        refine HF.out.mono ?_
        clear HF
        rintro e wf ⟨rfl, hRf, hCf⟩
        have hCf2 := hCt2.same hCf
        have hB8 : Below w.heap.size w wf := hB7.trans (hCf2.below _ (by omega) (fun k hk e => by omega))
        have hcX8 := hcX7
        have hX7 : Below w7.heap.size w7 w7 := Below.refl _ _
        have hcXf : Kd.C (Kd.int .u8) wf A4 X.length X := hcXs _ hCf2
        clear hCf hCt2 hcX7 hcX8 hX7
        go_wp2_with fail
        refine (rLeft_any ad _ g _ none wf hRf).mono ?_
        rintro e wf' ⟨rfl, rfl⟩
        have hX0 : ((X.length : Int) == 0) = false := beq_eq_false_iff_ne.mpr (by omega)
        go_wp2_with fail
        refine (number_any cut (X.length : Int) _ (by omega) (by omega) hcut0 hcut1).mono ?_
        rintro e wf' ⟨rfl, rfl⟩
        obtain ⟨hm0, hm1⟩ := numberW_range cut (X.length : Int) (by omega)
        obtain ⟨m, hm⟩ := Int.eq_ofNat_of_zero_le hm0
        rw [hm] at hm0 hm1 ⊢
        clear hm hX0
        obtain ⟨i0, hi, hz0, hz1, hz2⟩ := info_parts info5
        obtain ⟨ht1, ht2, ht3⟩ := print_take_of (P := Tryd.prog) (Value.int .u8) 0 22 5 .i64 Tryd.underlying22 hi hz1 A4 c4 X (m : Int) hm0 (by omega) hlc4
        simp only [Int.toNat_natCast] at ht1 ht2 ht3
        have hCtk : Kd.C (Kd.int .u8) wf A4 (X.take m).length (X.take m) := Kd.C_of_reads (d := 0) (h1 := fun _ => rfl) (ht2 wf (Kd.reads_of_C hcXf))
        have hlt : (X.take m).length = m := by rw [List.length_take]; omega
        have hrx := read_any ad A4 c4 (X.take m) wf hCtk (fun x hx => HXB.out x (List.mem_of_mem_take hx)) (by omega)
        rw [hlt] at ht1 hrx
        have HRX := Lib.hid hrx
        clear hi hz0 hz1 hz2 ht2 ht3 hCtk hlt hrx hcXf
        go_wp2_with fail
        refine HRX.out.mono ?_
        clear HRX
        rintro e w8 ⟨gx, rfl, hgx2, hgx3, hb8, hRd⟩
        have hszf := hCf2.size
        have hRx0 := hRd (fun k => gx ≤ k) (Nat.le_refl gx) (fun k hk => .inr hk)
        have hRr := hRf.below hb8
        have hBx := below_then hB8 (by omega) hb8
        have hE8 := hE.below hBx
        have hGx : NoG allE ad (· = gx) := hE.noG _ (fun k hk => by omega)
        have hGx2 : NoG allE ad (fun k => gx ≤ k) := hE.noG _ (fun k hk => by omega)
        have hcut : Cut (enc (l0.drop 0) ++ (enc [(s.size : Int)] ++ bytesOf s ++ encF [f])) (X.take m) none := .inr ⟨rfl, m, by rw [List.drop_zero, ← HX.out]; omega, by rw [List.drop_zero, ← HX.out]⟩
        have HCUT := Lib.hid hcut
        clear hRd hcut hRf hB8 hb8 ht1
        go_wp2_with fail
        go_loopw [19] (fun vi wr => ∃ (k : Nat) (bs : List Int) (err : Option Nat), k ≤ l0.length ∧ vi = .int .i64 k ∧ RdAt ad wr (fun k => gx ≤ k) gx bs err ∧ Hid (Cut (enc (l0.drop k) ++ (enc [(s.size : Int)] ++ bytesOf s ++ encF [f])) bs err) ∧ Chg (· = gx) w8 wr) (fun vi _ => l0.length - (intOf vi).toNat)
        case atStart => exact ⟨0, X.take m, none, Nat.zero_le _, rfl, hRx0, HCUT.out, Chg.refl _ _⟩
        case round =>
          clear hRx0 HCUT
          obtain ⟨k, bs, err, hk, rfl, hRx, HC, hC⟩ := hrel
          have hEr := hE8.chg hGx hC
          by_cases hlt : k < l0.length
          · have hrk := HR.out (l0.getD k 0) (by rw [List.getD_eq_getElem?_getD, List.getElem?_eq_getElem hlt]; exact List.getElem_mem hlt)
            have hdr := enc_drop l0 k hlt
            generalize l0.getD k 0 = n at hrk hdr
            have hcn := HC.out
            rw [hdr, List.append_assoc] at hcn
            have HCN := Lib.hid (Cut.int hcn hrk.1 hrk.2)
            have HI2 := Lib.hid (rInt_any ad (fun k => gx ≤ k) gx bs err (-9223372036854775808) 9223372036854775807 wr hRx hEr hGx2 rdSub)
            clear hcn hdr hrk hRx hEr HC
            go_wp2_with fail
            refine HI2.out.mono ?_
            rintro e wn ⟨rfl, hRn, hCn⟩
            go_wp2
            go_roundw
            case rel => exact ⟨k + 1, _, _, by omega, by go_num, hRn, HCN.out, hC.same hCn⟩
            case measure => simp [intOf]; omega
          · obtain rfl : k = l0.length := by omega
            have hcn := HC.out
            rw [List.drop_length] at hcn
            have hct := Cut.text (most := 100) (R := encF [f]) hcn (by omega) (by omega)
            have hcf := Cut.flag hct
            have HT := Lib.hid (rText_any ad (fun k => gx ≤ k) gx bs err 100 wr hRx hEr hGx2 rdSub)
            have HCF := Lib.hid hcf
            clear hcn hct hcf HC hRx
            go_wp2_with fail
            refine HT.out.mono ?_
            clear HT
            rintro e wt2 ⟨rfl, hRt, hCt⟩
            have hC2 := hC.same hCt
            have HF := Lib.hid (rFlag_any ad (fun k => gx ≤ k) gx _ _ wt2 hRt (hE8.chg hGx hC2) hGx2 rdSub)
            clear hRt hEr hC
            go_wp2_with fail
            refine HF.out.mono ?_
            clear HF
            rintro e w9 ⟨rfl, hRx, hCf⟩
            rw [HCF.out] at hRx
            have hC9 := hC2.same hCf
            clear hCt hC2 hCf HCF
            have hs8 := hBx.size
            have hs9 := hC9.size
            have hB9 : Below w.heap.size w w9 := hBx.trans (hC9.below _ (by omega) (fun k hk e => by omega))
            have hRr9 := hRr.other hC9 (fun k hk hlt => by omega) (by omega)
            -- the reader of a number out of its bounds
            have hp := put_any none 0 [] (some ⟨w9.heap.size, 0, none⟩) 1 [(l0.length : Int)] _ (C_nil _ _ _) (C_ints .i64 2 [(l0.length : Int)] (by simp)) (by simp; omega) (by have := enc_one_len (l0.length : Int) (by omega) (by omega); simp; omega)
            rw [List.nil_append] at hp
            have HP := Lib.hid hp
            clear hp hRr hBx hs8
            go_wp2_with fail
            refine HP.out.mono ?_
            clear HP
            rintro e w10 ⟨Ay, cy, rfl, hoy, hb10⟩
            have hb10' : Below w9.heap.size w9 w10 := ((Below.refl _ _).alloc (Nat.le_refl _) _).trans (hb10.mono (by simp))
            have hB10 := below_then hB9 hB9.size hb10'
            have hRr10 := hRr9.below hb10'
            have hRx10 := hRx.below hb10'
            have hln := enc_one_len (l0.length : Int) (by omega) (by omega)
            have HRY := Lib.hid (read_any ad Ay cy (enc [(l0.length : Int)]) w10 (C_own hoy) (enc_bytes _) (by omega))
            clear hoy hb10 hb10' hRr9 hRx hB9
            go_wp2_with fail
            refine HRY.out.mono ?_
            clear HRY
            rintro e w11 ⟨gy, rfl, hgy2, hgy3, hb11, hRd⟩
            have hRy := hRd (· = gy) rfl (fun k hk => .inr (by omega))
            have hB11 := below_then hB10 hB10.size hb11
            have hRr11 := hRr10.below hb11
            have hRx11 := hRx10.below hb11
            have hE11 := hE.below hB11
            have hs10 := hB10.size
            have hgxx : gx < w10.heap.size := by obtain ⟨_, _, h⟩ := hRx10.cells; exact h
            have hggg : g < w10.heap.size := by obtain ⟨_, _, h⟩ := hRr10.cells; exact h
            have hGy : NoG allE ad (· = gy) := hE.noG _ (fun k hk => by omega)
            have hyi := rdInt_enc (l0.length : Int) [] ((l0.length : Int) + 1) 100 (by omega) (by omega)
            rw [if_pos (by omega), List.append_nil] at hyi
            have Hy := rInt_any ad (· = gy) gy _ none ((l0.length : Int) + 1) 100 w11 hRy hE11 hGy rdSub
            rw [hyi] at Hy
            dsimp only at Hy
            have HY := Lib.hid Hy
            clear hRd hb11 hB10 hRr10 hRx10 Hy hyi hRy
            go_wp2_with fail
            refine HY.out.mono ?_
            clear HY
            rintro e w12 ⟨rfl, hRy, hCy⟩
            have hB12 : Below w.heap.size w w12 := hB11.trans (hCy.below _ hB11.size (fun k hk e => by omega))
            have hRx12 := hRx11.other hCy (fun k hk hlt => by omega) (by omega)
            have hRr12 := hRr11.other hCy (fun k hk hlt => by omega) (by omega)
            have hE12 := hE.below hB12
            clear hRx11 hRr11 hE11 hCy hB11
            have He := rErr_any ad _ g _ none w12 hRr12
            simp only [errV] at He
            have HE2 := Lib.hid He
            clear He
            go_wp2_with fail
            refine HE2.out.mono ?_
            clear HE2
            rintro e wq ⟨rfl, rfl⟩
            have hfin : ∀ (d3 : Option Nat), rdDone l3 none = d3 → Hid (Calls Tryd.prog 18 #[.pointer (some ⟨g, 0, none⟩)] w12 fun e w' => e = .returned (errV ad d3) ∧ w12 = w') := fun d3 h => h ▸ rDone_any ad _ g l3 none w12 hRr12 hE12 rdSub
            have Hx := rErr_any ad _ gx _ _ w12 hRx12
            have Hx2 := Lib.hid (see_is_any ad (some 101) 101 w12 hE12 hI (fun c hc => by injection hc with hc; subst hc; decide))
            have hHy : ∀ w', Below w12.heap.size w12 w' → Hid (Calls Tryd.prog 16 #[.pointer (some ⟨gy, 0, none⟩)] w' fun e w2 => e = .returned (errV ad (some 107)) ∧ w' = w2) := fun w' hb => rErr_any ad _ gy _ _ w' (hRy.below hb)
            have hHy2 : ∀ w', Below w12.heap.size w12 w' → Hid (Calls Tryd.prog 15 #[errV ad (some 107), .int .i64 107] w' fun e w2 => e = .returned (.bool (decide (codeOf (some 107) = 107))) ∧ Below w'.heap.size w' w2) := fun w' hb => see_is_any ad (some 107) 107 w' (hE12.below hb) hI (fun c hc => by injection hc with hc; subst hc; decide)
            have HX1 := Lib.hid Hx
            have HFIN := Lib.hid hfin
            have HHY := Lib.hid hHy
            have HHY2 := Lib.hid hHy2
            clear Hx hfin hHy hHy2 hE12 hRr12 hRx12 hRy
            by_cases h3 : 0 < l3.length
            · have HD := HFIN.out (some 102) (by simp [rdDone, h3])
              have hb3 : ((l3.length : Int) == 0) = false := beq_eq_false_iff_ne.mpr (by omega)
              simp only [errV] at HD HX1 Hx2 HHY HHY2
              clear HFIN
              go_wp2_with fail
              refine HD.out.mono ?_
              clear HD
              rintro e wq ⟨rfl, rfl⟩
              go_wp2_with fail
              refine HX1.out.mono ?_
              clear HX1
              rintro e wq ⟨rfl, rfl⟩
              go_wp2_with fail
              refine Hx2.out.mono ?_
              clear Hx2
              rintro e w13 ⟨rfl, hb13⟩
              go_wp2_with fail
              refine (HHY.out w13 hb13).out.mono ?_
              rintro e wq ⟨rfl, rfl⟩
              go_wp2_with fail
              refine (HHY2.out w13 hb13).out.mono ?_
              rintro e w14 ⟨rfl, hb14⟩
              have hB13 := below_then hB12 hB12.size hb13
              have hB14 := below_then hB13 hB13.size hb14
              clear HHY HHY2 hb13 hb14
              go_wp2
              go_ret
              exact ⟨rfl, hB14⟩
            · have HD := HFIN.out none (by simp only [rdDone, if_neg h3])
              have hb3 : ((l3.length : Int) == 0) = true := beq_iff_eq.mpr (by omega)
              simp only [errV] at HD HX1 Hx2 HHY HHY2
              clear HFIN
              go_wp2_with fail
              refine HD.out.mono ?_
              clear HD
              rintro e wq ⟨rfl, rfl⟩
              go_wp2_with fail
              refine HX1.out.mono ?_
              clear HX1
              rintro e wq ⟨rfl, rfl⟩
              go_wp2_with fail
              refine Hx2.out.mono ?_
              clear Hx2
              rintro e w13 ⟨rfl, hb13⟩
              go_wp2_with fail
              refine (HHY.out w13 hb13).out.mono ?_
              rintro e wq ⟨rfl, rfl⟩
              go_wp2_with fail
              refine (HHY2.out w13 hb13).out.mono ?_
              rintro e w14 ⟨rfl, hb14⟩
              have hB13 := below_then hB12 hB12.size hb13
              have hB14 := below_then hB13 hB13.size hb14
              clear HHY HHY2 hb13 hb14
              go_wp2
              go_ret
              exact ⟨rfl, hB14⟩
  · go_ret; exact ⟨rfl, hB1⟩
  · go_ret; exact ⟨rfl, hB1⟩

end Go.Proofs.YtnjbflbalpedoaaDoor
