/- The walk of the statement FrameRows: for every bodies, cuts and noise it returns true, and memory that was there stays. -/
import Derived.Test.YtdlacjbicjhfgaaDoorLaw3
import Derived.Test.YtdlacjbicjhfgaaDoorFrRows
import Derived.Test.YtdlacjbicjhfgaaDoorWorld
import Derived.Test.YtdlacjbicjhfgaaDoorFrameSpoilt
namespace Go.Proofs.YtdlacjbicjhfgaaDoor
open Go.RowKit Go.Proofs.YtdlacjbicjhfgaaDoorW.PrintWords

set_option maxHeartbeats 4800000 in
set_option maxRecDepth 100000 in
theorem frameRows_walk (ad : Nat → Addr) (a0 : Option Addr) (cap0 : Nat) (l0 : List (List Int)) (a1 : Option Addr) (cap1 : Nat) (l1 : List Int) (ns : Int) (w : World) (hE : EOk [101, 102, 103, 105] ad w) (hI : EInj [101, 102, 103, 105] ad)
    (hC0 : Kd.C (Kd.slice 5 (Kd.int .u8)) w a0 l0.length l0) (hw0 : ∀ xs ∈ l0, ∀ x ∈ xs, (Lit.int .u8 x).wf = true) (_ : l0.length ≤ cap0) (_ : a0 = none → cap0 = 0)
    (hd0 : ∀ (j : Nat) (a : Addr) (B : Option Addr) (n d : Nat), a0 = some a → j < l0.length → w.cell? (a.add j) = some (Value.slice B n d) → B = none → d = 0)
    (hC1 : Kd.C (Kd.int .i64) w a1 l1.length l1) (hw1 : ∀ x ∈ l1, (Lit.int .i64 x).wf = true) (_ : l1.length * 8 ≤ 140737488351232) (_ : l1.length ≤ cap1) (_ : a1 = none → cap1 = 0) (hno : (Lit.int .i64 ns).wf = true) :
    Calls Tryd.prog 5 #[.slice a0 l0.length cap0, .slice a1 l1.length cap1, .int .i64 ns] w fun e w' => e = .returned (.bool true) ∧ Below w.heap.size w w' := by
  rename_i z1 z2 z3 z4 z5
  clear z1 z2 z3 z4 z5
  have HB0 := Lib.hid (fun xs hx n hn => wf_byte (hw0 xs hx n hn))
  have HB1 := Lib.hid (fun n hn => wf_range (hw1 n hn))
  obtain ⟨hn0, hn1⟩ := wf_range hno
  have HE := Lib.hid hE
  have HD0 := Lib.hid hd0
  clear hw0 hw1 hno hE hd0
  by_cases hg : ¬ (l0.length ≤ 8 ∧ l1.length ≤ 30)
  · go_enter Tryd.func5, Tryd.ntmps5
    go_wp2_with fail
    with_reducible refine (first3_any ad _ HE.out (by decide)).mono ?_
    rintro e w1 ⟨rfl, hB1⟩
    by_cases hg0 : l0.length ≤ 8
    · have b0 : decide ((8 : Int) < (l0.length : Int)) = false := decide_eq_false (by omega)
      have b1 : decide ((30 : Int) < (l1.length : Int)) = true := decide_eq_true (by omega)
      go_wp2
      go_ret
      exact ⟨rfl, hB1⟩
    · have b0 : decide ((8 : Int) < (l0.length : Int)) = true := decide_eq_true (by omega)
      go_wp2
      go_ret
      exact ⟨rfl, hB1⟩
  have g0 : l0.length ≤ 8 := by omega
  have g1 : l1.length ≤ 30 := by omega
  clear hg
  have b0 : decide ((8 : Int) < (l0.length : Int)) = false := decide_eq_false (by omega)
  have b1 : decide ((30 : Int) < (l1.length : Int)) = false := decide_eq_false (by omega)
  go_enter Tryd.func5, Tryd.ntmps5
  go_wp2_with fail
  with_reducible refine (first3_any ad _ HE.out (by decide)).mono ?_
  rintro e w1 ⟨rfl, hB1⟩
  have hs1 := hB1.size
  have hr := numberW_range ns 20 (by omega)
  have HNU := Lib.hid (fun W => number_any ns 20 W (by omega) (by omega) hn0 hn1)
  generalize numberW ns 20 = m at *
  obtain ⟨m, rfl⟩ := Int.eq_ofNat_of_zero_le hr.1
  have hm : m < 20 := by omega
  clear hr
  go_wp2_with fail
  go_loopw [8, 9] (fun va vi wr => ∃ (j : Nat) (A : Option Addr) (c : Nat), j ≤ m ∧ vi = .int .i64 j ∧ va = .slice A j c ∧ wr.ownsRow 0 5 1 (.slice A j c) j (nums .u8 (noisy j)) ∧ (∀ q, (Value.slice A j c).ownBlock = some q → w1.heap.size ≤ q) ∧ Below w1.heap.size w1 wr) (fun _ vi _ => m - (intOf vi).toNat)
  case atStart => exact ⟨0, none, 0, Nat.zero_le _, rfl, rfl, World.ownsRow_nil _ _ _ _, (fun q hq => by cases hq), Below.refl _ _⟩
  case round =>
    obtain ⟨j, A, c, hj, rfl, rfl, ho, hge, hB⟩ := hrel
    have HGE := Lib.hid hge
    clear hge
    by_cases hlt : j < m
    · have hltb : decide ((j : Int) < (m : Int)) = true := decide_eq_true (by omega)
      have hnl : (noisy j).length = j := by simp [noisy]
      go_wp2_with fail
      with_reducible refine (HNU.out _).mono ?_
      rintro e w2 ⟨rfl, rfl⟩
      go_wp2_with (at_builtin; refine app_one rfl _ _ 22 5 (.int .u8 0) 1 rfl Tryd.underlying22 infoC rfl (by decide) _ (nums .u8 (noisy j)) _ rfl rfl rfl ?ho ?hl ?_)
      case ho => rw [nums_length, hnl]; exact ho
      case hl => rw [nums_length, hnl]; omega
      rw [nums_length, hnl]
      intro A2 c2 w2 ho1 hGr
      have HO1 : Hid (w2.ownsRow 0 5 1 (.slice A2 (j + 1) c2) (j + 1) (nums .u8 (noisy (j + 1)))) := by show World.ownsRow _ _ _ _ _ _ _; rw [noisy_succ, nums_append]; exact ho1
      clear ho1 hnl
      go_wp2
      go_roundw
      case rel =>
        have hs := hB.size
        refine ⟨j + 1, A2, c2, by omega, by go_num, rfl, HO1.out, ?_, hB.trans (hGr.below _ hs HGE.out)⟩
        intro b hb
        rcases hGr.at_ with e | ⟨b', e, hb'⟩
        · exact HGE.out b (by rw [← e]; exact hb)
        · have hb2 : (Value.slice A2 (j + 1) c2).ownBlock = some b := hb
          rw [e] at hb2
          injection hb2 with hb2
          omega
      case measure => simp [intOf]; omega
    · obtain rfl : j = m := by omega
      have hltb : decide ((j : Int) < (j : Int)) = false := decide_eq_false (by omega)
      go_wp2_with fail
      with_reducible refine (HNU.out _).mono ?_
      rintro e w2 ⟨rfl, rfl⟩
      have hnl : (noisy j).length = j := by simp [noisy]
      obtain ⟨X, hX⟩ : ∃ X, X = noisy j := ⟨_, rfl⟩
      rw [← hX] at ho hnl
      have HX := Lib.hid hX
      have HNL := Lib.hid hnl
      have HO := Lib.hid ho
      have HB := Lib.hid hB
      have hszr := hB.size
      clear hX ho hB hnl
      go_wp2_with fail
      obtain ⟨wo, rfl⟩ : ∃ wo : World, wo = wr := ⟨_, rfl⟩
      go_loopw [8, 10] (fun va vi wr => ∃ (t n : Nat) (A : Option Addr) (c : Nat) (X : List Int), t ≤ l0.length ∧ vi = .int .i64 t ∧ va = .slice A n c ∧ Hid (n = X.length) ∧ n ≤ 20 + 50 * t ∧ Hid (X = noisy j ++ framesTo l0 t) ∧ Hid (∀ i, i < t → (l0.getD i []).length ≤ 40) ∧ Hid (wr.ownsRow 0 5 1 (.slice A n c) n (nums .u8 X)) ∧ Hid (∀ q, (Value.slice A n c).ownBlock = some q → w1.heap.size ≤ q) ∧ Below w1.heap.size w1 wr) (fun _ vi _ => l0.length - (intOf vi).toNat)
      case atStart => exact ⟨0, j, A, c, X, Nat.zero_le _, rfl, rfl, HNL.out.symm, by omega, by show _ = _; rw [HX.out]; simp [framesTo], fun i hi => by omega, HO.out, HGE.out, HB.out⟩
      case round =>
        clear HO HGE HB HX HNL
        obtain ⟨t, n, A, c, X, ht, rfl, rfl, HN, hnb, HX, HL, HO, HGE, hB⟩ := hrel
        have hszr2 := hB.size
        have hBr := below_then hB1 hs1 hB
        by_cases hlt : t < l0.length
        · obtain ⟨a, B, d, rfl, hcell0, hld, hCB⟩ := CC_nat hC0 hlt
          have hcell := pw_cell_below hBr hcell0
          have hdd := HD0.out t a B _ d rfl hlt hcell0
          have HBY := Lib.hid (HB0.out (l0.getD t []) (by rw [List.getD_eq_getElem?_getD, List.getElem?_eq_getElem hlt]; exact List.getElem_mem hlt))
          have HLT : Hid ((l0.getD t []).length ≤ 40 → ∀ i, i < t + 1 → (l0.getD i []).length ≤ 40) := fun h i hi => by
            rcases Nat.lt_or_ge i t with h1 | h1
            · exact HL.out i h1
            · obtain rfl : i = t := by omega
              exact h
          have HFT : Hid (framesTo l0 (t + 1) = framesTo l0 t ++ frameB (t : Int) (l0.getD t [])) := rfl
          have hltI : (t : Int) < (l0.length : Int) := by omega
          generalize l0.getD t [] = body at *
          have HDD := Lib.hid hdd
          clear hcell0 hdd
          by_cases h40 : body.length ≤ 40
          · have h40b : decide ((40 : Int) < (body.length : Int)) = false := decide_eq_false (by omega)
            have w8 : IntKind.wrap .u8 (t : Int) = (t : Int) := by simp [IntKind.wrap, IntKind.bits, IntKind.signed]; omega
            have hfp := fput_any ad (t : Int) B d body wr (HE.out.below hBr) (by decide) (by omega) (Kd.C_below hCB hBr) hld HDD.out HBY.out (by omega)
            have hfl := frameB_len (t : Int) body
            have hflb : (frameB (t : Int) body).length ≤ 50 := by omega
            generalize frameB (t : Int) body = f at *
            have HFP := Lib.hid hfp
            clear hfp hfl
            go_wp2_with fail
            with_reducible refine HFP.out.mono ?_
            rintro e w4 (⟨_, A4, c4, rfl, ho4, hb4⟩ | ⟨h, _⟩)
            rotate_left
            · omega
            rename_i zz
            clear zz HFP
            have hB4 := below_then hB hszr2 hb4
            have ho5 := own_below HO.out hb4
            have hnd4 := own_nd ho4
            have hC4 := C_own ho4
            have HND4 := Lib.hid hnd4
            clear hnd4 ho4
            go_wp2_with (at_builtin; refine app_sl rfl _ _ 22 5 .u8 (.int .u8 0) 1 rfl Tryd.underlying22 infoC rfl (by decide) _ n _ A4 c4 f rfl rfl HND4.out ho5 hC4 (by omega) ?_)
            rw [← nums_append]
            intro A6 c6 w6 ho6 hG
            have HO6 := Lib.hid ho6
            clear ho6 ho5 hC4
            go_wp2
            go_roundw
            case rel =>
              refine ⟨t + 1, n + f.length, A6, c6, X ++ f, by omega, by go_num, rfl, by show _ = _; rw [List.length_append, ← HN.out], by omega, by show _ = _; rw [HFT.out, HX.out, List.append_assoc], HLT.out h40, HO6.out, ?_, hB4.trans (hG.below _ hB4.size HGE.out)⟩
              intro b hb
              rcases hG.at_ with e | ⟨b', e, hb'⟩
              · exact HGE.out b (by rw [← e]; exact hb)
              · have hb2 : (Value.slice A6 (n + f.length) c6).ownBlock = some b := hb
                rw [e] at hb2
                injection hb2 with hb2
                have := hB4.size
                omega
            case measure => simp [intOf]; omega
          · have h40b : decide ((40 : Int) < (body.length : Int)) = true := decide_eq_true (by omega)
            go_wp2
            go_ret
            exact ⟨rfl, hBr⟩
        · obtain rfl : t = l0.length := by omega
          obtain rfl := HN.out
          have hX := HX.out
          rw [framesTo_all] at hX
          have HX2 := Lib.hid hX
          have HX0 : Hid (X = [] → 0 = l0.length) := fun h0 => by
            rw [h0] at hX
            have h1 := congrArg List.length hX
            cases l0 with
            | nil => rfl
            | cons x bs => simp [rowsF, frameB_len] at h1; omega
          have HXB : Hid (∀ x ∈ X, 0 ≤ x ∧ x < 256) := by
            show ∀ x ∈ X, 0 ≤ x ∧ x < 256
            rw [hX]
            intro x hx
            rcases List.mem_append.1 hx with h | h
            · have := List.eq_of_mem_replicate h; omega
            · exact rowsF_bytes l0 HB0.out 0 (by omega) x h
          clear hX HX
          go_wp2_with fail
          have hb2 : Below wr.heap.size wr (wr.alloc (.cells #[.slice none 0 0] 39)) := (Below.refl _ _).alloc (Nat.le_refl _) _
          have hSt2 := StAt.fresh (w := wr)
          have hB2 := below_then hBr hBr.size hb2
          have HO2 := Lib.hid (OwnAt.of_own (own_below HO.out hb2))
          have HNE : Hid (∀ k, (Value.slice A X.length c).ownBlock = some k → k ≠ wr.heap.size) := fun k hk => by have := own_lt HO.out k hk; omega
          have hsg := hBr.size
          generalize hgg : wr.heap.size = g at *
          have hs2 : g < (wr.alloc (.cells #[.slice none 0 0] 39)).heap.size := by simp; omega
          generalize wr.alloc (.cells #[.slice none 0 0] 39) = w2 at *
          have HST := Lib.hid hSt2
          obtain ⟨i0, hi', hz0, hz1, hz2⟩ := info_parts infoC
          clear hgg hb2 hSt2 hBr hB HO HGE hszr2
          go_loopw [8, 14, 15] (fun va vq vi wr => ∃ (i q : Nat) (A : Option Addr) (c : Nat) (R b : List Int) (S' : Nat → Prop) (mm : Nat), i ≤ l1.length + 1 ∧ q ≤ l0.length ∧ vi = .int .i64 i ∧ vq = .int .i64 q ∧ va = .slice A R.length c ∧ Hid (OwnAt w2 5 (.slice A R.length c) .u8 R) ∧ Hid (∀ k, (Value.slice A R.length c).ownBlock = some k → k ≠ g) ∧ Hid (∀ x ∈ R, 0 ≤ x ∧ x < 256) ∧
            StAt wr S' g b ∧ Chg (· = g) w2 wr ∧ Hid (b ++ R = noisy mm ++ rowsF q (l0.drop q)) ∧ Hid (R = [] → q = l0.length ∧ b = []) ∧ b.length + R.length ≤ 1000 ∧ Hid (∀ k, S' k → k = g ∨ w2.heap.size ≤ k) ∧ Hid (R ≠ [] → i ≤ l1.length)) (fun _ _ vi _ => l1.length + 1 - (intOf vi).toNat)
          case atStart => exact ⟨0, 0, A, c, X, [], (· = g), j, by omega, Nat.zero_le _, rfl, rfl, rfl, HO2.out, HNE.out, HXB.out, HST.out, Chg.refl _ _, HX2.out, (fun h0 => ⟨HX0.out h0, rfl⟩), by simp; omega, fun k hk => .inl hk, fun _ => Nat.zero_le _⟩
          case round =>
            clear HST HO2 HNE HXB HX2 HX0
            obtain ⟨i, q, A, c, R, b, S', mm, hi, hq, rfl, rfl, rfl, HO, HNE, HRB, hSt, hC, HBR, HRE, hbl, HS', HIL⟩ := hrel
            have hszr := hC.size
            have hBr : Below w.heap.size w wr := hB2.trans (hC.below _ (by omega) (fun k hk e => by omega))
            rcases Nat.eq_zero_or_pos R.length with hR0 | hRp
            · obtain rfl := List.eq_nil_of_length_eq_zero hR0
              obtain ⟨rfl, rfl⟩ := HRE.out rfl
              have hsl := sleft_any S' g [] wr hSt
              simp only [List.length_nil] at hsl
              have HSL2 := Lib.hid hsl
              clear hsl hSt
              go_wp2_with fail
              with_reducible refine HSL2.out.mono ?_
              rintro e w5 ⟨rfl, rfl⟩
              go_wp2
              go_ret
              exact ⟨rfl, hBr⟩
            · have hRI : (0 : Int) < (R.length : Int) := by omega
              have hil : i ≤ l1.length := HIL.out (fun h => by rw [h] at hRp; simp at hRp)
              have hOr : OwnAt wr 5 (.slice A R.length c) .u8 R := HO.out.move (fun k hk => hC.block k (HO.out.lt k hk) (HNE.out k hk))
              obtain ⟨_, hCR, hcR, hnd⟩ := hOr.C
              have HND := Lib.hid hnd
              have hS' := HS'.out
              clear hOr hnd
              by_cases hic : i < l1.length
              · have hiI : (i : Int) < (l1.length : Int) := by omega
                obtain ⟨ac, hae, hcellc⟩ := C_nat (Kd.C_below hC1 hBr) hic
                subst hae
                have hyr := HB1.out (l1.getD i 0) (by rw [List.getD_eq_getElem?_getD, List.getElem?_eq_getElem hic]; exact List.getElem_mem hic)
                generalize l1.getD i 0 = y at *
                have hmp : (0 : Int) < (R.length : Int) + 1 := by omega
                have hkr := numberW_range y ((R.length : Int) + 1) hmp
                have HNK := Lib.hid (number_any y ((R.length : Int) + 1) wr hmp (by omega) hyr.1 hyr.2)
                generalize numberW y ((R.length : Int) + 1) = kk at *
                obtain ⟨kk, rfl⟩ := Int.eq_ofNat_of_zero_le hkr.1
                have hkk : kk ≤ R.length := by omega
                clear hkr hyr
                go_wp2_with fail
                with_reducible refine HNK.out.mono ?_
                rintro e w3 ⟨rfl, rfl⟩
                clear HNK
                have hEr := HE.out.below hBr
                obtain ⟨p1, p2, p3⟩ := print_take_of (P := Tryd.prog) (Value.int .u8) 0 22 5 .i64 Tryd.underlying22 hi' hz1 A c R ((kk : Nat) : Int) (by omega) (by omega) hcR
                rw [Int.toNat_natCast] at p1 p2 p3
                have cp := Kd.C_of_reads (d := 0) (h1 := fun _ => rfl) (p2 wr (Kd.reads_of_C hCR))
                obtain ⟨A', c', q1, hO2, q3⟩ := HO.out.cut (P := Tryd.prog) Tryd.underlying22 hi' hz1 kk (by omega) .i64
                have hfd := feed_any S' g b A c (R.take kk) wr hSt cp HND.out (take_bytes HRB.out kk) (by simp; omega)
                have HB2 : Hid ((b ++ R.take kk) ++ R.drop kk = noisy mm ++ rowsF q (l0.drop q)) := by show _ = _; rw [List.append_assoc, List.take_append_drop]; exact HBR.out
                have hbl : (b ++ R.take kk).length + (R.drop kk).length ≤ 1000 := by rw [← List.length_append, List.append_assoc, List.take_append_drop, List.length_append]; omega
                have HRB2 := Lib.hid (drop_bytes HRB.out kk)
                have HO2 := Lib.hid hO2
                have HNE2 : Hid (∀ k, (Value.slice A' (R.drop kk).length c').ownBlock = some k → k ≠ g) := fun k hk => HNE.out k (q3 k hk)
                have HLAST : Hid (R.drop kk = [] ∨ i < l1.length) := .inr hic
                generalize R.take kk = T at *
                generalize R.drop kk = R2 at *
                generalize b ++ T = b2 at *
                have HFD := Lib.hid hfd
                clear hfd p2 q3 hO2 cp hSt hCR
                go_wp2_with fail
                with_reducible refine HFD.out.mono ?_
                rintro e w4 ⟨rfl, S4, hSt4, hC4, hS4⟩
                clear HFD
                have hC5 : Chg (· = g) w2 w4 := hC.next hC4 (fun k hk hlt => (hS' k hk).resolve_right (by omega))
                have HST4 := Lib.hid hSt4
                have HS4 : Hid (∀ k, S4 k → k = g ∨ w2.heap.size ≤ k) := fun k hk => (hS4 k hk).elim (hS' k) (fun h => .inr (by omega))
                clear hSt4 hC4 hS4 hS'
                go_wp2_with fail
                obtain ⟨wo, rfl⟩ : ∃ wo : World, wo = wr := ⟨_, rfl⟩
                go_loopw [14] (fun vq wr => ∃ (q : Nat) (b3 : List Int) (S5 : Nat → Prop) (m3 : Nat), q ≤ l0.length ∧ vq = .int .i64 q ∧ StAt wr S5 g b3 ∧ Chg (· = g) w2 wr ∧ Hid (b3 ++ R2 = noisy m3 ++ rowsF q (l0.drop q)) ∧ b3.length + R2.length ≤ 1000 ∧ Hid (∀ k, S5 k → k = g ∨ w2.heap.size ≤ k)) (fun vq _ => l0.length - (intOf vq).toNat)
                case atStart => exact ⟨q, b2, S4, mm, hq, rfl, HST4.out, hC5, HB2.out, hbl, HS4.out⟩
                case round =>
                  clear HST4 HS4 HB2 hbl hC5 hC hBr hEr
                  obtain ⟨q, b3, S5, m3, hq, rfl, hSt5, hC, HB3, hbl, HS5⟩ := hrel
                  have hszr := hC.size
                  have hBr : Below w.heap.size w wr := hB2.trans (hC.below _ (by omega) (fun k hk e => by omega))
                  have hEr := HE.out.below hBr
                  have hNG5 : NoG [101, 102, 103, 105] ad S5 := HE.out.noG _ (fun k hk => by have := HS5.out k hk; omega)
                  have HNXT := Lib.hid (snext_any ad S5 g b3 wr hSt5 hEr hI hNG5 (by decide) (by decide) (by decide) (by omega))
                  have hrn := rows_next b3 R2 m3 q (l0.drop q) HB3.out (fun x hx => by
                    obtain ⟨ii, hii, he⟩ := List.getElem_of_mem (List.mem_of_mem_drop hx)
                    have := HL.out ii hii
                    simp [List.getD, List.getElem?_eq_getElem hii, he] at this
                    omega)
                  have hn2 := next_len b3
                  generalize hNN : nextF b3.length b3 = NN at *
                  obtain ⟨o, b4⟩ := NN
                  have HNN := Lib.hid hNN
                  have HRN := Lib.hid hrn
                  clear hNN hrn hSt5 hNG5 hEr
                  go_wp2_with fail
                  with_reducible refine HNXT.out.mono ?_
                  intro e w6 hpost
                  unfold NextPost at hpost
                  rw [HNN.out] at hpost
                  obtain ⟨A6, c6, S6, he, hcc, hSt6, hC6, hS6⟩ := hpost
                  subst he
                  clear HNXT
                  have hC7 : Chg (· = g) w2 w6 := hC.next hC6 (fun k hk hlt => (HS5.out k hk).resolve_right (by omega))
                  have HS7 : Hid (∀ k, S6 k → k = g ∨ w2.heap.size ≤ k) := fun k hk => (hS6 k hk).elim (HS5.out k) (fun h => .inr (by omega))
                  have hsz6 := hC7.size
                  have hB6 : Below w.heap.size w w6 := hB2.trans (hC7.below _ (by omega) (fun k hk e => by omega))
                  have hn3 : b4.length ≤ b3.length := hn2
                  rcases HRN.out with ⟨h1, ⟨m4, h2⟩, h3⟩ | ⟨x, bs, h1, h2, h3⟩
                  · try simp only at h1 h2 h3
                    subst h1
                    have HM4 := Lib.hid h2
                    have HL4 : Hid (R2 = [] → q = l0.length ∧ b4 = []) := fun h0 => ⟨by have h5 := (h3 h0).1; have h6 := congrArg List.length h5; simp at h6; omega, (h3 h0).2⟩
                    simp only [nextV]
                    clear h2 h3 HRN
                    go_wp2
                    go_roundw
                    case rel => exact ⟨i + 1, q, A', c', R2, b4, S6, m4, by omega, hq, by go_num, rfl, rfl, HO2.out, HNE2.out, HRB2.out, hSt6, hC7, HM4.out, HL4.out, by omega, HS7.out, fun h => by rcases HLAST.out with h7 | h7; (· exact absurd h7 h); (· omega)⟩
                    case measure => simp [intOf]; omega
                  · try simp only at h2 h3
                    subst h2
                    have hqN : q < l0.length := by
                      have h5 := congrArg List.length h1
                      simp at h5
                      omega
                    have hxq : x = l0.getD q [] := by
                      rw [List.drop_eq_getElem_cons hqN] at h1
                      injection h1 with h1 h1'
                      simp [List.getD, List.getElem?_eq_getElem hqN, h1]
                    have hbs : bs = l0.drop (q + 1) := by
                      rw [List.drop_eq_getElem_cons hqN] at h1
                      injection h1 with h1 h1'
                      exact h1'.symm
                    subst hbs
                    obtain ⟨aa, BB, dd, hae, hcell0, hld, hCB⟩ := CC_nat hC0 hqN
                    rw [← hxq] at hcell0 hld hCB
                    have hcell := pw_cell_below hB6 hcell0
                    have hsm := same_any A6 BB c6 dd x x w6 hcc (Kd.C_below hCB hB6)
                    rw [decide_eq_true rfl] at hsm
                    have HSM := Lib.hid hsm
                    have HH3 := Lib.hid h3
                    have hqI : ¬ ((l0.length : Int) ≤ (q : Int)) := by omega
                    have hqI2 : (q : Int) < (l0.length : Int) := by omega
                    have hqb : decide ((l0.length : Int) ≤ (q : Int)) = false := decide_eq_false (by omega)
                    have w8 : IntKind.wrap .u8 (q : Int) = (q : Int) := by simp [IntKind.wrap, IntKind.bits, IntKind.signed]; omega
                    have HST6 := Lib.hid hSt6
                    have HXQ := Lib.hid hxq
                    clear h1 h3 HRN hsm hcell0 hCB hSt6 hcc hxq
                    subst hae
                    simp only [nextV]
                    go_wp2_with fail
                    with_reducible refine HSM.out.mono ?_
                    rintro e w7 ⟨rfl, hD7⟩
                    obtain ⟨⟨nd, rfl⟩⟩ := hD7
                    go_wp2
                    go_roundw
                    case rel => exact ⟨q + 1, b4, S6, 0, by omega, by go_num, HST6.out.below (below_drewN (Below.refl _ _) nd), hC7.drewN nd, HH3.out, by omega, HS7.out⟩
                    case measure => simp [intOf]; omega
              · have hiI : ¬ (i : Int) < (l1.length : Int) := by omega
                have hib : decide ((i : Int) < (l1.length : Int)) = false := decide_eq_false (by omega)
                have hkk : R.length ≤ R.length := Nat.le_refl _
                have hEr := HE.out.below hBr
                obtain ⟨p1, p2, p3⟩ := print_take_of (P := Tryd.prog) (Value.int .u8) 0 22 5 .i64 Tryd.underlying22 hi' hz1 A c R ((R.length : Nat) : Int) (by omega) (by omega) hcR
                rw [Int.toNat_natCast] at p1 p2 p3
                have cp := Kd.C_of_reads (d := 0) (h1 := fun _ => rfl) (p2 wr (Kd.reads_of_C hCR))
                obtain ⟨A', c', q1, hO2, q3⟩ := HO.out.cut (P := Tryd.prog) Tryd.underlying22 hi' hz1 R.length (by omega) .i64
                have hfd := feed_any S' g b A c (R.take R.length) wr hSt cp HND.out (take_bytes HRB.out R.length) (by simp; omega)
                have HB2 : Hid ((b ++ R.take R.length) ++ R.drop R.length = noisy mm ++ rowsF q (l0.drop q)) := by show _ = _; rw [List.append_assoc, List.take_append_drop]; exact HBR.out
                have hbl : (b ++ R.take R.length).length + (R.drop R.length).length ≤ 1000 := by rw [← List.length_append, List.append_assoc, List.take_append_drop, List.length_append]; omega
                have HRB2 := Lib.hid (drop_bytes HRB.out R.length)
                have HO2 := Lib.hid hO2
                have HNE2 : Hid (∀ k, (Value.slice A' (R.drop R.length).length c').ownBlock = some k → k ≠ g) := fun k hk => HNE.out k (q3 k hk)
                have HLAST : Hid (R.drop R.length = [] ∨ i < l1.length) := .inl (List.drop_length)
                generalize R.take R.length = T at *
                generalize R.drop R.length = R2 at *
                generalize b ++ T = b2 at *
                have HFD := Lib.hid hfd
                clear hfd p2 q3 hO2 cp hSt hCR
                go_wp2_with fail
                with_reducible refine HFD.out.mono ?_
                rintro e w4 ⟨rfl, S4, hSt4, hC4, hS4⟩
                clear HFD
                have hC5 : Chg (· = g) w2 w4 := hC.next hC4 (fun k hk hlt => (hS' k hk).resolve_right (by omega))
                have HST4 := Lib.hid hSt4
                have HS4 : Hid (∀ k, S4 k → k = g ∨ w2.heap.size ≤ k) := fun k hk => (hS4 k hk).elim (hS' k) (fun h => .inr (by omega))
                clear hSt4 hC4 hS4 hS'
                go_wp2_with fail
                obtain ⟨wo, rfl⟩ : ∃ wo : World, wo = wr := ⟨_, rfl⟩
                go_loopw [14] (fun vq wr => ∃ (q : Nat) (b3 : List Int) (S5 : Nat → Prop) (m3 : Nat), q ≤ l0.length ∧ vq = .int .i64 q ∧ StAt wr S5 g b3 ∧ Chg (· = g) w2 wr ∧ Hid (b3 ++ R2 = noisy m3 ++ rowsF q (l0.drop q)) ∧ b3.length + R2.length ≤ 1000 ∧ Hid (∀ k, S5 k → k = g ∨ w2.heap.size ≤ k)) (fun vq _ => l0.length - (intOf vq).toNat)
                case atStart => exact ⟨q, b2, S4, mm, hq, rfl, HST4.out, hC5, HB2.out, hbl, HS4.out⟩
                case round =>
                  clear HST4 HS4 HB2 hbl hC5 hC hBr hEr
                  obtain ⟨q, b3, S5, m3, hq, rfl, hSt5, hC, HB3, hbl, HS5⟩ := hrel
                  have hszr := hC.size
                  have hBr : Below w.heap.size w wr := hB2.trans (hC.below _ (by omega) (fun k hk e => by omega))
                  have hEr := HE.out.below hBr
                  have hNG5 : NoG [101, 102, 103, 105] ad S5 := HE.out.noG _ (fun k hk => by have := HS5.out k hk; omega)
                  have HNXT := Lib.hid (snext_any ad S5 g b3 wr hSt5 hEr hI hNG5 (by decide) (by decide) (by decide) (by omega))
                  have hrn := rows_next b3 R2 m3 q (l0.drop q) HB3.out (fun x hx => by
                    obtain ⟨ii, hii, he⟩ := List.getElem_of_mem (List.mem_of_mem_drop hx)
                    have := HL.out ii hii
                    simp [List.getD, List.getElem?_eq_getElem hii, he] at this
                    omega)
                  have hn2 := next_len b3
                  generalize hNN : nextF b3.length b3 = NN at *
                  obtain ⟨o, b4⟩ := NN
                  have HNN := Lib.hid hNN
                  have HRN := Lib.hid hrn
                  clear hNN hrn hSt5 hNG5 hEr
                  go_wp2_with fail
                  with_reducible refine HNXT.out.mono ?_
                  intro e w6 hpost
                  unfold NextPost at hpost
                  rw [HNN.out] at hpost
                  obtain ⟨A6, c6, S6, he, hcc, hSt6, hC6, hS6⟩ := hpost
                  subst he
                  clear HNXT
                  have hC7 : Chg (· = g) w2 w6 := hC.next hC6 (fun k hk hlt => (HS5.out k hk).resolve_right (by omega))
                  have HS7 : Hid (∀ k, S6 k → k = g ∨ w2.heap.size ≤ k) := fun k hk => (hS6 k hk).elim (HS5.out k) (fun h => .inr (by omega))
                  have hsz6 := hC7.size
                  have hB6 : Below w.heap.size w w6 := hB2.trans (hC7.below _ (by omega) (fun k hk e => by omega))
                  have hn3 : b4.length ≤ b3.length := hn2
                  rcases HRN.out with ⟨h1, ⟨m4, h2⟩, h3⟩ | ⟨x, bs, h1, h2, h3⟩
                  · try simp only at h1 h2 h3
                    subst h1
                    have HM4 := Lib.hid h2
                    have HL4 : Hid (R2 = [] → q = l0.length ∧ b4 = []) := fun h0 => ⟨by have h5 := (h3 h0).1; have h6 := congrArg List.length h5; simp at h6; omega, (h3 h0).2⟩
                    simp only [nextV]
                    clear h2 h3 HRN
                    go_wp2
                    go_roundw
                    case rel => exact ⟨i + 1, q, A', c', R2, b4, S6, m4, by omega, hq, by go_num, rfl, rfl, HO2.out, HNE2.out, HRB2.out, hSt6, hC7, HM4.out, HL4.out, by omega, HS7.out, fun h => by rcases HLAST.out with h7 | h7; (· exact absurd h7 h); (· omega)⟩
                    case measure => simp [intOf]; omega
                  · try simp only at h2 h3
                    subst h2
                    have hqN : q < l0.length := by
                      have h5 := congrArg List.length h1
                      simp at h5
                      omega
                    have hxq : x = l0.getD q [] := by
                      rw [List.drop_eq_getElem_cons hqN] at h1
                      injection h1 with h1 h1'
                      simp [List.getD, List.getElem?_eq_getElem hqN, h1]
                    have hbs : bs = l0.drop (q + 1) := by
                      rw [List.drop_eq_getElem_cons hqN] at h1
                      injection h1 with h1 h1'
                      exact h1'.symm
                    subst hbs
                    obtain ⟨aa, BB, dd, hae, hcell0, hld, hCB⟩ := CC_nat hC0 hqN
                    rw [← hxq] at hcell0 hld hCB
                    have hcell := pw_cell_below hB6 hcell0
                    have hsm := same_any A6 BB c6 dd x x w6 hcc (Kd.C_below hCB hB6)
                    rw [decide_eq_true rfl] at hsm
                    have HSM := Lib.hid hsm
                    have HH3 := Lib.hid h3
                    have hqI : ¬ ((l0.length : Int) ≤ (q : Int)) := by omega
                    have hqI2 : (q : Int) < (l0.length : Int) := by omega
                    have hqb : decide ((l0.length : Int) ≤ (q : Int)) = false := decide_eq_false (by omega)
                    have w8 : IntKind.wrap .u8 (q : Int) = (q : Int) := by simp [IntKind.wrap, IntKind.bits, IntKind.signed]; omega
                    have HST6 := Lib.hid hSt6
                    have HXQ := Lib.hid hxq
                    clear h1 h3 HRN hsm hcell0 hCB hSt6 hcc hxq
                    subst hae
                    simp only [nextV]
                    go_wp2_with fail
                    with_reducible refine HSM.out.mono ?_
                    rintro e w7 ⟨rfl, hD7⟩
                    obtain ⟨⟨nd, rfl⟩⟩ := hD7
                    go_wp2
                    go_roundw
                    case rel => exact ⟨q + 1, b4, S6, 0, by omega, by go_num, HST6.out.below (below_drewN (Below.refl _ _) nd), hC7.drewN nd, HH3.out, by omega, HS7.out⟩
                    case measure => simp [intOf]; omega

end Go.Proofs.YtdlacjbicjhfgaaDoor
