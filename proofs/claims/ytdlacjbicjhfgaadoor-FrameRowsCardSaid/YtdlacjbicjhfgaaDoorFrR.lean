/- The contract of frame.Read: the frame that bytes begin with, or what is amiss; memory that was there stays. -/
import Derived.Test.YtdlacjbicjhfgaaDoorFrW
namespace Go.Proofs.YtdlacjbicjhfgaaDoor
open Go.RowKit Go.Proofs.YtdlacjbicjhfgaaDoorW.PrintWords

/-- what Read returns -/
def frV (ad : Nat → Addr) (A : Option Addr) (c : Nat) (r : Int × List Int × Nat × Option Nat) : Value := .tuple #[.int .u8 r.1, .slice A r.2.1.length c, .int .i64 (r.2.2.1 : Nat), errV ad r.2.2.2]

theorem take_bytes {b : List Int} (h : ∀ x ∈ b, 0 ≤ x ∧ x < 256) (k : Nat) : ∀ x ∈ b.take k, 0 ≤ x ∧ x < 256 := fun x hx => h x (List.mem_of_mem_take hx)
theorem drop_bytes {b : List Int} (h : ∀ x ∈ b, 0 ≤ x ∧ x < 256) (k : Nat) : ∀ x ∈ b.drop k, 0 ≤ x ∧ x < 256 := fun x hx => h x (List.mem_of_mem_drop hx)
theorem byte_at {b : List Int} (h : ∀ x ∈ b, 0 ≤ x ∧ x < 256) (k : Nat) : 0 ≤ b.getD k 0 ∧ b.getD k 0 < 256 := by
  by_cases hk : k < b.length
  · exact h _ (by rw [List.getD_eq_getElem?_getD, List.getElem?_eq_getElem hk]; exact List.getElem_mem hk)
  · have : b.getD k 0 = 0 := by simp [List.getD, List.getElem?_eq_none (show b.length ≤ k by omega)]
    omega

theorem i64_or_nat (a b : Nat) (ha : a < 4611686018427387904) (hb : b < 4611686018427387904) : bits .or .i64 (a : Int) (b : Int) = ((a ||| b : Nat) : Int) := by
  have hx : a ||| b < 2 ^ 62 := Nat.or_lt_two_pow (by omega) (by omega)
  show IntKind.i64.wrap ((BitVec.ofInt 64 (a : Int) ||| BitVec.ofInt 64 (b : Int)).toNat : Int) = _
  rw [BitVec.toNat_or, ofInt_u64 a (by omega), ofInt_u64 b (by omega)]
  exact IntWalk.i64_in _ (by omega)
theorem or256 (x y : Nat) (hx : x < 256) (hy : y < 4611686018427387) : bits .or .i64 (x : Int) ((y : Int) * 256) = ((x + 256 * y : Nat) : Int) := by
  have e : ((y : Int) * 256) = ((256 * y : Nat) : Int) := by omega
  rw [e, i64_or_nat x (256 * y) (by omega) (by omega)]
  have := Nat.two_pow_add_eq_or_of_lt (i := 8) (b := x) (by omega) y
  rw [show (2 : Nat) ^ 8 = 256 by rfl] at this
  rw [Nat.or_comm, ← this]
  omega

set_option maxHeartbeats 3200000 in
set_option maxRecDepth 100000 in
theorem freado_any {L : List Nat} (ad : Nat → Addr) (A : Option Addr) (c : Nat) (b : List Int) (w : World) (hE : EOk L ad w) (hL1 : 101 ∈ L) (hL2 : 102 ∈ L) (hL3 : 103 ∈ L) (hx : Kd.C (Kd.int .u8) w A b.length b) (hc : b.length ≤ c) (hn : A = none → c = 0) (hby : ∀ x ∈ b, 0 ≤ x ∧ x < 256) (hl : b.length ≤ 140737488351232) :
    Calls Tryd.prog 9 #[.slice A b.length c] w fun e w' => ∃ A' c', e = .returned (frV ad A' c' (rdF b)) ∧ w'.ownsRow w.heap.size 5 1 (.slice A' (rdF b).2.1.length c') (rdF b).2.1.length (nums .u8 (rdF b).2.1) ∧ Below w.heap.size w w' := by
  have HB := Lib.hid hby
  have HN := Lib.hid hn
  obtain ⟨i0, hi', hz0, hz1, hz2⟩ := info_parts infoC
  clear hby hn
  obtain ⟨k, hk⟩ : ∃ k, k = min b.length 3 := ⟨_, rfl⟩
  have hkb : k ≤ b.length := by omega
  have hk3 : k ≤ 3 := by omega
  have hkm : min (b.length : Int) 3 = (k : Int) := by omega
  obtain ⟨p1, p2, p3⟩ := print_take_of (P := Tryd.prog) (Value.int .u8) 0 22 5 .i64 Tryd.underlying22 hi' hz1 A c b (k : Int) (by omega) (by omega) hc
  have cp := Kd.C_of_reads (d := 0) (h1 := fun _ => rfl) (p2 w (Kd.reads_of_C hx))
  rw [Int.toNat_natCast] at p1 p3 cp
  have hq := fun g => print_take_of (P := Tryd.prog) (Value.int .u8) 0 22 5 .i64 Tryd.underlying22 hi' hz1 (some ⟨g, 0, none⟩) 3 [76, 104, 1] (k : Int) (by omega) (by simp; omega) (by simp)
  have e1 := (hE 101 hL1).1
  have e2 := (hE 102 hL2).1
  have e3 := (hE 103 hL3).1
  simp only [errV, gnum] at e1 e2 e3
  clear p2 hE
  have hkd : Hid (k = min b.length 3) := hk
  clear hk
  have tpl : (b.take k).length = k := by simp; omega
  have tml : (([76, 104, 1] : List Int).take k).length = k := by simp; omega
  simp only [Int.toNat_natCast, tml] at hq
  rw [tpl] at p1 p3
  have HQ := Lib.hid hq
  clear hq
  obtain ⟨bq, hbq⟩ : ∃ bq, bq = decide (b.take k = ([76, 104, 1] : List Int).take k) := ⟨_, rfl⟩
  have HBQ := Lib.hid hbq
  have HE1 := Lib.hid (fun g W (hg : Kd.C (Kd.int .u8) W (some ⟨g, 0, none⟩) (([76, 104, 1] : List Int).take k).length (([76, 104, 1] : List Int).take k)) (hW : Below w.heap.size w W) => equal_any A (some ⟨g, 0, none⟩) c 3 (b.take k) (([76, 104, 1] : List Int).take k) W (Kd.C_below cp hW) hg (take_bytes HB.out k) (take_bytes (by intro x hx; simp at hx; omega) k))
  rw [← hbq] at HE1
  simp only [tpl, tml] at HE1
  clear hbq tpl tml
  rcases Nat.lt_or_ge b.length 4 with h3 | h3
  · obtain rfl : k = b.length := by have := hkd.out; omega
    have h3i : (b.length : Int) ≤ 3 := by omega
    go_enter Tryd.func9, Tryd.ntmps9
    go_wp2_with fail
    with_reducible refine (magic_any _).mono ?_
    rintro e w1 ⟨rfl, hw1⟩
    have hcm : Kd.C (Kd.int .u8) w1 (some ⟨w.heap.size, 0, none⟩) 3 [76, 104, 1] := by rw [hw1]; exact C_ints .u8 5 [76, 104, 1] (by simp)
    have hb1 : Below w.heap.size w w1 := by rw [hw1]; exact (Below.refl _ _).alloc (Nat.le_refl _) _
    clear hw1
    obtain ⟨q1, q2, q3⟩ := HQ.out w.heap.size
    have cq := Kd.C_of_reads (d := 0) (h1 := fun _ => rfl) (q2 w1 (Kd.reads_of_C hcm))
    clear q2 HQ q3
    have hs1 := hb1.size
    have HE2 := Lib.hid (fun W (hW : Below w1.heap.size w1 W) => HE1.out w.heap.size W (Kd.C_below cq hW) (below_then hb1 hs1 hW))
    clear HE1
    have f1 : w1.cell? ⟨2, 0, none⟩ = _ := pw_cell_below hb1 e1
    have f2 : w1.cell? ⟨1, 0, none⟩ = _ := pw_cell_below hb1 e2
    clear e1 e2
    go_wp2_with fail
    go_region_held3 (fun w' => Below w1.heap.size w1 w')
      (first
        | go_keep
        | exact (Below.refl _ _).drew)
      (first
        | (go_at_call 21
           with_reducible refine (HE2.out _ (by assumption)).mono ?_
           rintro e w2 ⟨rfl, rfl⟩))
    all_goals
      cases bq with
      | false =>
        have hb2 : Below w.heap.size w w1.drew := hb1.drew
        have HBF := Lib.hid (of_decide_eq_false HBQ.out.symm)
        have HR := Lib.hid (rdF_shape1 hkd.out HBF.out)
        go_wp2_with fail
        go_quiet (fail)
        go_wp2
        refine bodyPost_ret (v := frV ad none 0 (0, [], 0, some 102)) (by simp [frV, errV, results, Tryd.results9, go_sem]) rfl ?_
        rw [HR.out]
        exact ⟨none, 0, rfl, World.ownsRow_nil _ _ _ _, below_drewN hb2 _⟩
      | true =>
        have hb2 : Below w.heap.size w w1.drew := hb1.drew
        have HBF := Lib.hid (of_decide_eq_true HBQ.out.symm)
        have HR := Lib.hid (rdF_end1 hkd.out HBF.out (by omega))
        have h6 : decide ((b.length : Int) < 6) = true := decide_eq_true (by omega)
        go_wp2_with fail
        go_quiet (fail)
        go_wp2
        refine bodyPost_ret (v := frV ad none 0 (0, [], 0, some 101)) (by simp [frV, errV, results, Tryd.results9, go_sem]) rfl ?_
        rw [HR.out]
        exact ⟨none, 0, rfl, World.ownsRow_nil _ _ _ _, below_drewN hb2 _⟩
  · obtain rfl : k = 3 := by have := hkd.out; omega
    have h3i : (3 : Int) < (b.length : Int) := by omega
    simp only [show ((3 : Nat) : Int) = 3 from rfl] at p1
    replace HQ := Lib.hid HQ.out
    go_enter Tryd.func9, Tryd.ntmps9
    go_wp2_with fail
    with_reducible refine (magic_any _).mono ?_
    rintro e w1 ⟨rfl, hw1⟩
    have hcm : Kd.C (Kd.int .u8) w1 (some ⟨w.heap.size, 0, none⟩) 3 [76, 104, 1] := by rw [hw1]; exact C_ints .u8 5 [76, 104, 1] (by simp)
    have hb1 : Below w.heap.size w w1 := by rw [hw1]; exact (Below.refl _ _).alloc (Nat.le_refl _) _
    clear hw1
    obtain ⟨q1, q2, q3⟩ := HQ.out w.heap.size
    have cq := Kd.C_of_reads (d := 0) (h1 := fun _ => rfl) (q2 w1 (Kd.reads_of_C hcm))
    clear q2 HQ q3
    have hs1 := hb1.size
    have HE2 := Lib.hid (fun W (hW : Below w1.heap.size w1 W) => HE1.out w.heap.size W (Kd.C_below cq hW) (below_then hb1 hs1 hW))
    clear HE1
    have f1 : w1.cell? ⟨2, 0, none⟩ = _ := pw_cell_below hb1 e1
    have f2 : w1.cell? ⟨1, 0, none⟩ = _ := pw_cell_below hb1 e2
    clear e1 e2
    go_wp2_with fail
    go_region_held3 (fun w' => Below w1.heap.size w1 w')
      (first
        | go_keep
        | exact (Below.refl _ _).drew)
      (first
        | (go_at_call 21
           with_reducible refine (HE2.out _ (by assumption)).mono ?_
           rintro e w2 ⟨rfl, rfl⟩))
    all_goals
      cases bq with
      | false =>
        have hb2 : Below w.heap.size w w1.drew := hb1.drew
        have HBF := Lib.hid (of_decide_eq_false HBQ.out.symm)
        have HR := Lib.hid (rdF_shape1 hkd.out HBF.out)
        go_wp2_with fail
        go_quiet (fail)
        go_wp2
        refine bodyPost_ret (v := frV ad none 0 (0, [], 0, some 102)) (by simp [frV, errV, results, Tryd.results9, go_sem]) rfl ?_
        rw [HR.out]
        exact ⟨none, 0, rfl, World.ownsRow_nil _ _ _ _, below_drewN hb2 _⟩
      | true =>
        have hb2 : Below w.heap.size w w1.drew := hb1.drew
        have HBF := Lib.hid (of_decide_eq_true HBQ.out.symm)
        replace f1 : w1.drew.cell? ⟨2, 0, none⟩ = _ := f1
        replace f2 : w1.drew.cell? ⟨1, 0, none⟩ = _ := f2
        have f3 : w1.drew.cell? ⟨3, 0, none⟩ = _ := pw_cell_below hb2 e3
        clear e3 hcm hb1 cq hs1 cp
        generalize w1.drew = w2 at *
        by_cases h6 : b.length < 6
        · have HR := Lib.hid (rdF_end1 hkd.out HBF.out h6)
          have h6b : decide ((b.length : Int) < 6) = true := decide_eq_true (by omega)
          go_wp2_with fail
          go_quiet (fail)
          go_wp2
          refine bodyPost_ret (v := frV ad none 0 (0, [], 0, some 101)) (by simp [frV, errV, results, Tryd.results9, go_sem]) rfl ?_
          rw [HR.out]
          exact ⟨none, 0, rfl, World.ownsRow_nil _ _ _ _, below_drewN hb2 _⟩
        · have h6b : decide ((b.length : Int) < 6) = false := decide_eq_false (by omega)
          obtain ⟨a, rfl, hc3⟩ := C_nat (Kd.C_below hx hb2) (show 3 < b.length by omega)
          obtain ⟨a', he4, hc4⟩ := C_nat (Kd.C_below hx hb2) (show 4 < b.length by omega)
          obtain rfl := Option.some.inj he4
          obtain ⟨a', he5, hc5⟩ := C_nat (Kd.C_below hx hb2) (show 5 < b.length by omega)
          obtain rfl := Option.some.inj he5
          have hy3 := byte_at HB.out 3
          have hy4 := byte_at HB.out 4
          have hy5 := byte_at HB.out 5
          have hfn : frN b = (b.getD 4 0).toNat + 256 * (b.getD 5 0).toNat := rfl
          have HOK := Lib.hid (fun hn ha hs => rdF_ok hkd.out HBF.out h6 hn ha hs)
          generalize b.getD 3 0 = x3 at *
          generalize b.getD 4 0 = x4 at *
          generalize b.getD 5 0 = x5 at *
          obtain ⟨x3, rfl⟩ := Int.eq_ofNat_of_zero_le hy3.1
          obtain ⟨x4, rfl⟩ := Int.eq_ofNat_of_zero_le hy4.1
          obtain ⟨x5, rfl⟩ := Int.eq_ofNat_of_zero_le hy5.1
          simp only [Int.toNat_natCast] at hfn
          have HFN := Lib.hid hfn
          have l4 : x4 < 256 := by omega
          have l5 : x5 < 256 := by omega
          clear hfn hy3 hy4 hy5 he4 he5
          simp [go_sem] at hc3 hc4 hc5
          have i3 : (3 : Int) < (b.length : Int) := by omega
          have i4 : (4 : Int) < (b.length : Int) := by omega
          have i5 : (5 : Int) < (b.length : Int) := by omega
          have hor := or256 x4 x5 l4 (by omega)
          rw [← HFN.out] at hor
          have hnl : frN b < 65536 := by have := HFN.out; omega
          have HS2 := Lib.hid (fun hn => rdF_shape2 hkd.out HBF.out h6 hn)
          have HE2' := Lib.hid (fun hn ha => rdF_end2 hkd.out HBF.out h6 hn ha)
          have HSM := Lib.hid (fun hn ha hs => rdF_sum hkd.out HBF.out h6 hn ha hs)
          clear h6
          generalize frN b = n at *
          go_wp2_with fail
          go_quiet (fail)
          replace f1 : (w2.drewN nq).cell? ⟨2, 0, none⟩ = _ := f1
          replace f2 : (w2.drewN nq).cell? ⟨1, 0, none⟩ = _ := f2
          replace f3 : (w2.drewN nq).cell? ⟨3, 0, none⟩ = _ := f3
          replace hc3 : (w2.drewN nq).cell? ⟨a.block, a.off + 3, none⟩ = _ := hc3
          have hb5 := below_drewN hb2 nq
          clear hb2 hc4 hc5
          generalize w2.drewN nq = w5 at *
          by_cases hn : 4000 < n
          · have HR := Lib.hid (HS2.out hn)
            have hnb : decide ((4000 : Int) < (n : Int)) = true := decide_eq_true (by omega)
            go_wp2_with fail
            go_quiet (fail)
            go_wp2
            refine bodyPost_ret (v := frV ad none 0 (0, [], 0, some 102)) (by simp [frV, errV, results, Tryd.results9, go_sem]) rfl ?_
            rw [HR.out]
            exact ⟨none, 0, rfl, World.ownsRow_nil _ _ _ _, below_drewN hb5 _⟩
          · have hnb : decide ((4000 : Int) < (n : Int)) = false := decide_eq_false (by omega)
            by_cases ha : b.length < n + 10
            · have HR := Lib.hid (HE2'.out hn ha)
              have hab : decide ((b.length : Int) < 6 + (n : Int) + 4) = true := decide_eq_true (by omega)
              go_wp2_with fail
              go_quiet (fail)
              go_wp2
              refine bodyPost_ret (v := frV ad none 0 (0, [], 0, some 101)) (by simp [frV, errV, results, Tryd.results9, go_sem]) rfl ?_
              rw [HR.out]
              exact ⟨none, 0, rfl, World.ownsRow_nil _ _ _ _, below_drewN hb5 _⟩
            · have hab : decide ((b.length : Int) < 6 + (n : Int) + 4) = false := decide_eq_false (by omega)
              have HOKn := Lib.hid (HOK.out hn ha)
              have HSMn := Lib.hid (HSM.out hn ha)
              obtain ⟨p1, p2, p3⟩ := print_take_of (P := Tryd.prog) (Value.int .u8) 0 22 5 .i64 Tryd.underlying22 hi' hz1 (some a) c b (6 + (n : Int)) (by omega) (by omega) hc
              obtain ⟨aq, q1, q2, q3⟩ := print_mid_of (P := Tryd.prog) (Value.int .u8) 0 22 5 .i64 .i64 Tryd.underlying22 hi' hz1 (some a) c b (6 + (n : Int)) (6 + (n : Int) + 4) (by omega) (by omega) (by omega) hc
              obtain ⟨ar, r1, r2, r3⟩ := print_mid_of (P := Tryd.prog) (Value.int .u8) 0 22 5 .i64 .i64 Tryd.underlying22 hi' hz1 (some a) c b 6 (6 + (n : Int)) (by omega) (by omega) (by omega) hc
              rw [show (6 + (n : Int)).toNat = n + 6 by omega] at p1 p2 p3 q1 q2 q3 r1 r2 r3
              rw [show (6 + (n : Int) + 4).toNat = n + 10 by omega] at q1 q2 q3
              rw [show (6 : Int).toNat = 6 from rfl] at r1 r2 r3
              have hx2 := Kd.C_below hx hb5
              have cp := Kd.C_of_reads (d := 0) (h1 := fun _ => rfl) (p2 w5 (Kd.reads_of_C hx2))
              have cq := Kd.C_of_reads (d := 0) (h1 := fun _ => rfl) (q2 w5 (Kd.reads_of_C hx2))
              have cr := Kd.C_of_reads (d := 0) (h1 := fun _ => rfl) (r2 w5 (Kd.reads_of_C hx2))
              have tb := take_bytes HB.out (n + 6)
              have ub := drop_bytes (take_bytes HB.out (n + 10)) (n + 6)
              have ul : ((b.take (n + 10)).drop (n + 6)).length = 4 := by simp; omega
              have rl : ((b.take (n + 6)).drop 6).length ≤ 140737488355328 := by simp; omega
              generalize b.take (n + 6) = t at *
              generalize (b.take (n + 10)).drop (n + 6) = u at *
              generalize t.drop 6 = r at *
              rw [ul] at q1 q3
              have HF := Lib.hid (fun W (hW : Below w5.heap.size w5 W) => fsum_any (some a) c t W (Kd.C_below cp hW) p3 tb)
              obtain ⟨bs, hbs⟩ : ∃ bs, bs = decide (four (crcMore 0 t) = u) := ⟨_, rfl⟩
              have HQE := Lib.hid (fun g W (hg : W.heap[g]? = some (.cells (nums .u8 (four (crcMore 0 t))).toArray 5 (0, 0))) (hW : Below w5.heap.size w5 W) => equal_any (some ⟨g, 0, none⟩) aq 4 (c - (n + 6)) (four (crcMore 0 t)) u W (C_lit _ hg (by simp [four])) (Kd.C_below cq hW) (four_bytes _) ub)
              rw [← hbs] at HQE
              have fl4 : (four (crcMore 0 t)).length = 4 := rfl
              simp only [fl4, ul] at HQE
              have HBS := Lib.hid hbs
              have HCL := Lib.hid (fun W (hW : Below w5.heap.size w5 W) => clone_any ar (c - 6) r W (Kd.C_below cr hW) rl)
              have j6 : (6 : Int) ≤ 6 + (n : Int) := by omega
              clear hbs p2 q2 r2 cp cq cr tb ub ul rl fl4 hx2 hor HOK HSM HS2 HE2'
              have hw1 : IntKind.i64.wrap (6 + (n : Int) + 4 - 4) = 6 + (n : Int) := by rw [IntWalk.i64_in _ (by omega)]; omega
              have hww2 : IntKind.i64.wrap (6 + (n : Int)) = 6 + (n : Int) := IntWalk.i64_in _ (by omega)
              have hz : Below w5.heap.size w5 w5.drew := (Below.refl _ _).drew
              go_wp2_with fail
              go_region_held3 (fun w' => Below w5.heap.size w5 w')
                (first
                  | exact hz
                  | go_keep
                  | exact below_then (by assumption) (Below.size (by assumption)) hb3)
                (first
                  | (go_at_call 20
                     with_reducible refine (HF.out _ (by assumption)).mono ?_
                     rintro e w3 ⟨g, rfl, hg, hgc, hb3⟩)
                  | (go_at_call 21
                     with_reducible refine (HQE.out _ _ (by assumption) (by assumption)).mono ?_
                     rintro e w4 ⟨rfl, rfl⟩))
              all_goals
                have hH : Below w5.heap.size w5 w3 := by assumption
                have hB3 := below_then hb5 hb5.size hH
                cases bs with
                | false =>
                  have HR := Lib.hid (HSMn.out (of_decide_eq_false HBS.out.symm))
                  have g3 := pw_cell_below hH f3
                  go_wp2_with fail
                  go_quiet (fail)
                  go_wp2
                  refine bodyPost_ret (v := frV ad none 0 (0, [], 0, some 103)) (by simp [frV, errV, results, Tryd.results9, go_sem]) rfl ?_
                  rw [HR.out]
                  exact ⟨none, 0, rfl, World.ownsRow_nil _ _ _ _, below_drewN hB3 _⟩
                | true =>
                  have HR := Lib.hid (HOKn.out (of_decide_eq_true HBS.out.symm))
                  have k3 : w3.drew.cell? ⟨a.block, a.off + 3, none⟩ = some (.int .u8 (x3 : Int)) := pw_cell_below hH hc3
                  have hHd := hH.drew
                  clear hgc HQE HF HBS
                  go_wp2_with fail
                  go_region_held3 (fun w' => Below w5.heap.size w5 w' ∧ w'.cell? ⟨a.block, a.off + 3, none⟩ = some (.int .u8 (x3 : Int)))
                    (first
                      | (exact ⟨hHd, k3⟩)
                      | (go_split_ands; exact ⟨below_then hHd hHd.size hb6, pw_cell_below hb6 (by assumption)⟩)
                      | go_keep)
                    (first
                      | (go_at_call 22
                         with_reducible refine (HCL.out _ (by assumption)).mono ?_
                         rintro e w6 ⟨A6, c6, rfl, ho6, hb6⟩))
                  all_goals
                    have hH6 : Below w5.heap.size w5 w6 := by first | assumption | (go_split_ands; assumption)
                    go_wp2
                    refine bodyPost_ret (v := frV ad A6 c6 (x3, r, n + 10, none)) (by simp [frV, errV, results, Tryd.results9, go_sem]; omega) rfl ?_
                    rw [HR.out]
                    exact ⟨A6, c6, rfl, own_weaken ho6 hB3.size, below_then hb5 hb5.size hH6⟩

theorem fread_any {L : List Nat} (ad : Nat → Addr) (A : Option Addr) (c : Nat) (b : List Int) (w : World) (hE : EOk L ad w) (hL1 : 101 ∈ L) (hL2 : 102 ∈ L) (hL3 : 103 ∈ L) (hx : Kd.C (Kd.int .u8) w A b.length b) (hc : b.length ≤ c) (hn : A = none → c = 0) (hby : ∀ x ∈ b, 0 ≤ x ∧ x < 256) (hl : b.length ≤ 140737488351232) :
    Calls Tryd.prog 9 #[.slice A b.length c] w fun e w' => ∃ A' c', e = .returned (frV ad A' c' (rdF b)) ∧ Kd.C (Kd.int .u8) w' A' (rdF b).2.1.length (rdF b).2.1 ∧ Below w.heap.size w w' :=
  (freado_any ad A c b w hE hL1 hL2 hL3 hx hc hn hby hl).mono fun _ _ ⟨A', c', h1, h2, h3⟩ => ⟨A', c', h1, C_own h2, h3⟩

end Go.Proofs.YtdlacjbicjhfgaaDoor
