/- The walk of the statement CrcFinds: for every bytes, seed and bits it returns true, and memory that was there stays. -/
import Derived.Test.YtnkeigpbceniaaaDoorLaw1
import Derived.Test.YtnkeigpbceniaaaDoorCrcM
import Derived.Test.YtnkeigpbceniaaaDoorCrcSeeds
import Derived.Test.YtnkeigpbceniaaaDoorWorld
namespace Go.Proofs.YtnkeigpbceniaaaDoor
open Go.RowKit Go.Proofs.YtnkeigpbceniaaaDoorW.PrintWords

theorem own_some {w : World} {base n c size : Nat} {e : TypeId} {A : Option Addr} {xs : List Value} (h : w.ownsRow base e size (.slice A n c) n xs) (hn : 0 < n) : ∃ g, A = some ⟨g, 0, none⟩ := by
  rcases h.2 with ⟨h, _⟩ | ⟨g, cap, cur, he, _⟩
  · injection h with _ h2; omega
  · injection he with h1; exact ⟨g, h1⟩

theorem bit_at (B j : Nat) (h : B < 4294967296) : bits .and .u32 ((B : Int) / 2 ^ j) 1 = ((B / 2 ^ j % 2 : Nat) : Int) := by
  have e : ((B : Int) / 2 ^ j) = ((B / 2 ^ j : Nat) : Int) := by rw [Int.natCast_ediv, Int.natCast_pow]; rfl
  have := u32_and_nat (B / 2 ^ j) 1 (by have := Nat.div_le_self B (2 ^ j); omega) (by omega)
  rw [show ((1 : Nat) : Int) = 1 from rfl] at this
  rw [e, this, nat_mask1]

theorem pow8_cast (n : Nat) : ((2 : Int) ^ (n % 8) % 256) = ((2 ^ (n % 8) : Nat) : Int) := by
  have h : 2 ^ (n % 8) < 2 ^ 8 := Nat.pow_lt_pow_right (by omega) (by omega)
  have e : ((2 : Int) ^ (n % 8)) = ((2 ^ (n % 8) : Nat) : Int) := by rw [Int.natCast_pow]; rfl
  rw [e, show (256 : Int) = ((256 : Nat) : Int) from rfl, ← Int.natCast_emod, Nat.mod_eq_of_lt (by omega)]
theorem nums_set (k : IntKind) (X : List Int) (i : Nat) (v : Int) : nums k (X.set i v) = (nums k X).set i (.int k v) := by simp [nums, List.map_set]

/-- bits of a row, turned one behind the other -/
def flips (S : List Int) (P : List Nat) : Nat → List Int
  | 0 => S
  | j + 1 => flipAt (flips S P j) (P.getD j 0)
theorem flips_len (S : List Int) (P : List Nat) : ∀ j, (flips S P j).length = S.length
  | 0 => rfl
  | j + 1 => by show (flipAt _ _).length = _; rw [flipAt_len, flips_len S P j]
theorem flips_bytes (S : List Int) (P : List Nat) (h : ∀ x ∈ S, 0 ≤ x ∧ x < 256) : ∀ j, ∀ x ∈ flips S P j, 0 ≤ x ∧ x < 256
  | 0 => h
  | j + 1 => flipAt_bytes _ _ (flips_bytes S P h j)
theorem flips_three (S : List Int) (p1 p2 p3 s : Nat) (hS : ∀ x ∈ S, 0 ≤ x ∧ x < 256) (hT : crcT s S = crcR) (hl : 4 ≤ S.length) (hm : S.length ≤ 504) (h1 : p1 < 8 * S.length) (h2 : p2 < 8 * S.length) (h3 : p3 < 8 * S.length) :
    (openB (flips S [p1, p2, p3] 3) s).2 ≠ none ∧ flips S [p1, p2, p3] 3 ≠ S := by
  have hD : crcT s (flips S [p1, p2, p3] 3) ≠ crcR := by
    have e3 : crcT s (flips S [p1, p2, p3] 3) = crcT s (flips S [p1, p2, p3] 2) ^^^ crcBits (8 * S.length - p3) 1 := by
      have := crcT_flip s p3 (flips S [p1, p2, p3] 2) (by rw [flips_len]; exact h3) (flips_bytes _ _ hS 2)
      rw [flips_len] at this
      exact this
    have e2 : crcT s (flips S [p1, p2, p3] 2) = crcT s (flips S [p1, p2, p3] 1) ^^^ crcBits (8 * S.length - p2) 1 := by
      have := crcT_flip s p2 (flips S [p1, p2, p3] 1) (by rw [flips_len]; exact h2) (flips_bytes _ _ hS 1)
      rw [flips_len] at this
      exact this
    have e1 : crcT s (flips S [p1, p2, p3] 1) = crcT s S ^^^ crcBits (8 * S.length - p1) 1 := crcT_flip s p1 S h1 hS
    rw [e3, e2, e1, hT]
    intro h
    have h4 := congrArg (crcR ^^^ ·) h
    simp only [Nat.xor_self] at h4
    rw [← Nat.xor_assoc, ← Nat.xor_assoc, ← Nat.xor_assoc, Nat.xor_self, Nat.zero_xor] at h4
    exact three_bits _ _ _ (by omega) (by omega) (by omega) h4
  constructor
  · rw [ne_eq, openB_iff _ _ (by rw [flips_len]; exact hl) (flips_bytes _ _ hS 3)]
    exact hD
  · intro h
    rw [h] at hD
    exact hD hT

set_option maxHeartbeats 3200000 in
set_option maxRecDepth 100000 in
theorem crcFinds_walk (ad : Nat → Addr) (a0 : Option Addr) (cap0 : Nat) (l0 : List Int) (s1 at_ burst i k l : Int) (w : World) (hE : EOk [101, 103] ad w) (_ : EInj [101, 103] ad)
    (hC0 : Kd.C (Kd.int .u8) w a0 l0.length l0) (hw0 : ∀ x ∈ l0, (Lit.int .u8 x).wf = true) (_ : l0.length * 1 ≤ 140737488351232) (hc0 : l0.length ≤ cap0) (hn0 : a0 = none → cap0 = 0)
    (h1 : (Lit.int .u32 s1).wf = true) (ha : (Lit.int .i64 at_).wf = true) (hb : (Lit.int .u32 burst).wf = true) (hi : (Lit.int .i64 i).wf = true) (hk : (Lit.int .i64 k).wf = true) (hl : (Lit.int .i64 l).wf = true) :
    Calls Tryd.prog 4 #[.slice a0 l0.length cap0, .int .u32 s1, .int .i64 at_, .int .u32 burst, .int .i64 i, .int .i64 k, .int .i64 l] w fun e w' => e = .returned (.bool true) ∧ Below w.heap.size w w' := by
  rename_i zI z1
  have HB0 := Lib.hid (fun n hn => wf_byte (hw0 n hn))
  obtain ⟨h20, h21⟩ := wf_u32 h1
  obtain ⟨s, rfl⟩ := Int.eq_ofNat_of_zero_le h20
  have hs : s < 4294967296 := by omega
  obtain ⟨h30, h31⟩ := wf_u32 hb
  obtain ⟨B, rfl⟩ := Int.eq_ofNat_of_zero_le h30
  have hBl : B < 4294967296 := by omega
  obtain ⟨ha0, ha1⟩ := wf_range ha
  obtain ⟨hi0, hi1⟩ := wf_range hi
  obtain ⟨hk0, hk1⟩ := wf_range hk
  obtain ⟨hl0, hl1⟩ := wf_range hl
  have HN0 := Lib.hid hn0
  have HE := Lib.hid hE
  clear hw0 h1 hn0 h20 h21 hE z1 h30 h31 ha hi hk hl hb
  by_cases hg : ¬ (l0.length ≤ 500)
  · have b0 : decide ((500 : Int) < (l0.length : Int)) = true := decide_eq_true (by omega)
    go_enter Tryd.func4, Tryd.ntmps4
    go_wp2_with fail
    with_reducible refine (first1_any _).mono ?_
    rintro e w1 ⟨rfl, hB1⟩
    go_wp2
    go_ret
    exact ⟨rfl, hB1⟩
  have g0 : l0.length ≤ 500 := by omega
  clear hg
  have b0 : decide ((500 : Int) < (l0.length : Int)) = false := decide_eq_false (by omega)
  have HSB := Lib.hid (sealB_bytes l0 s HB0.out)
  have hsl := sealB_len l0 s
  have HT := Lib.hid (crcT_seal l0 s HB0.out)
  have HOS := Lib.hid (openB_seal l0 s)
  go_enter Tryd.func4, Tryd.ntmps4
  go_wp2_with fail
  with_reducible refine (first1_any _).mono ?_
  rintro e w1 ⟨rfl, hB1⟩
  go_wp2_with fail
  with_reducible refine (seal_any a0 cap0 l0 s _ (Kd.C_below hC0 hB1) hc0 HN0.out HB0.out hs (by omega)).mono ?_
  rintro e w2 ⟨A2, c2, rfl, ho2, hb2⟩
  have hB2 := below_then hB1 hB1.size hb2
  clear hb2
  generalize sealB l0 s = S at *
  have hS4 : S.length ≤ 504 := by omega
  have hl4 : (S.length : Int) = (l0.length : Int) + 4 := by omega
  have b1 : ((S.length : Int) != (l0.length : Int) + 4) = false := by simp [hl4]
  have HL4 := Lib.hid hl4
  have HSL := Lib.hid hsl
  have hSp : 4 ≤ S.length := by omega
  clear hl4 hsl
  have hCS := C_own ho2
  have hcS := own_cap ho2
  have hnS := Lib.hid (own_nd ho2)
  go_wp2_with fail
  with_reducible refine (refBytes_any A2 c2 S w2 hCS (by omega)).mono ?_
  rintro e w3 ⟨A3, c3, rfl, ho3, hb3⟩
  have hB3 := below_then hB2 hB2.size hb3
  obtain ⟨g, rfl⟩ := own_some ho3 (by omega)
  have hgl := (ho3.lt g rfl)
  have hm : (0 : Int) < 8 * (S.length : Int) - 31 := by omega
  have hfr := numberW_range at_ (8 * (S.length : Int) - 31) hm
  have hnum := number_any at_ (8 * (S.length : Int) - 31) w3 hm (by omega) ha0 ha1
  have hCS3 := Kd.C_below hCS hb3
  generalize numberW at_ (8 * (S.length : Int) - 31) = frm at *
  obtain ⟨f, rfl⟩ := Int.eq_ofNat_of_zero_le hfr.1
  have hf : f + 32 ≤ 8 * S.length := by omega
  have HNUM := Lib.hid hnum
  clear hnum hfr
  have hs2 := hB2.size
  have hs3 := hb3.size
  go_wp2_with fail
  with_reducible refine HNUM.out.mono ?_
  rintro e w4 ⟨rfl, rfl⟩
  clear HNUM
  have HO3 := Lib.hid ho3
  clear ho3
  go_wp2_with fail
  go_loopw [20] (fun vj wr => ∃ j : Nat, j ≤ 32 ∧ vj = .int .i64 j ∧ wr.ownsRow w2.heap.size 5 1 (.slice (some ⟨g, 0, none⟩) S.length c3) S.length (nums .u8 (burstAt S f B j)) ∧ Chg (· = g) w3 wr) (fun vj _ => 32 - (intOf vj).toNat)
  case atStart => exact ⟨0, Nat.zero_le _, rfl, HO3.out, Chg.refl _ _⟩
  case round =>
    clear HO3
    obtain ⟨j, hj, rfl, ho, hC⟩ := hrel
    by_cases hlt : j < 32
    · have hbl := burstAt_len S f B j
      have hbb := burstAt_bytes S f B HSB.out j
      have hsn : burstAt S f B (j + 1) = if B / 2 ^ j % 2 = 1 then flipAt (burstAt S f B j) (f + j) else burstAt S f B j := rfl
      have hx := bit_at B j hBl
      generalize burstAt S f B j = X at *
      have HSN := Lib.hid hsn
      clear hsn
      by_cases hbit : B / 2 ^ j % 2 = 1
      · rw [if_pos hbit] at HSN
        rw [hbit] at hx
        have hk8 : (f + j) / 8 < X.length := by omega
        obtain ⟨hx0, hx1⟩ := hbb (X.getD ((f + j) / 8) 0) (by rw [List.getD_eq_getElem?_getD, List.getElem?_eq_getElem hk8]; exact List.getElem_mem hk8)
        obtain ⟨x, hxe⟩ := Int.eq_ofNat_of_zero_le hx0
        have hcx : wr.cell? ⟨g, (f + j) / 8, none⟩ = some (.int .u8 (x : Int)) := by
          rw [ho.cellAt _ (by omega), ← hxe]
          simp [nums, List.getD, List.getElem?_eq_getElem hk8]
        have hfx := ho.frozenAt ((f + j) / 8)
        have hfl : flipAt X (f + j) = X.set ((f + j) / 8) ((x ^^^ 2 ^ ((f + j) % 8) : Nat) : Int) := by
          show X.set _ _ = _
          rw [hxe, Int.toNat_natCast]
        have HFL := Lib.hid hfl
        have hxl : x < 256 := by omega
        clear hxe hx0 hx1 hbb hbit hfl
        have hp2 := pow8_cast (f + j)
        have hp3 : 2 ^ ((f + j) % 8) < 256 := Nat.pow_lt_pow_right (m := (f + j) % 8) (n := 8) (by omega) (by omega)
        have hxr := u8_xor_nat x (2 ^ ((f + j) % 8)) hxl hp3
        rw [← hp2] at hxr
        have HXR := Lib.hid hxr
        clear hp2 hxr hp3
        go_wp2_with fail
        go_roundw
        case rel =>
          refine ⟨j + 1, by omega, by go_num, ?_, hC.setCell (fun _ => rfl) _⟩
          rw [HXR.out, HSN.out, HFL.out, nums_set]
          exact (ho.stored _ _).1
        case measure => simp [intOf]; omega
      · rw [if_neg hbit] at HSN
        have hbit0 : B / 2 ^ j % 2 = 0 := by omega
        rw [hbit0] at hx
        clear hbit hbit0 hbb
        go_wp2_with fail
        go_roundw
        case rel => exact ⟨j + 1, by omega, by go_num, by rw [HSN.out]; exact ho, hC⟩
        case measure => simp [intOf]; omega
    · obtain rfl : j = 32 := by omega
      have hbl := burstAt_len S f B 32
      have HBB := Lib.hid (burstAt_bytes S f B HSB.out 32)
      have hbt := burst_tells s S f B HSB.out hf 32 (Nat.le_refl _)
      generalize burstAt S f B 32 = X at *
      rw [show (2 : Nat) ^ 32 = 4294967296 by rfl, Nat.mod_eq_of_lt hBl, HT.out] at hbt
      have hox := openB_iff X s (by omega) HBB.out
      have hB0 : (openB X s).2 = none ↔ B = 0 := by
        rw [hox, hbt]
        constructor
        · intro h
          have h1 := congrArg (crcR ^^^ ·) h
          simp only [← Nat.xor_assoc, Nat.xor_self, Nat.zero_xor] at h1
          exact crcBits_ne _ B hBl h1
        · intro h
          rw [h, crcBits_zero, Nat.xor_zero]
      have HB0' := Lib.hid hB0
      have HXL := Lib.hid hbl
      clear hB0 hox hbt
      have hb4 : Below w2.heap.size w2 wr := hb3.trans (hC.below _ hs3 (fun k hk e => by omega))
      have hB4 := below_then hB2 hB2.size hb4
      have hCS4 := Kd.C_below hCS hb4
      have ho4 : wr.ownsRow w2.heap.size 5 1 (.slice (some ⟨g, 0, none⟩) X.length c3) X.length (nums .u8 X) := by rw [hbl]; exact ho
      have hop := open_any ad (some ⟨g, 0, none⟩) c3 X s wr (HE.out.below hB4) (by decide) (by decide) (C_own ho4) (own_cap ho4) (own_nd ho4) HBB.out hs (by omega)
      rw [hbl] at hop
      have HOP := Lib.hid hop
      clear hop hbl ho4 ho hC hb3
      generalize openB X s = o1 at *
      go_wp2_with fail
      with_reducible refine HOP.out.mono ?_
      rintro e w5 ⟨A5, c5, rfl, hC5, hb5⟩
      clear HOP hC5
      have hb5' := below_then hb4 hb4.size hb5
      have hB5 := below_then hB2 hB2.size hb5'
      have hCS5 := Kd.C_below hCS hb5'
      go_wp2_with fail
      with_reducible refine (refBytes_any A2 c2 S w5 hCS5 (by omega)).mono ?_
      rintro e w6 ⟨A6, c6, rfl, ho6, hb6⟩
      have hb6' := below_then hb5' hb5'.size hb6
      have hB6 := below_then hB2 hB2.size hb6'
      obtain ⟨g6, rfl⟩ := own_some ho6 (by omega)
      have hgl6 := (ho6.lt g6 rfl)
      have hm8 : (0 : Int) < 8 * (S.length : Int) := by omega
      have HN1 := Lib.hid (number_any i (8 * (S.length : Int)) w6 hm8 (by omega) hi0 hi1)
      have HN2 := Lib.hid (number_any k (8 * (S.length : Int)) w6 hm8 (by omega) hk0 hk1)
      have HN3 := Lib.hid (number_any l (8 * (S.length : Int)) w6 hm8 (by omega) hl0 hl1)
      have hr1 := numberW_range i (8 * (S.length : Int)) hm8
      have hr2 := numberW_range k (8 * (S.length : Int)) hm8
      have hr3 := numberW_range l (8 * (S.length : Int)) hm8
      generalize numberW i (8 * (S.length : Int)) = p1 at *
      generalize numberW k (8 * (S.length : Int)) = p2 at *
      generalize numberW l (8 * (S.length : Int)) = p3 at *
      obtain ⟨p1, rfl⟩ := Int.eq_ofNat_of_zero_le hr1.1
      obtain ⟨p2, rfl⟩ := Int.eq_ofNat_of_zero_le hr2.1
      obtain ⟨p3, rfl⟩ := Int.eq_ofNat_of_zero_le hr3.1
      have hr1 : p1 < 8 * S.length := by omega
      have hr2 : p2 < 8 * S.length := by omega
      have hr3 : p3 < 8 * S.length := by omega
      have HO6 := Lib.hid ho6
      clear ho6 hb4 hb5 hCS3 hCS4 hB3 hB4
      go_wp2_with fail
      with_reducible refine HN1.out.mono ?_
      rintro e w7 ⟨rfl, rfl⟩
      go_wp2_with fail
      with_reducible refine HN2.out.mono ?_
      rintro e w7 ⟨rfl, rfl⟩
      go_wp2_with fail
      with_reducible refine HN3.out.mono ?_
      rintro e w7 ⟨rfl, rfl⟩
      clear HN1 HN2 HN3
      go_wp2_with fail
      have hrow : (w6.alloc (.cells #[.int .i64 (p1 : Int), .int .i64 (p2 : Int), .int .i64 (p3 : Int)] 3)).heap[w6.heap.size]? = some (.cells #[.int .i64 (p1 : Int), .int .i64 (p2 : Int), .int .i64 (p3 : Int)] 3 (0, 0)) := blk_new _ _
      have hb7 : Below w6.heap.size w6 (w6.alloc (.cells #[.int .i64 (p1 : Int), .int .i64 (p2 : Int), .int .i64 (p3 : Int)] 3)) := (Below.refl _ _).alloc (Nat.le_refl _) _
      have ho7 := own_below HO6.out hb7
      generalize w6.alloc (.cells #[.int .i64 (p1 : Int), .int .i64 (p2 : Int), .int .i64 (p3 : Int)] 3) = w7 at *
      have HO7 := Lib.hid ho7
      have hs7 := hb7.size
      have HF3 := Lib.hid (flips_three S p1 p2 p3 s HSB.out HT.out hSp hS4 hr1 hr2 hr3)
      have HPS : Hid (∀ j, j < 3 → [p1, p2, p3].getD j 0 < 8 * S.length ∧ (#[Value.int .i64 (p1 : Int), .int .i64 (p2 : Int), .int .i64 (p3 : Int)] : Array Value)[j]? = some (.int .i64 ([p1, p2, p3].getD j 0 : Nat))) := fun j hj => by
        match j, hj with
        | 0, _ => exact ⟨hr1, rfl⟩
        | 1, _ => exact ⟨hr2, rfl⟩
        | 2, _ => exact ⟨hr3, rfl⟩
      have HROW := Lib.hid hrow
      clear ho7 hrow HO6
      go_loopw [25] (fun vj wr => ∃ j : Nat, j ≤ 3 ∧ vj = .int .i64 j ∧ wr.ownsRow w5.heap.size 5 1 (.slice (some ⟨g6, 0, none⟩) S.length c6) S.length (nums .u8 (flips S [p1, p2, p3] j)) ∧ Chg (· = g6) w7 wr) (fun vj _ => 3 - (intOf vj).toNat)
      case atStart => exact ⟨0, Nat.zero_le _, rfl, HO7.out, Chg.refl _ _⟩
      case round =>
        clear HO7
        obtain ⟨j, hj, rfl, ho, hC⟩ := hrel
        by_cases hlt : j < 3
        · have hbl := flips_len S [p1, p2, p3] j
          have hbb := flips_bytes S [p1, p2, p3] HSB.out j
          have hsn : flips S [p1, p2, p3] (j + 1) = flipAt (flips S [p1, p2, p3] j) ([p1, p2, p3].getD j 0) := rfl
          obtain ⟨hp, hpc⟩ := HPS.out j hlt
          have hcp : wr.cell? ⟨w6.heap.size, j, none⟩ = some (.int .i64 ([p1, p2, p3].getD j 0 : Nat)) := by
            rw [blk_cell ((hC.block _ (by have := blk_lt HROW.out; omega) (by omega)).trans HROW.out)]
            exact hpc
          generalize flips S [p1, p2, p3] j = X at *
          generalize [p1, p2, p3].getD j 0 = p at *
          have HSN := Lib.hid hsn
          clear hsn hpc
          have hk8 : p / 8 < X.length := by omega
          obtain ⟨hx0, hx1⟩ := hbb (X.getD (p / 8) 0) (by rw [List.getD_eq_getElem?_getD, List.getElem?_eq_getElem hk8]; exact List.getElem_mem hk8)
          obtain ⟨x, hxe⟩ := Int.eq_ofNat_of_zero_le hx0
          have hcx : wr.cell? ⟨g6, p / 8, none⟩ = some (.int .u8 (x : Int)) := by
            rw [ho.cellAt _ (by omega), ← hxe]
            simp [nums, List.getD, List.getElem?_eq_getElem hk8]
          have hfx := ho.frozenAt (p / 8)
          have hfl : flipAt X p = X.set (p / 8) ((x ^^^ 2 ^ (p % 8) : Nat) : Int) := by
            show X.set _ _ = _
            rw [hxe, Int.toNat_natCast]
          have HFL := Lib.hid hfl
          have hxl : x < 256 := by omega
          have hp2 := pow8_cast p
          have hp3 : 2 ^ (p % 8) < 256 := Nat.pow_lt_pow_right (m := p % 8) (n := 8) (by omega) (by omega)
          have hxr := u8_xor_nat x (2 ^ (p % 8)) hxl hp3
          rw [← hp2] at hxr
          have HXR := Lib.hid hxr
          have HST := Lib.hid ((ho.stored (p / 8) (.int .u8 ((x ^^^ 2 ^ (p % 8) : Nat) : Int))).1)
          clear hp2 hxr hp3 hxe hx0 hx1 hbb hfl ho
          have hj0 : (0 : Int) ≤ (j : Int) := by omega
          have hj1 : (j : Int) < 3 := by omega
          have hq0 : (0 : Int) ≤ (p : Int) / 8 := by omega
          have hq1 : (p : Int) / 8 < (S.length : Int) := by omega
          go_wp2_with fail
          go_region
          all_goals
            go_wp2
            go_roundw
            case rel =>
              refine ⟨j + 1, by omega, by go_num, ?_, (hC.setCell (fun _ => rfl) _).drew⟩
              rw [HXR.out, HSN.out, HFL.out, nums_set]
              exact HST.out.drew
            case measure => simp [intOf]; omega
        · obtain rfl : j = 3 := by omega
          have hbl := flips_len S [p1, p2, p3] 3
          have HDB := Lib.hid (flips_bytes S [p1, p2, p3] HSB.out 3)
          generalize flips S [p1, p2, p3] 3 = D at *
          have hb57 := below_then hb6 hb6.size hb7
          have hs57 := hb57.size
          have hb8 : Below w5.heap.size w5 wr := hb57.trans (hC.below _ hs57 (fun k hk e => by omega))
          have hb8' := below_then hb5' hb5'.size hb8
          have hB8 := below_then hB2 hB2.size hb8'
          have ho8 : wr.ownsRow w5.heap.size 5 1 (.slice (some ⟨g6, 0, none⟩) D.length c6) D.length (nums .u8 D) := by rw [hbl]; exact ho
          have hop := open_any ad (some ⟨g6, 0, none⟩) c6 D s wr (HE.out.below hB8) (by decide) (by decide) (C_own ho8) (own_cap ho8) (own_nd ho8) HDB.out hs (by omega)
          rw [hbl] at hop
          have HOP := Lib.hid hop
          have hCD := C_own ho8
          have HBL := Lib.hid hbl
          clear hop hbl ho hC hb57 hb6 hb7 hb8 hb5' hb6' hB5 hB6 hCS5 ho8
          obtain ⟨hD1, hD2⟩ := HF3.out
          generalize openB D s = o2 at *
          obtain ⟨o2v, o2⟩ := o2
          cases o2 with
          | none => exact absurd rfl hD1
          | some c =>
            simp only [errV] at HOP
            go_wp2_with fail
            with_reducible refine HOP.out.mono ?_
            rintro e w9 ⟨A9, c9, rfl, hC9, hb9⟩
            clear HOP hC9
            have hb9' := below_then hb8' hb8'.size hb9
            have hB9 := below_then hB2 hB2.size hb9'
            have hCS9 := Kd.C_below hCS hb9'
            have hCD9 := Kd.C_below hCD hb9
            have hop := open_any ad A2 c2 S s w9 (HE.out.below hB9) (by decide) (by decide) hCS9 hcS hnS.out HSB.out hs (by omega)
            rw [HOS.out] at hop
            simp only [errV] at hop
            have HOP := Lib.hid hop
            clear hop hb8' hb9 hCD
            go_wp2_with fail
            with_reducible refine HOP.out.mono ?_
            rintro e w10 ⟨A10, c10, rfl, hC10, hb10⟩
            clear HOP
            have hB10 := below_then hB9 hB9.size hb10
            have hCS10 := Kd.C_below hCS9 hb10
            have hCD10 := Kd.C_below hCD9 hb10
            have hC010 := Kd.C_below hC0 hB10
            have hdec : decide (D = S) = false := decide_eq_false hD2
            have HS1 := fun W (hW : Below w10.heap.size w10 W) => same_any (some ⟨g6, 0, none⟩) A2 c6 c2 D S W (Kd.C_below hCD10 hW) (Kd.C_below hCS10 hW)
            rw [hdec, HBL.out] at HS1
            have HS2 := fun W (hW : Below w10.heap.size w10 W) => same_any A10 a0 c10 cap0 l0 l0 W (Kd.C_below hC10 hW) (Kd.C_below hC010 hW)
            rw [decide_eq_true rfl] at HS2
            have HS1' := Lib.hid HS1
            have HS2' := Lib.hid HS2
            clear HS1 HS2 hCS10 hCD10 hC010 hC10 hCS9 hCD9 hdec hD1 hD2 hB8 hB9 hb9' hb10 hCS
            have hBB : Hid ((o1.2 = none) ↔ B = 0) := HB0'.out
            clear HB0'
            obtain ⟨o1v, o1⟩ := o1
            cases o1 with
            | none =>
              have hB00 : B = 0 := hBB.out.1 rfl
              subst hB00
              clear hBB
              simp only [errV]
              go_wp2_with fail
              go_region_held3 (fun w' => Below w10.heap.size w10 w')
                (first
                  | go_keep
                  | exact (Below.refl _ _).drew
                  | exact Drawn.below (by assumption) hD)
                (first
                  | (go_at_call 15
                     (first
                      | (with_reducible refine (HS1'.out _ (by assumption)).mono ?_; rintro e w11 ⟨rfl, hD⟩)
                      | (with_reducible refine (HS2'.out _ (by assumption)).mono ?_; rintro e w11 ⟨rfl, hD⟩))))
              all_goals
                go_wp2
                go_ret
                refine ⟨rfl, ?_⟩
                exact below_then hB10 hB10.size (by assumption)
            | some c0 =>
              have hB00 : ¬ B = 0 := fun h => by have := hBB.out.2 h; cases this
              have hbne : ((B : Int) != 0) = true := by simp; omega
              clear hBB hB00
              simp only [errV]
              go_wp2_with fail
              go_region_held3 (fun w' => Below w10.heap.size w10 w')
                (first
                  | go_keep
                  | exact (Below.refl _ _).drew
                  | exact Drawn.below (by assumption) hD)
                (first
                  | (go_at_call 15
                     (first
                      | (with_reducible refine (HS1'.out _ (by assumption)).mono ?_; rintro e w11 ⟨rfl, hD⟩)
                      | (with_reducible refine (HS2'.out _ (by assumption)).mono ?_; rintro e w11 ⟨rfl, hD⟩))))
              all_goals
                go_wp2
                go_ret
                refine ⟨rfl, ?_⟩
                exact below_then hB10 hB10.size (by assumption)

end Go.Proofs.YtnkeigpbceniaaaDoor
