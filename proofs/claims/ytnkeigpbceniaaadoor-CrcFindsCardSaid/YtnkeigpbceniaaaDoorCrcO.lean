/- Contracts of bytes.Equal, the reference's sums and seals, and both Opens of chapter 1: each returns what the plain functions say; memory that was there stays. -/
import Derived.Test.YtnkeigpbceniaaaDoorProg
import Derived.Test.YtnkeigpbceniaaaDoorCrcS
import Derived.Test.YtnkeigpbceniaaaDoorClone
import Derived.Test.YtnkeigpbceniaaaDoorRefB
import Derived.Test.YtnkeigpbceniaaaDoorSee
import Derived.Deep.RegionHeld3
namespace Go.Proofs.YtnkeigpbceniaaaDoor
open Go.RowKit Go.Proofs.YtnkeigpbceniaaaDoorW.PrintWords

theorem strOfNums_inj {xs ys : List Int} (hx : ∀ x ∈ xs, 0 ≤ x ∧ x < 256) (hy : ∀ x ∈ ys, 0 ≤ x ∧ x < 256) (h : strOfNums xs = strOfNums ys) : xs = ys := by
  have e : ∀ zs : List Int, (∀ x ∈ zs, 0 ≤ x ∧ x < 256) → bytesOf (strOfNums zs) = zs := by
    intro zs hz
    unfold bytesOf strOfNums
    simp only [List.map_map]
    conv => rhs; rw [← List.map_id zs]
    apply List.map_congr_left
    intro a ha
    have := hz a ha
    simp
    omega
  rw [← e xs hx, ← e ys hy, h]

set_option maxHeartbeats 400000 in
theorem equal_any (A B : Option Addr) (c d : Nat) (xs ys : List Int) (w : World) (hx : Kd.C (Kd.int .u8) w A xs.length xs) (hy : Kd.C (Kd.int .u8) w B ys.length ys)
    (bx : ∀ x ∈ xs, 0 ≤ x ∧ x < 256) (byy : ∀ x ∈ ys, 0 ≤ x ∧ x < 256) :
    Calls Tryd.prog 19 #[.slice A xs.length c, .slice B ys.length d] w fun e w' => e = .returned (.bool (decide (xs = ys))) ∧ w = w' := by
  have h1 := convert_C (P := Tryd.prog) hx c 22 5 9 Tryd.underlying22 Tryd.underlying5 Tryd.underlying9
  have h2 := convert_C (P := Tryd.prog) hy d 22 5 9 Tryd.underlying22 Tryd.underlying5 Tryd.underlying9
  have HE : Hid (((strOfNums xs).toList == (strOfNums ys).toList) = decide (xs = ys)) := by
    show (_ == _) = _
    rw [str_eqb]
    exact decide_eq_decide.2 ⟨strOfNums_inj bx byy, fun h => by rw [h]⟩
  clear hx hy
  generalize strOfNums xs = s at *
  generalize strOfNums ys = t at *
  go_enter Tryd.func19, Tryd.ntmps19
  go_wp2
  go_ret
  exact ⟨by rw [← HE.out]; rfl, rfl⟩

set_option maxHeartbeats 800000 in
set_option maxRecDepth 100000 in
theorem radd_any (r b : Nat) (w : World) (hr : r < 4294967296) (hb : b < 256) :
    Calls Tryd.prog 23 #[.int .u32 r, .int .u8 b] w fun e w' => e = .returned (.int .u32 (crcStep r b : Nat)) ∧ w = w' := by
  have hx : bits .xor .u32 (r : Int) (b : Int) = ((r ^^^ b : Nat) : Int) := u32_xor_nat r b hr (by omega)
  have hxl : r ^^^ b < 4294967296 := Nat.xor_lt_two_pow (n := 32) hr (by omega)
  have HX := Lib.hid hx
  clear hx
  go_enter Tryd.func23, Tryd.ntmps23
  go_wp2
  go_loop [0, 5] (fun t i => ∃ k x : Nat, k ≤ 8 ∧ i = .int .i64 k ∧ t = .int .u32 x ∧ x < 4294967296 ∧ Hid (crcBits k (r ^^^ b) = x)) (fun _ i => 8 - (intOf i).toNat)
  case atStart => exact ⟨0, r ^^^ b, by omega, rfl, by rw [← HX.out], hxl, rfl⟩
  case round =>
    obtain ⟨k, x, hk, rfl, rfl, hxx, HK⟩ := hrel
    by_cases hlt : k < 8
    · have hb0 : decide ((k : Int) < 8) = true := decide_eq_true (by omega)
      have h1 : bits .and .u32 (x : Int) 1 = ((x % 2 : Nat) : Int) := by
        have := u32_and_nat x 1 hxx (by omega)
        rw [show ((1 : Nat) : Int) = 1 from rfl] at this
        rw [this, nat_mask1]
      have h2 : bits .xor .u32 ((x : Int) / 2) 3988292384 = ((x / 2 ^^^ 3988292384 : Nat) : Int) := by
        rw [show (x : Int) / 2 = ((x / 2 : Nat) : Int) by omega]
        exact u32_xor_nat (x / 2) 3988292384 (by omega) (by omega)
      have hc := crcBits_succ k (r ^^^ b)
      rw [HK.out] at hc
      have HC := Lib.hid hc
      have H2 := Lib.hid h2
      have hl := crcBit_lt x hxx
      clear hc h2 hb
      by_cases hodd : x % 2 = 1
      · rw [hodd] at h1
        go_wp2
        go_round
        case rel => exact ⟨k + 1, crcBit x, by omega, by go_num, by rw [H2.out]; unfold crcBit; rw [if_pos hodd], hl, HC.out⟩
        case measure => simp [intOf]; omega
      · have hev : x % 2 = 0 := by omega
        rw [hev] at h1
        go_wp2
        go_round
        case rel => exact ⟨k + 1, crcBit x, by omega, by go_num, by unfold crcBit; rw [if_neg hodd]; simp, hl, HC.out⟩
        case measure => simp [intOf]; omega
    · obtain rfl : k = 8 := by omega
      go_wp2
      go_ret
      exact ⟨by unfold crcStep; rw [HK.out]; rfl, rfl⟩

set_option maxHeartbeats 800000 in
set_option maxRecDepth 100000 in
theorem rsum_any (A : Option Addr) (c : Nat) (xs : List Int) (w : World) (hx : Kd.C (Kd.int .u8) w A xs.length xs) (hby : ∀ x ∈ xs, 0 ≤ x ∧ x < 256) :
    Calls Tryd.prog 13 #[.slice A xs.length c] w fun e w' => e = .returned (.int .u32 (crcMore 0 xs : Nat)) ∧ w = w' := by
  have hxl : xs.length ≤ 9223372036854775807 := hx.2.1
  have HB := Lib.hid hby
  clear hby
  go_enter Tryd.func13, Tryd.ntmps13
  go_wp2
  go_loop [3, 4] (fun t i => ∃ k x : Nat, k ≤ xs.length ∧ i = .int .i64 k ∧ t = .int .u32 x ∧ x < 4294967296 ∧ Hid (crcFold 4294967295 (xs.take k) = x)) (fun _ i => xs.length - (intOf i).toNat)
  case atStart => exact ⟨0, 4294967295, by omega, rfl, rfl, by omega, rfl⟩
  case round =>
    obtain ⟨k, x, hk, rfl, rfl, hxx, HK⟩ := hrel
    by_cases hlt : k < xs.length
    · obtain ⟨a, rfl, hcell⟩ := C_nat hx hlt
      have hsn := crcFold_snoc 4294967295 xs k hlt
      have hyb := HB.out (xs.getD k 0) (by rw [List.getD_eq_getElem?_getD, List.getElem?_eq_getElem hlt]; exact List.getElem_mem hlt)
      generalize xs.getD k 0 = y at hcell hsn hyb
      obtain ⟨n, rfl⟩ := Int.eq_ofNat_of_zero_le hyb.1
      rw [HK.out, Int.toNat_natCast] at hsn
      have HSN := Lib.hid hsn
      have hnl : n < 256 := by omega
      have hst := crcStep_lt x n hxx hnl
      clear hsn hyb
      go_wp2_with (go_at_call 23; refine (radd_any x n _ hxx hnl).mono ?_; rintro e w' ⟨rfl, rfl⟩)
      go_round
      case rel => exact ⟨k + 1, crcStep x n, by omega, by go_num, rfl, hst, HSN.out⟩
      case measure => simp [intOf]; omega
    · obtain rfl : k = xs.length := by omega
      have hn2 := not32 x hxx
      have HN2 := Lib.hid hn2
      have hk2 := HK.out
      rw [List.take_length] at hk2
      have HK2 := Lib.hid hk2
      clear hn2 hk2
      go_wp2
      go_ret
      exact ⟨by unfold crcMore; rw [Nat.sub_zero, HK2.out, ← HN2.out]; rfl, rfl⟩

set_option maxHeartbeats 800000 in
set_option maxRecDepth 100000 in
theorem rfour_any (n : Nat) (w : World) (hn : n < 4294967296) :
    Calls Tryd.prog 27 #[.int .u32 n] w fun e w' => e = .returned (.slice (some ⟨w.heap.size, 0, none⟩) 4 4) ∧ w' = w.alloc (.cells ((four n).map (Value.int .u8)).toArray 5) := by
  go_enter Tryd.func27, Tryd.ntmps27
  go_wp2
  go_ret
  refine ⟨rfl, ?_⟩
  have h3 : (n : Int) / 16777216 % 256 = (n : Int) / 16777216 := by omega
  simp [four, h3]

set_option maxHeartbeats 800000 in
set_option maxRecDepth 100000 in
theorem rseal1_any (A : Option Addr) (c : Nat) (b : List Int) (s : Nat) (w : World) (hx : Kd.C (Kd.int .u8) w A b.length b) (hn : A = none → c = 0) (hby : ∀ x ∈ b, 0 ≤ x ∧ x < 256) (hs : s < 4294967296) (hl : b.length ≤ 140737488351232) :
    Calls Tryd.prog 20 #[.slice A b.length c, .int .u32 s] w fun e w' => ∃ g, e = .returned (.slice (some ⟨g, 0, none⟩) 4 4) ∧ w.heap.size ≤ g ∧ w'.heap[g]? = some (.cells (nums .u8 (four (crcMore 0 (four s ++ b)))).toArray 5 (0, 0)) ∧ Below w.heap.size w w' := by
  have HB := Lib.hid hby
  have HN := Lib.hid hn
  clear hby hn
  go_enter Tryd.func20, Tryd.ntmps20
  go_wp2_with fail
  refine (rfour_any s _ hs).mono ?_
  rintro e w1 ⟨rfl, he1⟩
  have hb1 : Below w.heap.size w w1 := by rw [he1]; exact (Below.refl _ _).alloc (Nat.le_refl _) _
  have ho : w1.ownsRow 0 5 1 (.slice (some ⟨w.heap.size, 0, none⟩) 4 4) 4 (nums .u8 (four s)) := by
    rw [he1]; exact own_lit (four s) (blk_new w _) (by simp [four, maxLen])
  have hx1 := Kd.C_below hx hb1
  have hs1 := hb1.size
  have hgl : w.heap.size < w1.heap.size := by rw [he1]; simp
  clear he1
  go_wp2_with (at_builtin; refine app_sl rfl _ _ 22 5 .u8 (.int .u8 0) 1 rfl Tryd.underlying22 infoC rfl (by decide) _ 4 _ A c b rfl rfl HN.out ho hx1 (by omega) ?_)
  rw [← nums_append]
  intro A1 c1 w2 ho2 hG
  have hB2 : Below w.heap.size w w2 := hb1.trans (hG.below _ (by omega) (fun k hk => by simp [Value.ownBlock] at hk; omega))
  have hC2 := C_own ho2
  have hl2 : 4 + b.length = (four s ++ b).length := by simp [four]; omega
  have hsu := rsum_any A1 c1 (four s ++ b) w2 hC2 (by
    intro x hx
    rcases List.mem_append.1 hx with h | h
    · exact four_bytes _ _ h
    · exact HB.out x h)
  rw [← hl2] at hsu
  have hxl := crcMore_lt 0 (four s ++ b)
  generalize hxx : crcMore 0 (four s ++ b) = x at hxl hsu
  have HS := Lib.hid hsu
  have HX := Lib.hid hxx
  clear hsu hl2 hxx
  go_wp2_with fail
  refine HS.out.mono ?_
  rintro e w3 ⟨rfl, rfl⟩
  go_wp2_with fail
  refine (rfour_any x _ hxl).mono ?_
  rintro e w3 ⟨rfl, he3⟩
  go_wp2
  go_ret
  have hs2 := hB2.size
  refine ⟨w2.heap.size, rfl, hs2, by rw [HX.out]; exact blk_new w2 _, ?_⟩
  exact hB2.alloc hs2 _

set_option maxHeartbeats 800000 in
set_option maxRecDepth 100000 in
theorem rseal_any (A : Option Addr) (c : Nat) (b : List Int) (s : Nat) (w : World) (hx : Kd.C (Kd.int .u8) w A b.length b) (hn : A = none → c = 0) (hby : ∀ x ∈ b, 0 ≤ x ∧ x < 256) (hs : s < 4294967296) (hl : b.length ≤ 140737488351232) :
    Calls Tryd.prog 11 #[.slice A b.length c, .int .u32 s] w fun e w' => ∃ A' c', e = .returned (.slice A' (sealB b s).length c') ∧ Kd.C (Kd.int .u8) w' A' (sealB b s).length (sealB b s) ∧ (sealB b s).length ≤ c' ∧ (A' = none → c' = 0) ∧ Below w.heap.size w w' := by
  have HB := Lib.hid hby
  have HN := Lib.hid hn
  clear hby hn
  go_enter Tryd.func11, Tryd.ntmps11
  go_wp2_with fail
  refine (refBytes_any A c b w hx (by omega)).mono ?_
  rintro e w1 ⟨A1, c1, rfl, ho1, hb1⟩
  have hx1 := Kd.C_below hx hb1
  have hs1 := hb1.size
  have HS := Lib.hid (rseal1_any A c b s w1 hx1 HN.out HB.out hs hl)
  clear hx1
  go_wp2_with fail
  refine HS.out.mono ?_
  rintro e w2 ⟨g, rfl, hg, hgc, hb2⟩
  have hB2 := below_then hb1 hs1 hb2
  have hC2 : Kd.C (Kd.int .u8) w2 (some ⟨g, 0, none⟩) (four (crcMore 0 (four s ++ b))).length (four (crcMore 0 (four s ++ b))) := C_lit _ hgc (by simp [four])
  have ho2 := own_weaken (own_below ho1 hb2) (Nat.zero_le w.heap.size)
  have hown1 : ∀ k, (Value.slice A1 b.length c1).ownBlock = some k → w.heap.size ≤ k := fun k hk => own_base ho1 k hk
  have hse : sealB b s = b ++ four (crcMore 0 (four s ++ b)) := rfl
  generalize crcMore 0 (four s ++ b) = x at hC2 hse
  clear HS hgc
  go_wp2_with (at_builtin; refine app_sl rfl _ _ 22 5 .u8 (.int .u8 0) 1 rfl Tryd.underlying22 infoC rfl (by decide) _ b.length _ (some ⟨g, 0, none⟩) 4 (four x) rfl rfl (fun h => by cases h) ho2 hC2 (by simp [four]; omega) ?_)
  rw [← nums_append, ← List.length_append, ← hse]
  intro A3 c3 w3 ho3 hG
  go_wp2
  go_ret
  have hs2 := hB2.size
  exact ⟨A3, c3, by simp [hse], C_own ho3, own_cap ho3, own_nd ho3, hB2.trans (hG.below _ hs2 hown1)⟩

/-- what was sealed, and the error's number -/
def openB (b : List Int) (s : Nat) : List Int × Option Nat := if b.length < 4 then ([], some 101) else if sealB (b.take (b.length - 4)) s = b then (b.take (b.length - 4), none) else ([], some 103)

set_option maxHeartbeats 800000 in
set_option maxRecDepth 100000 in
theorem open_any {L : List Nat} (ad : Nat → Addr) (A : Option Addr) (c : Nat) (b : List Int) (s : Nat) (w : World) (hE : EOk L ad w) (hL1 : 101 ∈ L) (hL3 : 103 ∈ L) (hx : Kd.C (Kd.int .u8) w A b.length b) (hc : b.length ≤ c) (hn : A = none → c = 0) (hby : ∀ x ∈ b, 0 ≤ x ∧ x < 256) (hs : s < 4294967296) (hl : b.length ≤ 140737488351232) :
    Calls Tryd.prog 8 #[.slice A b.length c, .int .u32 s] w fun e w' => ∃ A' c', e = .returned (.tuple #[.slice A' (openB b s).1.length c', errV ad (openB b s).2]) ∧ Kd.C (Kd.int .u8) w' A' (openB b s).1.length (openB b s).1 ∧ Below w.heap.size w w' := by
  have HB := Lib.hid hby
  have HN := Lib.hid hn
  obtain ⟨i0, hi', hz0, hz1, hz2⟩ := info_parts infoC
  clear hby hn
  by_cases h4 : b.length < 4
  · have e1 := (hE 101 hL1).1
    have HO : Hid (openB b s = ([], some 101)) := by show _ = _; unfold openB; rw [if_pos h4]
    have hb0 : decide ((b.length : Int) < 4) = true := decide_eq_true (by omega)
    simp only [errV, gnum] at e1
    clear hE
    go_enter Tryd.func8, Tryd.ntmps8
    go_wp2
    go_quiet (fail)
    go_wp2
    go_ret2
    rw [HO.out]
    exact ⟨none, 0, rfl, C_nil _ _ _, below_drewN (Below.refl _ _) _⟩
  · have hb0 : decide ((b.length : Int) < 4) = false := decide_eq_false (by omega)
    obtain ⟨p1, p2, p3⟩ := print_take_of (P := Tryd.prog) (Value.int .u8) 0 22 5 .i64 Tryd.underlying22 hi' hz1 A c b ((b.length : Int) - 4) (by omega) (by omega) hc
    have ht : ((b.length : Int) - 4).toNat = b.length - 4 := by omega
    rw [ht] at p1 p2 p3
    have cp := Kd.C_of_reads (d := 0) (h1 := fun _ => rfl) (p2 w (Kd.reads_of_C hx))
    have htl : (b.take (b.length - 4)).length = b.length - 4 := by simp
    have htb : ∀ x ∈ b.take (b.length - 4), 0 ≤ x ∧ x < 256 := fun x hx => HB.out x (List.mem_of_mem_take hx)
    have HO : Hid (openB b s = if sealB (b.take (b.length - 4)) s = b then (b.take (b.length - 4), none) else ([], some 103)) := by show _ = _; unfold openB; rw [if_neg h4]
    clear p2 ht
    generalize b.take (b.length - 4) = t at *
    have Hc := Lib.hid (clone_any A c t w cp (by omega))
    have htl2 : t.length ≤ 140737488351232 := by omega
    clear htl cp
    have HL := Lib.hid (sealB_len t s)
    have hsb := sealB_bytes t s htb
    have HSB := Lib.hid hsb
    have HTB := Lib.hid htb
    clear hsb htb
    go_enter Tryd.func8, Tryd.ntmps8
    go_wp2_with fail
    refine Hc.out.mono ?_
    rintro e w1 ⟨A1, c1, rfl, ho1, hb1⟩
    have HS := Lib.hid (seal_any A1 c1 t s w1 (C_own ho1) (own_cap ho1) (own_nd ho1) HTB.out hs htl2)
    have hs1 := hb1.size
    clear Hc
    go_wp2_with fail
    refine HS.out.mono ?_
    rintro e w2 ⟨A2, c2, rfl, ho2, hb2⟩
    have hB2 := below_then hb1 hs1 hb2
    have HE := Lib.hid (equal_any A2 A c2 c (sealB t s) b w2 (C_own ho2) (Kd.C_below hx hB2) HSB.out HB.out)
    have hC1 := Kd.C_below (C_own ho1) hb2
    have e3 := (hE.below hB2 103 hL3).1
    simp only [errV, gnum] at e3
    clear HS hE ho1 ho2
    go_wp2_with fail
    refine HE.out.mono ?_
    rintro e w3 ⟨rfl, rfl⟩
    clear HE
    by_cases he : sealB t s = b
    · rw [if_pos he] at HO
      have hd : decide (sealB t s = b) = true := decide_eq_true he
      have HEE := Lib.hid he
      clear he
      go_wp2
      go_ret2
      rw [HO.out]
      exact ⟨A1, c1, rfl, hC1, hB2⟩
    · rw [if_neg he] at HO
      have hd : decide (sealB t s = b) = false := decide_eq_false he
      clear he
      go_wp2
      go_quiet (fail)
      go_wp2
      go_ret2
      rw [HO.out]
      exact ⟨none, 0, rfl, C_nil _ _ _, below_drewN hB2 _⟩

set_option maxHeartbeats 800000 in
set_option maxRecDepth 100000 in
theorem ropen_any (A : Option Addr) (c : Nat) (b : List Int) (s : Nat) (w : World) (hx : Kd.C (Kd.int .u8) w A b.length b) (hc : b.length ≤ c) (hn : A = none → c = 0) (hby : ∀ x ∈ b, 0 ≤ x ∧ x < 256) (hs : s < 4294967296) (hl : b.length ≤ 140737488351232) :
    Calls Tryd.prog 9 #[.slice A b.length c, .int .u32 s] w fun e w' => ∃ A' c', e = .returned (.tuple #[.slice A' (openB b s).1.length c', .int .i64 (codeOf (openB b s).2)]) ∧ Kd.C (Kd.int .u8) w' A' (openB b s).1.length (openB b s).1 ∧ Below w.heap.size w w' := by
  have HB := Lib.hid hby
  have HN := Lib.hid hn
  obtain ⟨i0, hi', hz0, hz1, hz2⟩ := info_parts infoC
  clear hby hn
  by_cases h4 : b.length < 4
  · have HO : Hid (openB b s = ([], some 101)) := by show _ = _; unfold openB; rw [if_pos h4]
    have hb0 : decide ((b.length : Int) - 4 < 0) = true := decide_eq_true (by omega)
    go_enter Tryd.func9, Tryd.ntmps9
    go_wp2
    go_ret2
    rw [HO.out]
    exact ⟨none, 0, rfl, C_nil _ _ _, (Below.refl _ _)⟩
  · have hb0 : decide ((b.length : Int) - 4 < 0) = false := decide_eq_false (by omega)
    obtain ⟨p1, p2, p3⟩ := print_take_of (P := Tryd.prog) (Value.int .u8) 0 22 5 .i64 Tryd.underlying22 hi' hz1 A c b ((b.length : Int) - 4) (by omega) (by omega) hc
    obtain ⟨aq, q1, q2, q3⟩ := print_drop_of (P := Tryd.prog) (Value.int .u8) 0 22 5 .i64 Tryd.underlying22 hi' hz1 A c b ((b.length : Int) - 4) (by omega) (by omega) hc
    have ht : ((b.length : Int) - 4).toNat = b.length - 4 := by omega
    rw [ht] at p1 p2 p3 q1 q2 q3
    have cp := Kd.C_of_reads (d := 0) (h1 := fun _ => rfl) (p2 w (Kd.reads_of_C hx))
    have cq := Kd.C_of_reads (d := 0) (h1 := fun _ => rfl) (q2 w (Kd.reads_of_C hx))
    have htl : (b.take (b.length - 4)).length = b.length - 4 := by simp
    have hql : (b.drop (b.length - 4)).length = 4 := by simp; omega
    have htb : ∀ x ∈ b.take (b.length - 4), 0 ≤ x ∧ x < 256 := fun x hx => HB.out x (List.mem_of_mem_take hx)
    have hcat : b.take (b.length - 4) ++ b.drop (b.length - 4) = b := List.take_append_drop _ _
    have HO : Hid (openB b s = if sealB (b.take (b.length - 4)) s = b then (b.take (b.length - 4), none) else ([], some 103)) := by show _ = _; unfold openB; rw [if_neg h4]
    clear p2 q2 ht
    generalize b.take (b.length - 4) = t at *
    generalize b.drop (b.length - 4) = u at *
    have Hb := Lib.hid (fun W (hW : Below w.heap.size w W) => refBytes_any A c t W (Kd.C_below cp hW) (by omega))
    have htl2 : t.length ≤ 140737488351232 := by omega
    have hse : sealB t s = t ++ four (crcMore 0 (four s ++ t)) := rfl
    have HS := Lib.hid (fun W (hW : Below w.heap.size w W) => rseal1_any A c t s W (Kd.C_below cp hW) HN.out htb hs htl2)
    have hxl := crcMore_lt 0 (four s ++ t)
    have heq : (four (crcMore 0 (four s ++ t)) = u) ↔ sealB t s = b := by
      rw [hse, ← hcat]
      exact ⟨fun h => by rw [h], fun h => List.append_cancel_left h⟩
    generalize crcMore 0 (four s ++ t) = x at *
    have HQ := Lib.hid heq
    have HU := Lib.hid hql
    have HSE := Lib.hid hse
    have HCAT := Lib.hid hcat
    have fl : (four x).length = 4 := by simp [four]
    have HSB := Lib.hid (fun W g (hg : W.heap[g]? = some (.cells (nums .u8 (four x)).toArray 5 (0, 0))) (hW : Below w.heap.size w W) => same_any (some ⟨g, 0, none⟩) aq 4 (c - (b.length - 4)) (four x) u W (C_lit _ hg (by simp [four])) (Kd.C_below cq hW))
    simp only [fl] at HSB
    obtain ⟨bq, hbq⟩ : ∃ bq, bq = decide (four x = u) := ⟨_, rfl⟩
    rw [← hbq] at HSB
    have HBQ := Lib.hid hbq
    clear hbq
    clear htl cp cq heq hse hcat fl hql
    go_enter Tryd.func9, Tryd.ntmps9
    go_wp2_with fail
    go_region_held3 (fun w' => Below w.heap.size w w')
      (first
        | go_keep
        | exact (Below.refl _ _).drew
        | exact below_then (by assumption) (Below.size (by assumption)) hb1
        | exact Drawn.below (by assumption) hD)
      (first
        | (go_at_call 20
           refine (HS.out _ (by assumption)).mono ?_
           rintro e w1 ⟨g, rfl, hg, hgc, hb1⟩)
        | (go_at_call 15
           refine (HSB.out _ _ (by assumption) (by assumption)).mono ?_
           rintro e w2 ⟨rfl, hD⟩))
    all_goals
      have hB2 : Below w.heap.size w w2 := by assumption
      cases bq with
      | true =>
        have HSEAL := Lib.hid (HQ.out.1 (of_decide_eq_true HBQ.out.symm))
        clear HQ HSB HS HBQ
        go_wp2_with fail
        refine (Hb.out _ hB2).mono ?_
        rintro e w3 ⟨A3, c3, rfl, ho3, hb3⟩
        go_wp2
        go_ret2
        rw [HO.out, if_pos HSEAL.out]
        exact ⟨A3, c3, rfl, C_own ho3, below_then hB2 hB2.size hb3⟩
      | false =>
        have HSEAL := Lib.hid (fun h => (of_decide_eq_false HBQ.out.symm) (HQ.out.2 h))
        clear HQ HSB HS HBQ
        go_wp2
        go_ret2
        rw [HO.out, if_neg HSEAL.out]
        exact ⟨none, 0, rfl, C_nil _ _ _, hB2⟩

end Go.Proofs.YtnkeigpbceniaaaDoor
