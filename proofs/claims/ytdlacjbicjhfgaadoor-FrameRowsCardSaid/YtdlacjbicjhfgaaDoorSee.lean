/- Contracts of the statements' helper that sees errors as plain data: for the package's own errors, told by their places. -/
import Derived.Test.YtdlacjbicjhfgaaDoorProg
import Derived.Test.YtdlacjbicjhfgaaDoorErrs
import Derived.LaidEql
import Derived.Deep.RegionHeld3
import Derived.KernelRfl
namespace Go.Proofs.YtdlacjbicjhfgaaDoor
open Go.RowKit Go.Proofs.YtdlacjbicjhfgaaDoorW.PrintWords

theorem infoPtrE : (Tryd.prog.info? 77).map (fun i => i.comparable) = some true := by kernel_rfl
theorem infoE : (Tryd.prog.info? 93).map (fun i => decide (i.size = 0)) = some false := by kernel_rfl

/-- '==' of two of the package's errors -/
theorem eqlE {L : List Nat} {ad : Nat → Addr} {w : World} (hE : EOk L ad w) (hI : EInj L ad) (c d : Nat) (hc : c ∈ L) (hd : d ∈ L) :
    (binOp .eql 25 (errV ad (some c)) (errV ad (some d))).run Tryd.prog w = .ok (.bool (decide (c = d))) w := by
  obtain ⟨i, hi, hic⟩ := Option.map_eq_some_iff.1 infoPtrE
  obtain ⟨j, hj, hjs⟩ := Option.map_eq_some_iff.1 infoE
  by_cases h : c = d
  · subst h
    rw [decide_eq_true rfl]
    exact run_eql_iface_ptr_same w (ad c) Tryd.underlying25 Tryd.underlying77 hi hic hj
  · rw [decide_eq_false h]
    obtain ⟨_, _, cs, t, h1⟩ := hE c hc
    obtain ⟨_, _, cs2, t2, h2⟩ := hE d hd
    exact run_eql_iface_ptr_other w Tryd.underlying25 Tryd.underlying77 hi hic hj (by simpa using hjs) (hI c hc d hd h) h1 h2

set_option maxHeartbeats 400000 in
theorem alike_any {L : List Nat} (ad : Nat → Addr) (c d : Nat) (w : World) (hE : EOk L ad w) (hI : EInj L ad) (hc : c ∈ L) (hd : d ∈ L) :
    Calls Tryd.prog 39 #[errV ad (some c), errV ad (some d)] w fun e w' => e = .returned (.bool (decide (c = d))) ∧ w = w' := by
  have hq := eqlE hE hI c d hc hd
  simp only [errV] at hq ⊢
  clear hE
  go_enter Tryd.func39, Tryd.ntmps39
  go_wp2
  go_ret
  exact ⟨rfl, rfl⟩

/-- the sixteen errors, by their places -/
def allE : List Nat := [101, 102, 103, 104, 105, 106, 107, 108, 109, 110, 111, 112, 113, 114, 115, 116]

set_option maxHeartbeats 1600000 in
set_option maxRecDepth 100000 in
theorem sentinels_any (ad : Nat → Addr) (w : World) (hE : EOk allE ad w) :
    Calls Tryd.prog 38 #[] w fun e w' => e = .returned (.slice (some ⟨w.heap.size, 0, none⟩) 16 16) ∧ w' = w.alloc (.cells (allE.map fun c => errV ad (some c)).toArray 25) := by
  have h1 := (hE 101 (by decide)).1
  have h2 := (hE 102 (by decide)).1
  have h3 := (hE 103 (by decide)).1
  have h4 := (hE 104 (by decide)).1
  have h5 := (hE 105 (by decide)).1
  have h6 := (hE 106 (by decide)).1
  have h7 := (hE 107 (by decide)).1
  have h8 := (hE 108 (by decide)).1
  have h9 := (hE 109 (by decide)).1
  have h10 := (hE 110 (by decide)).1
  have h11 := (hE 111 (by decide)).1
  have h12 := (hE 112 (by decide)).1
  have h13 := (hE 113 (by decide)).1
  have h14 := (hE 114 (by decide)).1
  have h15 := (hE 115 (by decide)).1
  have h16 := (hE 116 (by decide)).1
  simp only [errV, gnum] at h1 h2 h3 h4 h5 h6 h7 h8 h9 h10 h11 h12 h13 h14 h15 h16
  clear hE
  go_enter Tryd.func38, Tryd.ntmps38
  go_wp2
  go_ret
  exact ⟨rfl, rfl⟩

theorem allE_at : ∀ k : Fin 16, allE[k.val]? = some (101 + k.val) := by decide
theorem allE_mem (c : Nat) (h : c ∈ allE) : 101 ≤ c ∧ c ≤ 116 := by
  simp [allE] at h; omega
theorem mem_allE (k : Nat) (h : k < 16) : 101 + k ∈ allE := List.mem_of_getElem? (allE_at ⟨k, h⟩)

set_option maxHeartbeats 1600000 in
set_option maxRecDepth 100000 in
theorem sentinel_any (ad : Nat → Addr) (c : Nat) (w : World) (hE : EOk allE ad w) (hI : EInj allE ad) (hc : c ∈ allE) :
    Calls Tryd.prog 34 #[errV ad (some c)] w fun e w' => e = .returned (.int .i64 (c : Int)) ∧ w' = w.alloc (.cells (allE.map fun c => errV ad (some c)).toArray 25) := by
  have hcr := allE_mem c hc
  have hcells : ∀ k, k < 16 → (w.alloc (.cells (allE.map fun c => errV ad (some c)).toArray 25)).cell? ⟨w.heap.size, k, none⟩ = some (errV ad (some (101 + k))) := fun k hk => by
    rw [blk_cell (blk_new w _)]
    simp only [List.getElem?_toArray, List.getElem?_map, allE_at ⟨k, hk⟩, Option.map_some]
  have Hs := Lib.hid (sentinels_any ad w hE)
  have hE2 := hE.below (w1 := w.alloc (.cells (allE.map fun c => errV ad (some c)).toArray 25)) ((Below.refl _ _).alloc (Nat.le_refl _) _)
  have HC := Lib.hid hcells
  clear hcells
  simp only [errV]
  go_enter Tryd.func34, Tryd.ntmps34
  go_wp2_with fail
  refine Hs.out.mono ?_
  rintro e w1 ⟨rfl, hw1⟩
  rw [← hw1] at hE2 HC
  have HW := Lib.hid hw1
  clear Hs hE hw1
  go_wp2_with fail
  go_loop [4] (fun i => ∃ k : Nat, 101 + k ≤ c ∧ i = .int .i64 k) (fun i => 16 - (intOf i).toNat)
  case atStart => exact ⟨0, by omega, rfl⟩
  case round =>
    obtain ⟨k, hk, rfl⟩ := hrel
    have hlt : k < 16 := by omega
    have hltb : decide ((k : Int) < 16) = true := decide_eq_true (by omega)
    have hcell := HC.out k hlt
    have Ha := alike_any ad c (101 + k) w1 hE2 hI hc (mem_allE k hlt)
    simp only [errV] at hcell Ha
    have HA := Lib.hid Ha
    clear Ha
    by_cases hq : c = 101 + k
    · rw [decide_eq_true hq] at HA
      have HQ := Lib.hid hq
      clear hq hk
      go_wp2_with fail
      refine HA.out.mono ?_
      rintro e w2 ⟨rfl, rfl⟩
      go_wp2
      go_ret
      refine ⟨?_, HW.out⟩
      rw [HQ.out]
      simp
    · rw [decide_eq_false hq] at HA
      have hk2 : 101 + k < c := by omega
      clear hq
      go_wp2_with fail
      refine HA.out.mono ?_
      rintro e w2 ⟨rfl, rfl⟩
      go_wp2
      go_round
      case rel => exact ⟨k + 1, by omega, by go_num⟩
      case measure => simp [intOf]; omega

/-- a fault's value -/
def faultV (code : Int) (placed : Bool) (pos : Int) : Value := .agg #[.int .i64 code, .bool placed, .int .i64 pos]

set_option maxHeartbeats 400000 in
theorem bare_any (code : Int) (w : World) :
    Calls Tryd.prog 24 #[.int .i64 code] w fun e w' => e = .returned (faultV code false 0) ∧ Below w.heap.size w w' := by
  go_enter Tryd.func24, Tryd.ntmps24
  go_wp2
  refine bodyPost_ret (v := faultV code false 0) (by simp [faultV, results, Tryd.results24, go_sem]) rfl ⟨rfl, ?_⟩
  exact ((Below.refl _ _).alloc (Nat.le_refl _) _)
set_option maxHeartbeats 400000 in
theorem none_any (w : World) :
    Calls Tryd.prog 33 #[] w fun e w' => e = .returned (faultV 0 false 0) ∧ Below w.heap.size w w' := by
  go_enter Tryd.func33, Tryd.ntmps33
  go_wp2
  refine bodyPost_ret (v := faultV 0 false 0) (by simp [faultV, results, Tryd.results33, go_sem]) rfl ⟨rfl, ?_⟩
  exact ((Below.refl _ _).alloc (Nat.le_refl _) _)

set_option maxHeartbeats 800000 in
theorem sameFault_any (c d : Int) (p q : Bool) (i j : Int) (w : World) :
    Calls Tryd.prog 28 #[faultV c p i, faultV d q j] w fun e w' => e = .returned (.bool (decide (c = d) && (p == q) && decide (i = j))) ∧ Below w.heap.size w w' := by
  have hB : ∀ o1 o2, Below w.heap.size w ((w.alloc o1).alloc o2) := fun o1 o2 => ((Below.refl _ w).alloc (Nat.le_refl _) _).alloc (by simp) _
  unfold faultV
  by_cases h1 : c = d
  · subst h1
    by_cases h2 : p = q
    · subst h2
      by_cases h3 : i = j
      · subst h3
        go_enter Tryd.func28, Tryd.ntmps28
        go_wp2
        go_ret
        exact ⟨by simp, hB _ _⟩
      · have b3 : (i == j) = false := by simpa using h3
        go_enter Tryd.func28, Tryd.ntmps28
        go_wp2
        go_ret
        exact ⟨by simp [h3], hB _ _⟩
    · have b2 : (p == q) = false := by simpa using h2
      go_enter Tryd.func28, Tryd.ntmps28
      go_wp2
      go_ret
      exact ⟨by simp [h2], hB _ _⟩
  · have b1 : (c == d) = false := by simpa using h1
    go_enter Tryd.func28, Tryd.ntmps28
    go_wp2
    go_ret
    exact ⟨by simp [h1], hB _ _⟩

/-- an error's number: 0 for none -/
def codeOf : Option Nat → Int | none => 0 | some c => (c : Int)

set_option maxHeartbeats 1600000 in
set_option maxRecDepth 100000 in
theorem fault_any (ad : Nat → Addr) (err : Option Nat) (w : World) (hE : EOk allE ad w) (hI : EInj allE ad) (hc : ∀ c, err = some c → c ∈ allE) :
    Calls Tryd.prog 29 #[errV ad err] w fun e w' => e = .returned (faultV (codeOf err) false 0) ∧ Below w.heap.size w w' := by
  cases err with
  | none =>
    simp only [errV, codeOf]
    clear hE
    go_enter Tryd.func29, Tryd.ntmps29
    go_wp2_with fail
    refine (none_any _).mono ?_
    rintro e w1 ⟨rfl, hB⟩
    have hs := hB.size
    simp at hs
    unfold faultV
    have hh : w1.heap[w.heap.size]? = _ := (hB.block w.heap.size (by simp)).trans (blk_new w _)
    have hf := blk_frozen hh
    have hc0 : w1.cell? ⟨w.heap.size, 0, none⟩ = some (.int .i64 0) := by rw [blk_cell hh]; rfl
    have hc1 : w1.cell? ⟨w.heap.size, 1, none⟩ = some (.bool false) := by rw [blk_cell hh]; rfl
    have hc2 : w1.cell? ⟨w.heap.size, 2, none⟩ = some (.int .i64 0) := by rw [blk_cell hh]; rfl
    have hf0 := hf 0
    have hf1 := hf 1
    have hf2 := hf 2
    have hlt : w.heap.size < w1.heap.size := by omega
    go_wp2
    refine bodyPost_ret (v := faultV 0 false 0) (by simp [faultV, results, Tryd.results29, go_sem, hc0, hc1, hc2, hlt]) rfl ⟨rfl, ?_⟩
    exact (((((Below.refl _ w).alloc (Nat.le_refl _) _).trans (hB.mono (by simp))).setCell (by simp) _).setCell (by simp) _).setCell (by simp) _
  | some c =>
    have hcm := hc c rfl
    have hta : ∀ (v : Value) (W : World), (Instr.typeAssert (.iface 77 v) 25 67 true).run Tryd.prog W = .ok (.tuple #[.pointer none, .bool false]) W := fun v W => by rfl
    have hE2 := hE.below (w1 := w.alloc (.cells #[.int .i64 0, .bool false, .int .i64 0] 54)) ((Below.refl _ _).alloc (Nat.le_refl _) _)
    have Hs := sentinel_any ad c _ hE2 hI hcm
    simp only [errV, codeOf] at Hs ⊢
    have HS := Lib.hid Hs
    clear hE hE2 Hs hc
    go_enter Tryd.func29, Tryd.ntmps29
    go_wp2_with fail
    refine HS.out.mono ?_
    rintro e w0 ⟨rfl, hw0⟩
    have hB0 : Below (w.heap.size + 1) (w.alloc (.cells #[.int .i64 0, .bool false, .int .i64 0] 54)) w0 := by rw [hw0]; exact (Below.refl _ _).alloc (by simp) _
    have hs0 := hB0.size
    simp at hs0
    clear hw0 HS
    go_wp2_with fail
    refine (bare_any _ _).mono ?_
    rintro e w1 ⟨rfl, hB1⟩
    have hB : Below (w.heap.size + 1) (w.alloc (.cells #[.int .i64 0, .bool false, .int .i64 0] 54)) w1 := hB0.trans (hB1.mono (by omega))
    have hs := hB.size
    simp at hs
    clear hB0 hB1 hs0
    unfold faultV
    have hh : w1.heap[w.heap.size]? = _ := (hB.block w.heap.size (by omega)).trans (blk_new w _)
    have hf := blk_frozen hh
    have hc0 : w1.cell? ⟨w.heap.size, 0, none⟩ = some (.int .i64 0) := by rw [blk_cell hh]; rfl
    have hc1 : w1.cell? ⟨w.heap.size, 1, none⟩ = some (.bool false) := by rw [blk_cell hh]; rfl
    have hc2 : w1.cell? ⟨w.heap.size, 2, none⟩ = some (.int .i64 0) := by rw [blk_cell hh]; rfl
    have hf0 := hf 0
    have hf1 := hf 1
    have hf2 := hf 2
    have hlt : w.heap.size < w1.heap.size := by omega
    go_wp2
    refine bodyPost_ret (v := faultV c false 0) (by simp [faultV, results, Tryd.results29, go_sem, hc0, hc1, hc2, hlt]) rfl ⟨rfl, ?_⟩
    exact (((((Below.refl _ w).alloc (Nat.le_refl _) _).trans (hB.mono (by omega))).setCell (by simp) _).setCell (by simp) _).setCell (by simp) _

set_option maxHeartbeats 1600000 in
theorem see_same_any (ad : Nat → Addr) (err : Option Nat) (code : Int) (p : Bool) (pos : Int) (w : World) (hE : EOk allE ad w) (hI : EInj allE ad) (hc : ∀ c, err = some c → c ∈ allE) :
    Calls Tryd.prog 23 #[errV ad err, faultV code p pos] w fun e w' => e = .returned (.bool (decide (codeOf err = code) && !p && decide (0 = pos))) ∧ Below w.heap.size w w' := by
  have hE2 := hE.below (w1 := w.alloc (.cells #[.int .i64 code, .bool p, .int .i64 pos] 54)) ((Below.refl _ _).alloc (Nat.le_refl _) _)
  have hcell : (w.alloc (.cells #[.int .i64 code, .bool p, .int .i64 pos] 54)).heap[w.heap.size]? = _ := blk_new w _
  unfold faultV
  clear hE
  go_enter Tryd.func23, Tryd.ntmps23
  go_wp2_with fail
  have hc0 : (w.alloc (.cells #[.int .i64 code, .bool p, .int .i64 pos] 54)).cell? ⟨w.heap.size, 0, none⟩ = some (.int .i64 code) := by rw [blk_cell hcell]; rfl
  have hc1 : (w.alloc (.cells #[.int .i64 code, .bool p, .int .i64 pos] 54)).cell? ⟨w.heap.size, 1, none⟩ = some (.bool p) := by rw [blk_cell hcell]; rfl
  have hc2 : (w.alloc (.cells #[.int .i64 code, .bool p, .int .i64 pos] 54)).cell? ⟨w.heap.size, 2, none⟩ = some (.int .i64 pos) := by rw [blk_cell hcell]; rfl
  have hB0 : Below w.heap.size w (w.alloc (.cells #[.int .i64 code, .bool p, .int .i64 pos] 54)) := (Below.refl _ _).alloc (Nat.le_refl _) _
  have hlt : w.heap.size < (w.alloc (.cells #[.int .i64 code, .bool p, .int .i64 pos] 54)).heap.size := by simp
  generalize w.alloc (.cells #[.int .i64 code, .bool p, .int .i64 pos] 54) = W at *
  clear hcell
  have hB0d := hB0.drew
  have hE2d : EOk allE ad W.drew := hE2
  go_region_held3 (fun w' => Below w.heap.size w w' ∧ w.heap.size < w'.heap.size ∧ EOk allE ad w' ∧ w'.cell? ⟨w.heap.size, 0, none⟩ = some (.int .i64 code) ∧ w'.cell? ⟨w.heap.size, 1, none⟩ = some (.bool p) ∧ w'.cell? ⟨w.heap.size, 2, none⟩ = some (.int .i64 pos))
    (first
      | go_keep
      | (go_split_ands
         refine ⟨hB0d, ?_, hE2d, ?_, ?_, ?_⟩
         all_goals (first | assumption | (simp; assumption)))
      | (go_split_ands
         refine ⟨?_, ?_, ?_, ?_, ?_, ?_⟩
         · exact below_then (by assumption) (by omega) (by assumption)
         · have := hBn.size; omega
         · exact EOk.below (by assumption) hBn
         · (rw [hBn.cell (by assumption)]; assumption)
         · (rw [hBn.cell (by assumption)]; assumption)
         · (rw [hBn.cell (by assumption)]; assumption)))
    (first
      | (go_at_call 29; refine (fault_any ad err _ (by assumption) hI hc).mono ?_; rintro e wn ⟨rfl, hBn⟩)
      | (go_at_call 28; refine (sameFault_any _ _ _ _ _ _ _).mono ?_; rintro e wn ⟨rfl, hBn⟩))
  all_goals
    go_wp2
    go_ret
    refine ⟨rfl, ?_⟩
    rename_i wm hm _
    have hm' : Below W.drew.heap.size W.drew wm := hm
    have h1 := hB0d.size
    have h2 := hm'.size
    exact below_then (below_then hB0d h1 hm') (by omega) hBn

set_option maxHeartbeats 400000 in
theorem see_is_any (ad : Nat → Addr) (err : Option Nat) (code : Int) (w : World) (hE : EOk allE ad w) (hI : EInj allE ad) (hc : ∀ c, err = some c → c ∈ allE) :
    Calls Tryd.prog 13 #[errV ad err, .int .i64 code] w fun e w' => e = .returned (.bool (decide (codeOf err = code))) ∧ Below w.heap.size w w' := by
  go_enter Tryd.func13, Tryd.ntmps13
  go_wp2_with fail
  refine (bare_any _ _).mono ?_
  rintro e w1 ⟨rfl, hB1⟩
  have Hs := see_same_any ad err code false 0 w1 (hE.below hB1) hI hc
  simp only [Bool.not_false, Bool.and_true, decide_true] at Hs
  have HS := Lib.hid Hs
  clear Hs hE
  go_wp2_with fail
  refine HS.out.mono ?_
  rintro e w2 ⟨rfl, hB2⟩
  go_wp2
  go_ret
  exact ⟨rfl, below_then hB1 hB1.size hB2⟩
theorem see_is_lit (ad : Nat → Addr) (c : Nat) (d : Int) (w : World) (hE : EOk allE ad w) (hI : EInj allE ad) (hc : c ∈ allE) :
    Calls Tryd.prog 13 #[.iface 77 (.pointer (some (ad c))), .int .i64 d] w fun e w' => e = .returned (.bool (decide ((c : Int) = d))) ∧ Below w.heap.size w w' :=
  see_is_any ad (some c) d w hE hI (by intro x hx; cases hx; exact hc)
theorem see_is_nil (ad : Nat → Addr) (d : Int) (w : World) (hE : EOk allE ad w) (hI : EInj allE ad) :
    Calls Tryd.prog 13 #[.nilIface, .int .i64 d] w fun e w' => e = .returned (.bool (decide (0 = d))) ∧ Below w.heap.size w w' :=
  see_is_any ad none d w hE hI (by intro x hx; cases hx)

end Go.Proofs.YtdlacjbicjhfgaaDoor
