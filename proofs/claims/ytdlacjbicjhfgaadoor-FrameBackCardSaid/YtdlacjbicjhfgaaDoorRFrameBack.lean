/- The statement FrameBackSaid: the law FrameBack answers true for every input (its row, out of the walk). No condition beyond the row's own. -/
import Derived.Test.YtdlacjbicjhfgaaDoorCards
import Derived.Test.YtdlacjbicjhfgaaDoorTie
import Derived.Test.YtdlacjbicjhfgaaDoorLaid
import Derived.Test.YtdlacjbicjhfgaaDoorRows
import Derived.Test.YtdlacjbicjhfgaaDoorFrameBack
import Derived.WalkKit
import Derived.ProofKit
import Derived.OpenShut
import Derived.ShutString
import Derived.ChangeOld
import Derived.Below
import Derived.SizedLaws
import Derived.Test.YtdlacjbicjhfgaaDoorWSized
import Derived.Test.YtdlacjbicjhfgaaDoorWWords
import Derived.Test.YtdlacjbicjhfgaaDoorOpen
namespace Go.Proofs.YtdlacjbicjhfgaaDoor.frameBack
open Go.ChangeShapes Go.WideShapes Go.ChangeAt Go.RowKit
open Go.ChangeMaps (open_string shut_string)
open Go.Proofs.YtdlacjbicjhfgaaDoorW
set_option linter.unusedVariables false
theorem own : ownKnob Tryd.prog.godebug = none := by kernel_rfl
theorem laidOut : laidOutB Tryd.prog = true := by kernel_rfl
open Go.Proofs.YtdlacjbicjhfgaaDoor
/-- The door's own heap meets the condition. -/
theorem door_met (os : Os) (args : Array Value) : laidMetH Tryd.prog Rows.frameBackRow.laid ((World.doorLaid Tryd.prog 400 os).forCall (fun _ _ => 0) ⟨#[], args, []⟩).memory :=
  laidMetH_of_parts3 (fuel := 8) (laidMet_of_run' 8 (by kernel_rfl) (by kernel_rfl)) (by kernel_rfl) (by kernel_rfl)
def txt : Nat → List UInt8
  | 101 => [105, 116, 32, 101, 110, 100, 115, 32, 116, 111, 111, 32, 101, 97, 114, 108, 121]
  | 102 => [110, 111, 116, 32, 97, 115, 32, 105, 116, 32, 104, 97, 115, 32, 116, 111, 32, 98, 101]
  | 103 => [97, 32, 115, 117, 109, 32, 116, 104, 97, 116, 32, 100, 111, 101, 115, 32, 110, 111, 116, 32, 102, 105, 116]
  | 104 => [116, 111, 111, 32, 109, 97, 110, 121, 44, 32, 111, 114, 32, 116, 111, 111, 32, 102, 101, 119]
  | 105 => [116, 111, 111, 32, 108, 111, 110, 103]
  | 106 => [97, 32, 110, 97, 109, 101, 32, 116, 104, 97, 116, 32, 99, 97, 110, 39, 116, 32, 98, 101]
  | 107 => [97, 32, 110, 117, 109, 98, 101, 114, 32, 111, 117, 116, 32, 111, 102, 32, 105, 116, 115, 32, 114, 97, 110, 103, 101]
  | 108 => [116, 104, 101, 114, 101, 32, 105, 115, 32, 110, 111, 110, 101]
  | 109 => [111, 110, 101, 32, 116, 104, 105, 110, 103, 32, 116, 119, 105, 99, 101]
  | 110 => [111, 102, 32, 97, 110, 111, 116, 104, 101, 114, 32, 116, 121, 112, 101]
  | 111 => [110, 111, 116, 32, 97, 110, 32, 101, 120, 112, 114, 101, 115, 115, 105, 111, 110]
  | 112 => [116, 111, 111, 32, 100, 101, 101, 112]
  | 113 => [97, 32, 100, 105, 118, 105, 115, 105, 111, 110, 32, 98, 121, 32, 110, 111, 116, 104, 105, 110, 103]
  | 114 => [116, 104, 101, 114, 101, 32, 105, 115, 32, 110, 111, 32, 114, 111, 111, 109]
  | 115 => [116, 104, 101, 32, 112, 111, 119, 101, 114, 32, 105, 115, 32, 103, 111, 110, 101]
  | 116 => [110, 111, 32, 119, 97, 121, 32, 103, 111, 101, 115, 32, 111, 110]
  | _ => []
theorem txt_inj : ∀ c ∈ [101, 102, 103, 104, 105, 106, 107, 108, 109, 110, 111, 112, 113, 114, 115, 116], ∀ d ∈ [101, 102, 103, 104, 105, 106, 107, 108, 109, 110, 111, 112, 113, 114, 115, 116], txt c = txt d → c = d := by decide +kernel
theorem of_laid {W : World} (h : laidMetH Tryd.prog Rows.frameBackRow.laid W) : ∃ ad : Nat → Addr, EOk [101, 102, 103, 104, 105, 106, 107, 108, 109, 110, 111, 112, 113, 114, 115, 116] ad W ∧ EInj [101, 102, 103, 104, 105, 106, 107, 108, 109, 110, 111, 112, 113, 114, 115, 116] ad := by
  rw [MakeChecks.laidMetH_plain _ _ _ (by kernel_rfl)] at h
  obtain ⟨a101, s101, h101, hc101, hs101⟩ := laid_full (n := "leasehold/api.ErrEnd") (nm := "*errors.errorString") (laidMet_drop _ h 0) (show Tryd.prog.globalNamed "leasehold/api.ErrEnd" = some 2 by kernel_rfl) (show (Tryd.prog.globals[2]?).map (·.type) = some 25 by kernel_rfl) Tryd.underlying25 rowE Tryd.underlying77 Tryd.underlying93 rfl rfl Tryd.underlying9 cellsE cellsS
  obtain ⟨a102, s102, h102, hc102, hs102⟩ := laid_full (n := "leasehold/api.ErrShape") (nm := "*errors.errorString") (laidMet_drop _ h 1) (show Tryd.prog.globalNamed "leasehold/api.ErrShape" = some 1 by kernel_rfl) (show (Tryd.prog.globals[1]?).map (·.type) = some 25 by kernel_rfl) Tryd.underlying25 rowE Tryd.underlying77 Tryd.underlying93 rfl rfl Tryd.underlying9 cellsE cellsS
  obtain ⟨a103, s103, h103, hc103, hs103⟩ := laid_full (n := "leasehold/api.ErrSum") (nm := "*errors.errorString") (laidMet_drop _ h 2) (show Tryd.prog.globalNamed "leasehold/api.ErrSum" = some 3 by kernel_rfl) (show (Tryd.prog.globals[3]?).map (·.type) = some 25 by kernel_rfl) Tryd.underlying25 rowE Tryd.underlying77 Tryd.underlying93 rfl rfl Tryd.underlying9 cellsE cellsS
  obtain ⟨a104, s104, h104, hc104, hs104⟩ := laid_full (n := "leasehold/api.ErrMany") (nm := "*errors.errorString") (laidMet_drop _ h 3) (show Tryd.prog.globalNamed "leasehold/api.ErrMany" = some 4 by kernel_rfl) (show (Tryd.prog.globals[4]?).map (·.type) = some 25 by kernel_rfl) Tryd.underlying25 rowE Tryd.underlying77 Tryd.underlying93 rfl rfl Tryd.underlying9 cellsE cellsS
  obtain ⟨a105, s105, h105, hc105, hs105⟩ := laid_full (n := "leasehold/api.ErrLong") (nm := "*errors.errorString") (laidMet_drop _ h 4) (show Tryd.prog.globalNamed "leasehold/api.ErrLong" = some 0 by kernel_rfl) (show (Tryd.prog.globals[0]?).map (·.type) = some 25 by kernel_rfl) Tryd.underlying25 rowE Tryd.underlying77 Tryd.underlying93 rfl rfl Tryd.underlying9 cellsE cellsS
  obtain ⟨a106, s106, h106, hc106, hs106⟩ := laid_full (n := "leasehold/api.ErrName") (nm := "*errors.errorString") (laidMet_drop _ h 5) (show Tryd.prog.globalNamed "leasehold/api.ErrName" = some 5 by kernel_rfl) (show (Tryd.prog.globals[5]?).map (·.type) = some 25 by kernel_rfl) Tryd.underlying25 rowE Tryd.underlying77 Tryd.underlying93 rfl rfl Tryd.underlying9 cellsE cellsS
  obtain ⟨a107, s107, h107, hc107, hs107⟩ := laid_full (n := "leasehold/api.ErrRange") (nm := "*errors.errorString") (laidMet_drop _ h 6) (show Tryd.prog.globalNamed "leasehold/api.ErrRange" = some 6 by kernel_rfl) (show (Tryd.prog.globals[6]?).map (·.type) = some 25 by kernel_rfl) Tryd.underlying25 rowE Tryd.underlying77 Tryd.underlying93 rfl rfl Tryd.underlying9 cellsE cellsS
  obtain ⟨a108, s108, h108, hc108, hs108⟩ := laid_full (n := "leasehold/api.ErrNone") (nm := "*errors.errorString") (laidMet_drop _ h 7) (show Tryd.prog.globalNamed "leasehold/api.ErrNone" = some 7 by kernel_rfl) (show (Tryd.prog.globals[7]?).map (·.type) = some 25 by kernel_rfl) Tryd.underlying25 rowE Tryd.underlying77 Tryd.underlying93 rfl rfl Tryd.underlying9 cellsE cellsS
  obtain ⟨a109, s109, h109, hc109, hs109⟩ := laid_full (n := "leasehold/api.ErrTwice") (nm := "*errors.errorString") (laidMet_drop _ h 8) (show Tryd.prog.globalNamed "leasehold/api.ErrTwice" = some 8 by kernel_rfl) (show (Tryd.prog.globals[8]?).map (·.type) = some 25 by kernel_rfl) Tryd.underlying25 rowE Tryd.underlying77 Tryd.underlying93 rfl rfl Tryd.underlying9 cellsE cellsS
  obtain ⟨a110, s110, h110, hc110, hs110⟩ := laid_full (n := "leasehold/api.ErrType") (nm := "*errors.errorString") (laidMet_drop _ h 9) (show Tryd.prog.globalNamed "leasehold/api.ErrType" = some 9 by kernel_rfl) (show (Tryd.prog.globals[9]?).map (·.type) = some 25 by kernel_rfl) Tryd.underlying25 rowE Tryd.underlying77 Tryd.underlying93 rfl rfl Tryd.underlying9 cellsE cellsS
  obtain ⟨a111, s111, h111, hc111, hs111⟩ := laid_full (n := "leasehold/api.ErrSyntax") (nm := "*errors.errorString") (laidMet_drop _ h 10) (show Tryd.prog.globalNamed "leasehold/api.ErrSyntax" = some 10 by kernel_rfl) (show (Tryd.prog.globals[10]?).map (·.type) = some 25 by kernel_rfl) Tryd.underlying25 rowE Tryd.underlying77 Tryd.underlying93 rfl rfl Tryd.underlying9 cellsE cellsS
  obtain ⟨a112, s112, h112, hc112, hs112⟩ := laid_full (n := "leasehold/api.ErrDeep") (nm := "*errors.errorString") (laidMet_drop _ h 11) (show Tryd.prog.globalNamed "leasehold/api.ErrDeep" = some 11 by kernel_rfl) (show (Tryd.prog.globals[11]?).map (·.type) = some 25 by kernel_rfl) Tryd.underlying25 rowE Tryd.underlying77 Tryd.underlying93 rfl rfl Tryd.underlying9 cellsE cellsS
  obtain ⟨a113, s113, h113, hc113, hs113⟩ := laid_full (n := "leasehold/api.ErrZero") (nm := "*errors.errorString") (laidMet_drop _ h 12) (show Tryd.prog.globalNamed "leasehold/api.ErrZero" = some 12 by kernel_rfl) (show (Tryd.prog.globals[12]?).map (·.type) = some 25 by kernel_rfl) Tryd.underlying25 rowE Tryd.underlying77 Tryd.underlying93 rfl rfl Tryd.underlying9 cellsE cellsS
  obtain ⟨a114, s114, h114, hc114, hs114⟩ := laid_full (n := "leasehold/api.ErrFull") (nm := "*errors.errorString") (laidMet_drop _ h 13) (show Tryd.prog.globalNamed "leasehold/api.ErrFull" = some 13 by kernel_rfl) (show (Tryd.prog.globals[13]?).map (·.type) = some 25 by kernel_rfl) Tryd.underlying25 rowE Tryd.underlying77 Tryd.underlying93 rfl rfl Tryd.underlying9 cellsE cellsS
  obtain ⟨a115, s115, h115, hc115, hs115⟩ := laid_full (n := "leasehold/api.ErrDead") (nm := "*errors.errorString") (laidMet_drop _ h 14) (show Tryd.prog.globalNamed "leasehold/api.ErrDead" = some 14 by kernel_rfl) (show (Tryd.prog.globals[14]?).map (·.type) = some 25 by kernel_rfl) Tryd.underlying25 rowE Tryd.underlying77 Tryd.underlying93 rfl rfl Tryd.underlying9 cellsE cellsS
  obtain ⟨a116, s116, h116, hc116, hs116⟩ := laid_full (n := "leasehold/api.ErrStuck") (nm := "*errors.errorString") (laidMet_drop _ h 15) (show Tryd.prog.globalNamed "leasehold/api.ErrStuck" = some 15 by kernel_rfl) (show (Tryd.prog.globals[15]?).map (·.type) = some 25 by kernel_rfl) Tryd.underlying25 rowE Tryd.underlying77 Tryd.underlying93 rfl rfl Tryd.underlying9 cellsE cellsS
  refine ⟨fun c => if c = 101 then a101 else if c = 102 then a102 else if c = 103 then a103 else if c = 104 then a104 else if c = 105 then a105 else if c = 106 then a106 else if c = 107 then a107 else if c = 108 then a108 else if c = 109 then a109 else if c = 110 then a110 else if c = 111 then a111 else if c = 112 then a112 else if c = 113 then a113 else if c = 114 then a114 else if c = 115 then a115 else if c = 116 then a116 else a101, ?_, ?_⟩
  · intro c hc
    simp only [List.mem_cons, List.not_mem_nil, or_false] at hc
    rcases hc with rfl | rfl | rfl | rfl | rfl | rfl | rfl | rfl | rfl | rfl | rfl | rfl | rfl | rfl | rfl | rfl
    · exact h101
    · exact h102
    · exact h103
    · exact h104
    · exact h105
    · exact h106
    · exact h107
    · exact h108
    · exact h109
    · exact h110
    · exact h111
    · exact h112
    · exact h113
    · exact h114
    · exact h115
    · exact h116
  · have hT : ∀ c ∈ [101, 102, 103, 104, 105, 106, 107, 108, 109, 110, 111, 112, 113, 114, 115, 116], ∃ s : ByteArray, W.cell? ((fun c => if c = 101 then a101 else if c = 102 then a102 else if c = 103 then a103 else if c = 104 then a104 else if c = 105 then a105 else if c = 106 then a106 else if c = 107 then a107 else if c = 108 then a108 else if c = 109 then a109 else if c = 110 then a110 else if c = 111 then a111 else if c = 112 then a112 else if c = 113 then a113 else if c = 114 then a114 else if c = 115 then a115 else if c = 116 then a116 else a101) c) = some (.string s) ∧ s.data.toList = txt c := by
      intro c hc
      simp only [List.mem_cons, List.not_mem_nil, or_false] at hc
      rcases hc with rfl | rfl | rfl | rfl | rfl | rfl | rfl | rfl | rfl | rfl | rfl | rfl | rfl | rfl | rfl | rfl
      · exact ⟨s101, hc101, hs101⟩
      · exact ⟨s102, hc102, hs102⟩
      · exact ⟨s103, hc103, hs103⟩
      · exact ⟨s104, hc104, hs104⟩
      · exact ⟨s105, hc105, hs105⟩
      · exact ⟨s106, hc106, hs106⟩
      · exact ⟨s107, hc107, hs107⟩
      · exact ⟨s108, hc108, hs108⟩
      · exact ⟨s109, hc109, hs109⟩
      · exact ⟨s110, hc110, hs110⟩
      · exact ⟨s111, hc111, hs111⟩
      · exact ⟨s112, hc112, hs112⟩
      · exact ⟨s113, hc113, hs113⟩
      · exact ⟨s114, hc114, hs114⟩
      · exact ⟨s115, hc115, hs115⟩
      · exact ⟨s116, hc116, hs116⟩
    intro c hc d hd hne e
    obtain ⟨s, h1, h2⟩ := hT c hc
    obtain ⟨t, h3, h4⟩ := hT d hd
    rw [e, h3] at h1
    injection h1 with h1
    injection h1 with h1
    subst h1
    exact hne (txt_inj c hc d hd (h2.symm.trans h4))
set_option maxRecDepth 100000 in
theorem lifted (os : Os) (started : os.Started) (H : Type) (enc : TypeId × Value → H) :
    ReturnsInHanded {} Tryd.checked os 3 .any (fun w args => (Rows.frameBackSpec.pre enc Tryd.prog Tryd.f3 [] false w args ∧ laidMetH Tryd.prog Rows.frameBackRow.laid w) ∧ sizedMet enc Tryd.prog Tryd.f3 (OpenSpec.ofChange Rows.frameBackSpec) false w args)
      (Rows.frameBackSpec.post enc Tryd.prog Tryd.f3 false true false false) := by
  refine returnsInHanded_of_change_and (C := Tryd.checked) (X := fun w _ => laidMetH Tryd.prog Rows.frameBackRow.laid w) (fun _ _ _ hh h => h.of_heap hh) own started (by kernel_rfl) Tryd.func3
    (ChangeSpec.witness_shaped (enc := enc) (C := Tryd.checked) (os := os) (X := fun w _ => laidMetH Tryd.prog Rows.frameBackRow.laid w) false (World.doorLaid Tryd.prog 400 os) #[.int .u8 0, .slice none 0 0, .slice none 0 0, .int .i64 0, .int .i64 0] 8 rfl (World.shaped_of_RefB (by kernel_rfl) (by kernel_rfl)) (by kernel_rfl) (by kernel_rfl) (by kernel_rfl) (door_met os _)) ?_
  intro W base args ds gs before hval0 hW hcnd hsz0 hlaid _
  obtain ⟨ad, hE, hInj⟩ := of_laid hlaid
  have hsz : (DataW.weightsEach Tryd.prog (Tryd.f3.params.toList ++ Rows.frameBackSpec.plain.varTypes Tryd.prog) (ds ++ gs)).all (· ≤ reachBytes) = true := hsz0
  have hval : ∀ (j : Nat) t v, Tryd.f3.params[j]? = some t → args[j]? = some v → Value.okWide Tryd.prog W .any base t v := hval0
  have hW' := hW
  obtain ⟨p, q, hA0, hV, rfl, hfz, hnd⟩ := hW
  have hA : DataW.TrodAll enc Tryd.prog W 0 (fun _ => true) true Tryd.f3.params.toList args.toList ds p := hA0
  rw [Tryd.params3] at hA hval hsz
  obtain ⟨v0, vs0, d0, ds0, p0, q0, hargs, rfl, rfl, h0, r0⟩ := trodAll_cons hA
  obtain ⟨v1, vs1, d1, ds1, p1, q1, rfl, rfl, rfl, h1, r1⟩ := trodAll_cons r0
  obtain ⟨v2, vs2, d2, ds2, p2, q2, rfl, rfl, rfl, h2, r2⟩ := trodAll_cons r1
  obtain ⟨v3, vs3, d3, ds3, p3, q3, rfl, rfl, rfl, h3, r3⟩ := trodAll_cons r2
  obtain ⟨v4, vs4, d4, ds4, p4, q4, rfl, rfl, rfl, h4, r4⟩ := trodAll_cons r3
  obtain ⟨rfl, rfl, rfl⟩ := trodAll_nil r4
  obtain rfl : args = #[v0, v1, v2, v3, v4] := by cases args; simp_all
  obtain ⟨rfl, rfl⟩ := trodVars_none hV
  obtain ⟨a0, rfl, rfl, rfl, w0⟩ := open_int Tryd.underlying5 (hval 0 5 v0 rfl rfl) h0
  obtain ⟨a1, len1, cap1, rfl⟩ := okWide_slice Tryd.underlying22 (hval 1 22 v1 rfl rfl)
  have k1 := h1
  have lt1 : ∀ x ∈ p1, x.block < W.heap.size := by obtain ⟨m, hm⟩ := k1; exact DataW.trod_lt m _ _ _ hm
  have y1 : len1 * 1 ≤ 140737488351232 := PrintWords.sized_ints hsz (j := 1) (t := 22) rfl rfl Tryd.underlying22 Tryd.underlying5 (by kernel_rfl) (by kernel_rfl) h1
  obtain ⟨fuel1, hf1⟩ := h1
  obtain ⟨A1, l1, c1, hcs1, hC1, hw1, hc1, hn1⟩ := opened_ints Tryd.underlying22 Tryd.underlying5 (by kernel_rfl) hf1
  simp [Value.cells] at hcs1
  obtain ⟨rfl, rfl, rfl⟩ := hcs1
  obtain ⟨a2, len2, cap2, rfl⟩ := okWide_slice Tryd.underlying22 (hval 2 22 v2 rfl rfl)
  have k2 := h2
  have lt2 : ∀ x ∈ p2, x.block < W.heap.size := by obtain ⟨m, hm⟩ := k2; exact DataW.trod_lt m _ _ _ hm
  have y2 : len2 * 1 ≤ 140737488351232 := PrintWords.sized_ints hsz (j := 2) (t := 22) rfl rfl Tryd.underlying22 Tryd.underlying5 (by kernel_rfl) (by kernel_rfl) h2
  obtain ⟨fuel2, hf2⟩ := h2
  obtain ⟨A2, l2, c2, hcs2, hC2, hw2, hc2, hn2⟩ := opened_ints Tryd.underlying22 Tryd.underlying5 (by kernel_rfl) hf2
  simp [Value.cells] at hcs2
  obtain ⟨rfl, rfl, rfl⟩ := hcs2
  obtain ⟨a3, rfl, rfl, rfl, w3⟩ := open_int Tryd.underlying3 (hval 3 3 v3 rfl rfl) h3
  obtain ⟨a4, rfl, rfl, rfl, w4⟩ := open_int Tryd.underlying3 (hval 4 3 v4 rfl rfl) h4
  clear hA0 hval0 hsz0 hsz
  refine (frameBack_walk ad a0 a1 cap1 l1 a2 cap2 l2 a3 a4 W hE hInj w0 hC1 hw1 y1 hc1 hn1 hC2 hw2 y2 hc2 hn2 w3 w4).mono fun e W' ⟨he, bel⟩ => ?_
  subst he
  exact ⟨_, rfl, _, _, _, [], _, [], hW', trodAll_mk1 (shut_bool Tryd.underlying4 _), (trodAll_cons_mk (shut_int Tryd.underlying5 w0) (trodAll_cons_mk (Below.trod laidOut (by kernel_rfl) (of_decide_eq_true (by kernel_rfl)) k1 bel lt1) (trodAll_cons_mk (Below.trod laidOut (by kernel_rfl) (of_decide_eq_true (by kernel_rfl)) k2 bel lt2) (trodAll_cons_mk (shut_int Tryd.underlying3 w3) (trodAll_cons_mk (shut_int Tryd.underlying3 w4) trodAll_mk0))))), rfl, bel.frame _, fun h => by cases h⟩
theorem both {a b : Bool} (h : a = true) (k : b = true) : (a && b) = true := by rw [h, k]; rfl
set_option maxRecDepth 100000 in
theorem closed : joinedFacts Tryd.prog 3 Tryd.f3 Rows.frameBackSpec Rows.frameBackRow = true := by
  unfold joinedFacts
  repeat' (with_reducible refine both ?_ ?_)
  all_goals (as_aux_lemma => kernel_rfl)
theorem over : Rows.frameBackRow.holds Tryd.pinned (OpenSpec.ofChange Rows.frameBackSpec) :=
  OpenClaim.holds_of_wide 3 Tryd.f3 rfl rfl rfl rfl rfl rfl rfl ⟨rfl, rfl, rfl, rfl, rfl⟩ rfl rfl rfl rfl rfl (by as_aux_lemma => kernel_rfl) Tryd.func3 closed
    (of_decide_eq_true (by as_aux_lemma => kernel_rfl)) (by unfold Func.isWrapper; first | (rw [if_pos (by decide +kernel)]; kernel_rfl) | (rw [if_neg (by decide +kernel)]; exact ⟨rfl, rfl⟩))
    (fun os started H enc _ => lifted os started H enc)
end Go.Proofs.YtdlacjbicjhfgaaDoor.frameBack
namespace Go.Proofs.YtdlacjbicjhfgaaDoor
theorem frameBack_holds : Rows.FrameBackSaid := frameBack.over
#print axioms frameBack_holds
theorem frameBackCard_holds : Rows.FrameBackCardSaid :=
  Claim7.holds_tied_plain_at .later [] [.sentinel, .sentinel, .sentinel, .sentinel, .sentinel, .sentinel, .sentinel, .sentinel, .sentinel, .sentinel, .sentinel, .sentinel, .sentinel, .sentinel, .sentinel, .sentinel] true (true, "7eeca9dbfb0a5ca85d408a7738e65d81eb8aff6b7d72d7f0a5393162b1a4d768") true
    frameBack_holds (fun _ h => by cases h) (by as_aux_lemma => kernel_rfl) (fun _ h => by cases h) frameBack_row_tie rfl ⟨rfl, rfl⟩ (by as_aux_lemma => kernel_rfl) rfl
    (fun f fn hf hfn => by
      obtain rfl : f = 3 := Option.some.inj ((show Tryd.prog.funcNamed "leasehold/leaseholdlaw3.FrameBack" = some 3 by as_aux_lemma => kernel_rfl).symm.trans hf) |>.symm
      obtain rfl : fn = Tryd.f3 := (Option.some.inj (Tryd.func3.symm.trans hfn)).symm
      exact ⟨by as_aux_lemma => kernel_rfl, fun j t ht => by
        rw [Tryd.params3] at ht
        have ht2 : t ∈ [5, 22, 22, 3, 3] := by
          have := Array.mem_of_getElem? ht
          simpa using this
        exact (show ∀ t ∈ [5, 22, 22, 3, 3], Tryd.prog.wantsStandIn t = false by simp only [List.mem_cons, List.not_mem_nil, or_false, forall_eq_or_imp, forall_eq]; exact ⟨by as_aux_lemma => kernel_rfl, by as_aux_lemma => kernel_rfl, by as_aux_lemma => kernel_rfl, by as_aux_lemma => kernel_rfl, by as_aux_lemma => kernel_rfl⟩) t ht2⟩)
    (by as_aux_lemma => kernel_rfl)
#print axioms frameBackCard_holds
end Go.Proofs.YtdlacjbicjhfgaaDoor
