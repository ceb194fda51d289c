/- The statement CrcSaysSaid: the law CrcSays answers true for every input (its row, out of the walk). No condition beyond the row's own. -/
import Derived.Test.YtnkeigpbceniaaaDoorCards
import Derived.Test.YtnkeigpbceniaaaDoorTie
import Derived.Test.YtnkeigpbceniaaaDoorLaid
import Derived.Test.YtnkeigpbceniaaaDoorRows
import Derived.Test.YtnkeigpbceniaaaDoorCrcSays
import Derived.WalkKit
import Derived.ProofKit
import Derived.OpenShut
import Derived.ShutString
import Derived.ChangeOld
import Derived.Below
import Derived.SizedLaws
import Derived.Test.YtnkeigpbceniaaaDoorWSized
import Derived.Test.YtnkeigpbceniaaaDoorWWords
import Derived.Test.YtnkeigpbceniaaaDoorOpen
namespace Go.Proofs.YtnkeigpbceniaaaDoor.crcSays
open Go.ChangeShapes Go.WideShapes Go.ChangeAt Go.RowKit
open Go.ChangeMaps (open_string shut_string)
open Go.Proofs.YtnkeigpbceniaaaDoorW
set_option linter.unusedVariables false
theorem own : ownKnob Tryd.prog.godebug = none := by kernel_rfl
theorem laidOut : laidOutB Tryd.prog = true := by kernel_rfl
open Go.Proofs.YtnkeigpbceniaaaDoor
/-- The door's own heap meets the condition. -/
theorem door_met (os : Os) (args : Array Value) : laidMetH Tryd.prog Rows.crcSaysRow.laid ((World.doorLaid Tryd.prog 400 os).forCall (fun _ _ => 0) ⟨#[], args, []⟩).memory :=
  laidMetH_of_parts3 (fuel := 8) (laidMet_of_run' 8 (by kernel_rfl) (by kernel_rfl)) (by kernel_rfl) (by kernel_rfl)
def txt : Nat → List UInt8
  | 101 => [105, 116, 32, 101, 110, 100, 115, 32, 116, 111, 111, 32, 101, 97, 114, 108, 121]
  | 102 => [110, 111, 116, 32, 97, 115, 32, 105, 116, 32, 104, 97, 115, 32, 116, 111, 32, 98, 101]
  | 103 => [97, 32, 115, 117, 109, 32, 116, 104, 97, 116, 32, 100, 111, 101, 115, 32, 110, 111, 116, 32, 102, 105, 116]
  | 104 => [116, 111, 111, 32, 109, 97, 110, 121, 44, 32, 111, 114, 32, 116, 111, 111, 32, 102, 101, 119]
  | 105 => [116, 111, 111, 32, 108, 111, 110, 103]
  | 106 => [97, 32, 110, 97, 109, 101, 32, 116, 104, 97, 116, 32, 99, 97, 110, 39, 116, 32, 98, 101]
  | 107 => [97, 32, 110, 117, 109, 98, 101, 114, 32, 111, 117, 116, 32, 111, 102, 32, 105, 116, 115, 32, 114, 97, 110, 103, 101]
  | 108 => [116, 104, 101, 114, 101, 32, 105, 115, 32, 110, 111, 110, 101]
  | 109 => [111, 110, 101, 32, 116, 104, 105, 110, 103, 32, 116, 119, 105, 99, 101]
  | 110 => [111, 102, 32, 97, 110, 111, 116, 104, 101, 114, 32, 116, 121, 112, 101]
  | 111 => [110, 111, 116, 32, 97, 110, 32, 101, 120, 112, 114, 101, 115, 115, 105, 111, 110]
  | 112 => [116, 111, 111, 32, 100, 101, 101, 112]
  | 113 => [97, 32, 100, 105, 118, 105, 115, 105, 111, 110, 32, 98, 121, 32, 110, 111, 116, 104, 105, 110, 103]
  | 114 => [116, 104, 101, 114, 101, 32, 105, 115, 32, 110, 111, 32, 114, 111, 111, 109]
  | 115 => [116, 104, 101, 32, 112, 111, 119, 101, 114, 32, 105, 115, 32, 103, 111, 110, 101]
  | 116 => [110, 111, 32, 119, 97, 121, 32, 103, 111, 101, 115, 32, 111, 110]
  | _ => []
theorem txt_inj : ∀ c ∈ [101, 102, 103, 104, 105, 106, 107, 108, 109, 110, 111, 112, 113, 114, 115, 116], ∀ d ∈ [101, 102, 103, 104, 105, 106, 107, 108, 109, 110, 111, 112, 113, 114, 115, 116], txt c = txt d → c = d := by decide +kernel
theorem of_laid {W : World} (h : laidMetH Tryd.prog Rows.crcSaysRow.laid W) : ∃ ad : Nat → Addr, EOk [101, 102, 103, 104, 105, 106, 107, 108, 109, 110, 111, 112, 113, 114, 115, 116] ad W ∧ EInj [101, 102, 103, 104, 105, 106, 107, 108, 109, 110, 111, 112, 113, 114, 115, 116] ad := by
  rw [MakeChecks.laidMetH_plain _ _ _ (by kernel_rfl)] at h
  obtain ⟨a101, s101, h101, hc101, hs101⟩ := laid_full (n := "leasehold/api.ErrEnd") (nm := "*errors.errorString") (laidMet_drop _ h 0) (show Tryd.prog.globalNamed "leasehold/api.ErrEnd" = some 0 by kernel_rfl) (show (Tryd.prog.globals[0]?).map (·.type) = some 27 by kernel_rfl) Tryd.underlying27 rowE Tryd.underlying65 Tryd.underlying82 rfl rfl Tryd.underlying9 cellsE cellsS
  obtain ⟨a102, s102, h102, hc102, hs102⟩ := laid_full (n := "leasehold/api.ErrShape") (nm := "*errors.errorString") (laidMet_drop _ h 1) (show Tryd.prog.globalNamed "leasehold/api.ErrShape" = some 2 by kernel_rfl) (show (Tryd.prog.globals[2]?).map (·.type) = some 27 by kernel_rfl) Tryd.underlying27 rowE Tryd.underlying65 Tryd.underlying82 rfl rfl Tryd.underlying9 cellsE cellsS
  obtain ⟨a103, s103, h103, hc103, hs103⟩ := laid_full (n := "leasehold/api.ErrSum") (nm := "*errors.errorString") (laidMet_drop _ h 2) (show Tryd.prog.globalNamed "leasehold/api.ErrSum" = some 1 by kernel_rfl) (show (Tryd.prog.globals[1]?).map (·.type) = some 27 by kernel_rfl) Tryd.underlying27 rowE Tryd.underlying65 Tryd.underlying82 rfl rfl Tryd.underlying9 cellsE cellsS
  obtain ⟨a104, s104, h104, hc104, hs104⟩ := laid_full (n := "leasehold/api.ErrMany") (nm := "*errors.errorString") (laidMet_drop _ h 3) (show Tryd.prog.globalNamed "leasehold/api.ErrMany" = some 3 by kernel_rfl) (show (Tryd.prog.globals[3]?).map (·.type) = some 27 by kernel_rfl) Tryd.underlying27 rowE Tryd.underlying65 Tryd.underlying82 rfl rfl Tryd.underlying9 cellsE cellsS
  obtain ⟨a105, s105, h105, hc105, hs105⟩ := laid_full (n := "leasehold/api.ErrLong") (nm := "*errors.errorString") (laidMet_drop _ h 4) (show Tryd.prog.globalNamed "leasehold/api.ErrLong" = some 4 by kernel_rfl) (show (Tryd.prog.globals[4]?).map (·.type) = some 27 by kernel_rfl) Tryd.underlying27 rowE Tryd.underlying65 Tryd.underlying82 rfl rfl Tryd.underlying9 cellsE cellsS
  obtain ⟨a106, s106, h106, hc106, hs106⟩ := laid_full (n := "leasehold/api.ErrName") (nm := "*errors.errorString") (laidMet_drop _ h 5) (show Tryd.prog.globalNamed "leasehold/api.ErrName" = some 5 by kernel_rfl) (show (Tryd.prog.globals[5]?).map (·.type) = some 27 by kernel_rfl) Tryd.underlying27 rowE Tryd.underlying65 Tryd.underlying82 rfl rfl Tryd.underlying9 cellsE cellsS
  obtain ⟨a107, s107, h107, hc107, hs107⟩ := laid_full (n := "leasehold/api.ErrRange") (nm := "*errors.errorString") (laidMet_drop _ h 6) (show Tryd.prog.globalNamed "leasehold/api.ErrRange" = some 6 by kernel_rfl) (show (Tryd.prog.globals[6]?).map (·.type) = some 27 by kernel_rfl) Tryd.underlying27 rowE Tryd.underlying65 Tryd.underlying82 rfl rfl Tryd.underlying9 cellsE cellsS
  obtain ⟨a108, s108, h108, hc108, hs108⟩ := laid_full (n := "leasehold/api.ErrNone") (nm := "*errors.errorString") (laidMet_drop _ h 7) (show Tryd.prog.globalNamed "leasehold/api.ErrNone" = some 7 by kernel_rfl) (show (Tryd.prog.globals[7]?).map (·.type) = some 27 by kernel_rfl) Tryd.underlying27 rowE Tryd.underlying65 Tryd.underlying82 rfl rfl Tryd.underlying9 cellsE cellsS
  obtain ⟨a109, s109, h109, hc109, hs109⟩ := laid_full (n := "leasehold/api.ErrTwice") (nm := "*errors.errorString") (laidMet_drop _ h 8) (show Tryd.prog.globalNamed "leasehold/api.ErrTwice" = some 8 by kernel_rfl) (show (Tryd.prog.globals[8]?).map (·.type) = some 27 by kernel_rfl) Tryd.underlying27 rowE Tryd.underlying65 Tryd.underlying82 rfl rfl Tryd.underlying9 cellsE cellsS
  obtain ⟨a110, s110, h110, hc110, hs110⟩ := laid_full (n := "leasehold/api.ErrType") (nm := "*errors.errorString") (laidMet_drop _ h 9) (show Tryd.prog.globalNamed "leasehold/api.ErrType" = some 9 by kernel_rfl) (show (Tryd.prog.globals[9]?).map (·.type) = some 27 by kernel_rfl) Tryd.underlying27 rowE Tryd.underlying65 Tryd.underlying82 rfl rfl Tryd.underlying9 cellsE cellsS
  obtain ⟨a111, s111, h111, hc111, hs111⟩ := laid_full (n := "leasehold/api.ErrSyntax") (nm := "*errors.errorString") (laidMet_drop _ h 10) (show Tryd.prog.globalNamed "leasehold/api.ErrSyntax" = some 10 by kernel_rfl) (show (Tryd.prog.globals[10]?).map (·.type) = some 27 by kernel_rfl) Tryd.underlying27 rowE Tryd.underlying65 Tryd.underlying82 rfl rfl Tryd.underlying9 cellsE cellsS
  obtain ⟨a112, s112, h112, hc112, hs112⟩ := laid_full (n := "leasehold/api.ErrDeep") (nm := "*errors.errorString") (laidMet_drop _ h 11) (show Tryd.prog.globalNamed "leasehold/api.ErrDeep" = some 11 by kernel_rfl) (show (Tryd.prog.globals[11]?).map (·.type) = some 27 by kernel_rfl) Tryd.underlying27 rowE Tryd.underlying65 Tryd.underlying82 rfl rfl Tryd.underlying9 cellsE cellsS
  obtain ⟨a113, s113, h113, hc113, hs113⟩ := laid_full (n := "leasehold/api.ErrZero") (nm := "*errors.errorString") (laidMet_drop _ h 12) (show Tryd.prog.globalNamed "leasehold/api.ErrZero" = some 12 by kernel_rfl) (show (Tryd.prog.globals[12]?).map (·.type) = some 27 by kernel_rfl) Tryd.underlying27 rowE Tryd.underlying65 Tryd.underlying82 rfl rfl Tryd.underlying9 cellsE cellsS
  obtain ⟨a114, s114, h114, hc114, hs114⟩ := laid_full (n := "leasehold/api.ErrFull") (nm := "*errors.errorString") (laidMet_drop _ h 13) (show Tryd.prog.globalNamed "leasehold/api.ErrFull" = some 13 by kernel_rfl) (show (Tryd.prog.globals[13]?).map (·.type) = some 27 by kernel_rfl) Tryd.underlying27 rowE Tryd.underlying65 Tryd.underlying82 rfl rfl Tryd.underlying9 cellsE cellsS
  obtain ⟨a115, s115, h115, hc115, hs115⟩ := laid_full (n := "leasehold/api.ErrDead") (nm := "*errors.errorString") (laidMet_drop _ h 14) (show Tryd.prog.globalNamed "leasehold/api.ErrDead" = some 14 by kernel_rfl) (show (Tryd.prog.globals[14]?).map (·.type) = some 27 by kernel_rfl) Tryd.underlying27 rowE Tryd.underlying65 Tryd.underlying82 rfl rfl Tryd.underlying9 cellsE cellsS
  obtain ⟨a116, s116, h116, hc116, hs116⟩ := laid_full (n := "leasehold/api.ErrStuck") (nm := "*errors.errorString") (laidMet_drop _ h 15) (show Tryd.prog.globalNamed "leasehold/api.ErrStuck" = some 15 by kernel_rfl) (show (Tryd.prog.globals[15]?).map (·.type) = some 27 by kernel_rfl) Tryd.underlying27 rowE Tryd.underlying65 Tryd.underlying82 rfl rfl Tryd.underlying9 cellsE cellsS
  refine ⟨fun c => if c = 101 then a101 else if c = 102 then a102 else if c = 103 then a103 else if c = 104 then a104 else if c = 105 then a105 else if c = 106 then a106 else if c = 107 then a107 else if c = 108 then a108 else if c = 109 then a109 else if c = 110 then a110 else if c = 111 then a111 else if c = 112 then a112 else if c = 113 then a113 else if c = 114 then a114 else if c = 115 then a115 else if c = 116 then a116 else a101, ?_, ?_⟩
  · intro c hc
    simp only [List.mem_cons, List.not_mem_nil, or_false] at hc
    rcases hc with rfl | rfl | rfl | rfl | rfl | rfl | rfl | rfl | rfl | rfl | rfl | rfl | rfl | rfl | rfl | rfl
    · exact h101
    · exact h102
    · exact h103
    · exact h104
    · exact h105
    · exact h106
    · exact h107
    · exact h108
    · exact h109
    · exact h110
    · exact h111
    · exact h112
    · exact h113
    · exact h114
    · exact h115
    · exact h116
  · have hT : ∀ c ∈ [101, 102, 103, 104, 105, 106, 107, 108, 109, 110, 111, 112, 113, 114, 115, 116], ∃ s : ByteArray, W.cell? ((fun c => if c = 101 then a101 else if c = 102 then a102 else if c = 103 then a103 else if c = 104 then a104 else if c = 105 then a105 else if c = 106 then a106 else if c = 107 then a107 else if c = 108 then a108 else if c = 109 then a109 else if c = 110 then a110 else if c = 111 then a111 else if c = 112 then a112 else if c = 113 then a113 else if c = 114 then a114 else if c = 115 then a115 else if c = 116 then a116 else a101) c) = some (.string s) ∧ s.data.toList = txt c := by
      intro c hc
      simp only [List.mem_cons, List.not_mem_nil, or_false] at hc
      rcases hc with rfl | rfl | rfl | rfl | rfl | rfl | rfl | rfl | rfl | rfl | rfl | rfl | rfl | rfl | rfl | rfl
      · exact ⟨s101, hc101, hs101⟩
      · exact ⟨s102, hc102, hs102⟩
      · exact ⟨s103, hc103, hs103⟩
      · exact ⟨s104, hc104, hs104⟩
      · exact ⟨s105, hc105, hs105⟩
      · exact ⟨s106, hc106, hs106⟩
      · exact ⟨s107, hc107, hs107⟩
      · exact ⟨s108, hc108, hs108⟩
      · exact ⟨s109, hc109, hs109⟩
      · exact ⟨s110, hc110, hs110⟩
      · exact ⟨s111, hc111, hs111⟩
      · exact ⟨s112, hc112, hs112⟩
      · exact ⟨s113, hc113, hs113⟩
      · exact ⟨s114, hc114, hs114⟩
      · exact ⟨s115, hc115, hs115⟩
      · exact ⟨s116, hc116, hs116⟩
    intro c hc d hd hne e
    obtain ⟨s, h1, h2⟩ := hT c hc
    obtain ⟨t, h3, h4⟩ := hT d hd
    rw [e, h3] at h1
    injection h1 with h1
    injection h1 with h1
    subst h1
    exact hne (txt_inj c hc d hd (h2.symm.trans h4))
set_option maxRecDepth 100000 in
theorem lifted (os : Os) (started : os.Started) (H : Type) (enc : TypeId × Value → H) :
    ReturnsInHanded {} Tryd.checked os 3 .any (fun w args => (Rows.crcSaysSpec.pre enc Tryd.prog Tryd.f3 [] false w args ∧ laidMetH Tryd.prog Rows.crcSaysRow.laid w) ∧ sizedMet enc Tryd.prog Tryd.f3 (OpenSpec.ofChange Rows.crcSaysSpec) false w args)
      (Rows.crcSaysSpec.post enc Tryd.prog Tryd.f3 false true false false) := by
  refine returnsInHanded_of_change_and (C := Tryd.checked) (X := fun w _ => laidMetH Tryd.prog Rows.crcSaysRow.laid w) (fun _ _ _ hh h => h.of_heap hh) own started (by kernel_rfl) Tryd.func3
    (ChangeSpec.witness_shaped (enc := enc) (C := Tryd.checked) (os := os) (X := fun w _ => laidMetH Tryd.prog Rows.crcSaysRow.laid w) false (World.doorLaid Tryd.prog 400 os) #[.slice none 0 0, .slice none 0 0, .int .u32 0, .int .u32 0] 8 rfl (World.shaped_of_RefB (by kernel_rfl) (by kernel_rfl)) (by kernel_rfl) (by kernel_rfl) (by kernel_rfl) (door_met os _)) ?_
  intro W base args ds gs before hval0 hW hcnd hsz0 hlaid _
  obtain ⟨ad, hE, hInj⟩ := of_laid hlaid
  have hsz : (DataW.weightsEach Tryd.prog (Tryd.f3.params.toList ++ Rows.crcSaysSpec.plain.varTypes Tryd.prog) (ds ++ gs)).all (· ≤ reachBytes) = true := hsz0
  have hval : ∀ (j : Nat) t v, Tryd.f3.params[j]? = some t → args[j]? = some v → Value.okWide Tryd.prog W .any base t v := hval0
  have hW' := hW
  obtain ⟨p, q, hA0, hV, rfl, hfz, hnd⟩ := hW
  have hA : DataW.TrodAll enc Tryd.prog W 0 (fun _ => true) true Tryd.f3.params.toList args.toList ds p := hA0
  rw [Tryd.params3] at hA hval hsz
  obtain ⟨v0, vs0, d0, ds0, p0, q0, hargs, rfl, rfl, h0, r0⟩ := trodAll_cons hA
  obtain ⟨v1, vs1, d1, ds1, p1, q1, rfl, rfl, rfl, h1, r1⟩ := trodAll_cons r0
  obtain ⟨v2, vs2, d2, ds2, p2, q2, rfl, rfl, rfl, h2, r2⟩ := trodAll_cons r1
  obtain ⟨v3, vs3, d3, ds3, p3, q3, rfl, rfl, rfl, h3, r3⟩ := trodAll_cons r2
  obtain ⟨rfl, rfl, rfl⟩ := trodAll_nil r3
  obtain rfl : args = #[v0, v1, v2, v3] := by cases args; simp_all
  obtain ⟨rfl, rfl⟩ := trodVars_none hV
  obtain ⟨a0, len0, cap0, rfl⟩ := okWide_slice Tryd.underlying22 (hval 0 22 v0 rfl rfl)
  have k0 := h0
  have lt0 : ∀ x ∈ p0, x.block < W.heap.size := by obtain ⟨m, hm⟩ := k0; exact DataW.trod_lt m _ _ _ hm
  have y0 : len0 * 1 ≤ 140737488351232 := PrintWords.sized_ints hsz (j := 0) (t := 22) rfl rfl Tryd.underlying22 Tryd.underlying5 (by kernel_rfl) (by kernel_rfl) h0
  obtain ⟨fuel0, hf0⟩ := h0
  obtain ⟨A0, l0, c0, hcs0, hC0, hw0, hc0, hn0⟩ := opened_ints Tryd.underlying22 Tryd.underlying5 (by kernel_rfl) hf0
  simp [Value.cells] at hcs0
  obtain ⟨rfl, rfl, rfl⟩ := hcs0
  obtain ⟨a1, len1, cap1, rfl⟩ := okWide_slice Tryd.underlying22 (hval 1 22 v1 rfl rfl)
  have k1 := h1
  have lt1 : ∀ x ∈ p1, x.block < W.heap.size := by obtain ⟨m, hm⟩ := k1; exact DataW.trod_lt m _ _ _ hm
  have y1 : len1 * 1 ≤ 140737488351232 := PrintWords.sized_ints hsz (j := 1) (t := 22) rfl rfl Tryd.underlying22 Tryd.underlying5 (by kernel_rfl) (by kernel_rfl) h1
  obtain ⟨fuel1, hf1⟩ := h1
  obtain ⟨A1, l1, c1, hcs1, hC1, hw1, hc1, hn1⟩ := opened_ints Tryd.underlying22 Tryd.underlying5 (by kernel_rfl) hf1
  simp [Value.cells] at hcs1
  obtain ⟨rfl, rfl, rfl⟩ := hcs1
  obtain ⟨a2, rfl, rfl, rfl, w2⟩ := open_int Tryd.underlying23 (hval 2 23 v2 rfl rfl) h2
  obtain ⟨a3, rfl, rfl, rfl, w3⟩ := open_int Tryd.underlying23 (hval 3 23 v3 rfl rfl) h3
  clear hA0 hval0 hsz0 hsz
  refine (crcSays_walk ad a0 cap0 l0 a1 cap1 l1 a2 a3 W hE hInj hC0 hw0 y0 hc0 hn0 hC1 hw1 y1 hc1 hn1 w2 w3).mono fun e W' ⟨he, bel⟩ => ?_
  subst he
  exact ⟨_, rfl, _, _, _, [], _, [], hW', trodAll_mk1 (shut_bool Tryd.underlying4 _), (trodAll_cons_mk (Below.trod laidOut (by kernel_rfl) (of_decide_eq_true (by kernel_rfl)) k0 bel lt0) (trodAll_cons_mk (Below.trod laidOut (by kernel_rfl) (of_decide_eq_true (by kernel_rfl)) k1 bel lt1) (trodAll_cons_mk (shut_int Tryd.underlying23 w2) (trodAll_cons_mk (shut_int Tryd.underlying23 w3) trodAll_mk0)))), rfl, bel.frame _, fun h => by cases h⟩
theorem both {a b : Bool} (h : a = true) (k : b = true) : (a && b) = true := by rw [h, k]; rfl
set_option maxRecDepth 100000 in
theorem closed : joinedFacts Tryd.prog 3 Tryd.f3 Rows.crcSaysSpec Rows.crcSaysRow = true := by
  unfold joinedFacts
  repeat' (with_reducible refine both ?_ ?_)
  all_goals (as_aux_lemma => kernel_rfl)
theorem over : Rows.crcSaysRow.holds Tryd.pinned (OpenSpec.ofChange Rows.crcSaysSpec) :=
  OpenClaim.holds_of_wide 3 Tryd.f3 rfl rfl rfl rfl rfl rfl rfl ⟨rfl, rfl, rfl, rfl, rfl⟩ rfl rfl rfl rfl rfl (by as_aux_lemma => kernel_rfl) Tryd.func3 closed
    (of_decide_eq_true (by as_aux_lemma => kernel_rfl)) (by unfold Func.isWrapper; first | (rw [if_pos (by decide +kernel)]; kernel_rfl) | (rw [if_neg (by decide +kernel)]; exact ⟨rfl, rfl⟩))
    (fun os started H enc _ => lifted os started H enc)
end Go.Proofs.YtnkeigpbceniaaaDoor.crcSays
namespace Go.Proofs.YtnkeigpbceniaaaDoor
theorem crcSays_holds : Rows.CrcSaysSaid := crcSays.over
#print axioms crcSays_holds
theorem crcSaysCard_holds : Rows.CrcSaysCardSaid :=
  Claim7.holds_tied_plain_at .later [] [.sentinel, .sentinel, .sentinel, .sentinel, .sentinel, .sentinel, .sentinel, .sentinel, .sentinel, .sentinel, .sentinel, .sentinel, .sentinel, .sentinel, .sentinel, .sentinel] true (true, "45cad29be48ba4004c71c98f25e9991aa7383a6bae897885d7286e1c1de0d912") true
    crcSays_holds (fun _ h => by cases h) (by as_aux_lemma => kernel_rfl) (fun _ h => by cases h) crcSays_row_tie rfl ⟨rfl, rfl⟩ (by as_aux_lemma => kernel_rfl) rfl
    (fun f fn hf hfn => by
      obtain rfl : f = 3 := Option.some.inj ((show Tryd.prog.funcNamed "leasehold/leaseholdlaw1.CrcSays" = some 3 by as_aux_lemma => kernel_rfl).symm.trans hf) |>.symm
      obtain rfl : fn = Tryd.f3 := (Option.some.inj (Tryd.func3.symm.trans hfn)).symm
      exact ⟨by as_aux_lemma => kernel_rfl, fun j t ht => by
        rw [Tryd.params3] at ht
        have ht2 : t ∈ [22, 22, 23, 23] := by
          have := Array.mem_of_getElem? ht
          simpa using this
        exact (show ∀ t ∈ [22, 22, 23, 23], Tryd.prog.wantsStandIn t = false by simp only [List.mem_cons, List.not_mem_nil, or_false, forall_eq_or_imp, forall_eq]; exact ⟨by as_aux_lemma => kernel_rfl, by as_aux_lemma => kernel_rfl, by as_aux_lemma => kernel_rfl, by as_aux_lemma => kernel_rfl⟩) t ht2⟩)
    (by as_aux_lemma => kernel_rfl)
#print axioms crcSaysCard_holds
end Go.Proofs.YtnkeigpbceniaaaDoor
