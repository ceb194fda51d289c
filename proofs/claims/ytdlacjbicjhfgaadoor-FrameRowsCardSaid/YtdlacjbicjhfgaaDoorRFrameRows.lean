/- The statement FrameRowsSaid: the law FrameRows answers true for every input (its row, out of the walk). No condition beyond the row's own. -/
import Derived.Test.YtdlacjbicjhfgaaDoorCards
import Derived.Test.YtdlacjbicjhfgaaDoorTie
import Derived.Test.YtdlacjbicjhfgaaDoorLaid
import Derived.Test.YtdlacjbicjhfgaaDoorRows
import Derived.Test.YtdlacjbicjhfgaaDoorFrameRows
import Derived.WalkKit
import Derived.ProofKit
import Derived.OpenShut
import Derived.ShutString
import Derived.ChangeOld
import Derived.Below
import Derived.SizedLaws
import Derived.Test.YtdlacjbicjhfgaaDoorWSized
import Derived.Test.YtdlacjbicjhfgaaDoorWWords
import Derived.Test.YtdlacjbicjhfgaaDoorOpen
namespace Go.Proofs.YtdlacjbicjhfgaaDoor.frameRows
open Go.ChangeShapes Go.WideShapes Go.ChangeAt Go.RowKit
open Go.ChangeMaps (open_string shut_string)
open Go.Proofs.YtdlacjbicjhfgaaDoorW
set_option linter.unusedVariables false
theorem own : ownKnob Tryd.prog.godebug = none := by kernel_rfl
theorem laidOut : laidOutB Tryd.prog = true := by kernel_rfl
open Go.Proofs.YtdlacjbicjhfgaaDoor
/-- The door's own heap meets the condition. -/
theorem door_met (os : Os) (args : Array Value) : laidMetH Tryd.prog Rows.frameRowsRow.laid ((World.doorLaid Tryd.prog 400 os).forCall (fun _ _ => 0) ⟨#[], args, []⟩).memory :=
  laidMetH_of_parts3 (fuel := 8) (laidMet_of_run' 8 (by kernel_rfl) (by kernel_rfl)) (by kernel_rfl) (by kernel_rfl)
def txt : Nat → List UInt8
  | 101 => [105, 116, 32, 101, 110, 100, 115, 32, 116, 111, 111, 32, 101, 97, 114, 108, 121]
  | 102 => [110, 111, 116, 32, 97, 115, 32, 105, 116, 32, 104, 97, 115, 32, 116, 111, 32, 98, 101]
  | 103 => [97, 32, 115, 117, 109, 32, 116, 104, 97, 116, 32, 100, 111, 101, 115, 32, 110, 111, 116, 32, 102, 105, 116]
  | 105 => [116, 111, 111, 32, 108, 111, 110, 103]
  | _ => []
theorem txt_inj : ∀ c ∈ [101, 102, 103, 105], ∀ d ∈ [101, 102, 103, 105], txt c = txt d → c = d := by decide +kernel
theorem of_laid {W : World} (h : laidMetH Tryd.prog Rows.frameRowsRow.laid W) : ∃ ad : Nat → Addr, EOk [101, 102, 103, 105] ad W ∧ EInj [101, 102, 103, 105] ad := by
  rw [MakeChecks.laidMetH_plain _ _ _ (by kernel_rfl)] at h
  obtain ⟨a101, s101, h101, hc101, hs101⟩ := laid_full (n := "leasehold/api.ErrEnd") (nm := "*errors.errorString") (laidMet_drop _ h 0) (show Tryd.prog.globalNamed "leasehold/api.ErrEnd" = some 2 by kernel_rfl) (show (Tryd.prog.globals[2]?).map (·.type) = some 25 by kernel_rfl) Tryd.underlying25 rowE Tryd.underlying77 Tryd.underlying93 rfl rfl Tryd.underlying9 cellsE cellsS
  obtain ⟨a102, s102, h102, hc102, hs102⟩ := laid_full (n := "leasehold/api.ErrShape") (nm := "*errors.errorString") (laidMet_drop _ h 1) (show Tryd.prog.globalNamed "leasehold/api.ErrShape" = some 1 by kernel_rfl) (show (Tryd.prog.globals[1]?).map (·.type) = some 25 by kernel_rfl) Tryd.underlying25 rowE Tryd.underlying77 Tryd.underlying93 rfl rfl Tryd.underlying9 cellsE cellsS
  obtain ⟨a103, s103, h103, hc103, hs103⟩ := laid_full (n := "leasehold/api.ErrSum") (nm := "*errors.errorString") (laidMet_drop _ h 2) (show Tryd.prog.globalNamed "leasehold/api.ErrSum" = some 3 by kernel_rfl) (show (Tryd.prog.globals[3]?).map (·.type) = some 25 by kernel_rfl) Tryd.underlying25 rowE Tryd.underlying77 Tryd.underlying93 rfl rfl Tryd.underlying9 cellsE cellsS
  obtain ⟨a105, s105, h105, hc105, hs105⟩ := laid_full (n := "leasehold/api.ErrLong") (nm := "*errors.errorString") (laidMet_drop _ h 3) (show Tryd.prog.globalNamed "leasehold/api.ErrLong" = some 0 by kernel_rfl) (show (Tryd.prog.globals[0]?).map (·.type) = some 25 by kernel_rfl) Tryd.underlying25 rowE Tryd.underlying77 Tryd.underlying93 rfl rfl Tryd.underlying9 cellsE cellsS
  refine ⟨fun c => if c = 101 then a101 else if c = 102 then a102 else if c = 103 then a103 else if c = 105 then a105 else a101, ?_, ?_⟩
  · intro c hc
    simp only [List.mem_cons, List.not_mem_nil, or_false] at hc
    rcases hc with rfl | rfl | rfl | rfl
    · exact h101
    · exact h102
    · exact h103
    · exact h105
  · have hT : ∀ c ∈ [101, 102, 103, 105], ∃ s : ByteArray, W.cell? ((fun c => if c = 101 then a101 else if c = 102 then a102 else if c = 103 then a103 else if c = 105 then a105 else a101) c) = some (.string s) ∧ s.data.toList = txt c := by
      intro c hc
      simp only [List.mem_cons, List.not_mem_nil, or_false] at hc
      rcases hc with rfl | rfl | rfl | rfl
      · exact ⟨s101, hc101, hs101⟩
      · exact ⟨s102, hc102, hs102⟩
      · exact ⟨s103, hc103, hs103⟩
      · exact ⟨s105, hc105, hs105⟩
    intro c hc d hd hne e
    obtain ⟨s, h1, h2⟩ := hT c hc
    obtain ⟨t, h3, h4⟩ := hT d hd
    rw [e, h3] at h1
    injection h1 with h1
    injection h1 with h1
    subst h1
    exact hne (txt_inj c hc d hd (h2.symm.trans h4))
set_option maxRecDepth 100000 in
theorem lifted (os : Os) (started : os.Started) (H : Type) (enc : TypeId × Value → H) :
    ReturnsInHanded {} Tryd.checked os 5 .any (fun w args => (Rows.frameRowsSpec.pre enc Tryd.prog Tryd.f5 [] false w args ∧ laidMetH Tryd.prog Rows.frameRowsRow.laid w) ∧ sizedMet enc Tryd.prog Tryd.f5 (OpenSpec.ofChange Rows.frameRowsSpec) false w args)
      (Rows.frameRowsSpec.post enc Tryd.prog Tryd.f5 false true false false) := by
  refine returnsInHanded_of_change_and (C := Tryd.checked) (X := fun w _ => laidMetH Tryd.prog Rows.frameRowsRow.laid w) (fun _ _ _ hh h => h.of_heap hh) own started (by kernel_rfl) Tryd.func5
    (ChangeSpec.witness_shaped (enc := enc) (C := Tryd.checked) (os := os) (X := fun w _ => laidMetH Tryd.prog Rows.frameRowsRow.laid w) false (World.doorLaid Tryd.prog 400 os) #[.slice none 0 0, .slice none 0 0, .int .i64 0] 8 rfl (World.shaped_of_RefB (by kernel_rfl) (by kernel_rfl)) (by kernel_rfl) (by kernel_rfl) (by kernel_rfl) (door_met os _)) ?_
  intro W base args ds gs before hval0 hW hcnd hsz0 hlaid _
  obtain ⟨ad, hE, hInj⟩ := of_laid hlaid
  have hsz : (DataW.weightsEach Tryd.prog (Tryd.f5.params.toList ++ Rows.frameRowsSpec.plain.varTypes Tryd.prog) (ds ++ gs)).all (· ≤ reachBytes) = true := hsz0
  have hval : ∀ (j : Nat) t v, Tryd.f5.params[j]? = some t → args[j]? = some v → Value.okWide Tryd.prog W .any base t v := hval0
  have hW' := hW
  obtain ⟨p, q, hA0, hV, rfl, hfz, hnd⟩ := hW
  have hA : DataW.TrodAll enc Tryd.prog W 0 (fun _ => true) true Tryd.f5.params.toList args.toList ds p := hA0
  rw [Tryd.params5] at hA hval hsz
  obtain ⟨v0, vs0, d0, ds0, p0, q0, hargs, rfl, rfl, h0, r0⟩ := trodAll_cons hA
  obtain ⟨v1, vs1, d1, ds1, p1, q1, rfl, rfl, rfl, h1, r1⟩ := trodAll_cons r0
  obtain ⟨v2, vs2, d2, ds2, p2, q2, rfl, rfl, rfl, h2, r2⟩ := trodAll_cons r1
  obtain ⟨rfl, rfl, rfl⟩ := trodAll_nil r2
  obtain rfl : args = #[v0, v1, v2] := by cases args; simp_all
  obtain ⟨rfl, rfl⟩ := trodVars_none hV
  obtain ⟨a0, len0, cap0, rfl⟩ := okWide_slice Tryd.underlying36 (hval 0 36 v0 rfl rfl)
  have k0 := h0
  have lt0 : ∀ x ∈ p0, x.block < W.heap.size := by obtain ⟨m, hm⟩ := k0; exact DataW.trod_lt m _ _ _ hm
  obtain ⟨fuel0, hf0⟩ := h0
  obtain ⟨A0, l0, c0, hcs0, hC0, hw0, hc0, hn0, hd0⟩ := opened_rows (ee := 5) Tryd.underlying36 Tryd.underlying22 Tryd.underlying5 (by kernel_rfl) (by kernel_rfl) hf0
  simp [Value.cells] at hcs0
  obtain ⟨rfl, rfl, rfl⟩ := hcs0
  obtain ⟨a1, len1, cap1, rfl⟩ := okWide_slice Tryd.underlying37 (hval 1 37 v1 rfl rfl)
  have k1 := h1
  have lt1 : ∀ x ∈ p1, x.block < W.heap.size := by obtain ⟨m, hm⟩ := k1; exact DataW.trod_lt m _ _ _ hm
  have y1 : len1 * 8 ≤ 140737488351232 := PrintWords.sized_ints hsz (j := 1) (t := 37) rfl rfl Tryd.underlying37 Tryd.underlying3 (by kernel_rfl) (by kernel_rfl) h1
  obtain ⟨fuel1, hf1⟩ := h1
  obtain ⟨A1, l1, c1, hcs1, hC1, hw1, hc1, hn1⟩ := opened_ints Tryd.underlying37 Tryd.underlying3 (by kernel_rfl) hf1
  simp [Value.cells] at hcs1
  obtain ⟨rfl, rfl, rfl⟩ := hcs1
  obtain ⟨a2, rfl, rfl, rfl, w2⟩ := open_int Tryd.underlying3 (hval 2 3 v2 rfl rfl) h2
  clear hA0 hval0 hsz0 hsz
  refine (frameRows_walk ad a0 cap0 l0 a1 cap1 l1 a2 W hE hInj hC0 hw0 hc0 hn0 hd0 hC1 hw1 y1 hc1 hn1 w2).mono fun e W' ⟨he, bel⟩ => ?_
  subst he
  exact ⟨_, rfl, _, _, _, [], _, [], hW', trodAll_mk1 (shut_bool Tryd.underlying4 _), (trodAll_cons_mk (Below.trod laidOut (by kernel_rfl) (of_decide_eq_true (by kernel_rfl)) k0 bel lt0) (trodAll_cons_mk (Below.trod laidOut (by kernel_rfl) (of_decide_eq_true (by kernel_rfl)) k1 bel lt1) (trodAll_cons_mk (shut_int Tryd.underlying3 w2) trodAll_mk0))), rfl, bel.frame _, fun h => by cases h⟩
theorem both {a b : Bool} (h : a = true) (k : b = true) : (a && b) = true := by rw [h, k]; rfl
set_option maxRecDepth 100000 in
theorem closed : joinedFacts Tryd.prog 5 Tryd.f5 Rows.frameRowsSpec Rows.frameRowsRow = true := by
  unfold joinedFacts
  repeat' (with_reducible refine both ?_ ?_)
  all_goals (as_aux_lemma => kernel_rfl)
theorem over : Rows.frameRowsRow.holds Tryd.pinned (OpenSpec.ofChange Rows.frameRowsSpec) :=
  OpenClaim.holds_of_wide 5 Tryd.f5 rfl rfl rfl rfl rfl rfl rfl ⟨rfl, rfl, rfl, rfl, rfl⟩ rfl rfl rfl rfl rfl (by as_aux_lemma => kernel_rfl) Tryd.func5 closed
    (of_decide_eq_true (by as_aux_lemma => kernel_rfl)) (by unfold Func.isWrapper; first | (rw [if_pos (by decide +kernel)]; kernel_rfl) | (rw [if_neg (by decide +kernel)]; exact ⟨rfl, rfl⟩))
    (fun os started H enc _ => lifted os started H enc)
end Go.Proofs.YtdlacjbicjhfgaaDoor.frameRows
namespace Go.Proofs.YtdlacjbicjhfgaaDoor
theorem frameRows_holds : Rows.FrameRowsSaid := frameRows.over
#print axioms frameRows_holds
theorem frameRowsCard_holds : Rows.FrameRowsCardSaid :=
  Claim7.holds_tied_plain_at .later [] [.sentinel, .sentinel, .sentinel, .sentinel] true (true, "7eeca9dbfb0a5ca85d408a7738e65d81eb8aff6b7d72d7f0a5393162b1a4d768") true
    frameRows_holds (fun _ h => by cases h) (by as_aux_lemma => kernel_rfl) (fun _ h => by cases h) frameRows_row_tie rfl ⟨rfl, rfl⟩ (by as_aux_lemma => kernel_rfl) rfl
    (fun f fn hf hfn => by
      obtain rfl : f = 5 := Option.some.inj ((show Tryd.prog.funcNamed "leasehold/leaseholdlaw3.FrameRows" = some 5 by as_aux_lemma => kernel_rfl).symm.trans hf) |>.symm
      obtain rfl : fn = Tryd.f5 := (Option.some.inj (Tryd.func5.symm.trans hfn)).symm
      exact ⟨by as_aux_lemma => kernel_rfl, fun j t ht => by
        rw [Tryd.params5] at ht
        have ht2 : t ∈ [36, 37, 3] := by
          have := Array.mem_of_getElem? ht
          simpa using this
        exact (show ∀ t ∈ [36, 37, 3], Tryd.prog.wantsStandIn t = false by simp only [List.mem_cons, List.not_mem_nil, or_false, forall_eq_or_imp, forall_eq]; exact ⟨by as_aux_lemma => kernel_rfl, by as_aux_lemma => kernel_rfl, by as_aux_lemma => kernel_rfl⟩) t ht2⟩)
    (by as_aux_lemma => kernel_rfl)
#print axioms frameRowsCard_holds
end Go.Proofs.YtdlacjbicjhfgaaDoor
