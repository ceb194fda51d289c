/- The statement CrcSeedsSaid: the law CrcSeeds answers true for every input (its row, out of the walk). No condition beyond the row's own. -/
import Derived.Test.YtnkeigpbceniaaaDoorCards
import Derived.Test.YtnkeigpbceniaaaDoorTie
import Derived.Test.YtnkeigpbceniaaaDoorLaid
import Derived.Test.YtnkeigpbceniaaaDoorRows
import Derived.Test.YtnkeigpbceniaaaDoorCrcSeeds
import Derived.WalkKit
import Derived.ProofKit
import Derived.OpenShut
import Derived.ShutString
import Derived.ChangeOld
import Derived.Below
import Derived.SizedLaws
import Derived.Test.YtnkeigpbceniaaaDoorWSized
import Derived.Test.YtnkeigpbceniaaaDoorWWords
import Derived.Test.YtnkeigpbceniaaaDoorOpen
namespace Go.Proofs.YtnkeigpbceniaaaDoor.crcSeeds
open Go.ChangeShapes Go.WideShapes Go.ChangeAt Go.RowKit
open Go.ChangeMaps (open_string shut_string)
open Go.Proofs.YtnkeigpbceniaaaDoorW
set_option linter.unusedVariables false
theorem own : ownKnob Tryd.prog.godebug = none := by kernel_rfl
theorem laidOut : laidOutB Tryd.prog = true := by kernel_rfl
open Go.Proofs.YtnkeigpbceniaaaDoor
/-- The door's own heap meets the condition. -/
theorem door_met (os : Os) (args : Array Value) : laidMetH Tryd.prog Rows.crcSeedsRow.laid ((World.doorLaid Tryd.prog 400 os).forCall (fun _ _ => 0) ⟨#[], args, []⟩).memory :=
  laidMetH_of_parts3 (fuel := 8) (laidMet_of_run' 8 (by kernel_rfl) (by kernel_rfl)) (by kernel_rfl) (by kernel_rfl)
def txt : Nat → List UInt8
  | 101 => [105, 116, 32, 101, 110, 100, 115, 32, 116, 111, 111, 32, 101, 97, 114, 108, 121]
  | 103 => [97, 32, 115, 117, 109, 32, 116, 104, 97, 116, 32, 100, 111, 101, 115, 32, 110, 111, 116, 32, 102, 105, 116]
  | _ => []
theorem txt_inj : ∀ c ∈ [101, 103], ∀ d ∈ [101, 103], txt c = txt d → c = d := by decide +kernel
theorem of_laid {W : World} (h : laidMetH Tryd.prog Rows.crcSeedsRow.laid W) : ∃ ad : Nat → Addr, EOk [101, 103] ad W ∧ EInj [101, 103] ad := by
  rw [MakeChecks.laidMetH_plain _ _ _ (by kernel_rfl)] at h
  obtain ⟨a101, s101, h101, hc101, hs101⟩ := laid_full (n := "leasehold/api.ErrEnd") (nm := "*errors.errorString") (laidMet_drop _ h 0) (show Tryd.prog.globalNamed "leasehold/api.ErrEnd" = some 0 by kernel_rfl) (show (Tryd.prog.globals[0]?).map (·.type) = some 27 by kernel_rfl) Tryd.underlying27 rowE Tryd.underlying65 Tryd.underlying82 rfl rfl Tryd.underlying9 cellsE cellsS
  obtain ⟨a103, s103, h103, hc103, hs103⟩ := laid_full (n := "leasehold/api.ErrSum") (nm := "*errors.errorString") (laidMet_drop _ h 1) (show Tryd.prog.globalNamed "leasehold/api.ErrSum" = some 1 by kernel_rfl) (show (Tryd.prog.globals[1]?).map (·.type) = some 27 by kernel_rfl) Tryd.underlying27 rowE Tryd.underlying65 Tryd.underlying82 rfl rfl Tryd.underlying9 cellsE cellsS
  refine ⟨fun c => if c = 101 then a101 else if c = 103 then a103 else a101, ?_, ?_⟩
  · intro c hc
    simp only [List.mem_cons, List.not_mem_nil, or_false] at hc
    rcases hc with rfl | rfl
    · exact h101
    · exact h103
  · have hT : ∀ c ∈ [101, 103], ∃ s : ByteArray, W.cell? ((fun c => if c = 101 then a101 else if c = 103 then a103 else a101) c) = some (.string s) ∧ s.data.toList = txt c := by
      intro c hc
      simp only [List.mem_cons, List.not_mem_nil, or_false] at hc
      rcases hc with rfl | rfl
      · exact ⟨s101, hc101, hs101⟩
      · exact ⟨s103, hc103, hs103⟩
    intro c hc d hd hne e
    obtain ⟨s, h1, h2⟩ := hT c hc
    obtain ⟨t, h3, h4⟩ := hT d hd
    rw [e, h3] at h1
    injection h1 with h1
    injection h1 with h1
    subst h1
    exact hne (txt_inj c hc d hd (h2.symm.trans h4))
set_option maxRecDepth 100000 in
theorem lifted (os : Os) (started : os.Started) (H : Type) (enc : TypeId × Value → H) :
    ReturnsInHanded {} Tryd.checked os 5 .any (fun w args => (Rows.crcSeedsSpec.pre enc Tryd.prog Tryd.f5 [] false w args ∧ laidMetH Tryd.prog Rows.crcSeedsRow.laid w) ∧ sizedMet enc Tryd.prog Tryd.f5 (OpenSpec.ofChange Rows.crcSeedsSpec) false w args)
      (Rows.crcSeedsSpec.post enc Tryd.prog Tryd.f5 false true false false) := by
  refine returnsInHanded_of_change_and (C := Tryd.checked) (X := fun w _ => laidMetH Tryd.prog Rows.crcSeedsRow.laid w) (fun _ _ _ hh h => h.of_heap hh) own started (by kernel_rfl) Tryd.func5
    (ChangeSpec.witness_shaped (enc := enc) (C := Tryd.checked) (os := os) (X := fun w _ => laidMetH Tryd.prog Rows.crcSeedsRow.laid w) false (World.doorLaid Tryd.prog 400 os) #[.slice none 0 0, .int .u32 0, .int .i64 0, .int .i64 0, .int .i64 0] 8 rfl (World.shaped_of_RefB (by kernel_rfl) (by kernel_rfl)) (by kernel_rfl) (by kernel_rfl) (by kernel_rfl) (door_met os _)) ?_
  intro W base args ds gs before hval0 hW hcnd hsz0 hlaid _
  obtain ⟨ad, hE, hInj⟩ := of_laid hlaid
  have hsz : (DataW.weightsEach Tryd.prog (Tryd.f5.params.toList ++ Rows.crcSeedsSpec.plain.varTypes Tryd.prog) (ds ++ gs)).all (· ≤ reachBytes) = true := hsz0
  have hval : ∀ (j : Nat) t v, Tryd.f5.params[j]? = some t → args[j]? = some v → Value.okWide Tryd.prog W .any base t v := hval0
  have hW' := hW
  obtain ⟨p, q, hA0, hV, rfl, hfz, hnd⟩ := hW
  have hA : DataW.TrodAll enc Tryd.prog W 0 (fun _ => true) true Tryd.f5.params.toList args.toList ds p := hA0
  rw [Tryd.params5] at hA hval hsz
  obtain ⟨v0, vs0, d0, ds0, p0, q0, hargs, rfl, rfl, h0, r0⟩ := trodAll_cons hA
  obtain ⟨v1, vs1, d1, ds1, p1, q1, rfl, rfl, rfl, h1, r1⟩ := trodAll_cons r0
  obtain ⟨v2, vs2, d2, ds2, p2, q2, rfl, rfl, rfl, h2, r2⟩ := trodAll_cons r1
  obtain ⟨v3, vs3, d3, ds3, p3, q3, rfl, rfl, rfl, h3, r3⟩ := trodAll_cons r2
  obtain ⟨v4, vs4, d4, ds4, p4, q4, rfl, rfl, rfl, h4, r4⟩ := trodAll_cons r3
  obtain ⟨rfl, rfl, rfl⟩ := trodAll_nil r4
  obtain rfl : args = #[v0, v1, v2, v3, v4] := by cases args; simp_all
  obtain ⟨rfl, rfl⟩ := trodVars_none hV
  obtain ⟨a0, len0, cap0, rfl⟩ := okWide_slice Tryd.underlying22 (hval 0 22 v0 rfl rfl)
  have k0 := h0
  have lt0 : ∀ x ∈ p0, x.block < W.heap.size := by obtain ⟨m, hm⟩ := k0; exact DataW.trod_lt m _ _ _ hm
  have y0 : len0 * 1 ≤ 140737488351232 := PrintWords.sized_ints hsz (j := 0) (t := 22) rfl rfl Tryd.underlying22 Tryd.underlying5 (by kernel_rfl) (by kernel_rfl) h0
  obtain ⟨fuel0, hf0⟩ := h0
  obtain ⟨A0, l0, c0, hcs0, hC0, hw0, hc0, hn0⟩ := opened_ints Tryd.underlying22 Tryd.underlying5 (by kernel_rfl) hf0
  simp [Value.cells] at hcs0
  obtain ⟨rfl, rfl, rfl⟩ := hcs0
  obtain ⟨a1, rfl, rfl, rfl, w1⟩ := open_int Tryd.underlying23 (hval 1 23 v1 rfl rfl) h1
  obtain ⟨a2, rfl, rfl, rfl, w2⟩ := open_int Tryd.underlying3 (hval 2 3 v2 rfl rfl) h2
  obtain ⟨a3, rfl, rfl, rfl, w3⟩ := open_int Tryd.underlying3 (hval 3 3 v3 rfl rfl) h3
  obtain ⟨a4, rfl, rfl, rfl, w4⟩ := open_int Tryd.underlying3 (hval 4 3 v4 rfl rfl) h4
  clear hA0 hval0 hsz0 hsz
  refine (crcSeeds_walk ad a0 cap0 l0 a1 a2 a3 a4 W hE hInj hC0 hw0 y0 hc0 hn0 w1 w2 w3 w4).mono fun e W' ⟨he, bel⟩ => ?_
  subst he
  exact ⟨_, rfl, _, _, _, [], _, [], hW', trodAll_mk1 (shut_bool Tryd.underlying4 _), (trodAll_cons_mk (Below.trod laidOut (by kernel_rfl) (of_decide_eq_true (by kernel_rfl)) k0 bel lt0) (trodAll_cons_mk (shut_int Tryd.underlying23 w1) (trodAll_cons_mk (shut_int Tryd.underlying3 w2) (trodAll_cons_mk (shut_int Tryd.underlying3 w3) (trodAll_cons_mk (shut_int Tryd.underlying3 w4) trodAll_mk0))))), rfl, bel.frame _, fun h => by cases h⟩
theorem both {a b : Bool} (h : a = true) (k : b = true) : (a && b) = true := by rw [h, k]; rfl
set_option maxRecDepth 100000 in
theorem closed : joinedFacts Tryd.prog 5 Tryd.f5 Rows.crcSeedsSpec Rows.crcSeedsRow = true := by
  unfold joinedFacts
  repeat' (with_reducible refine both ?_ ?_)
  all_goals (as_aux_lemma => kernel_rfl)
theorem over : Rows.crcSeedsRow.holds Tryd.pinned (OpenSpec.ofChange Rows.crcSeedsSpec) :=
  OpenClaim.holds_of_wide 5 Tryd.f5 rfl rfl rfl rfl rfl rfl rfl ⟨rfl, rfl, rfl, rfl, rfl⟩ rfl rfl rfl rfl rfl (by as_aux_lemma => kernel_rfl) Tryd.func5 closed
    (of_decide_eq_true (by as_aux_lemma => kernel_rfl)) (by unfold Func.isWrapper; first | (rw [if_pos (by decide +kernel)]; kernel_rfl) | (rw [if_neg (by decide +kernel)]; exact ⟨rfl, rfl⟩))
    (fun os started H enc _ => lifted os started H enc)
end Go.Proofs.YtnkeigpbceniaaaDoor.crcSeeds
namespace Go.Proofs.YtnkeigpbceniaaaDoor
theorem crcSeeds_holds : Rows.CrcSeedsSaid := crcSeeds.over
#print axioms crcSeeds_holds
theorem crcSeedsCard_holds : Rows.CrcSeedsCardSaid :=
  Claim7.holds_tied_plain_at .later [] [.sentinel, .sentinel] true (true, "45cad29be48ba4004c71c98f25e9991aa7383a6bae897885d7286e1c1de0d912") true
    crcSeeds_holds (fun _ h => by cases h) (by as_aux_lemma => kernel_rfl) (fun _ h => by cases h) crcSeeds_row_tie rfl ⟨rfl, rfl⟩ (by as_aux_lemma => kernel_rfl) rfl
    (fun f fn hf hfn => by
      obtain rfl : f = 5 := Option.some.inj ((show Tryd.prog.funcNamed "leasehold/leaseholdlaw1.CrcSeeds" = some 5 by as_aux_lemma => kernel_rfl).symm.trans hf) |>.symm
      obtain rfl : fn = Tryd.f5 := (Option.some.inj (Tryd.func5.symm.trans hfn)).symm
      exact ⟨by as_aux_lemma => kernel_rfl, fun j t ht => by
        rw [Tryd.params5] at ht
        have ht2 : t ∈ [22, 23, 3, 3, 3] := by
          have := Array.mem_of_getElem? ht
          simpa using this
        exact (show ∀ t ∈ [22, 23, 3, 3, 3], Tryd.prog.wantsStandIn t = false by simp only [List.mem_cons, List.not_mem_nil, or_false, forall_eq_or_imp, forall_eq]; exact ⟨by as_aux_lemma => kernel_rfl, by as_aux_lemma => kernel_rfl, by as_aux_lemma => kernel_rfl, by as_aux_lemma => kernel_rfl, by as_aux_lemma => kernel_rfl⟩) t ht2⟩)
    (by as_aux_lemma => kernel_rfl)
#print axioms crcSeedsCard_holds
end Go.Proofs.YtnkeigpbceniaaaDoor
