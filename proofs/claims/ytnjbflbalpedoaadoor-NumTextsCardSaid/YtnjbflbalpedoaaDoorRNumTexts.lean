/- The statement NumTextsSaid: the law NumTexts answers true for every input (its row, out of the walk). No condition beyond the row's own. -/
import Derived.Test.YtnjbflbalpedoaaDoorCards
import Derived.Test.YtnjbflbalpedoaaDoorTie
import Derived.Test.YtnjbflbalpedoaaDoorLaid
import Derived.Test.YtnjbflbalpedoaaDoorRows
import Derived.Test.YtnjbflbalpedoaaDoorNumTexts
import Derived.WalkKit
import Derived.ProofKit
import Derived.OpenShut
import Derived.ShutString
import Derived.ChangeOld
import Derived.Below
import Derived.SizedLaws
import Derived.Test.YtnjbflbalpedoaaDoorWSized
import Derived.Test.YtnjbflbalpedoaaDoorWWords
import Derived.Test.YtnjbflbalpedoaaDoorOpen
namespace Go.Proofs.YtnjbflbalpedoaaDoor.numTexts
open Go.ChangeShapes Go.WideShapes Go.ChangeAt Go.RowKit
open Go.ChangeMaps (open_string shut_string)
open Go.Proofs.YtnjbflbalpedoaaDoorW
set_option linter.unusedVariables false
theorem own : ownKnob Tryd.prog.godebug = none := by kernel_rfl
theorem laidOut : laidOutB Tryd.prog = true := by kernel_rfl
open Go.Proofs.YtnjbflbalpedoaaDoor
/-- The door's own heap meets the condition. -/
theorem door_met (os : Os) (args : Array Value) : laidMetH Tryd.prog Rows.numTextsRow.laid ((World.doorLaid Tryd.prog 400 os).forCall (fun _ _ => 0) ⟨#[], args, []⟩).memory :=
  laidMetH_of_parts3 (fuel := 8) (laidMet_of_run' 8 (by kernel_rfl) (by kernel_rfl)) (by kernel_rfl) (by kernel_rfl)
theorem of_laid {W : World} (h : laidMetH Tryd.prog Rows.numTextsRow.laid W) : ∃ ad : Nat → Addr, EOk [101, 102, 105, 107] ad W ∧ EInj [101, 102, 105, 107] ad := by
  rw [MakeChecks.laidMetH_plain _ _ _ (by kernel_rfl)] at h
  obtain ⟨a101, s101, h101, hc101, hs101⟩ := laid_full (n := "leasehold/api.ErrEnd") (nm := "*errors.errorString") (laidMet_drop _ h 0) (show Tryd.prog.globalNamed "leasehold/api.ErrEnd" = some 2 by kernel_rfl) (show (Tryd.prog.globals[2]?).map (·.type) = some 37 by kernel_rfl) Tryd.underlying37 rowE Tryd.underlying84 Tryd.underlying101 rfl rfl Tryd.underlying9 cellsE cellsS
  obtain ⟨a102, s102, h102, hc102, hs102⟩ := laid_full (n := "leasehold/api.ErrShape") (nm := "*errors.errorString") (laidMet_drop _ h 1) (show Tryd.prog.globalNamed "leasehold/api.ErrShape" = some 3 by kernel_rfl) (show (Tryd.prog.globals[3]?).map (·.type) = some 37 by kernel_rfl) Tryd.underlying37 rowE Tryd.underlying84 Tryd.underlying101 rfl rfl Tryd.underlying9 cellsE cellsS
  obtain ⟨a105, s105, h105, hc105, hs105⟩ := laid_full (n := "leasehold/api.ErrLong") (nm := "*errors.errorString") (laidMet_drop _ h 2) (show Tryd.prog.globalNamed "leasehold/api.ErrLong" = some 1 by kernel_rfl) (show (Tryd.prog.globals[1]?).map (·.type) = some 37 by kernel_rfl) Tryd.underlying37 rowE Tryd.underlying84 Tryd.underlying101 rfl rfl Tryd.underlying9 cellsE cellsS
  obtain ⟨a107, s107, h107, hc107, hs107⟩ := laid_full (n := "leasehold/api.ErrRange") (nm := "*errors.errorString") (laidMet_drop _ h 3) (show Tryd.prog.globalNamed "leasehold/api.ErrRange" = some 0 by kernel_rfl) (show (Tryd.prog.globals[0]?).map (·.type) = some 37 by kernel_rfl) Tryd.underlying37 rowE Tryd.underlying84 Tryd.underlying101 rfl rfl Tryd.underlying9 cellsE cellsS
  refine ⟨fun c => if c = 101 then a101 else if c = 102 then a102 else if c = 105 then a105 else if c = 107 then a107 else a101, ?_, ?_⟩
  · intro c hc
    simp only [List.mem_cons, List.not_mem_nil, or_false] at hc
    rcases hc with rfl | rfl | rfl | rfl
    · exact h101
    · exact h102
    · exact h105
    · exact h107
  · have hd : ∀ (a b : Addr) (s t : ByteArray), W.cell? a = some (.string s) → W.cell? b = some (.string t) → s.data.toList ≠ t.data.toList → a ≠ b := fun a b s t h1 h2 h3 e => by
      subst e
      rw [h1] at h2
      injection h2 with h2
      injection h2 with h2
      exact h3 (by rw [h2])
    intro c hc d hd2 hne
    simp only [List.mem_cons, List.not_mem_nil, or_false] at hc hd2
    rcases hc with rfl | rfl | rfl | rfl <;> rcases hd2 with rfl | rfl | rfl | rfl
    all_goals first | exact absurd rfl hne | (refine hd _ _ _ _ (by assumption) (by assumption) ?_; simp [*])
set_option maxRecDepth 100000 in
theorem lifted (os : Os) (started : os.Started) (H : Type) (enc : TypeId × Value → H) :
    ReturnsInHanded {} Tryd.checked os 4 .any (fun w args => (Rows.numTextsSpec.pre enc Tryd.prog Tryd.f4 [] false w args ∧ laidMetH Tryd.prog Rows.numTextsRow.laid w) ∧ sizedMet enc Tryd.prog Tryd.f4 (OpenSpec.ofChange Rows.numTextsSpec) false w args)
      (Rows.numTextsSpec.post enc Tryd.prog Tryd.f4 false true false false) := by
  refine returnsInHanded_of_change_and (C := Tryd.checked) (X := fun w _ => laidMetH Tryd.prog Rows.numTextsRow.laid w) (fun _ _ _ hh h => h.of_heap hh) own started (by kernel_rfl) Tryd.func4
    (ChangeSpec.witness_shaped (enc := enc) (C := Tryd.checked) (os := os) (X := fun w _ => laidMetH Tryd.prog Rows.numTextsRow.laid w) false (World.doorLaid Tryd.prog 400 os) #[.slice none 0 0, .int .i64 0, .slice none 0 0] 8 rfl (World.shaped_of_RefB (by kernel_rfl) (by kernel_rfl)) (by kernel_rfl) (by kernel_rfl) (by kernel_rfl) (door_met os _)) ?_
  intro W base args ds gs before hval0 hW hcnd hsz0 hlaid _
  obtain ⟨ad, hE, hInj⟩ := of_laid hlaid
  have hsz : (DataW.weightsEach Tryd.prog (Tryd.f4.params.toList ++ Rows.numTextsSpec.plain.varTypes Tryd.prog) (ds ++ gs)).all (· ≤ reachBytes) = true := hsz0
  have hval : ∀ (j : Nat) t v, Tryd.f4.params[j]? = some t → args[j]? = some v → Value.okWide Tryd.prog W .any base t v := hval0
  have hW' := hW
  obtain ⟨p, q, hA0, hV, rfl, hfz, hnd⟩ := hW
  have hA : DataW.TrodAll enc Tryd.prog W 0 (fun _ => true) true Tryd.f4.params.toList args.toList ds p := hA0
  rw [Tryd.params4] at hA hval hsz
  obtain ⟨v0, vs0, d0, ds0, p0, q0, hargs, rfl, rfl, h0, r0⟩ := trodAll_cons hA
  obtain ⟨v1, vs1, d1, ds1, p1, q1, rfl, rfl, rfl, h1, r1⟩ := trodAll_cons r0
  obtain ⟨v2, vs2, d2, ds2, p2, q2, rfl, rfl, rfl, h2, r2⟩ := trodAll_cons r1
  obtain ⟨rfl, rfl, rfl⟩ := trodAll_nil r2
  obtain rfl : args = #[v0, v1, v2] := by cases args; simp_all
  obtain ⟨rfl, rfl⟩ := trodVars_none hV
  obtain ⟨a0, len0, cap0, rfl⟩ := okWide_slice Tryd.underlying41 (hval 0 41 v0 rfl rfl)
  have k0 := h0
  have lt0 : ∀ x ∈ p0, x.block < W.heap.size := by obtain ⟨m, hm⟩ := k0; exact DataW.trod_lt m _ _ _ hm
  obtain ⟨fuel0, hf0⟩ := h0
  obtain ⟨A0, l0, c0, hcs0, hC0, hw0, hc0, hn0⟩ := opened_strings Tryd.underlying41 Tryd.underlying9 (by kernel_rfl) hf0
  simp [Value.cells] at hcs0
  obtain ⟨rfl, rfl, rfl⟩ := hcs0
  obtain ⟨a1, rfl, rfl, rfl, w1⟩ := open_int Tryd.underlying3 (hval 1 3 v1 rfl rfl) h1
  obtain ⟨a2, len2, cap2, rfl⟩ := okWide_slice Tryd.underlying42 (hval 2 42 v2 rfl rfl)
  have k2 := h2
  have lt2 : ∀ x ∈ p2, x.block < W.heap.size := by obtain ⟨m, hm⟩ := k2; exact DataW.trod_lt m _ _ _ hm
  obtain ⟨fuel2, hf2⟩ := h2
  obtain ⟨A2, l2, c2, hcs2, hC2, hc2, hn2⟩ := opened_bools Tryd.underlying42 Tryd.underlying4 (by kernel_rfl) hf2
  simp [Value.cells] at hcs2
  obtain ⟨rfl, rfl, rfl⟩ := hcs2
  clear hA0 hval0 hsz0 hsz
  refine (numTexts_walk ad a0 cap0 l0 a1 a2 cap2 l2 W hE hInj hC0 hw0 hc0 hn0 w1 hC2 hc2 hn2).mono fun e W' ⟨he, bel⟩ => ?_
  subst he
  exact ⟨_, rfl, _, _, _, [], _, [], hW', trodAll_mk1 (shut_bool Tryd.underlying4 _), (trodAll_cons_mk (Below.trod laidOut (by kernel_rfl) (of_decide_eq_true (by kernel_rfl)) k0 bel lt0) (trodAll_cons_mk (shut_int Tryd.underlying3 w1) (trodAll_cons_mk (Below.trod laidOut (by kernel_rfl) (of_decide_eq_true (by kernel_rfl)) k2 bel lt2) trodAll_mk0))), rfl, bel.frame _, fun h => by cases h⟩
theorem over : Rows.numTextsRow.holds Tryd.pinned (OpenSpec.ofChange Rows.numTextsSpec) :=
  OpenClaim.holds_of_wide 4 Tryd.f4 rfl rfl rfl rfl rfl rfl rfl ⟨rfl, rfl, rfl, rfl, rfl⟩ rfl rfl rfl rfl rfl (by kernel_rfl) Tryd.func4 (by kernel_rfl)
    (of_decide_eq_true (by kernel_rfl)) (by unfold Func.isWrapper; first | (rw [if_pos (by decide +kernel)]; kernel_rfl) | (rw [if_neg (by decide +kernel)]; exact ⟨rfl, rfl⟩))
    (fun os started H enc _ => lifted os started H enc)
end Go.Proofs.YtnjbflbalpedoaaDoor.numTexts
namespace Go.Proofs.YtnjbflbalpedoaaDoor
theorem numTexts_holds : Rows.NumTextsSaid := numTexts.over
#print axioms numTexts_holds
theorem numTextsCard_holds : Rows.NumTextsCardSaid :=
  Claim7.holds_tied_plain_at .later [] [.sentinel, .sentinel, .sentinel, .sentinel] true (true, "5fad23b606028aaa63b1589d1dd458321ed7590119710ffe947612a6a16537df") true
    numTexts_holds (fun _ h => by cases h) (by kernel_rfl) (fun _ h => by cases h) numTexts_row_tie rfl ⟨rfl, rfl⟩ (by kernel_rfl) rfl
    (fun f fn hf hfn => by
      obtain rfl : f = 4 := Option.some.inj ((show Tryd.prog.funcNamed "leasehold/leaseholdlaw2.NumTexts" = some 4 by kernel_rfl).symm.trans hf) |>.symm
      obtain rfl : fn = Tryd.f4 := (Option.some.inj (Tryd.func4.symm.trans hfn)).symm
      exact ⟨by kernel_rfl, fun j t ht => by
        rw [Tryd.params4] at ht
        have ht2 : t ∈ [41, 3, 42] := by
          have := Array.mem_of_getElem? ht
          simpa using this
        exact (show ∀ t ∈ [41, 3, 42], Tryd.prog.wantsStandIn t = false by simp only [List.mem_cons, List.not_mem_nil, or_false, forall_eq_or_imp, forall_eq]; exact ⟨by kernel_rfl, by kernel_rfl, by kernel_rfl⟩) t ht2⟩)
    (by kernel_rfl)
#print axioms numTextsCard_holds
end Go.Proofs.YtnjbflbalpedoaaDoor
