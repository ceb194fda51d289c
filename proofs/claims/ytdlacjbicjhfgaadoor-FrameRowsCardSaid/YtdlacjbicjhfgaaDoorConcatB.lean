/- Contracts of slices.Grow (at nil) and slices.Concat at bytes: a new row with all parts' bytes; memory that was there stays. -/
import Derived.Test.YtdlacjbicjhfgaaDoorProg
import Derived.Test.YtdlacjbicjhfgaaDoorBase2
import Derived.Lib.AppendZeros
namespace Go.Proofs.YtdlacjbicjhfgaaDoor
open Go.RowKit Go.Proofs.YtdlacjbicjhfgaaDoorW.PrintWords

theorem infoC : (Tryd.prog.info? 5).map (fun i => (i.zero, i.size, i.bytes)) = some (some (.int .u8 0), 1, 1) := by kernel_rfl

theorem CC_nat {kd : IntKind} {e : Nat} {w : World} {A : Option Addr} {n k : Nat} {l : List (List Int)} (h : Kd.C (Kd.slice e (Kd.int kd)) w A n l) (hk : k < n) :
    ∃ ad B c, A = some ad ∧ w.cell? (ad.add k) = some (.slice B (l.getD k []).length c) ∧ (l.getD k []).length ≤ c ∧ Kd.C (Kd.int kd) w B (l.getD k []).length (l.getD k []) := by
  obtain ⟨ad, c, h1, h2, ⟨B, d, rfl, h3, h4⟩, h5⟩ := Kd.C_get h [] k (by omega) (by omega)
  refine ⟨ad, B, d, h1, ?_, h3, h4⟩
  have := h5 0 _ rfl
  simpa [Kd.slice] using this
/-- a row of slices, just made -/
theorem CC_lit {kd : IntKind} {e : Nat} {w : World} {g : Nat} {t : TypeId} {fr : Nat × Nat} (vs : List Value) (l : List (List Int)) (hl : vs.length = l.length) (h : w.heap[g]? = some (.cells vs.toArray t fr)) (hb : l.length ≤ 9223372036854775807)
    (hv : ∀ (j : Nat) (v : Value) (xs : List Int), vs[j]? = some v → l[j]? = some xs → ∃ (A : Option Addr) (c : Nat), v = Value.slice A xs.length c ∧ xs.length ≤ c ∧ Kd.C (Kd.int kd) w A xs.length xs) :
    Kd.C (Kd.slice e (Kd.int kd)) w (some ⟨g, 0, none⟩) l.length l := by
  refine ⟨rfl, hb, fun _ => ⟨_, rfl, fun j p hj => ?_⟩⟩
  have hjl : j < l.length := (List.getElem?_eq_some_iff.1 hj).1
  obtain ⟨A, c, hvv, hlc, hC⟩ := hv j vs[j] p (List.getElem?_eq_getElem (by omega)) hj
  refine ⟨[.slice A p.length c], rfl, ⟨A, c, rfl, hlc, hC⟩, fun i u hu => ?_⟩
  have hi : i = 0 := by have := (List.getElem?_eq_some_iff.1 hu).1; simp at this; omega
  subst hi
  rw [show j * (Kd.slice e (Kd.int kd)).sz + 0 = j by simp [Kd.slice], add_plain, cell_of_row w g j _ t fr h]
  simp at hu
  subst hu
  rw [← hvv]
  simp [List.getElem?_eq_getElem (show j < vs.length by omega)]

set_option maxHeartbeats 800000 in
set_option maxRecDepth 100000 in
theorem growB_any (n : Nat) (w : World) (hn : n ≤ 140737488355328) :
    Calls Tryd.prog 26 #[.slice none 0 0, .int .i64 n] w fun e w' => ∃ A c, e = .returned (.slice A 0 c) ∧ w'.ownsRow w.heap.size 5 1 (.slice A 0 c) 0 [] ∧ Below w.heap.size w w' := by
  obtain ⟨i0, hi, hz0, hz1, hz2⟩ := info_parts infoC
  by_cases h0 : 0 < n
  · have hb0 : decide ((0 : Int) < (n : Int)) = true := decide_eq_true (by omega)
    have hb1 : decide ((n : Int) < 0) = false := decide_eq_false (by omega)
    have hr := fun (W : World) (ty : TypeId) => Lib.run_append_nil_zeros (P := Tryd.prog) W 22 3 ty 5 i0 (.int .u8 0) .i64 .i64 Tryd.underlying22 Tryd.underlying3 hi hz0 n h0 (by omega) (by omega) (by rw [hz2]; omega)
    have HR := Lib.hid hr
    clear hr
    go_enter Tryd.func26, Tryd.ntmps26
    go_wp2_with (at_builtin; refine Lib.wpList_append_run _ rfl _ _ _ _ rfl _ _ rfl rfl _ _ (HR.out w _) ?_)
    go_wp2
    go_ret
    have hcap := grownCap_ge w n 0 5
    refine ⟨_, _, rfl, ?_, (Below.refl _ _).drew.alloc (by simp) _⟩
    exact World.ownsRow_made w.drew _ _ (Nat.le_refl _) (grownCap_le_maxLen w n 0 _ (by simp only [maxLen]; omega)) (by simp [size_zeroCells, Value.cells]; omega)
  · obtain rfl : n = 0 := by omega
    go_enter Tryd.func26, Tryd.ntmps26
    go_wp2
    go_ret
    exact ⟨none, 0, rfl, World.ownsRow_nil _ _ _ _, Below.refl _ _⟩

/-- all parts' bytes -/
theorem flat_take_le (l : List (List Int)) (k : Nat) : (l.take k).flatten.length ≤ l.flatten.length := by
  have h : l.flatten = (l.take k).flatten ++ (l.drop k).flatten := by rw [← List.flatten_append, List.take_append_drop]
  rw [h]; simp
theorem flat_snoc (l : List (List Int)) (k : Nat) (h : k < l.length) : (l.take (k + 1)).flatten = (l.take k).flatten ++ l.getD k [] := by
  have e : l.getD k [] = l[k] := by simp [List.getD, List.getElem?_eq_getElem h]
  rw [List.take_succ_eq_append_getElem h, e, List.flatten_append, List.flatten_singleton]

set_option maxHeartbeats 1600000 in
set_option maxRecDepth 100000 in
theorem concatB_any (A : Option Addr) (c : Nat) (l : List (List Int)) (w : World) (hx : Kd.C (Kd.slice 5 (Kd.int .u8)) w A l.length l) (hbig : l.flatten.length ≤ 140737488355328) (hnd : ∀ (k : Nat) (a : Addr) (B : Option Addr) (n d : Nat), A = some a → k < l.length → w.cell? (a.add k) = some (Value.slice B n d) → B = none → d = 0) :
    Calls Tryd.prog 18 #[.slice A l.length c] w fun e w' => ∃ A' c', e = .returned (.slice A' l.flatten.length c') ∧ w'.ownsRow w.heap.size 5 1 (.slice A' l.flatten.length c') l.flatten.length (nums .u8 l.flatten) ∧ Below w.heap.size w w' := by
  have hll : l.length ≤ 9223372036854775807 := hx.2.1
  have HND := Lib.hid hnd
  clear hnd
  go_enter Tryd.func18, Tryd.ntmps18
  go_wp2
  go_loop [3, 11] (fun t i => ∃ k m : Nat, k ≤ l.length ∧ i = .int .i64 k ∧ t = .int .i64 m ∧ m ≤ 140737488355328 ∧ Hid (m = (l.take k).flatten.length)) (fun _ i => l.length - (intOf i).toNat)
  case atStart => exact ⟨0, 0, Nat.zero_le _, rfl, rfl, by omega, rfl⟩
  case round =>
    obtain ⟨k, m, hk, rfl, rfl, hm, HM⟩ := hrel
    by_cases hlt : k < l.length
    · obtain ⟨a, B, d, rfl, hcell, hld, hCB⟩ := CC_nat hx hlt
      have hsn := flat_snoc l k hlt
      have hle := flat_take_le l (k + 1)
      rw [hsn, List.length_append] at hle
      have hm2 := HM.out
      have hb : m + (l.getD k []).length ≤ 140737488355328 := by omega
      have hmn : m + (l.getD k []).length = (l.take (k + 1)).flatten.length := by rw [hsn, List.length_append, hm2]
      generalize l.getD k [] = xs at *
      have HMN := Lib.hid hmn
      clear hsn hle hm2 hmn hCB
      go_wp2
      go_round
      case rel => exact ⟨k + 1, m + xs.length, by omega, by go_num, by simp, hb, HMN.out⟩
      case measure => simp [intOf]; omega
    · obtain rfl : k = l.length := by omega
      have hm2 := HM.out
      rw [List.take_length] at hm2
      have Hg := Lib.hid (growB_any m w hm)
      have HM2 := Lib.hid hm2
      clear hm2 HM
      go_wp2_with fail
      refine Hg.out.mono ?_
      clear Hg
      rintro e w1 ⟨A1, c1, rfl, ho1, hb1⟩
      have ho10 := own_weaken ho1 (Nat.zero_le _)
      have hge1 : ∀ q, (Value.slice A1 0 c1).ownBlock = some q → w.heap.size ≤ q := own_base ho1
      clear ho1
      have hs1 := hb1.size
      go_wp2_with fail
      go_loopw [6, 27] (fun v i wr => ∃ (k : Nat) (X : List Int) (A2 : Option Addr) (c2 : Nat), k ≤ l.length ∧ i = .int .i64 k ∧ Hid (X = (l.take k).flatten) ∧ v = .slice A2 X.length c2 ∧ wr.ownsRow 0 5 1 (.slice A2 X.length c2) X.length (nums .u8 X) ∧ Grw w1 wr (.slice A1 0 c1) (.slice A2 X.length c2)) (fun _ i _ => l.length - (intOf i).toNat)
      case atStart => exact ⟨0, [], A1, c1, Nat.zero_le _, rfl, rfl, rfl, ho10, Grw.refl _ _⟩
      case round =>
        clear ho10
        obtain ⟨k, X, A2, c2, hk, rfl, HX, rfl, ho, hG⟩ := hrel
        have hBr : Below w.heap.size w wr := hb1.trans (hG.below _ hs1 hge1)
        by_cases hlt : k < l.length
        · obtain ⟨a, B, d, rfl, hcell0, hld, hCB0⟩ := CC_nat hx hlt
          have hdn := HND.out k a B _ d rfl hlt hcell0
          have hcell := pw_cell_below hBr hcell0
          have hCB := Kd.C_below hCB0 hBr
          have hsn := flat_snoc l k hlt
          have hle := flat_take_le l (k + 1)
          rw [hsn, List.length_append] at hle
          generalize l.getD k [] = xs at *
          have hXX : X ++ xs = (l.take (k + 1)).flatten := by rw [HX.out, hsn]
          have hXl : X.length + xs.length ≤ 140737488355328 := by rw [HX.out]; omega
          have HXX := Lib.hid hXX
          have HDN := Lib.hid hdn
          clear hsn hle hXX hcell0 hCB0 hdn
          go_wp2_with (at_builtin; refine app_sl rfl _ _ 22 5 .u8 (.int .u8 0) 1 rfl Tryd.underlying22 infoC rfl (by decide) _ X.length (nums .u8 X) B d xs rfl rfl HDN.out ho hCB (by omega) ?_)
          intro A3 c3 w3 ho3 hG3
          go_wp2
          go_roundw
          case rel => exact ⟨k + 1, X ++ xs, A3, c3, by omega, by go_num, HXX.out, by simp, by rw [nums_append, List.length_append]; exact ho3, by rw [List.length_append]; exact hG.trans hG3⟩
          case measure => simp [intOf]; omega
        · obtain rfl : k = l.length := by omega
          have hX := HX.out
          rw [List.take_length] at hX
          subst hX
          go_wp2
          go_ret
          refine ⟨A2, c2, rfl, ⟨ho.1, ?_⟩, hBr⟩
          rcases ho.2 with h | ⟨g, cap, cur, he, _, hr⟩
          · exact .inl h
          · refine .inr ⟨g, cap, cur, he, ?_, hr⟩
            injection he with h1 h2 h3
            have hgo : (Value.slice A2 l.flatten.length c2).ownBlock = some g := by rw [h1]; rfl
            rcases hG.at_ with e | ⟨b, e, hb⟩
            · exact hge1 g (by rw [← e]; exact hgo)
            · rw [e] at hgo
              injection hgo with hgo
              omega

end Go.Proofs.YtdlacjbicjhfgaaDoor
