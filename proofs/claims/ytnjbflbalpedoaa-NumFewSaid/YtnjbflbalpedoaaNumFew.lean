/- Contracts of functions that the statement reaches: for every input in the stated bounds the Go function returns what is written, and memory that was there stays. -/
import Derived.Test.YtnjbflbalpedoaaA4
namespace Go.Proofs.Ytnjbflbalpedoaa
open Go.RowKit Go.Proofs.YtnjbflbalpedoaaW.PrintWords

theorem Below.new {w w1 w2 : World} {o : Obj} (hb : Below w.heap.size w w1) (h2 : Below (w1.alloc o).heap.size (w1.alloc o) w2) : Below w.heap.size w w2 := by
  have hs := hb.size
  exact (below_alloc hb o).trans (h2.mono (by simp; omega))

theorem wf_range {n : Int} (h : (Lit.int .i64 n).wf = true) : -9223372036854775808 ≤ n ∧ n ≤ 9223372036854775807 := by
  simp [Lit.wf, IntKind.min] at h
  simpa [IntKind.signed, IntKind.bits] using h
theorem encU_gt (n : Nat) : ∀ u, n + 1 < (encU u).length ↔ 128 ^ (n + 1) ≤ u := by
  induction n with
  | zero =>
    intro u
    by_cases hb : 127 < u
    · have : 0 < (encU (u / 128)).length := by
        by_cases hb : 127 < u / 128
        · rw [encU_big _ hb]; simp
        · rw [encU_small _ hb]; simp
      rw [encU_big u hb]; simp; omega
    · rw [encU_small u hb]; simp; omega
  | succ n ih =>
    intro u
    by_cases hb : 127 < u
    · have := ih (u / 128)
      rw [encU_big u hb, Nat.pow_succ]; simp only [List.length_cons]; omega
    · have : 128 ^ (n + 1 + 1) ≥ 128 := by rw [Nat.pow_succ]; have : 0 < 128 ^ (n + 1) := Nat.pow_pos (by omega); omega
      rw [encU_small u hb]; simp; omega
theorem encU_inj (u : Nat) : ∀ v, encU u = encU v → u = v := by
  induction u using Nat.strongRecOn with
  | _ u ih =>
    intro v h
    by_cases hu : 127 < u <;> by_cases hv : 127 < v
    · rw [encU_big u hu, encU_big v hv] at h
      injection h with h1 h2
      have := ih (u / 128) (by omega) _ h2
      omega
    · rw [encU_big u hu, encU_small v hv] at h
      injection h with h1 h2
      omega
    · rw [encU_small u hu, encU_big v hv] at h
      injection h with h1 h2
      omega
    · rw [encU_small u hu, encU_small v hv] at h
      injection h with h1 h2
      omega
theorem enc_one (a : Int) : enc [a] = encU (zz a).toNat := by simp [enc]
theorem zz_inj (a b : Int) (h : (zz a).toNat = (zz b).toNat) : a = b := by
  unfold zz at h; split at h <;> split at h <;> omega
theorem enc_inj (a b : Int) : enc [a] = enc [b] ↔ a = b := by
  rw [enc_one, enc_one]; exact ⟨fun h => zz_inj _ _ (encU_inj _ _ h), fun h => by rw [h]⟩
theorem enc_pos (a : Int) : 1 ≤ (enc [a]).length := by
  rw [enc_one]
  by_cases hb : 127 < (zz a).toNat
  · rw [encU_big _ hb]; simp
  · rw [encU_small _ hb]; simp
theorem few_cond (a : Int) (k : Nat) (h1 : 1 ≤ k) (h2 : (k : Int) < 10) : (wrap64 (2 ^ (7 * k - 1)) ≤ a ∨ a < wrap64 (-2 ^ (7 * k - 1))) ↔ k < (enc [a]).length := by
  obtain ⟨n, rfl⟩ : ∃ n, k = n + 1 := ⟨k - 1, by omega⟩
  rw [enc_one, encU_gt]
  have hn : n < 9 := by omega
  unfold zz
  match n, hn with
  | 0, _ => simp [wrap64]; split <;> omega
  | 1, _ => simp [wrap64]; split <;> omega
  | 2, _ => simp [wrap64]; split <;> omega
  | 3, _ => simp [wrap64]; split <;> omega
  | 4, _ => simp [wrap64]; split <;> omega
  | 5, _ => simp [wrap64]; split <;> omega
  | 6, _ => simp [wrap64]; split <;> omega
  | 7, _ => simp [wrap64]; split <;> omega
  | 8, _ => simp [wrap64]; split <;> omega

set_option maxHeartbeats 800000 in
set_option maxRecDepth 100000 in
theorem numFew_walk (a b : Int) (w : World) (wa : (Lit.int .i64 a).wf = true) (wb : (Lit.int .i64 b).wf = true) :
    Calls Try.prog 3 #[.int .i64 a, .int .i64 b] w fun e w' => e = .returned (.bool true) ∧ Below w.heap.size w w' := by
  have ha := wf_range wa
  have hb := wf_range wb
  obtain ⟨ha0, ha1⟩ := ha
  obtain ⟨hb0, hb1⟩ := hb
  clear wa wb
  go_enter Try.func3, Try.ntmps3
  go_wp2_with fail
  refine (first_any _).mono ?_
  rintro e w1 ⟨rfl, hB1⟩
  go_wp2_with fail
  have hl : Kd.C (Kd.int .i64) (w1.alloc (.cells #[.int .i64 a] 2)) (some ⟨w1.heap.size, 0, none⟩) [a].length [a] := C_lit [a] (blk_new _ _) (by simp)
  have hp1 := Lib.hid (put_any none 0 [] (some ⟨w1.heap.size, 0, none⟩) 1 [a] _ (C_nil _ _ _) hl (by simp; omega) (by simp))
  clear hl
  refine hp1.out.mono ?_
  rintro e w2 ⟨A, c, rfl, hoA, hB2⟩
  go_wp2_with fail
  have hB2' := Below.new hB1 hB2
  clear hp1 hB2
  have hl : Kd.C (Kd.int .i64) (w2.alloc (.cells #[.int .i64 b] 2)) (some ⟨w2.heap.size, 0, none⟩) [b].length [b] := C_lit [b] (blk_new _ _) (by simp)
  have hp1 := Lib.hid (put_any none 0 [] (some ⟨w2.heap.size, 0, none⟩) 1 [b] _ (C_nil _ _ _) hl (by simp; omega) (by simp))
  clear hl
  refine hp1.out.mono ?_
  rintro e w3 ⟨B, d, rfl, hoB, hB3⟩
  have hoA' := own_move hoA (w1 := w3) (fun k hk => (hB3.block k (by have := own_lt hoA k hk; simp; omega)).trans (Below.heap_alloc _ _ _ (own_lt hoA k hk)))
  have hB3' := Below.new hB2' hB3
  clear hp1 hB3
  rw [List.nil_append] at hoA' hoB
  have hxA := C_own hoA'
  have hxB := C_own hoB
  clear hoA hoA' hoB
  generalize hX : enc [a] = X at *
  generalize hY : enc [b] = Y at *
  have HX := Lib.hid hX
  have HY := Lib.hid hY
  clear hX hY
  go_wp2_with fail
  have hXl : X.length ≤ 10 := by have := enc_len [a] (by simp; omega); rw [HX.out] at this; simpa using this
  have hX1 : 1 ≤ X.length := by have := enc_pos a; rw [HX.out] at this; exact this
  go_loop [8] (fun n => ∃ k : Nat, 1 ≤ k ∧ k ≤ X.length ∧ n = .int .i64 k) (fun n => 10 - (intOf n).toNat)
  case atStart => exact ⟨1, by omega, by omega, rfl⟩
  case round =>
    obtain ⟨k, hk1, hk2, rfl⟩ := hrel
    have hk3 : ∀ h : (k : Int) < 10, _ := fun h => few_cond a k hk1 h
    rw [HX.out] at hk3
    have HK := Lib.hid hk3
    clear hk3
    go_wp2_with fail
    · have h1 : (k : Int) < 10 := by assumption
      have h2 : wrap64 (2 ^ (7 * k - 1)) ≤ a ∨ a < wrap64 (-2 ^ (7 * k - 1)) := by assumption
      have := (HK.out h1).1 h2
      exact ⟨⟨k + 1, by omega, by omega, rfl⟩, by simp [intOf]; omega⟩
    · refine (same_any A B c d X Y _ hxA hxB).mono ?_
      rintro e w4 ⟨rfl, ⟨m, rfl⟩⟩
      have e1 : (decide (X = Y) == (a == b)) = true := by
        have := enc_inj a b
        rw [HX.out, HY.out] at this
        by_cases h : a = b <;> simp [h, this]
      go_wp2
      go_ret
      exact ⟨rfl, pw_below_drewN hB3' m⟩
    · have h1 : (k : Int) < 10 := by assumption
      have h2 : a < wrap64 (2 ^ (7 * k - 1)) ∧ wrap64 (-2 ^ (7 * k - 1)) ≤ a := by assumption
      have h3 : ¬ (X.length : Int) = k := by assumption
      have := mt (HK.out h1).2 (by omega)
      omega
    · have h1 : (k : Int) < 10 := by assumption
      have h2 : ¬ a < wrap64 (2 ^ (7 * k - 1)) := by assumption
      have := (HK.out h1).1 (.inl (by omega))
      exact ⟨⟨k + 1, by omega, by omega, rfl⟩, by simp [intOf]; omega⟩
    · refine (same_any A B c d X Y _ hxA hxB).mono ?_
      rintro e w4 ⟨rfl, ⟨m, rfl⟩⟩
      have e1 : (decide (X = Y) == (a == b)) = true := by
        have := enc_inj a b
        rw [HX.out, HY.out] at this
        by_cases h : a = b <;> simp [h, this]
      go_wp2
      go_ret
      exact ⟨rfl, pw_below_drewN hB3' m⟩

end Go.Proofs.Ytnjbflbalpedoaa
