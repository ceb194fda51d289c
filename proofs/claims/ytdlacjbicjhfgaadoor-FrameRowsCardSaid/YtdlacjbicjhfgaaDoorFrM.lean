/- Plain: what a frame's bytes tell: read back, cut off, a bit turned. -/
import Derived.Test.YtdlacjbicjhfgaaDoorFrP
import Derived.Test.YtdlacjbicjhfgaaDoorCrcM
namespace Go.Proofs.YtdlacjbicjhfgaaDoor
open Go.RowKit Go.Proofs.YtdlacjbicjhfgaaDoorW.PrintWords

theorem frHead_cons (kind : Int) (body tail : List Int) : frHead kind body ++ tail = 76 :: 104 :: 1 :: kind :: ((body.length % 256 : Nat) : Int) :: ((body.length / 256 % 256 : Nat) : Int) :: (body ++ tail) := by simp [frHead]
theorem frN_head (kind : Int) (body tail : List Int) (h : body.length ≤ 4000) : frN (frHead kind body ++ tail) = body.length := by
  rw [frHead_cons]
  simp only [frN, List.getD_cons_succ, List.getD_cons_zero, Int.toNat_natCast]
  omega
theorem take_head (kind : Int) (body tail : List Int) (k : Nat) (hk : k ≤ 3) : (frHead kind body ++ tail).take k = ([76, 104, 1] : List Int).take k := by
  rw [frHead_cons]
  match k, hk with
  | 0, _ => rfl
  | 1, _ => rfl
  | 2, _ => rfl
  | 3, _ => rfl
/-- a frame is read as it was put, whatever stands behind -/
theorem rdF_frame (kind : Int) (body tail : List Int) (h : body.length ≤ 4000) : rdF (frameB kind body ++ tail) = (kind, body, body.length + 10, none) := by
  have e : frameB kind body ++ tail = frHead kind body ++ (four (crcMore 0 (frHead kind body)) ++ tail) := by simp [frameB]
  have hn := frN_head kind body (four (crcMore 0 (frHead kind body)) ++ tail) h
  have hl := frHead_len kind body
  have hf : (four (crcMore 0 (frHead kind body))).length = 4 := rfl
  have ht : (frHead kind body ++ (four (crcMore 0 (frHead kind body)) ++ tail)).take (body.length + 6) = frHead kind body := by rw [← hl, List.take_left']; rfl
  have ht2 : (frHead kind body ++ (four (crcMore 0 (frHead kind body)) ++ tail)).take (body.length + 10) = frHead kind body ++ four (crcMore 0 (frHead kind body)) := by
    rw [← List.append_assoc, List.take_left']
    rw [List.length_append, hl, hf]
  have hlen : (frHead kind body ++ (four (crcMore 0 (frHead kind body)) ++ tail)).length = body.length + 10 + tail.length := by simp [hl, hf]; omega
  rw [e, rdF_ok (k := 3) (by omega) (take_head kind body _ 3 (by omega)) (by omega) (by rw [hn]; omega) (by rw [hn]; omega) (by rw [hn, ht, ht2, ← hl, List.drop_left']; rfl), hn, ht]
  have h1 := frHead_cons kind body []
  rw [List.append_nil, List.append_nil] at h1
  rw [frHead_cons, h1]
  rfl
/-- cut off it ends too early -/
theorem rdF_cut (kind : Int) (body : List Int) (j : Nat) (h : body.length ≤ 4000) (hj : j < body.length + 10) : rdF ((frameB kind body).take j) = (0, [], 0, some 101) := by
  have hl := frameB_len kind body
  have hjl : ((frameB kind body).take j).length = j := by rw [List.length_take]; omega
  have htk : ∀ k, k ≤ 3 → k ≤ j → ((frameB kind body).take j).take k = ([76, 104, 1] : List Int).take k := fun k hk hkj => by
    rw [List.take_take, Nat.min_eq_left hkj]
    exact take_head kind body _ k hk
  by_cases h6 : j < 6
  · exact rdF_end1 (k := min j 3) (by rw [hjl]) (htk _ (by omega) (by omega)) (by omega)
  · have hn : frN ((frameB kind body).take j) = body.length := by
      have h1 := frN_head kind body (four (crcMore 0 (frHead kind body))) h
      have g : ∀ i, i < j → ((frameB kind body).take j).getD i 0 = (frameB kind body).getD i 0 := fun i hi => by simp [List.getD, List.getElem?_take, hi]
      rw [← h1]
      unfold frN
      rw [g 4 (by omega), g 5 (by omega)]
      rfl
    exact rdF_end2 (k := 3) (by omega) (htk 3 (by omega) (by omega)) (by omega) (by rw [hn]; omega) (by rw [hn]; omega)
theorem rdF_inv (b : List Int) (h : (rdF b).2.2.2 = none) : (rdF b).2.2.1 = frN b + 10 ∧ four (crcMore 0 (b.take (frN b + 6))) = (b.take (frN b + 10)).drop (frN b + 6) ∧ frN b + 10 ≤ b.length := by
  unfold rdF at h ⊢
  split at h
  · cases h
  · rename_i h1
    rw [if_neg h1]
    split at h
    · cases h
    · rename_i h2
      rw [if_neg h2]
      split at h
      · cases h
      · rename_i h3
        rw [if_neg h3]
        split at h
        · cases h
        · rename_i h4
          rw [if_neg h4]
          split at h
          · cases h
          · rename_i h5
            rw [if_neg h5]
            exact ⟨rfl, Decidable.of_not_not h5, by omega⟩
/-- a row with its sum behind it -/
theorem fold_sealed (t : List Int) (ht : ∀ x ∈ t, 0 ≤ x ∧ x < 256) : crcFold 4294967295 (t ++ four (crcMore 0 t)) = crcR := by
  have hF := crcFold_lt t 4294967295 (by omega) ht
  have hm : crcMore 0 t = 4294967295 - crcFold 4294967295 t := rfl
  rw [crcFold_append, crcFold_four _ _ (crcMore_lt 0 t), hm, ← xor_ones32 _ hF, ← Nat.xor_assoc, Nat.xor_self, Nat.zero_xor]
  rfl
/-- with one bit turned it is none of its length -/
theorem rdF_turned (kind : Int) (body : List Int) (p : Nat) (hk : 0 ≤ kind ∧ kind < 256) (hb : ∀ x ∈ body, 0 ≤ x ∧ x < 256) (hp : p < 8 * (body.length + 10)) :
    (rdF (flipAt (frameB kind body) p)).2.2.2 ≠ none ∨ (rdF (flipAt (frameB kind body) p)).2.2.1 ≠ body.length + 10 := by
  by_cases h : (rdF (flipAt (frameB kind body) p)).2.2.2 = none
  · refine .inr fun h2 => ?_
    obtain ⟨h3, h4, h5⟩ := rdF_inv _ h
    have hB := frameB_bytes kind body hk hb
    have hl := frameB_len kind body
    have hD := flipAt_bytes _ p hB
    have hdl := flipAt_len (frameB kind body) p
    have h6 := crcFold_flip 4294967295 p (frameB kind body) (by omega) hB
    rw [show crcFold 4294967295 (frameB kind body) = crcR from fold_sealed _ (frHead_bytes kind body hk hb)] at h6
    generalize flipAt (frameB kind body) p = d at *
    rw [h2] at h3
    have h7 : d.take (frN d + 10) = d := List.take_of_length_le (by omega)
    rw [h7] at h4
    have h8 : d = d.take (frN d + 6) ++ four (crcMore 0 (d.take (frN d + 6))) := by
      rw [h4, List.take_append_drop]
    have h9 : crcFold 4294967295 d = crcR := by
      rw [h8]
      exact fold_sealed _ (fun x hx => hD x (List.mem_of_mem_take hx))
    rw [h9] at h6
    have h10 := congrArg (crcR ^^^ ·) h6
    simp only [Nat.xor_self] at h10
    rw [← Nat.xor_assoc, Nat.xor_self, Nat.zero_xor] at h10
    exact one_ne _ h10.symm
  · exact .inl h

end Go.Proofs.YtdlacjbicjhfgaaDoor
