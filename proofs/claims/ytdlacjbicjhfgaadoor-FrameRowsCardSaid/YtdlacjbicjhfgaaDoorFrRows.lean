/- Plain: frames in a row behind noise, in whatever pieces their bytes come. -/
import Derived.Test.YtdlacjbicjhfgaaDoorFrSp
namespace Go.Proofs.YtdlacjbicjhfgaaDoor
open Go.RowKit Go.Proofs.YtdlacjbicjhfgaaDoorW.PrintWords

def noisy (m : Nat) : List Int := List.replicate m 16
theorem noisy_succ (m : Nat) : noisy (m + 1) = noisy m ++ [16] := List.replicate_succ'
/-- frames in a row, the first of which is of kind i -/
def rowsF : Nat → List (List Int) → List Int
  | _, [] => []
  | i, b :: bs => frameB (i : Int) b ++ rowsF (i + 1) bs
/-- the first j of them -/
def framesTo (bs : List (List Int)) : Nat → List Int
  | 0 => []
  | j + 1 => framesTo bs j ++ frameB (j : Int) (bs.getD j [])
theorem framesTo_rows (bs : List (List Int)) : ∀ j, j ≤ bs.length → framesTo bs j ++ rowsF j (bs.drop j) = rowsF 0 bs
  | 0, _ => by simp [framesTo]
  | j + 1, h => by
    rw [← framesTo_rows bs j (by omega)]
    have e : bs.drop j = bs.getD j [] :: bs.drop (j + 1) := by
      rw [List.drop_eq_getElem_cons (show j < bs.length by omega)]
      simp [List.getD, List.getElem?_eq_getElem (show j < bs.length by omega)]
    rw [e]
    simp [framesTo, rowsF]
theorem framesTo_all (bs : List (List Int)) : framesTo bs bs.length = rowsF 0 bs := by
  have := framesTo_rows bs bs.length (Nat.le_refl _)
  simpa [rowsF] using this
theorem next_noise : ∀ (m : Nat) (c : List Int), nextF (noisy m ++ c).length (noisy m ++ c) = nextF c.length c
  | 0, c => by simp [noisy]
  | m + 1, c => by
    show nextF ((16 : Int) :: (noisy m ++ c)).length ((16 : Int) :: (noisy m ++ c)) = _
    rw [next_first 16 _ (by decide), next_noise m c]
theorem next_part (kind : Int) (body : List Int) (j : Nat) (h : body.length ≤ 4000) (hj : j < body.length + 10) : nextF ((frameB kind body).take j).length ((frameB kind body).take j) = (none, (frameB kind body).take j) := by
  have hl := frameB_len kind body
  have hc := rdF_cut kind body j h hj
  rcases Nat.eq_zero_or_pos ((frameB kind body).take j).length with h0 | h0
  · rw [List.eq_nil_of_length_eq_zero h0]; rfl
  · exact nextF_end h0 (by rw [hc])
/-- what Next does while frames come in pieces -/
theorem rows_next (b rest : List Int) (m n : Nat) (bs : List (List Int)) (h : b ++ rest = noisy m ++ rowsF n bs) (hbs : ∀ x ∈ bs, x.length ≤ 4000) :
    ((nextF b.length b).1 = none ∧ (∃ m', (nextF b.length b).2 ++ rest = noisy m' ++ rowsF n bs) ∧ (rest = [] → bs = [] ∧ (nextF b.length b).2 = [])) ∨
    (∃ x bs', bs = x :: bs' ∧ (nextF b.length b).1 = some ((n : Int), x) ∧ (nextF b.length b).2 ++ rest = noisy 0 ++ rowsF (n + 1) bs') := by
  have hnl : (noisy m).length = m := by simp [noisy]
  by_cases hm : b.length ≤ m
  · have hb : b = noisy b.length := by
      have h1 := congrArg (List.take b.length) h
      rw [List.take_left', List.take_append_of_le_length (by omega)] at h1
      · rw [h1]; simp [noisy, Nat.min_eq_left hm]
      · rfl
    have h2 := next_noise b.length []
    rw [List.append_nil, ← hb] at h2
    have hr : rest = noisy (m - b.length) ++ rowsF n bs := by
      have h1 := congrArg (List.drop b.length) h
      rw [List.drop_left', List.drop_append_of_le_length (by omega)] at h1
      · rw [h1]; simp [noisy]
      · rfl
    left
    rw [h2]
    refine ⟨rfl, ⟨m - b.length, by rw [← hr]; rfl⟩, fun h0 => ⟨?_, rfl⟩⟩
    rw [h0] at hr
    have h3 := congrArg List.length hr
    cases bs with
    | nil => rfl
    | cons x bs => simp [rowsF, frameB_len] at h3; omega
  · have hb : b = noisy m ++ b.drop m := by
      have h1 := congrArg (List.take m) h
      rw [List.take_append_of_le_length (by omega), List.take_left' hnl] at h1
      rw [← h1, List.take_append_drop]
    have hc : b.drop m ++ rest = rowsF n bs := by
      have h1 := congrArg (List.drop m) h
      rwa [List.drop_append_of_le_length (by omega), List.drop_left' hnl] at h1
    have hcl : 0 < (b.drop m).length := by simp; omega
    generalize b.drop m = c at *
    rw [hb, next_noise]
    cases bs with
    | nil =>
      have h1 : c = [] := (List.append_eq_nil_iff.1 hc).1
      rw [h1] at hcl
      simp at hcl
    | cons x bs =>
      have hx := hbs x (List.mem_cons_self ..)
      have hfl := frameB_len (n : Int) x
      simp only [rowsF] at hc
      by_cases hcx : c.length < x.length + 10
      · left
        have hct : c = (frameB (n : Int) x).take c.length := by
          have h1 := congrArg (List.take c.length) hc
          rwa [List.take_left' rfl, List.take_append_of_le_length (by omega)] at h1
        have h2 := next_part (n : Int) x c.length hx hcx
        rw [← hct] at h2
        rw [h2]
        refine ⟨rfl, ⟨0, by simpa [noisy, rowsF] using hc⟩, fun h0 => ?_⟩
        rw [h0, List.append_nil] at hc
        have h3 := congrArg List.length hc
        simp [hfl] at h3
        omega
      · right
        have hct : c = frameB (n : Int) x ++ c.drop (x.length + 10) := by
          have h1 := congrArg (List.take (x.length + 10)) hc
          rw [List.take_append_of_le_length (by omega), List.take_left' hfl] at h1
          rw [← h1, List.take_append_drop]
        have h2 := next_frame (n : Int) x (c.drop (x.length + 10)) hx
        rw [← hct] at h2
        refine ⟨x, bs, rfl, by rw [h2], ?_⟩
        rw [h2]
        have h1 := congrArg (List.drop (x.length + 10)) hc
        rw [List.drop_append_of_le_length (by omega), List.drop_left' hfl] at h1
        simpa [noisy] using h1

theorem rowsF_bytes : ∀ (bs : List (List Int)), (∀ xs ∈ bs, ∀ x ∈ xs, 0 ≤ x ∧ x < 256) → ∀ i, i + bs.length ≤ 256 → ∀ x ∈ rowsF i bs, 0 ≤ x ∧ x < 256
  | [], _, _, _ => by simp [rowsF]
  | b :: bs, h, i, hi => by
    intro x hx
    simp only [List.length_cons] at hi
    rcases List.mem_append.1 hx with h1 | h1
    · exact frameB_bytes _ _ (by omega) (h b (List.mem_cons_self ..)) x h1
    · exact rowsF_bytes bs (fun xs hxs => h xs (List.mem_cons_of_mem _ hxs)) (i + 1) (by omega) x h1
theorem next_le : ∀ (k : Nat) (b : List Int), (nextF k b).2.length ≤ b.length
  | 0, _ => Nat.le_refl _
  | k + 1, [] => Nat.le_refl _
  | k + 1, x :: r => by
    unfold nextF
    simp only
    split
    · simp
    · split
      · exact Nat.le_refl _
      · have := next_le k (List.drop 1 (x :: r))
        simp only [List.drop_succ_cons, List.drop_zero, List.length_cons] at this ⊢
        omega
theorem next_len (b : List Int) : (nextF b.length b).2.length ≤ b.length := next_le _ _

end Go.Proofs.YtdlacjbicjhfgaaDoor
