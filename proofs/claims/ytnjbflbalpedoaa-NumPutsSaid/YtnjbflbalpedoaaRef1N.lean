/- Contracts of the reference's numbers, texts, flags in bytes (chapter 2): each returns its slice with what is laid behind it; only that slice's own row and new blocks are written. -/
import Derived.Test.YtnjbflbalpedoaaProg
import Derived.Test.YtnjbflbalpedoaaNumP
import Derived.Laws.Unary
namespace Go.Proofs.Ytnjbflbalpedoaa
open Go.RowKit Go.Proofs.YtnjbflbalpedoaaW.PrintWords

theorem info1 : (Try.prog.info? 5).map (fun i => (i.zero, i.size, i.bytes)) = some (some (.int .u8 0), 1, 1) := by kernel_rfl

set_option maxHeartbeats 800000 in
set_option maxRecDepth 100000 in
theorem ref1Put_any (A : Option Addr) (c : Nat) (xs : List Int) (n : Int) (w : World) (ho : w.ownsRow 0 5 1 (.slice A xs.length c) xs.length (nums .u8 xs)) (h0 : -9223372036854775808 ≤ n) (h1 : n ≤ 9223372036854775807)
    (hb : xs.length + (enc [n]).length ≤ 140737488355328) :
    Calls Try.prog 9 #[.slice A xs.length c, .int .i64 n] w fun e w' => ∃ A' c', e = .returned (.slice A' (xs ++ enc [n]).length c') ∧
      w'.ownsRow 0 5 1 (.slice A' (xs ++ enc [n]).length c') (xs ++ enc [n]).length (nums .u8 (xs ++ enc [n])) ∧ Grw w w' (.slice A xs.length c) (.slice A' (xs ++ enc [n]).length c') := by
  have hzr := zz_range n h0 h1
  obtain ⟨z, hz⟩ : ∃ z : Nat, zz n = z := ⟨_, (Int.toNat_of_nonneg hzr.1).symm⟩
  have hE : enc [n] = encU z := by rw [enc_one, hz]; simp
  rw [hE] at hb ⊢
  have hz64 : z < 18446744073709551616 := by omega
  have HZ := Lib.hid hz
  clear hzr hz hE
  have hu : ∀ u : Nat, 0 < (encU u).length := by
    intro u
    by_cases hb : 127 < u
    · rw [encU_big u hb]; simp
    · rw [encU_small u hb]; simp
  have Hu := Lib.hid hu
  clear hu
  by_cases hs : n < 0
  all_goals
    go_enter Try.func9, Try.ntmps9
    go_wp2
    go_loopw [0, 5] (fun v u wr => ∃ (k : Nat) (X ys : List Int) (A1 : Option Addr) (c1 : Nat), u = .int .u64 k ∧ k < 18446744073709551616 ∧ Hid (encU z = ys ++ encU k) ∧ Hid (X = xs ++ ys) ∧ v = .slice A1 X.length c1 ∧ wr.ownsRow 0 5 1 (.slice A1 X.length c1) X.length (nums .u8 X) ∧ Grw w wr (.slice A xs.length c) (.slice A1 X.length c1)) (fun _ u _ => (intOf u).toNat)
    case atStart => exact ⟨z, xs, [], A, c, by first | (rw [← HZ.out, zz_not n h0 (by omega)]; done) | (rw [← HZ.out]; unfold zz; rw [if_pos (by omega), Int.mul_comm]), hz64, rfl, (List.append_nil xs).symm, rfl, ho, Grw.refl _ _⟩
    case round =>
      obtain ⟨k, X, ys, A1, c1, rfl, hk, hy, hX, rfl, ho1, hG⟩ := hrel
      have hlb : X.length + 1 ≤ 140737488355328 := by
        have h1 := Hu.out k
        have h2 := congrArg List.length hy.out
        have h3 := congrArg List.length hX.out
        simp at h2 h3
        omega
      by_cases hbig : 127 < k
      · have hb0 : decide ((128 : Int) ≤ (k : Int)) = true := decide_eq_true (by omega)
        go_wp2_with (at_builtin; refine app_one rfl _ _ 23 5 (.int .u8 0) 1 rfl Try.underlying23 info1 rfl (by decide) _ (nums .u8 X) _ rfl rfl rfl ?ho ?hl ?_)
        case ho => rw [nums_length]; exact ho1
        case hl => rw [nums_length]; omega
        rw [nums_length]
        intro A2 c2 w2 ho2 hGr
        rw [or128 k] at ho2
        go_wp2
        go_roundw
        case rel => exact ⟨k / 128, X ++ [((k % 128 + 128 : Nat) : Int)], ys ++ [((k % 128 + 128 : Nat) : Int)], A2, c2, by simp, by omega, (by show encU z = _; rw [hy.out, encU_big k hbig]; simp), (by show _ = _; rw [hX.out]; simp), by simp, by rw [nums_append, List.length_append]; exact ho2, by rw [List.length_append]; exact hG.trans hGr⟩
        case measure => simp [intOf]; omega
      · have hb0 : decide ((128 : Int) ≤ (k : Int)) = false := decide_eq_false (by omega)
        go_wp2_with (at_builtin; refine app_one rfl _ _ 23 5 (.int .u8 0) 1 rfl Try.underlying23 info1 rfl (by decide) _ (nums .u8 X) _ rfl rfl rfl ?ho ?hl ?_)
        case ho => rw [nums_length]; exact ho1
        case hl => rw [nums_length]; omega
        rw [nums_length]
        intro A2 c2 w2 ho2 hGr
        go_wp2
        go_ret
        have hE : xs ++ encU z = X ++ [(k : Int)] := by rw [hy.out, hX.out, encU_small k hbig]; simp
        rw [hE]
        exact ⟨A2, c2, by simp, by rw [nums_append, List.length_append]; exact ho2, by rw [List.length_append]; exact hG.trans hGr⟩

set_option maxHeartbeats 400000 in
theorem ref1PutText_any (A : Option Addr) (c : Nat) (xs : List Int) (s : ByteArray) (w : World) (ho : w.ownsRow 0 5 1 (.slice A xs.length c) xs.length (nums .u8 xs)) (hs : s.size ≤ 9223372036854775807)
    (hb : xs.length + (enc [(s.size : Int)]).length + s.size ≤ 140737488355328) :
    Calls Try.prog 10 #[.slice A xs.length c, .string s] w fun e w' => ∃ A' c', e = .returned (.slice A' (xs ++ enc [(s.size : Int)] ++ bytesOf s).length c') ∧
      w'.ownsRow 0 5 1 (.slice A' (xs ++ enc [(s.size : Int)] ++ bytesOf s).length c') (xs ++ enc [(s.size : Int)] ++ bytesOf s).length (nums .u8 (xs ++ enc [(s.size : Int)] ++ bytesOf s)) ∧ Grw w w' (.slice A xs.length c) (.slice A' (xs ++ enc [(s.size : Int)] ++ bytesOf s).length c') := by
  go_enter Try.func10, Try.ntmps10
  go_wp2_with fail
  refine (ref1Put_any A c xs (s.size : Int) _ ho (by omega) (by omega) (by omega)).mono ?_
  rintro e w1 ⟨A1, c1, rfl, ho1, hG1⟩
  have hX : (xs ++ enc [(s.size : Int)]).length + s.size ≤ 140737488355328 := by simp; omega
  generalize hXX : xs ++ enc [(s.size : Int)] = X at *
  have HXX := Lib.hid hXX
  clear hXX
  go_wp2_with (at_builtin; refine app_str rfl _ _ 23 9 5 rfl Try.underlying23 Try.underlying9 info1 _ X.length (nums .u8 X) s rfl rfl ho1 hX ?_)
  intro A2 c2 w2 ho2 hG2
  go_wp2
  go_ret
  obtain rfl := HXX.out
  exact ⟨A2, c2, by simp [bytesOf_length, Nat.add_assoc], by rw [nums_append, List.length_append, bytesOf_length]; exact ho2, by rw [List.length_append, bytesOf_length]; exact hG1.trans hG2⟩

set_option maxHeartbeats 400000 in
theorem ref1PutFlag_any (A : Option Addr) (c : Nat) (xs : List Int) (b : Bool) (w : World) (ho : w.ownsRow 0 5 1 (.slice A xs.length c) xs.length (nums .u8 xs)) (hb : xs.length + 1 ≤ 140737488355328) :
    Calls Try.prog 11 #[.slice A xs.length c, .bool b] w fun e w' => ∃ A' c', e = .returned (.slice A' (xs ++ encF [b]).length c') ∧
      w'.ownsRow 0 5 1 (.slice A' (xs ++ encF [b]).length c') (xs ++ encF [b]).length (nums .u8 (xs ++ encF [b])) ∧ Grw w w' (.slice A xs.length c) (.slice A' (xs ++ encF [b]).length c') := by
  cases b
  all_goals
    go_enter Try.func11, Try.ntmps11
    go_wp2_with (at_builtin; refine app_one rfl _ _ 23 5 (.int .u8 0) 1 rfl Try.underlying23 info1 rfl (by decide) _ (nums .u8 xs) _ rfl rfl rfl ?ho ?hl ?_)
    case ho => rw [nums_length]; exact ho
    case hl => rw [nums_length]; omega
    rw [nums_length]
    intro A2 c2 w2 ho2 hG2
    go_wp2
    go_ret
    exact ⟨A2, c2, by simp [encF], by rw [nums_append, List.length_append]; exact ho2, by rw [List.length_append]; exact hG2⟩

end Go.Proofs.Ytnjbflbalpedoaa
