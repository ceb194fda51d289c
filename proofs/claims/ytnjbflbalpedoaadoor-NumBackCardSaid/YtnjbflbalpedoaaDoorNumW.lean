/- Contracts of chapter 2's writer: for every input within the stated bounds each function returns what is written, and memory that was there stays. -/
import Derived.Test.YtnjbflbalpedoaaDoorProg
import Derived.Test.YtnjbflbalpedoaaDoorNumP
namespace Go.Proofs.YtnjbflbalpedoaaDoor
open Go.RowKit Go.Proofs.YtnjbflbalpedoaaDoorW.PrintWords

theorem info5 : (Tryd.prog.info? 5).map (fun i => (i.zero, i.size, i.bytes)) = some (some (.int .u8 0), 1, 1) := by kernel_rfl
set_option maxHeartbeats 400000 in
theorem turned_any (n : Int) (w : World) (h0 : -9223372036854775808 ≤ n) (h1 : n ≤ 9223372036854775807) :
    Calls Tryd.prog 38 #[.int .i64 n] w fun e w' => e = .returned (.int .u64 (zz n)) ∧ w = w' := by
  have hz := Lib.hid (zz_eq n h0 h1)
  go_enter Tryd.func38, Tryd.ntmps38
  go_wp2
  go_ret
  exact ⟨congrArg (fun x => Ending.returned (.int .u64 x)) hz.out, rfl⟩
def WrAt (w : World) (S : Nat → Prop) (g : Nat) (xs : List Int) : Prop :=
  ∃ A c, S g ∧ (∀ k, (Value.slice A xs.length c).ownBlock = some k → S k) ∧ (∀ k, S k → k < w.heap.size) ∧ w.heap[g]? = some (.cells #[.slice A xs.length c] 72 (0, 0)) ∧ w.ownsRow 0 5 1 (.slice A xs.length c) xs.length (nums .u8 xs)
theorem WrAt.push {w w1 : World} {S : Nat → Prop} {g n : Nat} {xs ys : List Int} {v : Value} {A1 : Option Addr} {c1 : Nat}
    (hg : S g) (hv : ∀ k, v.ownBlock = some k → S k) (hS : ∀ k, S k → k < w.heap.size) (hh : w.heap[g]? = some (.cells #[v] 72 (0, 0)))
    (ho0 : w.ownsRow 0 5 1 v xs.length (nums .u8 xs))
    (ho : w1.ownsRow 0 5 1 (.slice A1 n c1) n (nums .u8 xs ++ nums .u8 ys)) (hGr : Grw w w1 v (.slice A1 n c1)) :
    WrAt (w1.setCell ⟨g, 0, none⟩ (.slice A1 n c1)) (fun k => S k ∨ (w.heap.size ≤ k ∧ k < w1.heap.size)) g (xs ++ ys) ∧ Chg S w (w1.setCell ⟨g, 0, none⟩ (.slice A1 n c1)) := by
  obtain ⟨hgr, hat⟩ := hGr
  have hne : some g ≠ v.ownBlock := own_ne ho0 hh (by decide)
  have hg1 : w1.heap[g]? = some (.cells #[v] 72 (0, 0)) := blk_grown hh hgr hne
  have hgl := blk_lt hh
  have hn : n = (xs ++ ys).length := by have := ho.1; simp [nums_length] at this; simp; omega
  subst hn
  rw [← nums_append] at ho
  refine ⟨⟨A1, c1, .inl hg, ?_, ?_, ?_, ?_⟩, ?_⟩
  · intro k hk
    rcases hat with hat | ⟨b, hb, hle⟩
    · exact .inl (hv k (hat ▸ hk))
    · rw [hb] at hk; injection hk with hk; subst hk
      have := own_lt ho b hb
      exact .inr ⟨hle, this⟩
  · intro k hk
    have : (w1.setCell ⟨g, 0, none⟩ (.slice A1 (xs ++ ys).length c1)).heap.size = w1.heap.size := by simp [World.setCell]
    rw [this]
    rcases hk with hk | hk
    · exact Nat.lt_of_lt_of_le (hS k hk) hgr.size
    · exact hk.2
  · simpa using blk_set hg1 0 _
  · exact own_setCell (p := ⟨g, 0, none⟩) ho (own_ne ho hg1 (by decide)) _
  · exact ((Chg.refl S w).grown hgr (fun k hk _ => hv k hk)).setCell (fun _ => hg) _
set_option maxHeartbeats 800000 in
set_option maxRecDepth 100000 in
theorem int_any (g : Nat) (S : Nat → Prop) (xs l : List Int) (A : Option Addr) (c : Nat) (w : World) (hW : WrAt w S g xs)
    (hl : Stab S w fun w => Kd.C (Kd.int .i64) w A l.length l) (hr : ∀ n ∈ l, -9223372036854775808 ≤ n ∧ n ≤ 9223372036854775807) (hb : xs.length + (enc l).length ≤ 140737488355328) :
    Calls Tryd.prog 35 #[.pointer (some ⟨g, 0, none⟩), .slice A l.length c] w fun e w' => e = .returned (.tuple #[]) ∧
      ∃ S', WrAt w' S' g (xs ++ enc l) ∧ Chg S w w' ∧ ∀ k, S' k → S k ∨ w.heap.size ≤ k := by
  have hnl : l.length ≤ 9223372036854775807 := hl.now.2.1
  go_enter Tryd.func35, Tryd.ntmps35
  go_wp2
  go_loopw [9] (fun i wr => ∃ k : Nat, k ≤ l.length ∧ i = .int .i64 k ∧ ∃ S', WrAt wr S' g (xs ++ enc (l.take k)) ∧ Chg S w wr ∧ ∀ k, S' k → S k ∨ w.heap.size ≤ k) (fun i _ => l.length - (intOf i).toNat)
  case atStart => exact ⟨0, Nat.zero_le _, rfl, S, by simpa [enc] using hW, Chg.refl _ _, fun k h => .inl h⟩
  case round =>
    obtain ⟨k, hk, rfl, S', hW', hC, hS'⟩ := hrel
    by_cases hlt : k < l.length
    · obtain ⟨ad, rfl, hcell⟩ := C_nat (hl wr hC) hlt
      have hrk := hr (l.getD k 0) (by rw [List.getD_eq_getElem?_getD, List.getElem?_eq_getElem hlt]; exact List.getElem_mem hlt)
      generalize hn : l.getD k 0 = n at hcell hrk
      have Hn := Lib.hid hn
      clear hn
      obtain ⟨hr0, hr1⟩ := hrk
      have ht := turned_any n wr hr0 hr1
      obtain ⟨z, hz⟩ : ∃ z : Nat, zz n = z := ⟨_, (Int.toNat_of_nonneg (zz_range _ hr0 hr1).1).symm⟩
      rw [hz] at ht
      have hzr : z < 18446744073709551616 := by have := zz_range _ hr0 hr1; omega
      have Hz := Lib.hid hz
      clear hz
      have Ht := Lib.hid ht
      clear ht
      go_wp2_with (go_at_call 38; refine Ht.out.mono ?_; rintro e w' ⟨rfl, rfl⟩)
      obtain ⟨wo, rfl⟩ : ∃ wo : World, wo = wr := ⟨_, rfl⟩
      have hlen := enc_take_le l (k + 1)
      rw [enc_snoc l k hlt, Hn.out, Hz.out, Int.toNat_natCast, List.length_append] at hlen
      go_loopw [6] (fun u w2 => ∃ (v : Nat) (ys : List Int) (S2 : Nat → Prop), u = .int .u64 v ∧ v < 18446744073709551616 ∧ Hid (encU z = ys ++ encU v) ∧ WrAt w2 S2 g (xs ++ enc (l.take k) ++ ys) ∧ Chg S' wo w2 ∧ (∀ k, S2 k → S' k ∨ wo.heap.size ≤ k)) (fun u _ => (intOf u).toNat)
      case atStart => exact ⟨z, [], S', rfl, hzr, rfl, by simpa using hW', Chg.refl _ _, fun k h => .inl h⟩
      case round =>
        obtain ⟨u, ys, S2, rfl, hu, hy, hW2, hC2, hS2⟩ := hrel
        have hyl : ys.length + (encU u).length = (encU z).length := by
          rw [hy.out]; simp
        have hul : 0 < (encU u).length := by
          by_cases hb : 127 < u
          · rw [encU_big u hb]; simp
          · rw [encU_small u hb]; simp
        obtain ⟨A2, c2, hg, hv, hS3, hh, ho⟩ := hW2
        have hgl := blk_lt hh
        have hcv : wr.cell? ⟨g, 0, none⟩ = some (.slice A2 (xs ++ enc (l.take k) ++ ys).length c2) := by rw [blk_cell hh]; rfl
        have hfz := blk_frozen hh 0
        have hlb : (xs ++ enc (l.take k) ++ ys).length + 1 ≤ 140737488355328 := by simp; omega
        generalize hX : xs ++ enc (l.take k) ++ ys = X at *
        have HX := Lib.hid hX
        clear hX
        by_cases hbig : 127 < u
        · have hb0 : decide ((127 : Int) < (u : Int)) = true := decide_eq_true (by omega)
          go_wp2_with (at_builtin; refine app_one rfl _ _ 22 5 (.int .u8 0) 1 rfl Tryd.underlying22 info5 rfl (by decide) _ (nums .u8 X) _ rfl rfl rfl ?ho ?hl ?_)
          case ho => rw [nums_length]; exact ho
          case hl => rw [nums_length]; omega
          rw [nums_length]
          intro A1 c1 w1 ho1 hGr
          have hg1 := hGr.gr
          have hne : some g ≠ (Value.slice A2 X.length c2).ownBlock := own_ne ho hh (by decide)
          have hh1 := blk_grown hh hg1 hne
          have hgl1 := blk_lt hh1
          have hcv1 : w1.cell? ⟨g, 0, none⟩ = some (.slice A2 X.length c2) := by rw [blk_cell hh1]; rfl
          have hfz1 := blk_frozen hh1 0
          go_wp2
          go_roundw
          case rel =>
            rw [or128 u] at ho1
            obtain ⟨hP, hPc⟩ := WrAt.push (ys := [((u % 128 + 128 : Nat) : Int)]) hg hv hS3 hh ho ho1 hGr
            have HX' := HX.out
            subst HX'
            have hen : encU z = (ys ++ [((u % 128 + 128 : Nat) : Int)]) ++ encU (u / 128) := by rw [hy.out, encU_big u hbig]; simp
            exact ⟨u / 128, ys ++ [((u % 128 + 128 : Nat) : Int)], _, by simp, by omega, hen, by rw [← List.append_assoc]; exact hP, hC2.next hPc (fun k hk hlt => (hS2 k hk).resolve_right (by omega)), fun k hk => by
              rcases hk with hk | hk
              · exact hS2 k hk
              · have := hC2.size; exact .inr (by omega)⟩
          case measure => simp [intOf]; omega
        · have hb0 : decide ((127 : Int) < (u : Int)) = false := decide_eq_false (by omega)
          go_wp2_with (at_builtin; refine app_one rfl _ _ 22 5 (.int .u8 0) 1 rfl Tryd.underlying22 info5 rfl (by decide) _ (nums .u8 X) _ rfl rfl rfl ?ho ?hl ?_)
          case ho => rw [nums_length]; exact ho
          case hl => rw [nums_length]; omega
          rw [nums_length]
          intro A1 c1 w1 ho1 hGr
          have hg1 := hGr.gr
          have hne : some g ≠ (Value.slice A2 X.length c2).ownBlock := own_ne ho hh (by decide)
          have hh1 := blk_grown hh hg1 hne
          have hgl1 := blk_lt hh1
          have hcv1 : w1.cell? ⟨g, 0, none⟩ = some (.slice A2 X.length c2) := by rw [blk_cell hh1]; rfl
          have hfz1 := blk_frozen hh1 0
          go_wp2
          go_roundw
          case rel =>
            obtain ⟨hP, hPc⟩ := WrAt.push (ys := [(u : Int)]) hg hv hS3 hh ho ho1 hGr
            have HX' := HX.out
            subst HX'
            have hen : enc (l.take (k + 1)) = enc (l.take k) ++ (ys ++ [(u : Int)]) := by
              rw [enc_snoc l k hlt, Hn.out, Hz.out, Int.toNat_natCast, hy.out, encU_small u hbig]
            exact ⟨k + 1, by omega, by go_num, _, by rw [hen, ← List.append_assoc, ← List.append_assoc]; exact hP, hC.next (hC2.next hPc (fun k hk hlt => (hS2 k hk).resolve_right (by omega))) (fun k hk hlt => (hS' k hk).resolve_right (by omega)), fun k hk => by
              have h1 := hC.size
              have h2 := hC2.size
              rcases hk with hk | hk
              · rcases hS2 k hk with hk | hk
                · exact hS' k hk
                · exact .inr (by omega)
              · exact .inr (by omega)⟩
          case measure => simp [intOf]; omega
    · obtain rfl : k = l.length := by omega
      rw [List.take_length] at hW'
      go_wp2
      go_end0
      exact ⟨rfl, S', hW', hC, hS'⟩
theorem WrAt.move {w w1 : World} {S : Nat → Prop} {g : Nat} {xs : List Int} (h : WrAt w S g xs) (hs : w.heap.size ≤ w1.heap.size) (hm : ∀ k, S k → w1.heap[k]? = w.heap[k]?) : WrAt w1 S g xs := by
  obtain ⟨A, c, hg, hv, hS, hh, ho⟩ := h
  exact ⟨A, c, hg, hv, fun k hk => Nat.lt_of_lt_of_le (hS k hk) hs, (hm g hg).trans hh, own_move ho (fun k hk => hm k (hv k hk))⟩
theorem WrAt.below {w w1 : World} {S : Nat → Prop} {g : Nat} {xs : List Int} (h : WrAt w S g xs) (hb : Below w.heap.size w w1) : WrAt w1 S g xs :=
  h.move hb.size (fun k hk => hb.block k (by obtain ⟨_, _, _, _, hS, _⟩ := h; exact hS k hk))
set_option maxHeartbeats 2000000 in
set_option maxRecDepth 100000 in
theorem clone_any (A : Option Addr) (c : Nat) (xs : List Int) (w : World) (hx : Kd.C (Kd.int .u8) w A xs.length xs) (hbig : xs.length ≤ 140737488355328) :
    Calls Tryd.prog 24 #[.slice A xs.length c] w fun e w' => ∃ A' c', e = .returned (.slice A' xs.length c') ∧ w'.ownsRow w.heap.size 5 1 (.slice A' xs.length c') xs.length (nums .u8 xs) ∧ Below w.heap.size w w' := by
  have q22 : ∀ (w : World) (a : Option Addr) (n c n' c' : Nat), (binOp .eql 22 (.slice a n c) (.slice none n' c')).run Tryd.prog w = .ok (.bool a.isNone) w := fun w a n c n' c' => Lib.run_eql_slice_nil w _ _ a n c n' c' Tryd.underlying22
  cases A with
  | none =>
    have h0 : xs = [] := by
      cases xs with
      | nil => rfl
      | cons x xs => obtain ⟨ad, h, _⟩ := C_nat (k := 0) hx (by simp); cases h
    subst h0
    go_enter Tryd.func24, Tryd.ntmps24
    go_wp2
    go_ret
    exact ⟨none, 0, rfl, World.ownsRow_nil _ _ _ _, Below.refl _ _⟩
  | some a =>
    obtain ⟨i0, hi, hz0, hz1, hz2⟩ := info_parts info5
    have H := Lib.hid hx
    clear hx
    go_enter Tryd.func24, Tryd.ntmps24
    go_wp2_with (at_builtin; refine wpList_append_own _ rfl _ _ 22 rfl w.heap.size 5 i0 (.int .u8 0) 1 1 Tryd.underlying22 hi hz0 hz1 hz2 rfl (by decide) _ _ _ rfl (World.ownsRow_made w #[] 0 (Nat.le_refl _) (Nat.zero_le _) rfl) a xs.length c (nums .u8 xs) rfl ?qc1 ?qc2 ?qc3 ?qc4 ?qc5 ?qc6 ?_)
    case qc1 => simp [nums_length]
    case qc2 =>
      intro j u hj
      have hjn : j < xs.length := by
        have := (List.getElem?_eq_some_iff.1 hj).1
        simpa [nums_length] using this
      obtain ⟨a', ha, hc⟩ := C_nat H.out hjn
      injection ha with ha
      subst ha
      refine Lib.cell?_alloc_some _ ?_
      rw [hc]
      have e : (nums .u8 xs)[j]? = some (Value.int .u8 (xs.getD j 0)) := by simp [nums, List.getD, List.getElem?_eq_getElem hjn]
      rw [e] at hj
      exact hj
    case qc3 => intro u hu; obtain ⟨x, _, rfl⟩ := List.mem_map.1 hu; rfl
    case qc4 => unfold maxLen; omega
    case qc5 => omega
    case qc6 => simp
    intro v' w1 hown hgrow hnil
    obtain ⟨A', c', rfl⟩ := own_slice hown
    go_wp2
    go_ret
    exact ⟨A', c', rfl, hown, ((Below.refl _ w).alloc (Nat.le_refl _) _).grown hgrow (by simp) (by intro k hk; simp [Value.ownBlock] at hk; omega)⟩
set_option maxHeartbeats 400000 in
theorem behind_any (A : Option Addr) (c : Nat) (xs : List Int) (w : World) (hx : Kd.C (Kd.int .u8) w A xs.length xs) (hbig : xs.length ≤ 140737488355328) :
    Calls Tryd.prog 31 #[.slice A xs.length c] w fun e w' => ∃ g S, e = .returned (.pointer (some ⟨g, 0, none⟩)) ∧ WrAt w' S g xs ∧ (∀ k, S k → w.heap.size ≤ k) ∧ Below w.heap.size w w' := by
  go_enter Tryd.func31, Tryd.ntmps31
  go_wp2_with (go_at_call 24; refine (clone_any _ _ _ _ hx hbig).mono ?_; rintro e w' ⟨A', c', rfl, ho, hb⟩)
  go_ret
  have hsz := hb.size
  refine ⟨w'.heap.size, fun k => w.heap.size ≤ k ∧ k ≤ w'.heap.size, rfl, ⟨A', c', ⟨hsz, Nat.le_refl _⟩, ?_, ?_, blk_new _ _, ?_⟩, fun k hk => hk.1, below_alloc hb _⟩
  · intro k hk
    have := (World.ownsRow.lt ho) k hk
    omega
  · intro k hk; simp; omega
  · exact own_weaken (World.ownsRow.alloc ho _) (Nat.zero_le _)
set_option maxHeartbeats 400000 in
theorem bytes_any (g : Nat) (S : Nat → Prop) (xs : List Int) (w : World) (hW : WrAt w S g xs) (hbig : xs.length ≤ 140737488355328) :
    Calls Tryd.prog 33 #[.pointer (some ⟨g, 0, none⟩)] w fun e w' => ∃ A' c', e = .returned (.slice A' xs.length c') ∧ w'.ownsRow w.heap.size 5 1 (.slice A' xs.length c') xs.length (nums .u8 xs) ∧ Below w.heap.size w w' := by
  obtain ⟨A, c, hg, hv, hS, hh, ho⟩ := hW
  have hcv : w.cell? ⟨g, 0, none⟩ = some (.slice A xs.length c) := by rw [blk_cell hh]; rfl
  go_enter Tryd.func33, Tryd.ntmps33
  go_wp2_with (go_at_call 24; refine (clone_any _ _ _ _ (C_own ho) hbig).mono ?_; rintro e w' ⟨A', c', rfl, ho', hb⟩)
  go_ret
  exact ⟨A', c', rfl, ho', hb⟩
set_option maxHeartbeats 400000 in
theorem put_any (A : Option Addr) (c : Nat) (xs : List Int) (B : Option Addr) (d : Nat) (l : List Int) (w : World) (hx : Kd.C (Kd.int .u8) w A xs.length xs)
    (hl : Kd.C (Kd.int .i64) w B l.length l) (hr : ∀ n ∈ l, -9223372036854775808 ≤ n ∧ n ≤ 9223372036854775807) (hb : xs.length + (enc l).length ≤ 140737488355328) :
    Calls Tryd.prog 22 #[.slice A xs.length c, .slice B l.length d] w fun e w' => ∃ A' c', e = .returned (.slice A' (xs ++ enc l).length c') ∧ w'.ownsRow w.heap.size 5 1 (.slice A' (xs ++ enc l).length c') (xs ++ enc l).length (nums .u8 (xs ++ enc l)) ∧ Below w.heap.size w w' := by
  go_enter Tryd.func22, Tryd.ntmps22
  go_wp2_with (go_at_call 31; refine (behind_any _ _ _ _ hx (by omega)).mono ?_; rintro e w1 ⟨g, S, rfl, hW, hS, hb1⟩)
  have hst : Stab S w1 (fun w => Kd.C (Kd.int .i64) w B l.length l) := (Stab.of_C hl hS).next (Chg.of_below hb1) (fun k hk => .inl hk)
  have hz1 := hb1.size
  go_wp2_with (go_at_call 35; refine (int_any g S xs l B d _ hW hst hr hb).mono ?_; rintro e w2 ⟨rfl, S', hW', hC, hS'⟩)
  have hb2 : Below w.heap.size w w2 := hb1.trans (hC.below _ hz1 (fun k hk hs => by have := hS k hs; omega))
  have hz2 := hb2.size
  go_wp2_with (go_at_call 33; refine (bytes_any g S' _ _ hW' (by simp; omega)).mono ?_; rintro e w3 ⟨A', c', rfl, ho, hb3⟩)
  go_ret
  exact ⟨A', c', by simp, own_weaken ho hz2, below_then hb2 hz2 hb3⟩

set_option maxHeartbeats 800000 in
set_option maxRecDepth 100000 in
theorem text_any (g : Nat) (S : Nat → Prop) (xs : List Int) (l : List ByteArray) (A : Option Addr) (c : Nat) (w : World) (hW : WrAt w S g xs)
    (hl : Stab S w fun w => Kd.C Kd.string w A l.length l) (hb : xs.length + (encT l).length ≤ 140737488355328) :
    Calls Tryd.prog 32 #[.pointer (some ⟨g, 0, none⟩), .slice A l.length c] w fun e w' => e = .returned (.tuple #[]) ∧
      ∃ S', WrAt w' S' g (xs ++ encT l) ∧ Chg S w w' ∧ ∀ k, S' k → S k ∨ w.heap.size ≤ k := by
  have hn : l.length ≤ 9223372036854775807 := hl.now.2.1
  go_enter Tryd.func32, Tryd.ntmps32
  go_wp2
  go_loopw [8] (fun i wr => ∃ k : Nat, k ≤ l.length ∧ i = .int .i64 k ∧ ∃ S', WrAt wr S' g (xs ++ encT (l.take k)) ∧ Chg S w wr ∧ ∀ k, S' k → S k ∨ w.heap.size ≤ k) (fun i _ => l.length - (intOf i).toNat)
  case atStart => exact ⟨0, Nat.zero_le _, rfl, S, by simpa [encT] using hW, Chg.refl _ _, fun k h => .inl h⟩
  case round =>
    obtain ⟨k, hk, rfl, S', hW', hC, hS'⟩ := hrel
    by_cases hlt : k < l.length
    · obtain ⟨ad, rfl, hcell⟩ := S_nat (hl wr hC) hlt
      have hsn := encT_snoc l k hlt
      have hle := encT_take_le l (k + 1)
      generalize l.getD k ByteArray.empty = s at hcell hsn
      rw [hsn] at hle
      simp only [List.length_append, bytesOf_length] at hle
      have Hsn := Lib.hid hsn
      clear hsn
      have hlt8 : ∀ k, S' k → k < wr.heap.size := by obtain ⟨_, _, _, _, h, _⟩ := hW'; exact h
      have hst : Stab S' (wr.alloc (.cells #[.int .i64 (s.size : Int)] 2)) fun w1 => Kd.C (Kd.int .i64) w1 (some ⟨wr.heap.size, 0, none⟩) [(s.size : Int)].length [(s.size : Int)] := Stab.lit [(s.size : Int)] hlt8 (by simp)
      have hen := enc_pos (s.size : Int)
      have hW2 := hW'.below (w1 := wr.alloc (.cells #[.int .i64 (s.size : Int)] 2)) ((Below.refl _ _).alloc (Nat.le_refl _) _)
      have Hint := Lib.hid (int_any g S' _ [(s.size : Int)] (some ⟨wr.heap.size, 0, none⟩) 1 _ hW2 hst (by simp; omega) (by simp; omega))
      clear hst hW2
      go_wp2_with fail
      refine Hint.out.mono ?_
      rintro e w1 ⟨rfl, S1, hW1, hC1, hS1⟩
      clear Hint
      obtain ⟨A2, c2, hg, hv, hS3, hh, ho⟩ := hW1
      have hgl := blk_lt hh
      have hlb : (xs ++ encT (l.take k) ++ enc [(s.size : Int)]).length + s.size ≤ 140737488355328 := by simp; omega
      have happ : xs ++ encT (l.take k) ++ enc [(s.size : Int)] ++ bytesOf s = xs ++ encT (l.take (k + 1)) := by rw [Hsn.out]; simp
      have Happ := Lib.hid happ
      clear happ
      generalize xs ++ encT (l.take k) ++ enc [(s.size : Int)] = X at *
      have hcv : w1.cell? ⟨g, 0, none⟩ = some (.slice A2 X.length c2) := by rw [blk_cell hh]; rfl
      have hfz := blk_frozen hh 0
      go_wp2_with (at_builtin; refine app_str rfl _ _ 22 9 5 rfl Tryd.underlying22 Tryd.underlying9 info5 _ X.length (nums .u8 X) s rfl rfl ho hlb ?_)
      intro A1 c1 w2 ho1 hGr
      have hne : some g ≠ (Value.slice A2 X.length c2).ownBlock := own_ne ho hh (by decide)
      have hh1 := blk_grown hh hGr.gr hne
      have hgl1 := blk_lt hh1
      have hcv1 : w2.cell? ⟨g, 0, none⟩ = some (.slice A2 X.length c2) := by rw [blk_cell hh1]; rfl
      have hfz1 := blk_frozen hh1 0
      go_wp2
      go_roundw
      case rel =>
        obtain ⟨hP, hPc⟩ := WrAt.push (ys := bytesOf s) hg hv hS3 hh ho ho1 hGr
        rw [Happ.out] at hP
        have hz := hC.size
        have hz1 := hC1.size
        simp at hz1
        have hCa : Chg S' wr w1 := (Chg.refl S' wr).alloc _ |>.next hC1 (fun k hk _ => hk)
        refine ⟨k + 1, by omega, by go_num, _, hP, hC.next (hCa.next hPc (fun k hk hlt => (hS1 k hk).resolve_right (by simp; omega))) (fun k hk hlt => (hS' k hk).resolve_right (by omega)), fun k hk => ?_⟩
        rcases hk with hk | hk
        · rcases hS1 k hk with hk | hk
          · exact hS' k hk
          · simp at hk; exact .inr (by omega)
        · exact .inr (by omega)
      case measure => simp [intOf]; omega
    · obtain rfl : k = l.length := by omega
      rw [List.take_length] at hW'
      go_wp2
      go_end0
      exact ⟨rfl, S', hW', hC, hS'⟩

set_option maxHeartbeats 800000 in
set_option maxRecDepth 100000 in
theorem flag_any (g : Nat) (S : Nat → Prop) (xs : List Int) (l : List Bool) (A : Option Addr) (c : Nat) (w : World) (hW : WrAt w S g xs)
    (hl : Stab S w fun w => Kd.C Kd.bool w A l.length l) (hb : xs.length + l.length ≤ 140737488355328) :
    Calls Tryd.prog 34 #[.pointer (some ⟨g, 0, none⟩), .slice A l.length c] w fun e w' => e = .returned (.tuple #[]) ∧
      ∃ S', WrAt w' S' g (xs ++ encF l) ∧ Chg S w w' ∧ ∀ k, S' k → S k ∨ w.heap.size ≤ k := by
  have hn : l.length ≤ 9223372036854775807 := hl.now.2.1
  go_enter Tryd.func34, Tryd.ntmps34
  go_wp2
  go_loopw [8] (fun i wr => ∃ k : Nat, k ≤ l.length ∧ i = .int .i64 k ∧ ∃ S', WrAt wr S' g (xs ++ encF (l.take k)) ∧ Chg S w wr ∧ ∀ k, S' k → S k ∨ w.heap.size ≤ k) (fun i _ => l.length - (intOf i).toNat)
  case atStart => exact ⟨0, Nat.zero_le _, rfl, S, by simpa [encF] using hW, Chg.refl _ _, fun k h => .inl h⟩
  case round =>
    obtain ⟨k, hk, rfl, S', hW', hC, hS'⟩ := hrel
    by_cases hlt : k < l.length
    · obtain ⟨ad, rfl, hcell⟩ := B_nat (hl wr hC) hlt
      have hsn := encF_snoc l k hlt
      generalize l.getD k false = b at hcell hsn
      obtain ⟨A2, c2, hg, hv, hS3, hh, ho⟩ := hW'
      have hgl := blk_lt hh
      have hlb : (xs ++ encF (l.take k)).length + 1 ≤ 140737488355328 := by simp [encF]; omega
      have happ : xs ++ encF (l.take k) ++ [if b then 1 else 0] = xs ++ encF (l.take (k + 1)) := by rw [hsn]; simp
      clear hsn
      generalize xs ++ encF (l.take k) = X at *
      have Happ := Lib.hid happ
      clear happ
      have hcv : wr.cell? ⟨g, 0, none⟩ = some (.slice A2 X.length c2) := by rw [blk_cell hh]; rfl
      have hfz := blk_frozen hh 0
      have hf : ∀ (y : Int) (A1 : Option Addr) (c1 : Nat) (w2 : World), w2.ownsRow 0 5 1 (.slice A1 (X.length + 1) c1) (X.length + 1) (nums .u8 X ++ [.int .u8 y]) → Grw wr w2 (.slice A2 X.length c2) (.slice A1 (X.length + 1) c1) →
          w2.cell? ⟨g, 0, none⟩ = some (.slice A2 X.length c2) ∧ w2.frozen? ⟨g, 0, none⟩ = false ∧ g < w2.heap.size := by
        intro y A1 c1 w2 ho1 hGr
        have hh1 := blk_grown hh hGr.gr (own_ne ho hh (by decide))
        exact ⟨by rw [blk_cell hh1]; rfl, blk_frozen hh1 0, blk_lt hh1⟩
      have Hf := Lib.hid hf
      clear hf
      cases b
      all_goals
        go_wp2_with (at_builtin; refine app_one rfl _ _ 22 5 (.int .u8 0) 1 rfl Tryd.underlying22 info5 rfl (by decide) _ (nums .u8 X) _ rfl rfl rfl ?ho ?hl ?_)
        case ho => rw [nums_length]; exact ho
        case hl => rw [nums_length]; omega
        rw [nums_length]
        intro A1 c1 w2 ho1 hGr
        obtain ⟨hcv1, hfz1, hgl1⟩ := Hf.out _ _ _ _ ho1 hGr
        go_wp2
        go_roundw
        case rel =>
          obtain ⟨hP, hPc⟩ := WrAt.push (ys := [_]) hg hv hS3 hh ho ho1 hGr
          have hHa := Happ.out
          simp only [if_true, Bool.false_eq_true, if_false] at hHa
          rw [hHa] at hP
          have hz := hC.size
          exact ⟨k + 1, by omega, by go_num, _, hP, hC.next hPc (fun k hk hlt => (hS' k hk).resolve_right (by omega)), fun k hk => hk.elim (hS' k) (fun h => .inr (by omega))⟩
        case measure => simp [intOf]; omega
    · obtain rfl : k = l.length := by omega
      rw [List.take_length] at hW'
      go_wp2
      go_end0
      exact ⟨rfl, S', hW', hC, hS'⟩

set_option maxHeartbeats 400000 in
theorem putText_any (A : Option Addr) (c : Nat) (xs : List Int) (B : Option Addr) (d : Nat) (l : List ByteArray) (w : World) (hx : Kd.C (Kd.int .u8) w A xs.length xs)
    (hl : Kd.C Kd.string w B l.length l) (hb : xs.length + (encT l).length ≤ 140737488355328) :
    Calls Tryd.prog 20 #[.slice A xs.length c, .slice B l.length d] w fun e w' => ∃ A' c', e = .returned (.slice A' (xs ++ encT l).length c') ∧ w'.ownsRow w.heap.size 5 1 (.slice A' (xs ++ encT l).length c') (xs ++ encT l).length (nums .u8 (xs ++ encT l)) ∧ Below w.heap.size w w' := by
  go_enter Tryd.func20, Tryd.ntmps20
  go_wp2_with (go_at_call 31; refine (behind_any _ _ _ _ hx (by omega)).mono ?_; rintro e w1 ⟨g, S, rfl, hW, hS, hb1⟩)
  have hst : Stab S w1 (fun w => Kd.C Kd.string w B l.length l) := (Stab.of_C hl hS).next (Chg.of_below hb1) (fun k hk => .inl hk)
  have hz1 := hb1.size
  go_wp2_with (go_at_call 32; refine (text_any g S xs l B d _ hW hst hb).mono ?_; rintro e w2 ⟨rfl, S', hW', hC, hS'⟩)
  have hb2 : Below w.heap.size w w2 := hb1.trans (hC.below _ hz1 (fun k hk hs => by have := hS k hs; omega))
  have hz2 := hb2.size
  go_wp2_with (go_at_call 33; refine (bytes_any g S' _ _ hW' (by simp; omega)).mono ?_; rintro e w3 ⟨A', c', rfl, ho, hb3⟩)
  go_ret
  exact ⟨A', c', by simp, own_weaken ho hz2, below_then hb2 hz2 hb3⟩

set_option maxHeartbeats 400000 in
theorem putFlag_any (A : Option Addr) (c : Nat) (xs : List Int) (B : Option Addr) (d : Nat) (l : List Bool) (w : World) (hx : Kd.C (Kd.int .u8) w A xs.length xs)
    (hl : Kd.C Kd.bool w B l.length l) (hb : xs.length + l.length ≤ 140737488355328) :
    Calls Tryd.prog 21 #[.slice A xs.length c, .slice B l.length d] w fun e w' => ∃ A' c', e = .returned (.slice A' (xs ++ encF l).length c') ∧ w'.ownsRow w.heap.size 5 1 (.slice A' (xs ++ encF l).length c') (xs ++ encF l).length (nums .u8 (xs ++ encF l)) ∧ Below w.heap.size w w' := by
  go_enter Tryd.func21, Tryd.ntmps21
  go_wp2_with (go_at_call 31; refine (behind_any _ _ _ _ hx (by omega)).mono ?_; rintro e w1 ⟨g, S, rfl, hW, hS, hb1⟩)
  have hst : Stab S w1 (fun w => Kd.C Kd.bool w B l.length l) := (Stab.of_C hl hS).next (Chg.of_below hb1) (fun k hk => .inl hk)
  have hz1 := hb1.size
  go_wp2_with (go_at_call 34; refine (flag_any g S xs l B d _ hW hst hb).mono ?_; rintro e w2 ⟨rfl, S', hW', hC, hS'⟩)
  have hb2 : Below w.heap.size w w2 := hb1.trans (hC.below _ hz1 (fun k hk hs => by have := hS k hs; omega))
  have hz2 := hb2.size
  go_wp2_with (go_at_call 33; refine (bytes_any g S' _ _ hW' (by simp [encF_len]; omega)).mono ?_; rintro e w3 ⟨A', c', rfl, ho, hb3⟩)
  go_ret
  exact ⟨A', c', by simp, own_weaken ho hz2, below_then hb2 hz2 hb3⟩

end Go.Proofs.YtnjbflbalpedoaaDoor
