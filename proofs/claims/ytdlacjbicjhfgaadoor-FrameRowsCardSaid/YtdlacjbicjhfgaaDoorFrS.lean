/- Contracts of chapter 3's streams (package frame): Feed, Next, Left; only the stream's own rows and new blocks are written. -/
import Derived.Test.YtdlacjbicjhfgaaDoorFrR
import Derived.Test.YtdlacjbicjhfgaaDoorFrM
import Derived.Test.YtdlacjbicjhfgaaDoorOff
namespace Go.Proofs.YtdlacjbicjhfgaaDoor
open Go.RowKit Go.Proofs.YtdlacjbicjhfgaaDoorW.PrintWords

/-- a stream at g, whose bytes that wait are xs; its rows are of S -/
def StAt (w : World) (S : Nat → Prop) (g : Nat) (xs : List Int) : Prop :=
  ∃ v, S g ∧ (∀ k, v.ownBlock = some k → S k) ∧ (∀ k, S k → k < w.heap.size) ∧ w.heap[g]? = some (.cells #[v] 39 (0, 0)) ∧ OwnAt w 5 v .u8 xs ∧ ∀ x ∈ xs, 0 ≤ x ∧ x < 256
theorem StAt.move {w w1 : World} {S : Nat → Prop} {g : Nat} {xs : List Int} (h : StAt w S g xs) (hs : w.heap.size ≤ w1.heap.size) (hm : ∀ k, S k → w1.heap[k]? = w.heap[k]?) : StAt w1 S g xs := by
  obtain ⟨v, hg, hv, hS, hh, ho, hb⟩ := h
  exact ⟨v, hg, hv, fun k hk => Nat.lt_of_lt_of_le (hS k hk) hs, (hm g hg).trans hh, ho.move (fun k hk => hm k (hv k hk)), hb⟩
theorem StAt.below {w w1 : World} {S : Nat → Prop} {g : Nat} {xs : List Int} (h : StAt w S g xs) (hb : Below w.heap.size w w1) : StAt w1 S g xs :=
  h.move hb.size (fun k hk => hb.block k (by obtain ⟨_, _, _, hS, _⟩ := h; exact hS k hk))
/-- a new value stored into the stream's cell -/
theorem StAt.store {w w1 : World} {S : Nat → Prop} {g : Nat} {xs : List Int} {v v1 : Value} (hg : S g) (hS : ∀ k, S k → k < w.heap.size) (hh1 : w1.heap[g]? = some (.cells #[v] 39 (0, 0)))
    (hC : Chg S w w1) (hv1 : ∀ k, v1.ownBlock = some k → S k ∨ w.heap.size ≤ k) (ho : OwnAt w1 5 v1 .u8 xs) (hb : ∀ x ∈ xs, 0 ≤ x ∧ x < 256) :
    StAt (w1.setCell ⟨g, 0, none⟩ v1) (fun k => S k ∨ (w.heap.size ≤ k ∧ k < w1.heap.size)) g xs ∧ Chg S w (w1.setCell ⟨g, 0, none⟩ v1) := by
  have hn1 := ho.type hh1 (by decide)
  refine ⟨⟨v1, .inl hg, fun k hk => (hv1 k hk).imp id (fun h => ⟨h, ho.lt k hk⟩), fun k hk => ?_, by simpa using blk_set hh1 0 v1, ho.move (fun k hk => Below.heap_setCell _ _ _ _ (fun e => hn1 (by rw [hk, e]))), hb⟩, ?_⟩
  · have : (w1.setCell ⟨g, 0, none⟩ v1).heap.size = w1.heap.size := by simp [World.setCell]
    rw [this]
    rcases hk with hk | hk
    · exact Nat.lt_of_lt_of_le (hS k hk) hC.size
    · exact hk.2
  · exact hC.setCell (fun _ => hg) _

set_option maxHeartbeats 800000 in
set_option maxRecDepth 100000 in
theorem feed_any (S : Nat → Prop) (g : Nat) (xs : List Int) (B : Option Addr) (d : Nat) (ys : List Int) (w : World) (hSt : StAt w S g xs) (hy : Kd.C (Kd.int .u8) w B ys.length ys) (hd : B = none → d = 0) (hby : ∀ x ∈ ys, 0 ≤ x ∧ x < 256) (hl : xs.length + ys.length ≤ 140737488355328) :
    Calls Tryd.prog 14 #[.pointer (some ⟨g, 0, none⟩), .slice B ys.length d] w fun e w' => e = .returned (.tuple #[]) ∧ ∃ S', StAt w' S' g (xs ++ ys) ∧ Chg S w w' ∧ ∀ k, S' k → S k ∨ w.heap.size ≤ k := by
  obtain ⟨v, hg, hv, hS, hh, ho, hb⟩ := hSt
  have hcv : w.cell? ⟨g, 0, none⟩ = some v := by rw [blk_cell hh]; rfl
  have hgl := blk_lt hh
  have hne := ho.type hh (by decide)
  have HBB : Hid (∀ x ∈ xs ++ ys, 0 ≤ x ∧ x < 256) := fun x hx => (List.mem_append.1 hx).elim (hb x) (hby x)
  have HD := Lib.hid hd
  obtain ⟨A, c, rfl⟩ := ho.slice
  clear hb hby hd
  go_enter Tryd.func14, Tryd.ntmps14
  go_wp2_with (at_builtin; refine app_off rfl _ _ 22 5 .u8 (.int .u8 0) 1 rfl Tryd.underlying22 infoC rfl (by decide) _ xs B d ys rfl rfl HD.out ho hy (by omega) ?_)
  intro A1 c1 w1 ho1 hG
  have hh1 : w1.heap[g]? = _ := (hG.gr.block g hgl (fun e => hne e.symm)).trans hh
  obtain ⟨h1, h2⟩ := StAt.store hg hS hh1 ((Chg.refl S w).grown hG.gr (fun k hk _ => hv k hk)) (fun k hk => by
    rcases hG.at_ with e | ⟨b, e, hb⟩
    · exact .inl (hv k (by rw [← e]; exact hk))
    · rw [e] at hk; injection hk with hk; exact .inr (by omega)) ho1 HBB.out
  have hcv1 : w1.cell? ⟨g, 0, none⟩ = some (.slice A xs.length c) := by rw [blk_cell hh1]; rfl
  have hfz1 := blk_frozen hh1 0
  have hgl1 := blk_lt hh1
  generalize hzs : xs ++ ys = zs at *
  have HZ := Lib.hid hzs
  clear hzs
  go_wp2
  go_end0
  rw [HZ.out]
  exact ⟨rfl, fun k => S k ∨ (w.heap.size ≤ k ∧ k < w1.heap.size), h1, h2, fun k hk => hk.imp id (fun h => h.1)⟩

set_option maxHeartbeats 400000 in
theorem sleft_any (S : Nat → Prop) (g : Nat) (xs : List Int) (w : World) (hSt : StAt w S g xs) :
    Calls Tryd.prog 17 #[.pointer (some ⟨g, 0, none⟩)] w fun e w' => e = .returned (.int .i64 (xs.length : Nat)) ∧ w = w' := by
  obtain ⟨v, hg, hv, hS, hh, ho, hb⟩ := hSt
  obtain ⟨A, c, rfl⟩ := ho.slice
  have hcv : w.cell? ⟨g, 0, none⟩ = some (.slice A xs.length c) := by rw [blk_cell hh]; rfl
  go_enter Tryd.func17, Tryd.ntmps17
  go_wp2
  go_ret
  exact ⟨rfl, rfl⟩

/-- the next frame of bytes, and what waits then: k at most are left out -/
def nextF : Nat → List Int → Option (Int × List Int) × List Int
  | 0, b => (none, b)
  | k + 1, b =>
    match b with
    | [] => (none, [])
    | _ :: _ =>
      match (rdF b).2.2.2 with
      | none => (some ((rdF b).1, (rdF b).2.1), b.drop (rdF b).2.2.1)
      | some c => if c = 101 then (none, b) else nextF k (b.drop 1)
theorem nextF_nil : nextF 0 [] = (none, []) := rfl
theorem nextF_ok {b : List Int} (hp : 0 < b.length) (h : (rdF b).2.2.2 = none) : nextF b.length b = (some ((rdF b).1, (rdF b).2.1), b.drop (rdF b).2.2.1) := by
  obtain ⟨x, r, rfl⟩ : ∃ x r, b = x :: r := by cases b with | nil => simp at hp | cons x r => exact ⟨x, r, rfl⟩
  show nextF (r.length + 1) (x :: r) = _
  unfold nextF
  simp only [h]
theorem nextF_end {b : List Int} (hp : 0 < b.length) (h : (rdF b).2.2.2 = some 101) : nextF b.length b = (none, b) := by
  obtain ⟨x, r, rfl⟩ : ∃ x r, b = x :: r := by cases b with | nil => simp at hp | cons x r => exact ⟨x, r, rfl⟩
  show nextF (r.length + 1) (x :: r) = _
  unfold nextF
  simp only [h, if_true]
theorem nextF_skip {b : List Int} {c : Nat} (hp : 0 < b.length) (h : (rdF b).2.2.2 = some c) (hc : c ≠ 101) : nextF b.length b = nextF (b.drop 1).length (b.drop 1) := by
  obtain ⟨x, r, rfl⟩ : ∃ x r, b = x :: r := by cases b with | nil => simp at hp | cons x r => exact ⟨x, r, rfl⟩
  show nextF (r.length + 1) (x :: r) = _
  unfold nextF
  simp only [h, if_neg hc, List.drop_succ_cons, List.drop_zero]
  cases r <;> rfl
/-- how many bytes wait in a stream -/
def stLen (w : World) (g : Nat) : Nat := match w.cell? ⟨g, 0, none⟩ with | some (.slice _ n _) => n | _ => 0
theorem StAt.len {w : World} {S : Nat → Prop} {g : Nat} {xs : List Int} (h : StAt w S g xs) : stLen w g = xs.length := by
  obtain ⟨v, hg, hv, hS, hh, ho, hb⟩ := h
  obtain ⟨A, c, rfl⟩ := ho.slice
  unfold stLen
  rw [blk_cell hh]
  rfl
theorem rdF_codes (b : List Int) : ∀ c, (rdF b).2.2.2 = some c → c = 101 ∨ c = 102 ∨ c = 103 := by
  unfold rdF
  intro c
  split
  · simp; omega
  split
  · simp; omega
  split
  · simp; omega
  split
  · simp; omega
  split
  · simp; omega
  · simp

/-- what Next returns -/
def nextV (A : Option Addr) (c : Nat) : Option (Int × List Int) → Value
  | none => .tuple #[.int .u8 0, .slice none 0 0, .bool false]
  | some (k, b) => .tuple #[.int .u8 k, .slice A b.length c, .bool true]
def nextC (w : World) (A : Option Addr) : Option (Int × List Int) → Prop
  | none => True
  | some (_, b) => Kd.C (Kd.int .u8) w A b.length b

def NextPost (S : Nat → Prop) (g : Nat) (xs : List Int) (w : World) (e : Ending) (w' : World) : Prop :=
  ∃ A c S', e = .returned (nextV A c (nextF xs.length xs).1) ∧ nextC w' A (nextF xs.length xs).1 ∧ StAt w' S' g (nextF xs.length xs).2 ∧ Chg S w w' ∧ ∀ k, S' k → S k ∨ w.heap.size ≤ k

set_option maxHeartbeats 3200000 in
set_option maxRecDepth 100000 in
theorem snext_any {L : List Nat} (ad : Nat → Addr) (S : Nat → Prop) (g : Nat) (xs : List Int) (w : World) (hSt : StAt w S g xs) (hE : EOk L ad w) (hI : EInj L ad) (hNG : NoG L ad S) (hL1 : 101 ∈ L) (hL2 : 102 ∈ L) (hL3 : 103 ∈ L) (hl : xs.length ≤ 140737488351232) :
    Calls Tryd.prog 15 #[.pointer (some ⟨g, 0, none⟩)] w (NextPost S g xs w) := by
  have HE := Lib.hid hE
  clear hE
  go_enter Tryd.func15, Tryd.ntmps15
  go_wp2_with fail
  go_loopw [5] (fun _ wr => ∃ (ys : List Int) (S' : Nat → Prop), ys.length ≤ xs.length ∧ StAt wr S' g ys ∧ Hid (nextF xs.length xs = nextF ys.length ys) ∧ Chg S w wr ∧ ∀ k, S' k → S k ∨ w.heap.size ≤ k) (fun _ wr => stLen wr g)
  case atStart => exact ⟨xs, S, Nat.le_refl _, hSt, rfl, Chg.refl _ _, fun k h => .inl h⟩
  case round =>
    clear hSt
    obtain ⟨ys, S', hyl, hSt, HNX, hC, hS'⟩ := hrel
    have hSt0 := hSt
    obtain ⟨v, hg, hv, hS, hh, ho, hb⟩ := hSt
    obtain ⟨A, c, rfl⟩ := ho.slice
    have hcv : wr.cell? ⟨g, 0, none⟩ = some (.slice A ys.length c) := by rw [blk_cell hh]; rfl
    have hgl := blk_lt hh
    have hszr := hC.size
    rcases Nat.eq_zero_or_pos ys.length with h0 | hpos
    · obtain rfl := List.eq_nil_of_length_eq_zero h0
      go_wp2_with fail
      go_ret3
      unfold NextPost
      rw [HNX.out]
      exact ⟨none, 0, S', rfl, trivial, hSt0, hC, hS'⟩
    · have HOK := Lib.hid (fun h => nextF_ok hpos h)
      have HEN := Lib.hid (fun h => nextF_end hpos h)
      have HSK := Lib.hid (fun c h hc => nextF_skip (c := c) hpos h hc)
      have HIN := Lib.hid (rdF_inv ys)
      have HCO := Lib.hid (rdF_codes ys)
      obtain ⟨_, hCC, hcc, hnn⟩ := ho.C
      have hEr := HE.out.chg hNG hC
      have hfr := freado_any ad A c ys wr hEr hL1 hL2 hL3 hCC hcc hnn hb (by omega)
      generalize rdF ys = q at *
      obtain ⟨q1, q2, q3, q4⟩ := q
      simp only [frV] at hfr
      have HFR := Lib.hid hfr
      have HBY := Lib.hid hb
      have hposI : (0 : Int) < (ys.length : Int) := by omega
      clear hfr hCC hcc hnn hb
      have hfz := blk_frozen hh 0
      go_wp2_with fail
      with_reducible refine HFR.out.mono ?_
      rintro e w1 ⟨A1, c1, rfl, ho1, hb1⟩
      clear HFR
      have hh1 : w1.heap[g]? = _ := (hb1.block g hgl).trans hh
      have hcv1 : w1.cell? ⟨g, 0, none⟩ = some (.slice A ys.length c) := by rw [blk_cell hh1]; rfl
      have hfz1 := blk_frozen hh1 0
      have hgl1 := blk_lt hh1
      have hO1 := ho.below hb1
      have hE1 := hEr.below hb1
      have hs1 := hb1.size
      obtain ⟨i0, hi', hz0, hz1, hz2⟩ := info_parts infoC
      clear hcv hfz hEr
      cases q4 with
      | none =>
        have hq3 : q3 ≤ ys.length := by have := HIN.out rfl; omega
        obtain ⟨Ac, cc, hrun, hOc, hbc⟩ := hO1.cut (P := Tryd.prog) Tryd.underlying22 hi' hz1 q3 hq3 .i64
        have hn2 := HOK.out rfl
        obtain ⟨_, hCc, _, _⟩ := hOc.C
        have HCL := Lib.hid (clone_any Ac cc (ys.drop q3) w1 hCc (by simp; omega))
        have HB2 := Lib.hid (drop_bytes HBY.out q3)
        generalize ys.drop q3 = zs at *
        have HN2 := Lib.hid hn2
        have hq0 : (0 : Int) ≤ (q3 : Int) := by omega
        have hq1 : (q3 : Int) ≤ (ys.length : Int) := by omega
        simp only [errV]
        clear hn2 hCc hOc hbc
        go_wp2_with fail
        with_reducible refine HCL.out.mono ?_
        rintro e w2 ⟨A2, c2, rfl, ho2, hb2⟩
        clear HCL
        have hh2 : w2.heap[g]? = _ := (hb2.block g hgl1).trans hh1
        have hfz2 := blk_frozen hh2 0
        have hgl2 := blk_lt hh2
        have hcv2 : w2.cell? ⟨g, 0, none⟩ = some (.slice A ys.length c) := by rw [blk_cell hh2]; rfl
        have hb12 := below_then hb1 hs1 hb2
        obtain ⟨k1, k2⟩ := StAt.store (v1 := .slice A2 zs.length c2) hg hS hh2 (Chg.of_below hb12) (fun k hk => .inr (by have := own_base ho2 k hk; omega)) (OwnAt.of_own ho2) HB2.out
        have hres : (w2.setCell ⟨g, 0, none⟩ (.slice A2 zs.length c2)).ownsRow wr.heap.size 5 1 (.slice A1 q2.length c1) q2.length (nums .u8 q2) :=
          own_move (own_below ho1 hb2) (fun k hk => Below.heap_setCell _ _ _ _ (fun e => by have h := own_base ho1 k hk; have e2 : k = g := e; omega))
        clear hrun
        go_wp2
        go_ret3
        unfold NextPost
        rw [HNX.out, HN2.out]
        exact ⟨A1, c1, fun k => S' k ∨ (wr.heap.size ≤ k ∧ k < w2.heap.size), rfl, C_own hres, k1, hC.next k2 (fun k hk hlt => (hS' k hk).resolve_right (by omega)), fun k hk => hk.elim (hS' k) (fun h => .inr (by omega))⟩
      | some e1 =>
        have hcd := HCO.out e1 rfl
        by_cases h101 : e1 = 101
        · subst h101
          have hn2 := HEN.out rfl
          have HN2 := Lib.hid hn2
          have hq := eqlE hE1 hI 101 101 hL1 hL1
          have hgE := (hE1 101 hL1).1
          rw [decide_eq_true rfl] at hq
          simp only [errV, gnum] at hq hgE ⊢
          have hSt1 := hSt0.below hb1
          clear hn2 hSt0 hE1
          go_wp2_with fail
          go_ret3
          unfold NextPost
          rw [HNX.out, HN2.out]
          exact ⟨none, 0, S', rfl, trivial, hSt1, hC.next (Chg.of_below (S := S') hb1) (fun k hk hlt => (hS' k hk).resolve_right (by omega)), hS'⟩
        · have hn2 := HSK.out e1 rfl h101
          have hq := eqlE hE1 hI e1 101 (by rcases hcd with rfl | rfl | rfl <;> assumption) hL1
          have hgE := (hE1 101 hL1).1
          rw [decide_eq_false h101] at hq
          obtain ⟨Ac, cc, hrun, hOc, hbc⟩ := hO1.cut (P := Tryd.prog) Tryd.underlying22 hi' hz1 1 (by omega) .i64
          simp only [show ((1 : Nat) : Int) = 1 from rfl] at hrun
          have HB2 := Lib.hid (drop_bytes HBY.out 1)
          have hdl : (ys.drop 1).length + 1 = ys.length := by simp; omega
          obtain ⟨k1, k2⟩ := StAt.store (v1 := .slice Ac (ys.drop 1).length cc) hg hS hh1 (Chg.of_below hb1) (fun k hk => .inl (hv k (hbc k hk))) hOc HB2.out
          generalize ys.drop 1 = zs at *
          have HN2 := Lib.hid hn2
          simp only [errV, gnum] at hq hgE ⊢
          clear hn2 hSt0 hE1 hOc
          go_wp2_with fail
          go_roundw
          case rel => exact ⟨zs, fun k => S' k ∨ (wr.heap.size ≤ k ∧ k < w1.heap.size), by omega, k1, by show _ = _; rw [HNX.out, HN2.out], hC.next k2 (fun k hk hlt => (hS' k hk).resolve_right (by omega)), fun k hk => hk.elim (hS' k) (fun h => .inr (by omega))⟩
          case measure => rw [k1.len, StAt.len ⟨_, hg, hv, hS, hh, ho, HBY.out⟩]; omega

end Go.Proofs.YtdlacjbicjhfgaaDoor
