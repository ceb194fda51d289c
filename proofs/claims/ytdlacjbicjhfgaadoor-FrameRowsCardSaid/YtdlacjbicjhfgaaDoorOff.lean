/- A slice of bytes that lies anywhere in a row of the call's own: what it reads as, append onto it, cutting its beginning off. -/
import Derived.Test.YtdlacjbicjhfgaaDoorBase2
import Derived.ArgAppend
namespace Go.Proofs.YtdlacjbicjhfgaaDoor
open Go.RowKit Go.Proofs.YtdlacjbicjhfgaaDoorW.PrintWords

/-- v is a slice of xs in a row that is nobody else's -/
def OwnAt (w : World) (e : TypeId) (v : Value) (k : IntKind) (xs : List Int) : Prop :=
  (v = .slice none 0 0 ∧ xs = []) ∨ ∃ g off cap cur, v = .slice (some ⟨g, off, none⟩) xs.length cap ∧ w.heap[g]? = some (.cells cur e (0, 0)) ∧ xs.length ≤ cap ∧ cap ≤ maxLen ∧ off + cap ≤ cur.size ∧ ∀ j, j < xs.length → cur[off + j]? = some (.int k (xs.getD j 0))
theorem OwnAt.of_own {w : World} {e : TypeId} {k : IntKind} {base n c : Nat} {A : Option Addr} {xs : List Int} (h : w.ownsRow base e 1 (.slice A n c) n (nums k xs)) : OwnAt w e (.slice A xs.length c) k xs := by
  obtain rfl := own_len h
  rcases h.2 with ⟨h1, h2⟩ | ⟨g, cap, cur, he, _, hg, hnc, hcm, hcs, htk⟩
  · exact .inl ⟨h1, by simpa [nums] using h2⟩
  · refine .inr ⟨g, 0, cap, cur, he, hg, hnc, hcm, by omega, fun j hj => ?_⟩
    have h3 := congrArg (·[j]?) htk
    simp only [List.getElem?_take, Nat.mul_one, hj, if_true] at h3
    rw [Nat.zero_add, ← Array.getElem?_toList, h3]
    simp [nums, List.getD, List.getElem?_eq_getElem hj]
theorem OwnAt.C {w : World} {e : TypeId} {k : IntKind} {A : Option Addr} {n c : Nat} {xs : List Int} (h : OwnAt w e (.slice A n c) k xs) : n = xs.length ∧ Kd.C (Kd.int k) w A xs.length xs ∧ xs.length ≤ c ∧ (A = none → c = 0) := by
  rcases h with ⟨h1, rfl⟩ | ⟨g, off, cap, cur, he, hg, hnc, hcm, hcs, hx⟩
  · injection h1 with h1 h2 h3
    subst h1 h2 h3
    exact ⟨rfl, C_nil _ _ _, Nat.le_refl _, fun _ => rfl⟩
  · injection he with h1 h2 h3
    subst h1 h2 h3
    refine ⟨rfl, ⟨rfl, by simp only [maxLen] at hcm; omega, fun _ => ⟨_, rfl, fun j p hj => ⟨[.int k p], rfl, rfl, fun i u hu => ?_⟩⟩⟩, hnc, fun h => by cases h⟩
    have hi : i = 0 := by have := (List.getElem?_eq_some_iff.1 hu).1; simp at this; omega
    subst hi
    have hjl : j < xs.length := (List.getElem?_eq_some_iff.1 hj).1
    rw [show j * (Kd.int k).sz + 0 = j by simp [Kd.int, Kd.scalar], Addr.add_lit, blk_cell hg]
    simp at hu
    subst hu
    rw [hx j hjl]
    simp [List.getD, hj]
theorem OwnAt.move {w w1 : World} {e : TypeId} {k : IntKind} {v : Value} {xs : List Int} (h : OwnAt w e v k xs) (hm : ∀ b, v.ownBlock = some b → w1.heap[b]? = w.heap[b]?) : OwnAt w1 e v k xs := by
  rcases h with h | ⟨g, off, cap, cur, rfl, hg, h⟩
  · exact .inl h
  · exact .inr ⟨g, off, cap, cur, rfl, (hm g rfl).trans hg, h⟩
theorem OwnAt.lt {w : World} {e : TypeId} {k : IntKind} {v : Value} {xs : List Int} (h : OwnAt w e v k xs) : ∀ b, v.ownBlock = some b → b < w.heap.size := by
  intro b hb
  rcases h with ⟨rfl, _⟩ | ⟨g, off, cap, cur, rfl, hg, h⟩
  · cases hb
  · injection hb with hb; subst hb; exact blk_lt hg
theorem OwnAt.below {w w1 : World} {e : TypeId} {k : IntKind} {v : Value} {xs : List Int} (h : OwnAt w e v k xs) (hb : Below w.heap.size w w1) : OwnAt w1 e v k xs :=
  h.move (fun b e => hb.block b (h.lt b e))
theorem OwnAt.slice {w : World} {e : TypeId} {k : IntKind} {v : Value} {xs : List Int} (h : OwnAt w e v k xs) : ∃ A c, v = .slice A xs.length c := by
  rcases h with ⟨rfl, rfl⟩ | ⟨g, off, cap, cur, rfl, _⟩
  · exact ⟨none, 0, rfl⟩
  · exact ⟨_, _, rfl⟩
theorem OwnAt.type {w : World} {e t : TypeId} {k : IntKind} {v : Value} {xs : List Int} {b : Nat} {cs : Array Value} {fr : Nat × Nat} (h : OwnAt w e v k xs) (hg : w.heap[b]? = some (.cells cs t fr)) (hn : t ≠ e) : v.ownBlock ≠ some b := by
  intro hv
  rcases h with ⟨rfl, _⟩ | ⟨g, off, cap, cur, rfl, hg2, h⟩
  · cases hv
  · injection hv with hv; subst hv
    rw [hg] at hg2
    injection hg2 with hg2
    injection hg2 with _ h2
    exact hn h2
/-- its beginning cut off -/
theorem OwnAt.cut {P : Program} {w : World} {t e : TypeId} {k : IntKind} {A : Option Addr} {n c : Nat} {xs : List Int} {i : TypeInfo} (ht : P.underlying t = some (.slice e)) (hi : P.info? e = some i) (hsz : i.size = 1)
    (h : OwnAt w e (.slice A n c) k xs) (j : Nat) (hj : j ≤ xs.length) (kl : IntKind) :
    ∃ A' c', (∀ W : World, (Instr.slice t (.slice A xs.length c) (some (.int kl (j : Int))) none none).run P W = .ok (.slice A' (xs.drop j).length c') W) ∧ OwnAt w e (.slice A' (xs.drop j).length c') k (xs.drop j) ∧ ∀ b, (Value.slice A' (xs.drop j).length c').ownBlock = some b → (Value.slice A n c).ownBlock = some b := by
  obtain ⟨hn, hC, hnc, hnd⟩ := h.C
  have hel : P.elem t = e := by simp [Program.elem, ht]
  have hu : P.underlying t = some (.slice (P.elem t)) := by rw [hel]; exact ht
  have hl : (xs.drop j).length = xs.length - j := List.length_drop
  have hrun : ∀ W : World, (Instr.slice t (.slice A xs.length c) (some (.int kl (j : Int))) none none).run P W = .ok (.slice (if c = j then A else A.map (·.add j)) (xs.length - j) (c - j)) W := fun W => by
    rw [run_slice_l W t A xs.length c hu kl (j : Int) (by omega) (by omega), hel]
    simp [sizeOf, typeInfo, hi, hsz, sliced, Result.andThen]
  refine ⟨if c = j then A else A.map (·.add j), c - j, fun W => by rw [hl]; exact hrun W, ?_, ?_⟩
  · rcases h with ⟨h1, rfl⟩ | ⟨g, off, cap, cur, he, hg, hnc, hcm, hcs, hx⟩
    · injection h1 with h1 h2 h3
      subst h1 h2 h3
      obtain rfl : j = 0 := by simpa using hj
      exact .inl ⟨by simp, rfl⟩
    · injection he with h1 h2 h3
      subst h1 h2 h3
      by_cases hcj : c = j
      · rw [if_pos hcj]
        have h0 : xs.drop j = [] := List.drop_eq_nil_of_le (by omega)
        rw [h0]
        exact .inr ⟨g, off, c - j, cur, rfl, hg, by simp, by omega, by omega, fun j hj => by simp at hj⟩
      · rw [if_neg hcj]
        refine .inr ⟨g, off + j, c - j, cur, by simp [Addr.add_lit], hg, by rw [hl]; omega, by omega, by omega, fun i hi => ?_⟩
        rw [hl] at hi
        rw [Nat.add_assoc, hx (j + i) (by omega)]
        simp [List.getD]
  · intro b hb
    rcases h with ⟨h1, rfl⟩ | ⟨g, off, cap, cur, he, hg, hnc, hcm, hcs, hx⟩
    · injection h1 with h1 h2 h3
      subst h1 h2 h3
      split at hb <;> simp [Value.ownBlock] at hb
    · injection he with h1 h2 h3
      subst h1 h2 h3
      split at hb
      · simpa [Value.ownBlock] using hb
      · simpa [Value.ownBlock, Addr.add_lit] using hb

theorem setCells_block (b : Nat) {e : TypeId} : ∀ (vs : List Value) (o : Nat) (w : World) (cur : Array Value), w.heap[b]? = some (.cells cur e (0, 0)) → ∃ cur', (w.setCells b o vs).heap[b]? = some (.cells cur' e (0, 0)) ∧ cur'.size = cur.size
  | [], _, _, cur, h => ⟨cur, h, rfl⟩
  | v :: vs, o, w, cur, h => by
    have h1 := blk_set h o v
    obtain ⟨cur', h2, h3⟩ := setCells_block b vs (o + 1) _ _ h1
    exact ⟨cur', h2, by rw [h3]; simp⟩
theorem setCells_chg (b : Nat) : ∀ (vs : List Value) (o : Nat) (w : World), Chg (· = b) w (w.setCells b o vs)
  | [], _, w => Chg.refl _ w
  | v :: vs, o, w => by
    have h1 : Chg (· = b) w (w.setCell ⟨b, o, none⟩ v) := Chg.setCell (S := (· = b)) (p := ⟨b, o, none⟩) (Chg.refl _ w) (fun _ => rfl) v
    exact h1.next (setCells_chg b vs (o + 1) _) (fun k e _ => e)
theorem Grw.of_chg {w w' : World} {g : Nat} {v v' : Value} (h : Chg (· = g) w w') (hv : v.ownBlock = some g) (hv' : v'.ownBlock = some g) : Grw w w' v v' :=
  ⟨⟨h.os, h.tape, h.output, h.size, fun k hk hne => h.block k hk (fun e => hne (by rw [hv, e]))⟩, .inl (hv'.trans hv.symm)⟩

section
variable {P : Program} {W : World} {ops : Array Oper} {rest : List Oper} {o : Oper} {a : Act} {Q : Exit → Act → World → Prop}
theorem run_app_off (t ty e : TypeId) (k : IntKind) (i : TypeInfo) (z : Value) (bytes : Nat) (ht : P.underlying t = some (.slice e)) (hi : P.info? e = some i) (hz : i.zero = some z) (hsz : i.size = 1) (hby : i.bytes = bytes) (hzc : z.cells.size = 1) (hb0 : 0 < bytes)
    (v : Value) (xs : List Int) (B : Option Addr) (d : Nat) (ys : List Int) (HO : OwnAt W e v k xs) (hC : Kd.C (Kd.int k) W B ys.length ys) (hnd : B = none → d = 0) (hl : (xs.length + ys.length) * bytes ≤ 140737488355328) :
    ∃ A1 c1 w', (Builtin.append_ #[t, t] ty #[v, .slice B ys.length d]).run P W = .ok (.slice A1 (xs ++ ys).length c1) w' ∧ OwnAt w' e (.slice A1 (xs ++ ys).length c1) k (xs ++ ys) ∧ Grw W w' v (.slice A1 (xs ++ ys).length c1) := by
  have hlen : xs.length + ys.length ≤ 140737488355328 := Nat.le_trans (Nat.le_mul_of_pos_right _ hb0) hl
  have h63 : xs.length + ys.length ≤ maxLen := by simp only [maxLen]; omega
  cases B with
  | none =>
    obtain rfl := hnd rfl
    have h0 := C_none hC
    subst h0
    obtain ⟨A, c, rfl⟩ := HO.slice
    obtain ⟨_, _, hnc, _⟩ := HO.C
    refine ⟨A, c, W, ?_, by simpa using HO, by simpa using Grw.refl W _⟩
    simp only [List.append_nil]
    rcases HO with ⟨h1, rfl⟩ | ⟨g, off, cap, cur, he, _⟩
    · injection h1 with h1 h2 h3
      subst h1 h3
      simp [Builtin.append_, run_underlying ht, sizeOf, typeInfo, hi, Builtin.lenOf, Builtin.firstCells]
    · injection he with h1 h2 h3
      subst h1 h3
      simp [Builtin.append_, run_underlying ht, sizeOf, typeInfo, hi, Builtin.lenOf, Builtin.firstCells, hnc, storeCells]
  | some ad =>
    have hnews := own_news (k := k) rfl hC
    have hn1 : ∀ u ∈ nums k ys, u.oneCell' = true := by intro u hu; obtain ⟨x, _, rfl⟩ := List.mem_map.1 hu; rfl
    rcases HO with ⟨rfl, rfl⟩ | ⟨g, off, cap, cur, rfl, hg, hnc, hcm, hcs, hx⟩
    · obtain ⟨v', w', hr, ho, hgr, _, hat⟩ := run_append_own_at (P := P) W 0 t ty e i z 1 bytes ht hi hz hsz hby hzc (by omega) (.slice none 0 0) 0 [] (World.ownsRow_nil _ _ _ _) ad ys.length d (nums k ys) (by simp [nums_length]) hnews hn1 (by simpa using h63) (by simpa using hl) (Nat.zero_le _)
      obtain ⟨A1, c1, rfl⟩ := own_slice ho
      simp only [List.nil_append, Nat.zero_add, List.length_nil] at *
      exact ⟨A1, c1, w', hr, OwnAt.of_own ho, ⟨hgr, hat.imp id (fun e => ⟨_, e, Nat.le_refl _⟩)⟩⟩
    · by_cases hr : xs.length + ys.length ≤ cap
      · have hcell : ∀ j, j < ys.length → (W.cell? ⟨g, off + xs.length + j, none⟩).isSome = true := fun j hj => by
          rw [blk_cell hg, Array.getElem?_eq_getElem (by omega)]; rfl
        have hrun := run_append_room_cells (P := P) W t ty e i ht hi g off xs.length cap ad ys.length d (nums k ys) (by rw [hsz]; simp [nums_length]) hnews hn1 hr
          (fun j hj => by rw [hsz, Nat.mul_one]; exact hcell j (by simpa [nums_length] using hj)) (fun j hj => blk_frozen hg _)
        rw [hsz, Nat.mul_one] at hrun
        obtain ⟨cur', h1, h2⟩ := setCells_block g (nums k ys) (off + xs.length) W cur hg
        have hchg := setCells_chg g (nums k ys) (off + xs.length) W
        rw [← List.length_append] at hrun
        refine ⟨some ⟨g, off, none⟩, cap, _, hrun, .inr ⟨g, off, cap, cur', rfl, h1, by simpa using hr, hcm, by omega, fun j hj => ?_⟩, Grw.of_chg hchg rfl rfl⟩
        have hb : cur'[off + j]? = (W.setCells g (off + xs.length) (nums k ys)).cell? ⟨g, off + j, none⟩ := (blk_cell h1 _).symm
        rw [hb]
        by_cases hjx : j < xs.length
        · rw [World.cell?_setCells_out g _ _ _ _ (fun _ _ => .inl (by show off + j < off + xs.length; omega)), blk_cell hg, hx j hjx]
          simp [List.getD, List.getElem?_append_left hjx]
        · have hjy : j - xs.length < (nums k ys).length := by rw [nums_length]; rw [List.length_append] at hj; omega
          have h3 := World.cell?_setCells_in g (nums k ys) (off + xs.length) W (fun j hj => hcell j (by simpa [nums_length] using hj)) (j - xs.length) hjy
          rw [show off + xs.length + (j - xs.length) = off + j by omega] at h3
          rw [h3]
          have hjy2 : j - xs.length < ys.length := by simpa [nums_length] using hjy
          simp [nums, List.getD, List.getElem?_append_right (show xs.length ≤ j by omega), List.getElem?_eq_getElem hjy2]
      · obtain ⟨v', w', hrun, ho, hgr⟩ := run_append_arg_grows (P := P) W t ty e i z 1 bytes ht hi hz hsz hby hzc (by omega) ⟨g, off, none⟩ xs.length cap (nums k xs) (by simp [nums_length]) (fun j u hu => by
          rw [Addr.add_lit, blk_cell hg]
          have hj : j < xs.length := by have := (List.getElem?_eq_some_iff.1 hu).1; simpa [nums_length] using this
          rw [hx j hj]
          simp [nums, List.getElem?_eq_getElem hj] at hu
          simp [List.getD, List.getElem?_eq_getElem hj, hu]) ad ys.length d (nums k ys) (by simp [nums_length]) hnews (by omega) h63 hl
        obtain ⟨A1, c1, rfl⟩ := own_slice ho
        rw [← nums_append, ← List.length_append] at ho
        rw [← List.length_append] at hrun
        have hat : ∃ b, (Value.slice A1 (xs ++ ys).length c1).ownBlock = some b ∧ W.heap.size ≤ b := by
          rcases ho.2 with ⟨h1, h2⟩ | ⟨g', cap', cur', he, hbg, _⟩
          · exfalso
            rw [List.length_append] at h2
            omega
          · injection he with h1
            subst h1
            exact ⟨g', rfl, hbg⟩
        refine ⟨A1, c1, w', by rw [List.length_append] at hrun ⊢; exact hrun, OwnAt.of_own ho, ⟨⟨hgr.os, hgr.tape, hgr.output, hgr.size, fun k hk _ => hgr.block k hk (by simp)⟩, .inr ?_⟩⟩
        exact hat

/-- append of numbers onto a slice that lies anywhere in a row of the call's own -/
theorem app_off (hgd : o.guard = none) (s x : Operand) (t e : TypeId) (k : IntKind) (z : Value) (bytes : Nat)
    (ho : o.op = .call { callee := .builtin .append, args := #[s, x], argTypes := #[t, t] })
    (ht : P.underlying t = some (.slice e)) (hinfo : (P.info? e).map (fun i => (i.zero, i.size, i.bytes)) = some (some z, 1, bytes)) (hz : z.cells.size = 1) (hb0 : 0 < bytes)
    (v : Value) (xs : List Int) (B : Option Addr) (d : Nat) (ys : List Int) (hs : a.eval s = v) (hx : a.eval x = .slice B ys.length d) (hnd : B = none → d = 0)
    (HO : OwnAt W e v k xs) (hC : Kd.C (Kd.int k) W B ys.length ys) (hl : (xs.length + ys.length) * bytes ≤ 140737488355328)
    (h : ∀ A1 c1 w1, OwnAt w1 e (.slice A1 (xs ++ ys).length c1) k (xs ++ ys) → Grw W w1 v (.slice A1 (xs ++ ys).length c1) → wpList P ops Q rest (a.put o.dst (.slice A1 (xs ++ ys).length c1)) w1) :
    wpList P ops Q (o :: rest) a W := by
  obtain ⟨i0, hi, hzz⟩ := Option.map_eq_some_iff.1 hinfo
  simp only [Prod.mk.injEq] at hzz
  obtain ⟨hz0, hz1, hz2⟩ := hzz
  refine wpList_plain hgd fun K hK => ?_
  obtain ⟨A1, c1, w', hr, h2, h3⟩ := run_app_off (P := P) (W := W) t o.type e k i0 z bytes ht hi hz0 hz1 hz2 hz hb0 v xs B d ys HO hC hnd hl
  unfold Oper.wp execOp
  simp only [ho, resolve, invoke, builtin, Sem.run_bind, Sem.run_pure, Result.andThen_ok, List.map_toArray, List.map_cons, List.map_nil, hs, hx, hr]
  exact hK _ _ (h A1 c1 w' h2 h3)
end

end Go.Proofs.YtdlacjbicjhfgaaDoor
