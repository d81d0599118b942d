/- Rows that a sort has turned; the order of arcs. -/
import Derived.Test.YtinkhlfmjfahpaaLp
import Derived.StillTailTactics
namespace Go.Proofs.Ytinkhlfmjfahpaa.PLoadKeeps
open Go.Shelf Go.RowKit Go.MapKept Go.Proofs.YtinkhlfmjfahpaaW.PrintWords Go.Proofs.YtinkhlfmjfahpaaW.PrintLast Go.Proofs.YtinkhlfmjfahpaaW.PrintMore
set_option linter.unusedVariables false
set_option linter.unusedSimpArgs false

instance : Inhabited S31 := ⟨z31⟩
section
variable {α : Type} [Inhabited α] {enc : α → List Value} {m : Nat} {e : TypeId}
theorem flatK_toList (hL : Lays enc m) (h0 : 0 < m) (d : Array α) : (Go.Sort.flatK enc m d).toList = d.toList.flatMap enc := by
  apply List.ext_getElem?
  intro t
  by_cases ht : t < d.size * m
  · have h1 : (Go.Sort.flatK enc m d).toList[t]? = some ((enc d[t / m]!)[t % m]!) := by
      rw [Array.getElem?_toList, Array.getElem?_eq_getElem (by simpa using ht), ← getElem!_pos _ t (by simpa using ht), Go.Sort.get_flatK _ _ _ _ ht]
    rw [h1]
    have hi : t / m < d.toList.length := by simpa using (Nat.div_lt_iff_lt_mul h0).2 ht
    have hj : t % m < m := Nat.mod_lt _ h0
    have h2 := flat_get hL d.toList default (t / m) (t % m) hi hj
    rw [Nat.mul_comm, Nat.div_add_mod] at h2
    rw [h2]
    have e1 : d[t / m]! = d.toList.getD (t / m) default := by
      rw [getElem!_pos d (t / m) (by simpa using hi), List.getD_eq_getElem?_getD, List.getElem?_eq_getElem hi]
      simp
    rw [e1, getElem!_pos _ _ (by rw [hL.len]; exact hj), List.getElem?_eq_getElem]
  · rw [List.getElem?_eq_none (by simp; omega), List.getElem?_eq_none (by rw [flat_length hL]; simp; omega)]
theorem FRow.holds {w : World} {base g c : Nat} {xs : List α} (hL : Lays enc m) (h0 : 0 < m) (h : FRow enc m e w base (.slice (some ⟨g, 0, none⟩) xs.length c) xs) : Go.Sort.HoldsK enc m w g 0 xs.toArray := by
  intro t ht
  rw [Go.Sort.size_flatK] at ht
  simp only [List.size_toArray] at ht
  have hi : t / m < xs.length := (Nat.div_lt_iff_lt_mul h0).2 ht
  have hj : t % m < m := Nat.mod_lt _ h0
  have hc := h.cell hL default (t / m) (t % m) hi hj
  rw [Nat.mul_comm, Nat.div_add_mod] at hc
  rw [Nat.zero_add]
  refine ⟨?_, hc.2⟩
  rw [hc.1, Go.Sort.get_flatK _ _ _ _ (by simpa using ht)]
  have e1 : xs.toArray[t / m]! = xs.getD (t / m) default := by
    rw [getElem!_pos xs.toArray (t / m) (by simpa using hi), List.getD_eq_getElem?_getD, List.getElem?_eq_getElem hi]
    simp
  rw [e1, getElem!_pos _ _ (by rw [hL.len]; exact hj), List.getElem?_eq_getElem]
  rfl
theorem FRow.sorted {w : World} {base g c n : Nat} {xs : List α} {d : Array α} {os : Array Obj} (hL : Lays enc m) (h0 : 0 < m) (h : FRow enc m e w base (.slice (some ⟨g, 0, none⟩) xs.length c) xs) (hd : d.size = xs.length) :
    FRow enc m e (sortWorldK enc m w g 0 n d os) base (.slice (some ⟨g, 0, none⟩) d.toList.length c) d.toList ∧ Chg (fun k => k = g) w (sortWorldK enc m w g 0 n d os) := by
  rcases h.2 with ⟨h1, h2⟩ | ⟨g', cap', cur, hv, hb, hh, hc, hm, hs, ht⟩
  · cases h1
  · injection hv with ha _ hcap
    injection ha with ha
    injection ha with hg
    subst hg; subst hcap
    have hgl := blk_lt hh
    have hblk : (sortWorldK enc m w g 0 n d os).heap[g]? = some (.cells (Go.Sort.putCells id 0 (Go.Sort.flatK enc m d) cur) e (0, 0)) := by
      show ((w.heap.modify g _) ++ os)[g]? = _
      rw [Array.getElem?_append_left (by simpa using hgl), Array.getElem?_modify, if_pos rfl, hh]
      rfl
    have hle : xs.length * m ≤ c * m := Nat.mul_le_mul_right m hc
    refine ⟨⟨by rw [flat_length hL], .inr ⟨g, c, _, rfl, hb, hblk, by simpa [hd] using hc, hm, by simp [Go.Sort.putCells, hs], ?_⟩⟩, ⟨rfl, rfl, rfl, ?_, fun k hk hn => ?_⟩⟩
    · rw [← flatK_toList hL h0 d]
      apply List.ext_getElem?
      intro t
      have hl1 : d.toList.length = xs.length := by simpa using hd
      by_cases htt : t < xs.length * m
      · rw [List.getElem?_take, if_pos (by rw [hl1]; exact htt), Array.getElem?_toList, Array.getElem?_toList]
        simp only [Go.Sort.putCells, Array.getElem?_mapIdx]
        rw [Array.getElem?_eq_getElem (show t < cur.size by rw [hs]; omega)]
        have hts : t < (Go.Sort.flatK enc m d).size := by rw [Go.Sort.size_flatK, hd]; exact htt
        rw [Array.getElem?_eq_getElem hts]
        simp only [Option.map_some, Nat.zero_le, true_and, Nat.zero_add, Nat.sub_zero]
        rw [if_pos hts, getElem!_pos _ t hts]
        rfl
      · rw [List.getElem?_eq_none (by rw [List.length_take, hl1]; omega), List.getElem?_eq_none (by simp [hd]; omega)]
    · show w.heap.size ≤ ((w.heap.modify g _) ++ os).size
      simp
    · show ((w.heap.modify g _) ++ os)[k]? = _
      rw [Array.getElem?_append_left (by simpa using hk), Array.getElem?_modify, if_neg (fun e => hn e.symm)]
end

theorem FRow.many {α : Type} {enc : α → List Value} {m : Nat} {e : TypeId} (hL : Lays enc m) (w : World) (xs : List α) (hx : xs.length ≤ 1000000) : FRow enc m e (w.alloc (.cells (xs.flatMap enc).toArray e)) w.heap.size (.slice (some ⟨w.heap.size, 0, none⟩) xs.length xs.length) xs := by
  refine ⟨by rw [flat_length hL], .inr ⟨w.heap.size, xs.length, (xs.flatMap enc).toArray, rfl, Nat.le_refl _, heap_alloc_new _ _, Nat.le_refl _, by simp [maxLen]; omega, by simp [flat_length hL], ?_⟩⟩
  simp [flat_length hL]
  rw [List.take_of_length_le (by rw [flat_length hL]; exact Nat.le_refl _)]
/-! ### the order of arcs -/
def cmpI (a b : Int) : Int := if a < b then -1 else if b < a then 1 else 0
def cmpA (x y : S31) : Int := if cmpI x.f0 y.f0 = 0 then cmpI x.f1 y.f1 else cmpI x.f0 y.f0
theorem isNaN.same (a : Int) (w : World) : Calls Try.prog 25 #[.int .i64 a] w fun e w' => e = .returned (.bool false) ∧ w' = w := by
  go_enter Try.func25, Try.ntmps25
  go_wp2
  go_ret
  exact ⟨rfl, rfl⟩
theorem compare.same (a b : Int) (w : World) : Calls Try.prog 18 #[.int .i64 a, .int .i64 b] w fun e w' => e = .returned (.int .i64 (cmpI a b)) ∧ w' = w := by
  by_cases h1 : a < b
  · have d1 : decide (a < b) = true := by simpa using h1
    have hc : cmpI a b = -1 := by unfold cmpI; rw [if_pos h1]
    rw [hc]
    clear hc
    go_enter Try.func18, Try.ntmps18
    go_wp2_with (go_at_call 25; refine (isNaN.same _ _).mono ?_; rintro e w' ⟨rfl, rfl⟩)
    go_ret
    exact ⟨rfl, rfl⟩
  · by_cases h2 : b < a
    · have d1 : decide (a < b) = false := by simpa using h1
      have d2 : decide (b < a) = true := by simpa using h2
      have d3 : decide (a > b) = true := by simpa using h2
      have hc : cmpI a b = 1 := by unfold cmpI; rw [if_neg h1, if_pos h2]
      rw [hc]
      clear hc
      go_enter Try.func18, Try.ntmps18
      go_wp2_with (go_at_call 25; refine (isNaN.same _ _).mono ?_; rintro e w' ⟨rfl, rfl⟩)
      go_ret
      exact ⟨rfl, rfl⟩
    · have d1 : decide (a < b) = false := by simpa using h1
      have d2 : decide (b < a) = false := by simpa using h2
      have d3 : decide (a > b) = false := by simpa using h2
      have hc : cmpI a b = 0 := by unfold cmpI; rw [if_neg h1, if_neg h2]
      rw [hc]
      clear hc
      go_enter Try.func18, Try.ntmps18
      go_wp2_with (go_at_call 25; refine (isNaN.same _ _).mono ?_; rintro e w' ⟨rfl, rfl⟩)
      go_ret
      exact ⟨rfl, rfl⟩
theorem or_two (r q : Int) : cmp_Or_int.f 3 [r, q] = some (if r = 0 then q else r) := by
  by_cases h : r = 0
  · subst h
    by_cases h2 : q = 0
    · subst h2; simp [cmp_Or_int.f, cmp_Or_int.l0, rd, wrap64]
    · simp [cmp_Or_int.f, cmp_Or_int.l0, rd, wrap64, h2]
  · simp [cmp_Or_int.f, cmp_Or_int.l0, rd, wrap64, h]

theorem grow3 (W : World) (o1 o2 o3 : Obj) (n : Nat) : ((((W.alloc o1).alloc o2).alloc o3).drew).drewN n = Go.Sort.grow (W.drewN (1 + n)) #[o1, o2, o3] := by
  rw [Go.Sort.alloc_eq_grow, Go.Sort.alloc_eq_grow, Go.Sort.alloc_eq_grow, Go.Sort.grow_grow, Go.Sort.grow_grow]
  unfold Go.Sort.grow World.drewN World.drew
  simp [Nat.add_assoc]
set_option maxHeartbeats 1000000 in
set_option maxRecDepth 100000 in
theorem closure16 (x y : S31) (W : World) : Calls Try.prog 16 #[.agg #[.int .i64 x.f0, .int .i64 x.f1, .int .i64 x.f2], .agg #[.int .i64 y.f0, .int .i64 y.f1, .int .i64 y.f2]] W fun e w' => e = .returned (.int .i64 (cmpA x y)) ∧ ∃ q os', w' = Go.Sort.grow (W.drewN q) os' := by
  obtain ⟨r, hr⟩ : ∃ r, Aside0 (r = cmpI x.f0 y.f0) := ⟨_, ⟨rfl⟩⟩
  obtain ⟨q, hq⟩ : ∃ r, Aside0 (r = cmpI x.f1 y.f1) := ⟨_, ⟨rfl⟩⟩
  have c1 : ∀ w, Calls Try.prog 18 #[.int .i64 x.f0, .int .i64 y.f0] w fun e w' => e = .returned (.int .i64 r) ∧ w' = w := fun w => by rw [hr.out]; exact compare.same _ _ w
  have c2 : ∀ w, Calls Try.prog 18 #[.int .i64 x.f1, .int .i64 y.f1] w fun e w' => e = .returned (.int .i64 q) ∧ w' = w := fun w => by rw [hq.out]; exact compare.same _ _ w
  have HC := Aside0.mk (And.intro c1 c2)
  clear c1 c2
  go_enter Try.func16, Try.ntmps16
  go_upto_region 1 with fail
  obtain ⟨W2, hW2⟩ : ∃ W2, Aside0 (W2 = (W.alloc (.cells #[.int .i64 x.f0, .int .i64 x.f1, .int .i64 x.f2] 31)).alloc (.cells #[.int .i64 y.f0, .int .i64 y.f1, .int .i64 y.f2] 31)) := ⟨_, ⟨rfl⟩⟩
  rw [← hW2.out]
  have hx : W2.heap[W.heap.size]? = some (.cells #[.int .i64 x.f0, .int .i64 x.f1, .int .i64 x.f2] 31 (0, 0)) := by rw [hW2.out]; exact blk_alloc (heap_alloc_new _ _) _
  have hy : W2.heap[W.heap.size + 1]? = some (.cells #[.int .i64 y.f0, .int .i64 y.f1, .int .i64 y.f2] 31 (0, 0)) := by rw [hW2.out]; exact two_new W _ _
  have x0 : W2.cell? ⟨W.heap.size, 0, none⟩ = some (.int .i64 x.f0) := (blk_cell hx 0).trans rfl
  have x1 : W2.cell? ⟨W.heap.size, 1, none⟩ = some (.int .i64 x.f1) := (blk_cell hx 1).trans rfl
  have y0 : W2.cell? ⟨W.heap.size + 1, 0, none⟩ = some (.int .i64 y.f0) := (blk_cell hy 0).trans rfl
  have y1 : W2.cell? ⟨W.heap.size + 1, 1, none⟩ = some (.int .i64 y.f1) := (blk_cell hy 1).trans rfl
  have xl : W.heap.size < W2.heap.size := blk_lt hx
  have yl : W.heap.size + 1 < W2.heap.size := blk_lt hy
  clear hx hy
  refine wp_region_still_tail 10 (by kernel_rfl) (by kernel_rfl) ?_
  simp only [List.take_succ_cons, List.take_zero, List.drop_succ_cons, List.drop_zero]
  iterate 4 still_step
  still_call (HC.out.1 _)
  iterate 4 still_step
  still_call (HC.out.2 _)
  refine wpStill_nil ?_
  change wpList _ _ _ _ _ W2.drew
  clear x0 x1 y0 y1 xl yl
  obtain ⟨o3, ho3⟩ : ∃ o3 : Obj, Aside0 (o3 = .cells #[.int .i64 r, .int .i64 q] 3) := ⟨_, ⟨rfl⟩⟩
  have hrow : FRow enc3 1 3 ((W2.alloc (.cells #[.int .i64 r, .int .i64 q] 3)).drew) W2.heap.size (.slice (some ⟨W2.heap.size, 0, none⟩) 2 2) [r, q] := FRow.many lays3 W2 [r, q] (by simp)
  have hC : Kd.C (Kd.int .i64) ((W2.alloc (.cells #[.int .i64 r, .int .i64 q] 3)).drew) (some ⟨W2.heap.size, 0, none⟩) 2 [r, q] := FRow.C (enc := enc3) (m := 1) (xs := [r, q]) rfl (fun w x => rfl) lays3 hrow
  have HCC := Aside0.mk hC
  clear hrow hC
  obtain ⟨rr, hrr⟩ : ∃ rr, Aside0 (rr = if r = 0 then q else r) := ⟨_, ⟨rfl⟩⟩
  have hor := Aside0.mk (or_two r q)
  rw [← hrr.out] at hor
  go_wp2_with (go_at_call 17; refine (cmp_Or_int.calls 3 _ 2 [r, q] _ _ HCC.out (Nat.le_refl _) hor.out).mono ?_; rintro e w' ⟨rfl, hD⟩)
  obtain ⟨n, rfl⟩ := hD.out
  go_ret
  refine ⟨?_, 1 + n, #[.cells #[.int .i64 x.f0, .int .i64 x.f1, .int .i64 x.f2] 31, .cells #[.int .i64 y.f0, .int .i64 y.f1, .int .i64 y.f2] 31, .cells #[.int .i64 r, .int .i64 q] 3], ?_⟩
  · unfold cmpA
    rw [← hr.out, ← hq.out, ← hrr.out]
    rfl
  · rw [hW2.out]
    exact grow3 W _ _ _ n
theorem cmpLays16 (blk off size : Nat) (w : World) : CmpLays Try.prog 16 #[] enc31 3 cmpA blk off size w := fun _ _ _ _ x y => closure16 x y _
theorem ltA (x y : S31) : ltOf cmpA x y = decide (x.f0 < y.f0 ∨ (x.f0 = y.f0 ∧ x.f1 < y.f1)) := by
  unfold ltOf cmpA cmpI
  by_cases h1 : x.f0 < y.f0
  · simp [h1]
  · by_cases h2 : y.f0 < x.f0
    · simp [h1, h2]; omega
    · have : x.f0 = y.f0 := by omega
      by_cases h3 : x.f1 < y.f1
      · simp [this, h3]
      · by_cases h4 : y.f1 < x.f1
        · simp [this, h3, h4]
        · simp [this, h3, h4]
theorem swoA : Go.Sort.SWO (ltOf cmpA) where
  irrefl x := by rw [ltA]; simp
  trans x y z h1 h2 := by rw [ltA] at *; simp at *; omega
  ntrans x y z h1 h2 := by rw [ltA] at *; simp at *; omega
/-- slices.SortFunc of arcs. -/
def SortPost (w : World) (g c : Nat) (base : Nat) (xs : List S31) (e : Ending) (w' : World) : Prop :=
  e = .returned (.tuple #[]) ∧ ∃ ys : List S31, ys.Perm xs ∧ ys.length = xs.length ∧ (∀ i j, i < j → j < ys.length → ¬ (ltOf cmpA (ys.getD j z31) (ys.getD i z31) = true)) ∧ FRow enc31 3 31 w' base (.slice (some ⟨g, 0, none⟩) ys.length c) ys ∧ Chg (fun k => k = g) w w'
theorem slices_SortFunc.calls (w : World) (base g c : Nat) (xs : List S31) (h : FRow enc31 3 31 w base (.slice (some ⟨g, 0, none⟩) xs.length c) xs) (hn : xs.length ≤ 1000000) :
    Calls Try.prog 15 #[.slice (some ⟨g, 0, none⟩) xs.length c, .func (.func 16) #[] #[]] w (SortPost w g c base xs) := by
  have eg : ∀ args w, (callFunc 16 args).run Try.prog w = .ok (.enter 16 args) w := enters_of Try.func16 (by kernel_rfl) rfl
  have hgl : g < w.heap.size := h.lt rfl
  have hcon := AnyQ.slices_SortFunc Try.sortF 3 Try.isAgg31 Try.sizeOf31 enc31 (fun _ => rfl) (fun x v hv => lays31.one x v hv) cmpA swoA 16 #[] g 0 c xs.toArray w eg (cmpLays16 g 0 _ w) (h.holds lays31 (by omega)) hgl (by simp; omega)
  change Calls Try.prog 15 _ _ _ at hcon
  rw [show xs.toArray.size = xs.length by simp] at hcon
  refine hcon.mono ?_
  rintro e w' ⟨rfl, d, n, os, hp, hs, rfl⟩
  have hd : d.size = xs.length := by simpa using hp.1
  obtain ⟨h1, h2⟩ := h.sorted (n := n) (d := d) (os := os) lays31 (by omega) hd
  refine ⟨rfl, d.toList, ?_, by simpa using hd, ?_, h1, h2⟩
  · have := hp.2.2
    rw [Array.extract_eq_self_of_le (by omega), Array.extract_eq_self_of_le (by simp)] at this
    exact this
  · intro i j hij hj
    have := hs i j (Nat.zero_le _) hij (by simpa [hd] using hj)
    have hj2 : j < d.size := by simpa using hj
    rw [getElem!_pos d j hj2, getElem!_pos d i (by omega)] at this
    rw [List.getD_eq_getElem?_getD, List.getD_eq_getElem?_getD, List.getElem?_eq_getElem (by simpa using hj2), List.getElem?_eq_getElem (by simp; omega)]
    simpa using this
end Go.Proofs.Ytinkhlfmjfahpaa.PLoadKeeps
