/- The reference's distances: the walk. -/
import Derived.Test.YtinkhlfmjfahpaaFc
import Derived.Laws.CopyOwn
namespace Go.Proofs.Ytinkhlfmjfahpaa.PLoadKeeps
open Go.RowKit Go.MapKept Go.Proofs.YtinkhlfmjfahpaaW.PrintWords Go.Proofs.YtinkhlfmjfahpaaW.PrintLast Go.Proofs.YtinkhlfmjfahpaaW.PrintMore
set_option linter.unusedVariables false
set_option linter.unusedSimpArgs false

set_option maxHeartbeats 3200000 in
set_option maxRecDepth 100000 in
theorem ref25_From.walk (l : List S31) (A : Option Addr) (c : Nat) (root : Int) (w : World) (hA : Kd.C k31 w A l.length l) (hcp : l.length ≤ c) (hok : ArcsOk l) (hn : l.length ≤ 10000) (h1 : 1 ≤ root) (h2 : root ≤ 64) :
    Calls Try.prog 59 #[.slice A l.length c, .int .i64 root] w (FromPost w l root) := by
  have HA := Aside0.mk hA
  have HO := Aside0.mk hok
  clear hA hok
  have d1 : decide (root < 1) = false := by simpa using h1
  have d2 : decide (root > 64) = false := by simpa using h2
  have d3 : decide (64 < root) = false := by simpa using h2
  go_enter Try.func59, Try.ntmps59
  obtain ⟨r, rfl⟩ : ∃ r : Nat, root = r := ⟨root.toNat, by omega⟩
  have hzc : Try.zeroCells113 = Z113 := by kernel_rfl
  go_upto_region 4 with (refine wpList_store_rowTo rfl 113 (.tmp 5) (.tmp 11) rfl rfl (w.heap.size + 1) Z113 rfl rfl 113 Z113 (by exact two_new' w _ _) info113 rfl Z113_cells.one ?_)
  have hX : DBlk (((w.alloc (.cells Z113 113)).alloc (.cells Z113 113)).setRow (w.heap.size + 1) Z113) (w.heap.size + 1) Dst.zero ∧ DBlk (((w.alloc (.cells Z113 113)).alloc (.cells Z113 113)).setRow (w.heap.size + 1) Z113) w.heap.size Dst.zero ∧ Below w.heap.size w (((w.alloc (.cells Z113 113)).alloc (.cells Z113 113)).setRow (w.heap.size + 1) Z113) := by
    rw [setRow_self _ _ _ _ _ (two_new' w _ _)]
    exact ⟨⟨Z113, two_new' w _ _, Z113_cells⟩, ⟨Z113, blk_alloc (heap_alloc_new _ _) _, Z113_cells⟩, below_alloc (below_alloc (Below.refl _ _) _) _⟩
  have HX := Aside0.mk hX
  clear hX
  generalize ((w.alloc (.cells Z113 113)).alloc (.cells Z113 113)).setRow (w.heap.size + 1) Z113 = X at HX ⊢
  clear hzc
  generalize Z113 = zz
  generalize hg4 : w.heap.size = g4 at HX ⊢
  have HG4 := Aside0.mk hg4
  clear hg4
  have hr := HX.out.1.cell r (by omega)
  have r1 := hr.2.1
  have r2 := hr.2.2.2
  have rl := HX.out.1.lt
  have hri : (r : Int) < 65 := by omega
  clear hr
  go_upto_region 6 with fail
  have hS : DBlk (X.setCell ⟨g4 + 1, 65 + r, none⟩ (.bool true)) (g4 + 1) (start r) ∧ DBlk (X.setCell ⟨g4 + 1, 65 + r, none⟩ (.bool true)) g4 Dst.zero ∧ Below g4 w (X.setCell ⟨g4 + 1, 65 + r, none⟩ (.bool true)) := by
    refine ⟨?_, HX.out.2.1.move (Below.heap_setCell _ _ _ _ (by simp)), HX.out.2.2.setCell (by simp) _⟩
    have := HX.out.1.setR r (by omega) true
    simpa [start, Dst.zero] using this
  have HS := Aside0.mk hS
  clear hS r1 r2 rl
  generalize X.setCell ⟨g4 + 1, 65 + r, none⟩ (.bool true) = w1 at HS ⊢
  go_loopw [6] (fun i wr => ∃ (k : Nat) (d : Dst), Aside0 (k ≤ 65 ∧ BF l r k d ∧ DBlk wr (g4 + 1) d ∧ DBlk wr g4 Dst.zero ∧ Below g4 w wr ∧ CB (1073741824 * (l.length : Int) * (k : Int)) d) ∧ i = .int .i64 k) (fun i _ => 65 - (intOf i).toNat)
  case atStart => exact ⟨0, start r, ⟨by omega, .start, HS.out.1, HS.out.2.1, HS.out.2.2, fun i => by simp [start]⟩, rfl⟩
  case round =>
    obtain ⟨k, d, hH, rfl⟩ := hrel
    have hkm : (k : Int) ≤ 65 := by have := hH.out.1; omega
    by_cases hk : (k : Int) < 65
    · go_wp2_with fail
      have hcb : (1073741824 * (l.length : Int) * (k : Int)) ≤ 700000000000000 := Int.le_trans (Int.mul_le_mul (show 1073741824 * (l.length : Int) ≤ 10737418240000 by omega) hkm (by omega) (by omega)) (by omega)
      have HCB := Aside0.mk hcb
      clear hcb
      obtain ⟨w2, rfl⟩ : ∃ x, x = wr := ⟨_, rfl⟩
      go_loopw [7, 8] (fun s7 i wq => ∃ (j : Nat) (st : Dst × Bool), Aside0 (j ≤ l.length ∧ st = (l.take j).foldl relax (d, false) ∧ DBlk wq (g4 + 1) st.1 ∧ DBlk wq g4 Dst.zero ∧ Below g4 w wq ∧ CB (1073741824 * (l.length : Int) * (k : Int) + 1073741824 * (j : Int)) st.1) ∧ i = .int .i64 j ∧ s7 = .bool st.2) (fun _ i _ => l.length - (intOf i).toNat)
      case atStart => exact ⟨0, (d, false), ⟨by omega, by simp, hH.out.2.2.1, hH.out.2.2.2.1, hH.out.2.2.2.2.1, fun i => by have := hH.out.2.2.2.2.2 i; simp; omega⟩, rfl, rfl⟩
      case round =>
        obtain ⟨j, st, hJ, rfl, rfl⟩ := hrel
        have hjm : (j : Int) ≤ 10000 := by have := hJ.out.1; omega
        by_cases hj : j < l.length
        · obtain ⟨ad, rfl, a0', a1', a2'⟩ := at_T31 HA.out (j : Int) (by omega) (by omega)
          have hb : Below w.heap.size w wr := HG4.out ▸ hJ.out.2.2.2.2.1
          have a0 := (hb.cell (World.block_lt_of_cell? w _ a0')).trans a0'
          have a1 := (hb.cell (World.block_lt_of_cell? w _ a1')).trans a1'
          have a2 := (hb.cell (World.block_lt_of_cell? w _ a2')).trans a2'
          clear a0' a1' a2' hb
          obtain ⟨x, hx⟩ : ∃ x, Aside0 (x = ar l j) := ⟨_, ⟨rfl⟩⟩
          rw [show rd_T31 l (j : Int) = x from hx.out.symm] at a0 a1 a2
          simp only [Int.toNat_natCast] at a0 a1 a2
          have hxo : ArcOk x := HO.out.1 x (by rw [hx.out, ar_get hj]; exact List.getElem_mem _)
          obtain ⟨n0, hn0⟩ : ∃ n : Nat, x.f0 = n := ⟨x.f0.toNat, by have := hxo.1; omega⟩
          obtain ⟨n1, hn1⟩ : ∃ n : Nat, x.f1 = n := ⟨x.f1.toNat, by have := hxo.2.1; omega⟩
          have hb0 : (n0 : Int) < 65 := by have := hxo.1; omega
          have hb1 : (n1 : Int) < 65 := by have := hxo.2.1; omega
          have hb2 : 1 ≤ x.f2 ∧ x.f2 ≤ 1073741824 := hxo.2.2.2
          rw [hn0] at a0
          rw [hn1] at a1
          have HX2 := Aside0.mk (And.intro hn0 hn1)
          clear hxo hn0 hn1
          have hji : (j : Int) < l.length := by omega
          go_upto_region 13 with fail
          have hW4 : DBlk (wr.alloc (.cells #[.int .i64 n0, .int .i64 n1, .int .i64 x.f2] 31)) (g4 + 1) st.1 ∧ DBlk (wr.alloc (.cells #[.int .i64 n0, .int .i64 n1, .int .i64 x.f2] 31)) g4 Dst.zero ∧ Below g4 w (wr.alloc (.cells #[.int .i64 n0, .int .i64 n1, .int .i64 x.f2] 31)) :=
            ⟨hJ.out.2.2.1.below (below_alloc (Below.refl _ _) _), hJ.out.2.2.2.1.below (below_alloc (Below.refl _ _) _), hJ.out.2.2.2.2.1.alloc (Nat.le_of_lt hJ.out.2.2.2.1.lt) _⟩
          have h31 : (wr.alloc (.cells #[.int .i64 n0, .int .i64 n1, .int .i64 x.f2] 31)).heap[wr.heap.size]? = some (.cells #[.int .i64 n0, .int .i64 n1, .int .i64 x.f2] 31 (0, 0)) := heap_alloc_new _ _
          have HW4 := Aside0.mk (And.intro hW4 h31)
          clear a0 a1 a2 hW4
          generalize wr.alloc (.cells #[.int .i64 n0, .int .i64 n1, .int .i64 x.f2] 31) = w4 at *
          generalize wr.heap.size = b9 at *
          have y0 : w4.cell? ⟨b9, 0, none⟩ = some (.int .i64 n0) := (blk_cell h31 0).trans rfl
          have y1 : w4.cell? ⟨b9, 1, none⟩ = some (.int .i64 n1) := (blk_cell h31 1).trans rfl
          have y2 : w4.cell? ⟨b9, 2, none⟩ = some (.int .i64 x.f2) := (blk_cell h31 2).trans rfl
          have yl : b9 < w4.heap.size := blk_lt h31
          clear h31
          obtain ⟨c0, hc0⟩ : ∃ c0, Aside0 (c0 = st.1.c n0) := ⟨_, ⟨rfl⟩⟩
          have z0 : w4.cell? ⟨g4 + 1, n0, none⟩ = some (.int .u64 c0) := by rw [hc0.out]; exact (HW4.out.1.1.cell n0 (by omega)).1
          have zl : g4 + 1 < w4.heap.size := HW4.out.1.1.lt
          have hcc : 0 ≤ c0 ∧ c0 ≤ 800000000000000 := by
            have := hJ.out.2.2.2.2.2 n0
            rw [← hc0.out] at this
            have := HCB.out
            omega
          have HCC := Aside0.mk hcc
          clear hcc
          have hwr := wrapU x.f2 (by omega) hb2.2
          refine wp_region_still_tail 9 (by kernel_rfl) (by kernel_rfl) ?_
          simp only [List.take_succ_cons, List.take_zero, List.drop_succ_cons, List.drop_zero]
          iterate 8 still_step
          still_call (ref22_Add.same c0 x.f2 _ HCC.out.1 (by have := HCC.out; omega) (by omega) (by omega))
          refine wpStill_nil ?_
          change wpList _ _ _ _ _ w4.drew
          have hW5 : DBlk w4.drew (g4 + 1) st.1 ∧ DBlk w4.drew g4 Dst.zero ∧ Below g4 w w4.drew ∧ w4.drew.heap[b9]? = some (.cells #[.int .i64 n0, .int .i64 n1, .int .i64 x.f2] 31 (0, 0)) := ⟨HW4.out.1.1, HW4.out.1.2.1, HW4.out.1.2.2.drew, HW4.out.2⟩
          have HW5 := Aside0.mk hW5
          clear hW5 y0 y1 y2 yl z0 zl hwr HW4
          generalize w4.drew = w5 at HW5 ⊢
          have y0 : w5.cell? ⟨b9, 0, none⟩ = some (.int .i64 n0) := (blk_cell HW5.out.2.2.2 0).trans rfl
          have y1 : w5.cell? ⟨b9, 1, none⟩ = some (.int .i64 n1) := (blk_cell HW5.out.2.2.2 1).trans rfl
          have yl : b9 < w5.heap.size := blk_lt HW5.out.2.2.2
          have zl : g4 + 1 < w5.heap.size := HW5.out.1.lt
          have hne : b9 ≠ g4 + 1 := by
            obtain ⟨cs, h1, _⟩ := HW5.out.1
            exact blk_ne HW5.out.2.2.2 h1 (by decide)
          have hne2 : g4 + 1 ≠ b9 := fun e => hne e.symm
          have c1 := HW5.out.1.cell n0 (by omega)
          have c2 := HW5.out.1.cell n1 (by omega)
          have r0 := c1.2.1
          have r1 := c2.2.1
          have q1 := c2.1
          have fz1 := c2.2.2.1
          have fz2 := c2.2.2.2
          clear c1 c2
          obtain ⟨b1, hB1⟩ : ∃ b, Aside0 (b = st.1.r n0) := ⟨_, ⟨rfl⟩⟩
          obtain ⟨b2, hB2⟩ : ∃ b, Aside0 (b = st.1.r n1) := ⟨_, ⟨rfl⟩⟩
          obtain ⟨e1, hE1⟩ : ∃ b, Aside0 (b = st.1.c n1) := ⟨_, ⟨rfl⟩⟩
          rw [← hB1.out] at r0
          rw [← hB2.out] at r1
          rw [← hE1.out] at q1
          have hrel : relax st x = if b1 = true ∧ (b2 = false ∨ c0 + x.f2 < e1) then (⟨fun i => if i = n1 then c0 + x.f2 else st.1.c i, fun i => if i = n1 then true else st.1.r i⟩, true) else st := by
            unfold PLoadKeeps.relax
            rw [HX2.out.1, HX2.out.2, hB1.out, hB2.out, hE1.out, hc0.out]
            rfl
          have htk : (l.take (j + 1)).foldl relax (d, false) = relax st x := by
            rw [List.take_succ_eq_append_getElem hj, List.foldl_append, ← hJ.out.2.1, ← ar_get hj, ← hx.out]
            rfl
          have HREL := Aside0.mk (htk.trans hrel)
          have hcb2 : CB (1073741824 * (l.length : Int) * (k : Int) + 1073741824 * ((j + 1 : Nat) : Int)) (relax st x).1 := by
            have := hJ.out.2.2.2.2.2.relax (a := x) (by omega) hb2.2
            have e : 1073741824 * (l.length : Int) * (k : Int) + 1073741824 * ((j + 1 : Nat) : Int) = 1073741824 * (l.length : Int) * (k : Int) + 1073741824 * (j : Int) + 1073741824 := by omega
            rw [e]
            exact this
          rw [hrel] at hcb2
          have HCB2 := Aside0.mk hcb2
          clear hrel htk hcb2
          have stay : ¬ (b1 = true ∧ (b2 = false ∨ c0 + x.f2 < e1)) → Aside0 (j + 1 ≤ l.length ∧ st = (l.take (j + 1)).foldl relax (d, false) ∧ DBlk w5 (g4 + 1) st.1 ∧ DBlk w5 g4 Dst.zero ∧ Below g4 w w5 ∧ CB (1073741824 * (l.length : Int) * (k : Int) + 1073741824 * ((j + 1 : Nat) : Int)) st.1) := fun hno => by
            have h1 := HREL.out
            have h2 := HCB2.out
            rw [if_neg hno] at h1 h2
            exact ⟨hj, h1.symm, HW5.out.1, HW5.out.2.1, HW5.out.2.2.1, h2⟩
          have turn : (b1 = true ∧ (b2 = false ∨ c0 + x.f2 < e1)) → Aside0 (j + 1 ≤ l.length ∧ ((⟨fun i => if i = n1 then c0 + x.f2 else st.1.c i, fun i => if i = n1 then true else st.1.r i⟩, true) : Dst × Bool) = (l.take (j + 1)).foldl relax (d, false) ∧ DBlk ((w5.setCell ⟨g4 + 1, 65 + n1, none⟩ (.bool true)).setCell ⟨g4 + 1, n1, none⟩ (.int .u64 (c0 + x.f2))) (g4 + 1) ⟨fun i => if i = n1 then c0 + x.f2 else st.1.c i, fun i => if i = n1 then true else st.1.r i⟩ ∧ DBlk ((w5.setCell ⟨g4 + 1, 65 + n1, none⟩ (.bool true)).setCell ⟨g4 + 1, n1, none⟩ (.int .u64 (c0 + x.f2))) g4 Dst.zero ∧ Below g4 w ((w5.setCell ⟨g4 + 1, 65 + n1, none⟩ (.bool true)).setCell ⟨g4 + 1, n1, none⟩ (.int .u64 (c0 + x.f2))) ∧ CB (1073741824 * (l.length : Int) * (k : Int) + 1073741824 * ((j + 1 : Nat) : Int)) ⟨fun i => if i = n1 then c0 + x.f2 else st.1.c i, fun i => if i = n1 then true else st.1.r i⟩) := fun hyes => by
            have h1 := HREL.out
            have h2 := HCB2.out
            rw [if_pos hyes] at h1 h2
            refine ⟨hj, h1.symm, (HW5.out.1.setR n1 (by omega) true).setC n1 (by omega) _, (HW5.out.2.1.move (Below.heap_setCell _ _ _ _ (by simp))).move (Below.heap_setCell _ _ _ _ (by simp)), (HW5.out.2.2.1.setCell (by simp) _).setCell (by simp) _, h2⟩
          have HT := Aside0.mk (And.intro stay turn)
          clear stay turn
          cases b1 with
          | false =>
            have hF := HT.out.1 (by simp)
            go_wp2
            exact ⟨⟨j + 1, st, hF, by go_num, rfl⟩, by simp [intOf]; omega⟩
          | true =>
            cases b2 with
            | false =>
              have hF := HT.out.2 ⟨rfl, .inl rfl⟩
              go_wp2
              exact ⟨⟨j + 1, _, hF, by go_num, rfl⟩, by simp [intOf]; omega⟩
            | true =>
              by_cases hlt : c0 + x.f2 < e1
              · have hF := HT.out.2 ⟨rfl, .inr hlt⟩
                have hd : decide (c0 + x.f2 < e1) = true := by simpa using hlt
                clear hlt
                go_wp2
                exact ⟨⟨j + 1, _, hF, by go_num, rfl⟩, by simp [intOf]; omega⟩
              · have hF := HT.out.1 (by rintro ⟨_, h | h⟩; cases h; exact hlt h)
                have hd : decide (c0 + x.f2 < e1) = false := by simpa using hlt
                clear hlt
                go_wp2
                exact ⟨⟨j + 1, st, hF, by go_num, rfl⟩, by simp [intOf]; omega⟩
        · have hj2 : ¬ ((j : Int) < l.length) := by omega
          have hst : Aside0 (st = rnd l d) := ⟨by
            have := hJ.out.2.1
            rw [List.take_of_length_le (by omega)] at this
            exact this⟩
          have hfin : Aside0 (CB (1073741824 * (l.length : Int) * ((k + 1 : Nat) : Int)) st.1) := ⟨fun i => by
            have h := hJ.out.2.2.2.2.2 i
            have e : 1073741824 * (l.length : Int) * ((k + 1 : Nat) : Int) = 1073741824 * (l.length : Int) * (k : Int) + 1073741824 * (l.length : Int) := by
              rw [Int.natCast_succ, Int.mul_add, Int.mul_one]
            rw [e]
            have := hJ.out.1
            omega⟩
          have HJJ := Aside0.mk hj
          clear hj
          cases hs2 : st.2 with
          | true =>
            have HS2 := Aside0.mk hs2
            clear hs2
            go_wp2
            refine ⟨⟨k + 1, st.1, ⟨by omega, ?_, hJ.out.2.2.1, hJ.out.2.2.2.1, hJ.out.2.2.2.2.1, hfin.out⟩, by go_num⟩, by simp [intOf]; omega⟩
            rw [hst.out]
            exact hH.out.2.1.next (by rw [← hst.out]; exact HS2.out)
          | false =>
            have HS2 := Aside0.mk hs2
            clear hs2
            obtain ⟨cs, hcs, hD⟩ := hJ.out.2.2.1
            obtain ⟨co, hco, hDo⟩ := hJ.out.2.2.2.1
            have HC := Aside0.mk (And.intro hcs (And.intro hD (And.intro hco hDo)))
            clear hcs hD hco hDo
            go_wp2_with (first
              | (refine wpList_load_row rfl 113 (.tmp 5) rfl (g4 + 1) rfl 113 cs (0, 0) _ HC.out.1 Try.underlying113 rfl (by rw [HC.out.2.1.1]; exact info113) ?_)
              | (refine wpList_store_rowTo rfl 113 (.tmp 4) (.tmp 78) rfl rfl g4 cs rfl rfl 113 co HC.out.2.2.1 (by rw [HC.out.2.1.1]; exact info113) (by rw [HC.out.2.2.2.1, HC.out.2.1.1]) HC.out.2.1.one ?_))
            refine bodyPost_ret (results_cell_row rfl _ _ g4 113 cs (0, 0) _ rfl (setRow_heap _ _ _ _ _ _ HC.out.2.2.1) Try.underlying113 rfl (by rw [HC.out.2.1.1]; exact info113)) rfl ⟨cs, _, rfl, HC.out.2.1, ⟨k, d, hH.out.2.1, .inl ⟨by rw [← hst.out]; exact HS2.out, by rw [hst.out]⟩⟩, HG4.out ▸ below_setRow hJ.out.2.2.2.2.1 (Nat.le_refl _) cs⟩
    · have hke : Aside0 (k = 65) := ⟨by have := hH.out.1; omega⟩
      obtain ⟨cs, hcs, hD⟩ := hH.out.2.2.1
      obtain ⟨co, hco, hDo⟩ := hH.out.2.2.2.1
      have HC := Aside0.mk (And.intro hcs (And.intro hD (And.intro hco hDo)))
      clear hcs hD hco hDo
      go_wp2_with (first
        | (refine wpList_load_row rfl 113 (.tmp 5) rfl (g4 + 1) rfl 113 cs (0, 0) _ HC.out.1 Try.underlying113 rfl (by rw [HC.out.2.1.1]; exact info113) ?_)
        | (refine wpList_store_rowTo rfl 113 (.tmp 4) (.tmp 79) rfl rfl g4 cs rfl rfl 113 co HC.out.2.2.1 (by rw [HC.out.2.1.1]; exact info113) (by rw [HC.out.2.2.2.1, HC.out.2.1.1]) HC.out.2.1.one ?_))
      refine bodyPost_ret (results_cell_row rfl _ _ g4 113 cs (0, 0) _ rfl (setRow_heap _ _ _ _ _ _ HC.out.2.2.1) Try.underlying113 rfl (by rw [HC.out.2.1.1]; exact info113)) rfl ⟨cs, _, rfl, HC.out.2.1, ⟨k, d, hH.out.2.1, .inr ⟨hke.out, rfl⟩⟩, HG4.out ▸ below_setRow hH.out.2.2.2.2.1 (Nat.le_refl _) cs⟩
end Go.Proofs.Ytinkhlfmjfahpaa.PLoadKeeps
