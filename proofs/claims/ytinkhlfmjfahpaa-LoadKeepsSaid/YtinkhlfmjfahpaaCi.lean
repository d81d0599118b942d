/- The reference's look-ups, by hand. The reference's arcs. -/
import Derived.Test.YtinkhlfmjfahpaaLo
import Derived.Test.YtinkhlfmjfahpaaPb
import Derived.BigRegion
namespace Go.Proofs.Ytinkhlfmjfahpaa.PLoadKeeps
open Go.RowKit Go.MapKept Go.Proofs.YtinkhlfmjfahpaaW.PrintWords Go.Proofs.YtinkhlfmjfahpaaW.PrintLast Go.Proofs.YtinkhlfmjfahpaaW.PrintMore
set_option linter.unusedVariables false
set_option linter.unusedSimpArgs false

theorem cost_hit {xs : List S56} {t : Int} {k : Nat} (hk : k < xs.length) (hn : ∀ j, j < k → (xs.getD j z56).f0 ≠ t) (h : (xs.getD k z56).f0 = t) : costOf xs t = (xs.getD k z56).f1 := by
  unfold costOf
  rw [find_first z56 _ xs k hk (by simpa using h) (fun j hj => by simpa using hn j hj)]
theorem cost_miss {xs : List S56} {t : Int} (hn : ∀ j, j < xs.length → (xs.getD j z56).f0 ≠ t) : costOf xs t = 0 := by
  unfold costOf
  rw [find_none' z56 _ xs (fun j hj => by simpa using hn j hj)]

set_option maxHeartbeats 800000 in
set_option maxRecDepth 100000 in
theorem ref09_Cost.walk (o s : Int) (xs : List S56) (A : Option Addr) (c : Nat) (t : Int) (w : World) (hA : Kd.C k56 w A xs.length xs) (hcp : xs.length ≤ c) :
    Calls Try.prog 61 #[.agg #[.int .i64 o, .int .i64 s, .slice A xs.length c], .int .i64 t] w fun e w' => e = .returned (.int .i64 (costOf xs t)) ∧ Below w.heap.size w w' := by
  have hm := Kd.C_max hA
  have HA := Aside0.mk hA
  clear hA
  go_enter Try.func61, Try.ntmps61
  go_wp2
  obtain ⟨W2, hW2⟩ : ∃ W2, Aside0 (W2 = w.alloc (.cells #[.int .i64 o, .int .i64 s, .slice A xs.length c] 39)) := ⟨_, ⟨rfl⟩⟩
  rw [← hW2.out]
  have hbx : W2.heap[w.heap.size]? = some (.cells #[.int .i64 o, .int .i64 s, .slice A xs.length c] 39 (0, 0)) := by rw [hW2.out]; exact heap_alloc_new _ _
  have hbw : Below w.heap.size w W2 := by rw [hW2.out]; exact below_alloc (Below.refl _ _) _
  have HB := Aside0.mk (And.intro hbx hbw)
  clear hbx hbw
  go_loopw [5] (fun i wr => ∃ (k : Nat), Aside0 (k ≤ xs.length ∧ wr = W2 ∧ ∀ j, j < k → (xs.getD j z56).f0 ≠ t) ∧ i = .int .i64 k) (fun i _ => xs.length - (intOf i).toNat)
  case atStart => exact ⟨0, ⟨by omega, rfl, fun j hj => by omega⟩, rfl⟩
  case round =>
    obtain ⟨k, hH, rfl⟩ := hrel
    obtain rfl : wr = W2 := hH.out.2.1
    have hc2 : wr.cell? ⟨w.heap.size, 2, none⟩ = some (.slice A xs.length c) := (blk_cell HB.out.1 2).trans rfl
    have hxl : w.heap.size < wr.heap.size := blk_lt HB.out.1
    by_cases hk : k < xs.length
    · obtain ⟨ad, rfl, h0, h1⟩ := at_T56 (Kd.C_below HA.out HB.out.2) (k : Int) (by omega) (by omega)
      obtain ⟨x, hx⟩ : ∃ x, Aside0 (x = xs.getD k z56) := ⟨_, ⟨rfl⟩⟩
      rw [show rd_T56 xs (k : Int) = x from hx.out.symm] at h0 h1
      simp only [Int.toNat_natCast] at h0 h1
      by_cases he : x.f0 = t
      · have hbe : (x.f0 == t) = true := by rw [beq_iff_eq]; exact he
        have HE := Aside0.mk he
        clear he
        go_wp2
        go_ret
        refine ⟨ret_int ?_, HB.out.2⟩
        rw [cost_hit hk hH.out.2.2 (by rw [← hx.out]; exact HE.out), hx.out]
      · have hbe : (x.f0 == t) = false := by rw [beq_eq_false_iff_ne]; exact he
        have HE := Aside0.mk he
        clear he
        go_wp2
        exact ⟨⟨k + 1, ⟨hk, by first | rfl | trivial, fun j hj => by
          by_cases e : j = k
          · rw [e, ← hx.out]; exact HE.out
          · exact hH.out.2.2 j (by omega)⟩, by go_num⟩, by simp [intOf]; omega⟩
    · have hk2 : ¬ ((k : Int) < xs.length) := by omega
      have HK := Aside0.mk hk
      clear hk
      go_wp2
      go_ret
      refine ⟨ret_int ?_, HB.out.2⟩
      rw [cost_miss (fun j hj => hH.out.2.2 j (by have := HK.out; omega))]

theorem links_hit {db : List S39} {t : Int} {k : Nat} (hk : k < db.length) (hn : ∀ j, j < k → (lk db j).f0 ≠ t) (h : (lk db k).f0 = t) : linksOf db t = (lk db k).f2 := by
  unfold linksOf
  rw [find_first z39 _ db k hk (by show decide ((lk db k).f0 = t) = true; simpa using h) (fun j hj => by show decide ((lk db j).f0 = t) = false; simpa using hn j hj)]
  rfl
theorem links_miss {db : List S39} {t : Int} (hn : ∀ j, j < db.length → (lk db j).f0 ≠ t) : linksOf db t = [] := by
  unfold linksOf
  rw [find_none' z39 _ db (fun j hj => by show decide ((lk db j).f0 = t) = false; simpa using hn j hj)]
def GetPost (w : World) (db : List S39) (t : Int) (e : Ending) (w' : World) : Prop :=
  ∃ (o s : Int) (A1 : Option Addr) (c1 : Nat), e = .returned (.agg #[.int .i64 o, .int .i64 s, .slice A1 (linksOf db t).length c1]) ∧ (linksOf db t).length ≤ c1 ∧ Kd.C k56 w' A1 (linksOf db t).length (linksOf db t) ∧ Below w.heap.size w w'

set_option maxHeartbeats 800000 in
set_option maxRecDepth 100000 in
theorem ref11_Get.walk (db : List S39) (A : Option Addr) (c : Nat) (t : Int) (w : World) (hA : Kd.C k39 w A db.length db) (hcp : db.length ≤ c) (hn : db.length ≤ 1000) :
    Calls Try.prog 62 #[.slice A db.length c, .int .i64 t] w (GetPost w db t) := by
  have HA := Aside0.mk hA
  clear hA
  go_enter Try.func62, Try.ntmps62
  go_wp2
  obtain ⟨W2, hW2⟩ : ∃ W2, Aside0 (W2 = w.alloc (.cells #[.int .i64 0, .int .i64 0, .slice none 0 0] 39)) := ⟨_, ⟨rfl⟩⟩
  rw [← hW2.out]
  have hbx : W2.heap[w.heap.size]? = some (.cells #[.int .i64 0, .int .i64 0, .slice none 0 0] 39 (0, 0)) := by rw [hW2.out]; exact heap_alloc_new _ _
  have hbw : Below w.heap.size w W2 := by rw [hW2.out]; exact below_alloc (Below.refl _ _) _
  have HB := Aside0.mk (And.intro hbx hbw)
  clear hbx hbw
  generalize hr8 : w.heap.size = r8 at HB ⊢
  have HR8 := Aside0.mk hr8
  clear hr8
  go_loopw [5] (fun i wr => ∃ (k : Nat), Aside0 (k ≤ db.length ∧ wr = W2 ∧ ∀ j, j < k → (lk db j).f0 ≠ t) ∧ i = .int .i64 k) (fun i _ => db.length - (intOf i).toNat)
  case atStart => exact ⟨0, ⟨by omega, rfl, fun j hj => by omega⟩, rfl⟩
  case round =>
    obtain ⟨k, hH, rfl⟩ := hrel
    obtain rfl : wr = W2 := hH.out.2.1
    have hxl : r8 < wr.heap.size := blk_lt HB.out.1
    have e0 : wr.cell? ⟨r8, 0, none⟩ = some (.int .i64 0) := (blk_cell HB.out.1 0).trans rfl
    have e1 : wr.cell? ⟨r8, 1, none⟩ = some (.int .i64 0) := (blk_cell HB.out.1 1).trans rfl
    have e2 : wr.cell? ⟨r8, 2, none⟩ = some (.slice none 0 0) := (blk_cell HB.out.1 2).trans rfl
    have f0 : wr.frozen? ⟨r8, 0, none⟩ = false := blk_frozen HB.out.1 0
    have f1 : wr.frozen? ⟨r8, 1, none⟩ = false := blk_frozen HB.out.1 1
    have f2 : wr.frozen? ⟨r8, 2, none⟩ = false := blk_frozen HB.out.1 2
    have hkm : (k : Int) ≤ 1000 := by have := hH.out.1; omega
    by_cases hk : k < db.length
    · obtain ⟨ad, A0, c0, rfl, h0', h1', h2', hl, hC⟩ := at_T39 HA.out (k : Int) (by omega) (by omega)
      have hb : Below w.heap.size w wr := HR8.out ▸ HB.out.2
      have h0 := (hb.cell (World.block_lt_of_cell? w _ h0')).trans h0'
      have h1 := (hb.cell (World.block_lt_of_cell? w _ h1')).trans h1'
      have h2 := (hb.cell (World.block_lt_of_cell? w _ h2')).trans h2'
      clear h0' h1' h2'
      obtain ⟨x, hx⟩ : ∃ x, Aside0 (x = lk db k) := ⟨_, ⟨rfl⟩⟩
      rw [show rd_T39 db (k : Int) = x from hx.out.symm] at h0 h1 h2 hl hC
      simp only [Int.toNat_natCast] at h0 h1 h2
      have HC := Aside0.mk (And.intro hC (And.intro hl hb))
      clear hb hC hl
      by_cases he : x.f0 = t
      · have hbe : (x.f0 == t) = true := by rw [beq_iff_eq]; exact he
        have HE := Aside0.mk he
        clear he
        go_wp2
        have hbq := blk_set (blk_set (blk_set HB.out.1 0 (.int .i64 x.f0)) 1 (.int .i64 x.f1)) 2 (.slice A0 x.f2.length c0)
        have hcq : Below w.heap.size wr (((wr.setCell ⟨r8, 0, none⟩ (.int .i64 x.f0)).setCell ⟨r8, 1, none⟩ (.int .i64 x.f1)).setCell ⟨r8, 2, none⟩ (.slice A0 x.f2.length c0)) := by
          have h1 := (((Chg.setCell (S := fun k => k = r8) wr ⟨r8, 0, none⟩ (.int .i64 x.f0) rfl).trans (Chg.setCell (S := fun k => k = r8) _ ⟨r8, 1, none⟩ (.int .i64 x.f1) rfl) (fun _ _ h => h)).trans (Chg.setCell (S := fun k => k = r8) _ ⟨r8, 2, none⟩ (.slice A0 x.f2.length c0) rfl) (fun _ _ h => h))
          exact h1.below (by have := HR8.out; omega) (fun k e => by have := HR8.out; omega)
        clear e0 e1 e2 f0 f1 f2 hxl
        generalize ((wr.setCell ⟨r8, 0, none⟩ (.int .i64 x.f0)).setCell ⟨r8, 1, none⟩ (.int .i64 x.f1)).setCell ⟨r8, 2, none⟩ (.slice A0 x.f2.length c0) = w9 at *
        have g0 : w9.cell? ⟨r8, 0, none⟩ = some (.int .i64 x.f0) := (blk_cell hbq 0).trans rfl
        have g1 : w9.cell? ⟨r8, 1, none⟩ = some (.int .i64 x.f1) := (blk_cell hbq 1).trans rfl
        have g2 : w9.cell? ⟨r8, 2, none⟩ = some (.slice A0 x.f2.length c0) := (blk_cell hbq 2).trans rfl
        have gl : r8 < w9.heap.size := blk_lt hbq
        clear hbq
        have hbf : Below w.heap.size w w9 := (HR8.out ▸ HB.out.2 : Below w.heap.size w wr).trans hcq
        have hlk : linksOf db t = x.f2 := by rw [links_hit hk hH.out.2.2 (by rw [← hx.out]; exact HE.out), hx.out]
        refine bodyPost_ret (v := .agg #[.int .i64 x.f0, .int .i64 x.f1, .slice A0 x.f2.length c0]) (by simp [results, Try.results62, go_sem, g0, g1, g2, gl]) rfl ⟨x.f0, x.f1, A0, c0, by rw [hlk], by rw [hlk]; exact HC.out.2.1, by rw [hlk]; exact Kd.C_below HC.out.1 hbf, hbf⟩
      · have hbe : (x.f0 == t) = false := by rw [beq_eq_false_iff_ne]; exact he
        have HE := Aside0.mk he
        clear he
        go_wp2
        exact ⟨⟨k + 1, ⟨hk, by first | rfl | trivial, fun j hj => by
          by_cases e : j = k
          · rw [e, ← hx.out]; exact HE.out
          · exact hH.out.2.2 j (by omega)⟩, by go_num⟩, by simp [intOf]; omega⟩
    · have hk2 : ¬ ((k : Int) < db.length) := by omega
      have HK := Aside0.mk hk
      clear hk
      go_wp2
      have hbq := blk_set (blk_set (blk_set HB.out.1 0 (.int .i64 0)) 1 (.int .i64 0)) 2 (.slice none 0 0)
      have hcq : Below w.heap.size wr (((wr.setCell ⟨r8, 0, none⟩ (.int .i64 0)).setCell ⟨r8, 1, none⟩ (.int .i64 0)).setCell ⟨r8, 2, none⟩ (.slice none 0 0)) := by
        have h1 := (((Chg.setCell (S := fun k => k = r8) wr ⟨r8, 0, none⟩ (.int .i64 0) rfl).trans (Chg.setCell (S := fun k => k = r8) _ ⟨r8, 1, none⟩ (.int .i64 0) rfl) (fun _ _ h => h)).trans (Chg.setCell (S := fun k => k = r8) _ ⟨r8, 2, none⟩ (.slice none 0 0) rfl) (fun _ _ h => h))
        exact h1.below (by have := HR8.out; omega) (fun k e => by have := HR8.out; omega)
      clear e0 e1 e2 f0 f1 f2 hxl
      generalize ((wr.setCell ⟨r8, 0, none⟩ (.int .i64 0)).setCell ⟨r8, 1, none⟩ (.int .i64 0)).setCell ⟨r8, 2, none⟩ (.slice none 0 0) = w9 at *
      have g0 : w9.cell? ⟨r8, 0, none⟩ = some (.int .i64 0) := (blk_cell hbq 0).trans rfl
      have g1 : w9.cell? ⟨r8, 1, none⟩ = some (.int .i64 0) := (blk_cell hbq 1).trans rfl
      have g2 : w9.cell? ⟨r8, 2, none⟩ = some (.slice none 0 0) := (blk_cell hbq 2).trans rfl
      have gl : r8 < w9.heap.size := blk_lt hbq
      clear hbq
      have hbf : Below w.heap.size w w9 := (HR8.out ▸ HB.out.2 : Below w.heap.size w wr).trans hcq
      have hlk : linksOf db t = [] := links_miss (fun j hj => hH.out.2.2 j (by have := HK.out; omega))
      refine bodyPost_ret (v := .agg #[.int .i64 0, .int .i64 0, .slice none 0 0]) (by simp [results, Try.results62, go_sem, g0, g1, g2, gl]) rfl ⟨0, 0, none, 0, by rw [hlk]; rfl, by rw [hlk]; simp, by rw [hlk]; exact Kd.C_nil _ _, hbf⟩
end Go.Proofs.Ytinkhlfmjfahpaa.PLoadKeeps

namespace Go.Proofs.Ytinkhlfmjfahpaa.PLoadKeeps
open Go.RowKit Go.MapKept Go.Proofs.YtinkhlfmjfahpaaW.PrintWords Go.Proofs.YtinkhlfmjfahpaaW.PrintLast Go.Proofs.YtinkhlfmjfahpaaW.PrintMore
set_option linter.unusedVariables false
set_option linter.unusedSimpArgs false

set_option maxHeartbeats 1600000 in
set_option maxRecDepth 100000 in
theorem ref24_Arcs.walk (db : List S39) (A : Option Addr) (c : Nat) (w : World) (hA : Kd.C k39 w A db.length db) (hcp : db.length ≤ c) (hok : DbOk db) (hn : db.length ≤ 1000) :
    Calls Try.prog 44 #[.slice A db.length c] w (ArcsPost w (arcsOf db)) := by
  have HA := Aside0.mk hA
  have HO := Aside0.mk hok
  clear hA hok
  go_enter Try.func44, Try.ntmps44
  go_wp2
  have H0 : Below w.heap.size w (w.alloc (.cells #[] 31)) ∧ FRow enc31 3 31 (w.alloc (.cells #[] 31)) w.heap.size (.slice (some ⟨w.heap.size, 0, none⟩) 0 0) [] := ⟨below_alloc (Below.refl _ _) _, FRow.many lays31 w [] (by simp)⟩
  have HI := Aside0.mk H0
  clear H0
  generalize hv0 : Value.slice (some ⟨w.heap.size, 0, none⟩) 0 0 = v0 at *
  generalize w.alloc (.cells #[] 31) = w0 at *
  clear hv0
  go_loopw [3, 4] (fun o i wr => ∃ (k : Nat) (v : Value) (l : List S31), Aside0 (k ≤ db.length ∧ Below w.heap.size w wr ∧ FRow enc31 3 31 wr w.heap.size v l ∧ l = (db.take k).flatMap (arcsOfLsa db) ∧ l.length ≤ 16 * k) ∧ i = .int .i64 k ∧ v = o) (fun _ i _ => db.length - (intOf i).toNat)
  case atStart => exact ⟨0, _, [], ⟨by omega, HI.out.1, HI.out.2, by simp, by simp⟩, rfl, rfl⟩
  case round =>
    obtain ⟨k, v, l, hI, rfl, rfl⟩ := hrel
    have hb := hI.out.2.1
    have hkm : (k : Int) ≤ 1000 := by have := hI.out.1; omega
    by_cases hk : k < db.length
    · obtain ⟨ad, A0, c0, rfl, h0', h1', h2', hl, hC⟩ := at_T39 HA.out (k : Int) (by omega) (by omega)
      obtain ⟨x, hx⟩ : ∃ x, Aside0 (x = lk db k) := ⟨_, ⟨rfl⟩⟩
      rw [show rd_T39 db (k : Int) = x from hx.out.symm] at h0' h1' h2' hl hC
      simp only [Int.toNat_natCast] at h0' h1' h2'
      have HX := Aside0.mk (And.intro h0' (And.intro h2' hC))
      have HB2 := Aside0.mk hb
      clear hb hC h0' h1' h2'
      have hxm : LsaOk x := HO.out.each x (by rw [hx.out, lk_get hk]; exact List.getElem_mem _)
      have hxl : x.f2.length ≤ 16 := hxm.few
      have HXM := Aside0.mk hxm
      clear hxm
      have hki : (k : Int) < db.length := by omega
      go_wp2
      obtain ⟨w3, rfl⟩ : ∃ x, x = wr := ⟨_, rfl⟩
      go_loopw [3, 5] (fun o i wq => ∃ (j : Nat) (v' : Value) (l' : List S31), Aside0 (j ≤ x.f2.length ∧ Below w.heap.size w wq ∧ FRow enc31 3 31 wq w.heap.size v' l' ∧ l' = l ++ ((x.f2.take j).filter (both db x.f0)).map (fun y => (⟨x.f0, y.f0, y.f1⟩ : S31)) ∧ l'.length ≤ 16 * k + j) ∧ i = .int .i64 j ∧ v' = o) (fun _ i _ => x.f2.length - (intOf i).toNat)
      case atStart => exact ⟨0, v, l, ⟨by omega, HB2.out, hI.out.2.2.1, by simp, by have := hI.out.2.2.2.2; omega⟩, rfl, rfl⟩
      case round =>
        obtain ⟨j, v', l', hJ, rfl, rfl⟩ := hrel
        have hb := hJ.out.2.1
        have hjm : (j : Int) ≤ 16 := by have := hJ.out.1; omega
        have h0 := (hb.cell (World.block_lt_of_cell? w _ HX.out.1)).trans HX.out.1
        have h2 := (hb.cell (World.block_lt_of_cell? w _ HX.out.2.1)).trans HX.out.2.1
        have hal : (ad.add (k * 3)).block < wr.heap.size := World.block_lt_of_cell? wr _ h0
        by_cases hj : j < x.f2.length
        · obtain ⟨ad2, rfl, g0', g1'⟩ := at_T56 HX.out.2.2 (j : Int) (by omega) (by omega)
          have g0 := (hb.cell (World.block_lt_of_cell? w _ g0')).trans g0'
          have g1 := (hb.cell (World.block_lt_of_cell? w _ g1')).trans g1'
          clear g0' g1'
          obtain ⟨y, hy⟩ : ∃ y, Aside0 (y = x.f2.getD j z56) := ⟨_, ⟨rfl⟩⟩
          rw [show rd_T56 x.f2 (j : Int) = y from hy.out.symm] at g0 g1
          simp only [Int.toNat_natCast] at g0 g1
          have HB3 := Aside0.mk hb
          clear hb
          have hji : (j : Int) < x.f2.length := by omega
          go_upto_region 9 with fail
          have hbX : Below w.heap.size w (wr.alloc (.cells #[.int .i64 y.f0, .int .i64 y.f1] 56)) := HB3.out.alloc HB3.out.size _
          have hbr : Below wr.heap.size wr (wr.alloc (.cells #[.int .i64 y.f0, .int .i64 y.f1] 56)) := below_alloc (Below.refl _ _) _
          have hyb : (wr.alloc (.cells #[.int .i64 y.f0, .int .i64 y.f1] 56)).heap[wr.heap.size]? = some (.cells #[.int .i64 y.f0, .int .i64 y.f1] 56 (0, 0)) := heap_alloc_new _ _
          have HY := Aside0.mk (And.intro hbX (And.intro hyb (FRow.below hJ.out.2.2.1 hbr)))
          clear hbX hbr g0 g1 h0 h2 hal
          generalize wr.alloc (.cells #[.int .i64 y.f0, .int .i64 y.f1] 56) = w4 at *
          generalize wr.heap.size = by_ at *
          have h0 := (HY.out.1.cell (World.block_lt_of_cell? w _ HX.out.1)).trans HX.out.1
          have hal : (ad.add (k * 3)).block < w4.heap.size := World.block_lt_of_cell? w4 _ h0
          have y0 : w4.cell? ⟨by_, 0, none⟩ = some (.int .i64 y.f0) := (blk_cell hyb 0).trans rfl
          have yl : by_ < w4.heap.size := blk_lt hyb
          clear hyb
          go_cut [42] (fun s42 wx => s42 = .bool (decide (costOf (linksOf db y.f0) x.f0 > 0)) ∧ Below w4.heap.size w4 wx)
          case first =>
            go_region_with (first
              | (go_at_call 62; refine (ref11_Get.walk db (some ad) c y.f0 _ (Kd.C_below HA.out (HY.out.1.trans (Below.mono (B' := w.heap.size) (show Below w4.heap.size w4 _ by go_grown) HY.out.1.size))) hcp hn).mono ?_; rintro e w5 ⟨o1, s1, A1, c1, rfl, hl1, hC1, hb1⟩; have hb45 : Below w4.heap.size w4 w5 := (show Below w4.heap.size w4 _ by go_grown).trans (hb1.mono (by simp)); have h05 : w5.cell? (ad.add (k * 3)) = some (.int .i64 x.f0) := (hb45.cell hal).trans h0; have hl5 : (ad.add (k * 3)).block < w5.heap.size := Nat.lt_of_lt_of_le hal hb45.size)
              | (go_at_call 61; refine (ref09_Cost.walk o1 s1 (linksOf db y.f0) A1 c1 x.f0 _ (Kd.C_below hC1 (by go_grown)) hl1).mono ?_; rintro e w6 ⟨rfl, hb6⟩))
            all_goals
              go_wp2_with fail
              go_meet
              case rel => exact ⟨rfl, hb45.trans (hb6.mono hb45.size)⟩
          case rest =>
            obtain ⟨rfl, hbc⟩ := hcut
            have hbw : Below w.heap.size w wc := HY.out.1.trans (hbc.mono HY.out.1.size)
            have hyb : wc.heap[by_]? = some (.cells #[.int .i64 y.f0, .int .i64 y.f1] 56 (0, 0)) := (hbc.block _ (blk_lt HY.out.2.1)).trans HY.out.2.1
            have hrw := HY.out.2.2.below hbc
            have HW := Aside0.mk (And.intro hbw hrw)
            clear h0 hal y0 yl
            have h0 := (hbw.cell (World.block_lt_of_cell? w _ HX.out.1)).trans HX.out.1
            have hal : (ad.add (k * 3)).block < wc.heap.size := World.block_lt_of_cell? wc _ h0
            have y0 : wc.cell? ⟨by_, 0, none⟩ = some (.int .i64 y.f0) := (blk_cell hyb 0).trans rfl
            have y1 : wc.cell? ⟨by_, 1, none⟩ = some (.int .i64 y.f1) := (blk_cell hyb 1).trans rfl
            have yl : by_ < wc.heap.size := blk_lt hyb
            clear hyb hbw hbc hrw
            have hbo : Aside0 (both db x.f0 y = decide (0 < costOf (linksOf db y.f0) x.f0)) := ⟨rfl⟩
            generalize costOf (linksOf db y.f0) x.f0 = cc at hbo ⊢
            have hfl : Aside0 (((x.f2.take (j + 1)).filter (both db x.f0)).map (fun y => (⟨x.f0, y.f0, y.f1⟩ : S31)) = ((x.f2.take j).filter (both db x.f0)).map (fun y => (⟨x.f0, y.f0, y.f1⟩ : S31)) ++ (if 0 < cc then [(⟨x.f0, y.f0, y.f1⟩ : S31)] else [])) := by
              refine ⟨?_⟩
              have ey : x.f2[j] = y := by rw [hy.out, List.getD_eq_getElem?_getD, List.getElem?_eq_getElem hj]; rfl
              rw [List.take_succ_eq_append_getElem hj, List.filter_append, List.map_append, ey]
              congr 1
              by_cases h : 0 < cc
              · rw [if_pos h]; simp [List.filter_cons, hbo.out, h]
              · rw [if_neg h]; simp [List.filter_cons, hbo.out, h]
            by_cases hcc : 0 < cc
            · have hd1 : decide (cc > 0) = true := by simpa using hcc
              have hd2 : decide (0 < cc) = true := by simpa using hcc
              rw [hd1]
              clear hd1 hd2
              have HCC := Aside0.mk hcc
              clear hcc
              go_upto_region 10 with fail
              go_region_law (refine step_append_flat lays31 w.heap.size rfl (.tmp 43) (.tmp 54) 28 31 (.agg #[.int .i64 0, .int .i64 0, .int .i64 0]) 24 rfl Try.underlying28 info31 rfl (by decide) (by decide) v' l' ⟨x.f0, y.f0, y.f1⟩ wc.heap.size rfl rfl (by exact blk_drew (heap_alloc_new _ _)) (by exact HW.out.2.below (by go_grown)) (by have := HW.out.1.size; simp; omega) (by have := hJ.out.2.2.2.2; omega) ?_; intro v2 w6 hv2 hg2 hat2)
              all_goals
                go_wp2_with fail
                have hb6 : Below w.heap.size w w6 := (HW.out.1.trans (Below.mono (B' := w.heap.size) (show Below wc.heap.size wc _ by go_grown) HW.out.1.size)).grown hg2 (by have := HW.out.1.size; simp; omega) (fun k hk => HW.out.2.ge hk)
                refine ⟨⟨j + 1, v2, l' ++ [⟨x.f0, y.f0, y.f1⟩], ⟨hj, hb6, hv2, ?_, ?_⟩, by go_num, rfl⟩, by simp [intOf]; omega⟩
                · rw [hfl.out, if_pos HCC.out, hJ.out.2.2.2.1, List.append_assoc]
                · have := hJ.out.2.2.2.2; simp; omega
            · have hd1 : decide (cc > 0) = false := by simpa using hcc
              rw [hd1]
              clear hd1
              have HCC := Aside0.mk hcc
              clear hcc
              go_wp2
              refine ⟨⟨j + 1, v', l', ⟨hj, HW.out.1, HW.out.2, ?_, ?_⟩, by go_num, rfl⟩, by simp [intOf]; omega⟩
              · rw [hfl.out, if_neg (by have := HCC.out; omega), List.append_nil]; exact hJ.out.2.2.2.1
              · have := hJ.out.2.2.2.2; omega
        · have hj2 : ¬ ((j : Int) < x.f2.length) := by omega
          have HB3 := Aside0.mk hb
          have HJ := Aside0.mk hj
          clear hb hj
          go_wp2
          refine ⟨⟨k + 1, v', l', ⟨hk, HB3.out, hJ.out.2.2.1, ?_, ?_⟩, by go_num, rfl⟩, by simp [intOf]; omega⟩
          · rw [hJ.out.2.2.2.1, List.take_of_length_le (by have := HJ.out; omega), hI.out.2.2.2.1, List.take_succ_eq_append_getElem hk, List.flatMap_append, ← lk_get hk, ← hx.out]
            simp [arcsOfLsa]
          · have := hJ.out.2.2.2.2; have := hJ.out.1; omega
    · have hk2 : ¬ ((k : Int) < db.length) := by omega
      have HB2 := Aside0.mk hb
      have HK := Aside0.mk hk
      clear hb hk
      go_wp2
      go_ret
      refine ⟨_, rfl, ?_, HB2.out⟩
      have h := hI.out.2.2.1
      rw [hI.out.2.2.2.1, List.take_of_length_le (by have := HK.out; omega)] at h
      exact h
end Go.Proofs.Ytinkhlfmjfahpaa.PLoadKeeps
