/- The reference's find. -/
import Derived.Test.YtinkhlfmjfahpaaFc
namespace Go.Proofs.Ytinkhlfmjfahpaa.PLoadKeeps
open Go.RowKit Go.MapKept Go.Proofs.YtinkhlfmjfahpaaW.PrintWords Go.Proofs.YtinkhlfmjfahpaaW.PrintLast Go.Proofs.YtinkhlfmjfahpaaW.PrintMore
set_option linter.unusedVariables false
set_option linter.unusedSimpArgs false

theorem find_hit {xs : List S63} {t : Int} {k : Nat} (hk : k < xs.length) (hn : ∀ j, j < k → (xs.getD j z63).f0 ≠ t) (h : (xs.getD k z63).f0 = t) : findR xs t = some (xs.getD k z63) := by
  unfold findR
  rw [find_first z63 _ xs k hk (by simpa using h) (fun j hj => by simpa using hn j hj)]
theorem find_miss {xs : List S63} {t : Int} (hn : ∀ j, j < xs.length → (xs.getD j z63).f0 ≠ t) : findR xs t = none := by
  unfold findR
  rw [find_none' z63 _ xs (fun j hj => by simpa using hn j hj)]
def FindPost (w : World) (xs : List S63) (t : Int) (e : Ending) (w' : World) : Prop :=
  e = .returned (.agg #[.int .i64 ((findR xs t).getD z63).f0, .int .i64 ((findR xs t).getD z63).f1, .int .u64 ((findR xs t).getD z63).f2]) ∧ Below w.heap.size w w'

set_option maxHeartbeats 800000 in
set_option maxRecDepth 100000 in
theorem ref26_Find.walk (xs : List S63) (A : Option Addr) (c : Nat) (t : Int) (w : World) (hA : Kd.C k63 w A xs.length xs) (hcp : xs.length ≤ c) (hn : xs.length ≤ 1000) :
    Calls Try.prog 26 #[.slice A xs.length c, .int .i64 t] w (FindPost w xs t) := by
  have HA := Aside0.mk hA
  clear hA
  go_enter Try.func26, Try.ntmps26
  go_wp2
  obtain ⟨W2, hW2⟩ : ∃ W2, Aside0 (W2 = w.alloc (.cells #[.int .i64 0, .int .i64 0, .int .u64 0] 63)) := ⟨_, ⟨rfl⟩⟩
  rw [← hW2.out]
  have hbx : W2.heap[w.heap.size]? = some (.cells #[.int .i64 0, .int .i64 0, .int .u64 0] 63 (0, 0)) := by rw [hW2.out]; exact heap_alloc_new _ _
  have hbw : Below w.heap.size w W2 := by rw [hW2.out]; exact below_alloc (Below.refl _ _) _
  have HB := Aside0.mk (And.intro hbx hbw)
  clear hbx hbw
  generalize hr8 : w.heap.size = r8 at HB ⊢
  have HR8 := Aside0.mk hr8
  clear hr8
  go_loopw [5] (fun i wr => ∃ (k : Nat), Aside0 (k ≤ xs.length ∧ wr = W2 ∧ ∀ j, j < k → (xs.getD j z63).f0 ≠ t) ∧ i = .int .i64 k) (fun i _ => xs.length - (intOf i).toNat)
  case atStart => exact ⟨0, ⟨by omega, rfl, fun j hj => by omega⟩, rfl⟩
  case round =>
    obtain ⟨k, hH, rfl⟩ := hrel
    obtain rfl : wr = W2 := hH.out.2.1
    have hxl : r8 < wr.heap.size := blk_lt HB.out.1
    have e0 : wr.cell? ⟨r8, 0, none⟩ = some (.int .i64 0) := (blk_cell HB.out.1 0).trans rfl
    have e1 : wr.cell? ⟨r8, 1, none⟩ = some (.int .i64 0) := (blk_cell HB.out.1 1).trans rfl
    have e2 : wr.cell? ⟨r8, 2, none⟩ = some (.int .u64 0) := (blk_cell HB.out.1 2).trans rfl
    have f0 : wr.frozen? ⟨r8, 0, none⟩ = false := blk_frozen HB.out.1 0
    have f1 : wr.frozen? ⟨r8, 1, none⟩ = false := blk_frozen HB.out.1 1
    have f2 : wr.frozen? ⟨r8, 2, none⟩ = false := blk_frozen HB.out.1 2
    have hkm : (k : Int) ≤ 1000 := by have := hH.out.1; omega
    by_cases hk : k < xs.length
    · obtain ⟨ad, rfl, h0', h1', h2'⟩ := at_T63 HA.out (k : Int) (by omega) (by omega)
      have hb : Below w.heap.size w wr := HR8.out ▸ HB.out.2
      have h0 := (hb.cell (World.block_lt_of_cell? w _ h0')).trans h0'
      have h1 := (hb.cell (World.block_lt_of_cell? w _ h1')).trans h1'
      have h2 := (hb.cell (World.block_lt_of_cell? w _ h2')).trans h2'
      clear h0' h1' h2'
      obtain ⟨x, hx⟩ : ∃ x, Aside0 (x = xs.getD k z63) := ⟨_, ⟨rfl⟩⟩
      rw [show rd_T63 xs (k : Int) = x from hx.out.symm] at h0 h1 h2
      simp only [Int.toNat_natCast] at h0 h1 h2
      have HC := Aside0.mk hb
      clear hb
      by_cases he : x.f0 = t
      · have hbe : (x.f0 == t) = true := by rw [beq_iff_eq]; exact he
        have HE := Aside0.mk he
        clear he
        go_wp2
        have hbq := blk_set (blk_set (blk_set HB.out.1 0 (.int .i64 x.f0)) 1 (.int .i64 x.f1)) 2 (.int .u64 x.f2)
        have hcq : Below w.heap.size wr (((wr.setCell ⟨r8, 0, none⟩ (.int .i64 x.f0)).setCell ⟨r8, 1, none⟩ (.int .i64 x.f1)).setCell ⟨r8, 2, none⟩ (.int .u64 x.f2)) := by
          have h1 := (((Chg.setCell (S := fun k => k = r8) wr ⟨r8, 0, none⟩ (.int .i64 x.f0) rfl).trans (Chg.setCell (S := fun k => k = r8) _ ⟨r8, 1, none⟩ (.int .i64 x.f1) rfl) (fun _ _ h => h)).trans (Chg.setCell (S := fun k => k = r8) _ ⟨r8, 2, none⟩ (.int .u64 x.f2) rfl) (fun _ _ h => h))
          exact h1.below (by have := HR8.out; omega) (fun k e => by have := HR8.out; omega)
        clear e0 e1 e2 f0 f1 f2 hxl
        generalize ((wr.setCell ⟨r8, 0, none⟩ (.int .i64 x.f0)).setCell ⟨r8, 1, none⟩ (.int .i64 x.f1)).setCell ⟨r8, 2, none⟩ (.int .u64 x.f2) = w9 at *
        have g0 : w9.cell? ⟨r8, 0, none⟩ = some (.int .i64 x.f0) := (blk_cell hbq 0).trans rfl
        have g1 : w9.cell? ⟨r8, 1, none⟩ = some (.int .i64 x.f1) := (blk_cell hbq 1).trans rfl
        have g2 : w9.cell? ⟨r8, 2, none⟩ = some (.int .u64 x.f2) := (blk_cell hbq 2).trans rfl
        have gl : r8 < w9.heap.size := blk_lt hbq
        clear hbq
        have hbf : Below w.heap.size w w9 := (HR8.out ▸ HB.out.2 : Below w.heap.size w wr).trans hcq
        have hlk : findR xs t = some x := by rw [find_hit hk hH.out.2.2 (by rw [← hx.out]; exact HE.out), hx.out]
        refine bodyPost_ret (v := .agg #[.int .i64 x.f0, .int .i64 x.f1, .int .u64 x.f2]) (by simp [results, Try.results26, go_sem, g0, g1, g2, gl]) rfl ⟨by rw [hlk]; rfl, hbf⟩
      · have hbe : (x.f0 == t) = false := by rw [beq_eq_false_iff_ne]; exact he
        have HE := Aside0.mk he
        clear he
        go_wp2
        exact ⟨⟨k + 1, ⟨hk, by first | rfl | trivial, fun j hj => by
          by_cases e : j = k
          · rw [e, ← hx.out]; exact HE.out
          · exact hH.out.2.2 j (by omega)⟩, by go_num⟩, by simp [intOf]; omega⟩
    · have hk2 : ¬ ((k : Int) < xs.length) := by omega
      have HK := Aside0.mk hk
      clear hk
      go_wp2
      have hbq := blk_set (blk_set (blk_set HB.out.1 0 (.int .i64 0)) 1 (.int .i64 0)) 2 (.int .u64 0)
      have hcq : Below w.heap.size wr (((wr.setCell ⟨r8, 0, none⟩ (.int .i64 0)).setCell ⟨r8, 1, none⟩ (.int .i64 0)).setCell ⟨r8, 2, none⟩ (.int .u64 0)) := by
        have h1 := (((Chg.setCell (S := fun k => k = r8) wr ⟨r8, 0, none⟩ (.int .i64 0) rfl).trans (Chg.setCell (S := fun k => k = r8) _ ⟨r8, 1, none⟩ (.int .i64 0) rfl) (fun _ _ h => h)).trans (Chg.setCell (S := fun k => k = r8) _ ⟨r8, 2, none⟩ (.int .u64 0) rfl) (fun _ _ h => h))
        exact h1.below (by have := HR8.out; omega) (fun k e => by have := HR8.out; omega)
      clear e0 e1 e2 f0 f1 f2 hxl
      generalize ((wr.setCell ⟨r8, 0, none⟩ (.int .i64 0)).setCell ⟨r8, 1, none⟩ (.int .i64 0)).setCell ⟨r8, 2, none⟩ (.int .u64 0) = w9 at *
      have g0 : w9.cell? ⟨r8, 0, none⟩ = some (.int .i64 0) := (blk_cell hbq 0).trans rfl
      have g1 : w9.cell? ⟨r8, 1, none⟩ = some (.int .i64 0) := (blk_cell hbq 1).trans rfl
      have g2 : w9.cell? ⟨r8, 2, none⟩ = some (.int .u64 0) := (blk_cell hbq 2).trans rfl
      have gl : r8 < w9.heap.size := blk_lt hbq
      clear hbq
      have hbf : Below w.heap.size w w9 := (HR8.out ▸ HB.out.2 : Below w.heap.size w wr).trans hcq
      have hlk : findR xs t = none := find_miss (fun j hj => hH.out.2.2 j (by have := HK.out; omega))
      refine bodyPost_ret (v := .agg #[.int .i64 0, .int .i64 0, .int .u64 0]) (by simp [results, Try.results26, go_sem, g0, g1, g2, gl]) rfl ⟨by rw [hlk]; rfl, hbf⟩
end Go.Proofs.Ytinkhlfmjfahpaa.PLoadKeeps
