/- The reference's routes: an array of distances. The reference's routes: the walk. -/
import Derived.Test.YtinkhlfmjfahpaaFd
import Derived.Test.YtinkhlfmjfahpaaCh
import Derived.Deep.RegionHeld3
import Derived.Deep.MidRow
namespace Go.Proofs.Ytinkhlfmjfahpaa.PLoadKeeps
open Go.RowKit Go.MapKept Go.Proofs.YtinkhlfmjfahpaaW.PrintWords Go.Proofs.YtinkhlfmjfahpaaW.PrintLast Go.Proofs.YtinkhlfmjfahpaaW.PrintMore
set_option linter.unusedVariables false
set_option linter.unusedSimpArgs false

def dl (d : Dst) : List Value := (List.range 65).map (fun j => Value.int .u64 (d.c j)) ++ (List.range 65).map (fun j => Value.bool (d.r j))
theorem dl_len (d : Dst) : (dl d).length = 130 := by simp [dl]
theorem dl_c (d : Dst) (i : Nat) (hi : i < 65) : (dl d)[i]? = some (.int .u64 (d.c i)) := by
  unfold dl
  rw [List.getElem?_append_left (by simpa using hi)]
  simp [hi]
theorem dl_r (d : Dst) (i : Nat) (hi : i < 65) : (dl d)[65 + i]? = some (.bool (d.r i)) := by
  unfold dl
  rw [List.getElem?_append_right (by simp)]
  simp [hi]
theorem dl_cells (d : Dst) : DCells (dl d).toArray d := ⟨by simp [dl_len], fun i hi => by simp only [List.getElem?_toArray]; exact ⟨dl_c d i hi, dl_r d i hi⟩⟩
theorem DCells.eq {cs : Array Value} {d : Dst} (h : DCells cs d) : cs = (dl d).toArray := by
  have h2 := dl_cells d
  refine Array.ext (by rw [h.1, h2.1]) fun i h1 h3 => ?_
  have e : cs[i]? = (dl d).toArray[i]? := by
    by_cases hi : i < 65
    · rw [(h.2 i hi).1, (h2.2 i hi).1]
    · have := h.1
      have h4 := (h.2 (i - 65) (by omega)).2
      have h5 := (h2.2 (i - 65) (by omega)).2
      rw [show 65 + (i - 65) = i by omega] at h4 h5
      rw [h4, h5]
  rw [Array.getElem?_eq_getElem h1, Array.getElem?_eq_getElem h3] at e
  injection e
theorem laysD : Lays dl 130 := ⟨dl_len, fun d u hu => by
  unfold dl at hu
  rcases List.mem_append.1 hu with hu | hu
  · obtain ⟨j, _, rfl⟩ := List.mem_map.1 hu; rfl
  · obtain ⟨j, _, rfl⟩ := List.mem_map.1 hu; rfl⟩
/-- An array of distances. -/
def ABlk (w : World) (g : Nat) (ds : List Dst) : Prop := ds.length = 65 ∧ w.heap[g]? = some (.cells (ds.flatMap dl).toArray 115 (0, 0))
theorem ABlk.lt {w : World} {g : Nat} {ds : List Dst} (h : ABlk w g ds) : g < w.heap.size := blk_lt h.2
theorem ABlk.move {w w1 : World} {g : Nat} {ds : List Dst} (h : ABlk w g ds) (hb : w1.heap[g]? = w.heap[g]?) : ABlk w1 g ds := ⟨h.1, hb.trans h.2⟩
theorem ABlk.below {w w1 : World} {g : Nat} {ds : List Dst} (h : ABlk w g ds) (hb : Below w.heap.size w w1) : ABlk w1 g ds := h.move (hb.block g h.lt)
theorem ABlk.cell {w : World} {g : Nat} {ds : List Dst} (h : ABlk w g ds) (i j : Nat) (hi : i < 65) (hj : j < 130) : w.cell? ⟨g, i * 130 + j, none⟩ = (dl (ds.getD i Dst.zero))[j]? ∧ w.frozen? ⟨g, i * 130 + j, none⟩ = false := by
  refine ⟨?_, blk_frozen h.2 _⟩
  rw [blk_cell h.2, List.getElem?_toArray]
  exact flat_get laysD ds Dst.zero i j (by rw [h.1]; exact hi) hj
theorem ABlk.range {w : World} {g : Nat} {ds : List Dst} (h : ABlk w g ds) (i : Nat) (hi : i < 65) : w.rangeAt g (i * 130) (dl (ds.getD i Dst.zero)) := fun j v hv => by
  have hj : j < 130 := by
    have := (List.getElem?_eq_some_iff.1 hv).1
    rwa [dl_len] at this
  rw [(h.cell i j hi hj).1]
  exact hv
theorem ABlk.there {w : World} {g : Nat} {ds : List Dst} (h : ABlk w g ds) (i : Nat) (hi : i < 65) : w.there g (i * 130) 130 := fun j hj => by
  obtain ⟨h1, h2⟩ := h.cell i j hi hj
  refine ⟨?_, h2⟩
  rw [h1, List.getElem?_eq_getElem (by rw [dl_len]; exact hj)]
  rfl
theorem ABlk.set {w : World} {g : Nat} {ds : List Dst} (h : ABlk w g ds) (i : Nat) (hi : i < 65) (d : Dst) : ABlk (w.setCells g (i * 130) (dl d)) g (ds.set i d) := by
  have hil : i < ds.length := by rw [h.1]; exact hi
  have hsz : (ds.flatMap dl).length = 65 * 130 := by rw [flat_length laysD, h.1]
  obtain ⟨cur, h1, h2, h3⟩ := setCells_arr (dl d) (i * 130) w _ h.2 (by rw [List.size_toArray, hsz, dl_len]; omega)
  refine ⟨by rw [List.length_set]; exact h.1, ?_⟩
  rw [h1, flat_set laysD ds i d hil]
  rw [dl_len] at h3
  simp only at h3
  rw [← h3]
theorem Chg.setCells {g : Nat} : ∀ (vs : List Value) (o : Nat) (w : World), Chg (fun k => k = g) w (w.setCells g o vs)
  | [], o, w => Chg.refl _ _
  | v :: vs, o, w => (Chg.setCell (S := fun k => k = g) w ⟨g, o, none⟩ v rfl).trans (Chg.setCells vs (o + 1) _) (fun _ _ h => h)
def Z115 : Array Value := ((List.replicate 65 Dst.zero).flatMap dl).toArray
theorem info115 : (Try.prog.info? 115).map (·.size) = some 8450 := by kernel_rfl
set_option maxRecDepth 1000000 in
theorem zero115 : Try.zeroCells115 = Z115 := by kernel_rfl
theorem Z115_blk {w : World} {g : Nat} (h : w.heap[g]? = some (.cells Z115 115 (0, 0))) : ABlk w g (List.replicate 65 Dst.zero) := ⟨by simp, h⟩
theorem Z115_one : Z115.all (·.oneCell') = true := all_oneCell_toArray (fun v hv => by
  obtain ⟨d, _, hd⟩ := List.mem_flatMap.1 hv
  exact laysD.one d v hd)
theorem Z115_size : Z115.size = 8450 := by
  unfold Z115
  rw [List.size_toArray, flat_length laysD]
  simp
theorem store_mid (w : World) (g o : Nat) (d : Dst) (ht : w.there g o 130) : (storeCells ⟨g, o, none⟩ (dl d)).run Try.prog w = .ok () (w.setCells g o (dl d)) := by
  have := run_storeCells_cells (P := Try.prog) g o (dl d) 0 w (fun j hj => (ht j (by rwa [dl_len] at hj)).1) (fun j hj => (ht j (by rwa [dl_len] at hj)).2) (laysD.one d)
  simpa only [Nat.add_zero] using this
theorem ABlk.below_there {w w1 : World} {g : Nat} {ds : List Dst} (h : ABlk w g ds) (hb : Below w.heap.size w w1) {i : Nat} (hi : i < 65) : w1.there g (i * 130) 130 := (h.below hb).there i hi
def Got (w : World) (l : List S31) (r : Nat) (e : Ending) (w' : World) : Prop := ∃ d, e = .returned (.agg (dl d).toArray) ∧ Exact l r d ∧ CB 7900000000000 d ∧ Below w.heap.size w w'
theorem ref25_From.calls (l : List S31) (A : Option Addr) (c : Nat) (r : Nat) (w : World) (hA : Kd.C k31 w A l.length l) (hcp : l.length ≤ c) (hok : ArcsOk l) (hn : l.length ≤ 112) (h1 : 1 ≤ (r : Int)) (h2 : (r : Int) ≤ 64) :
    Calls Try.prog 59 #[.slice A l.length c, .int .i64 r] w (Got w l r) :=
  (ref25_From.walk l A c r w hA hcp hok (by omega) h1 h2).mono fun e w' h => by
    obtain ⟨cs, d, he, hc, hb, hbl⟩ := h
    exact ⟨d, by rw [he, hc.eq], hb.exact hok, hb.cb hok hn, hbl⟩
theorem DBlk_dl {w : World} {g : Nat} {d : Dst} (h : w.heap[g]? = some (.cells (dl d).toArray 113 (0, 0))) : DBlk w g d := ⟨_, h, dl_cells d⟩
theorem dl_one (d : Dst) : (dl d).toArray.all (·.oneCell') = true := all_oneCell_toArray (laysD.one d)
theorem dl_info (d : Dst) : (Try.prog.info? 113).map (·.size) = some (dl d).toArray.size := by rw [List.size_toArray, dl_len]; exact info113
theorem dl_infoL (d : Dst) : (Try.prog.info? 113).map (·.size) = some (dl d).length := by rw [dl_len]; exact info113
end Go.Proofs.Ytinkhlfmjfahpaa.PLoadKeeps

namespace Go.Proofs.Ytinkhlfmjfahpaa.PLoadKeeps
open Go.RowKit Go.MapKept Go.Proofs.YtinkhlfmjfahpaaW.PrintWords Go.Proofs.YtinkhlfmjfahpaaW.PrintLast Go.Proofs.YtinkhlfmjfahpaaW.PrintMore
set_option linter.unusedVariables false
set_option linter.unusedSimpArgs false

def RtPost (w : World) (l : List S31) (n : Nat) (e : Ending) (w' : World) : Prop := ∃ v rs, e = .returned v ∧ FRow enc63 3 63 w' w.heap.size v rs ∧ Below w.heap.size w w' ∧ rs.length ≤ 64 ∧ RtOk l n 65 rs

theorem dl_size (d : Dst) : Z113.size = (dl d).toArray.size := by rw [Z113_cells.1, (dl_cells d).1]
set_option maxHeartbeats 3200000 in
set_option maxRecDepth 100000 in
theorem ref25_Routes.walk (l : List S31) (A : Option Addr) (c : Nat) (n : Nat) (w : World) (hA : Kd.C k31 w A l.length l) (hcp : l.length ≤ c) (hok : ArcsOk l) (hn : l.length ≤ 112) (h1 : 1 ≤ (n : Int)) (h2 : (n : Int) ≤ 64) :
    Calls Try.prog 43 #[.slice A l.length c, .int .i64 n] w (RtPost w l n) := by
  have HA := Aside0.mk hA
  have HO := Aside0.mk hok
  clear hA hok
  have hzc := zero115
  have hzd : Try.zeroCells113 = Z113 := by kernel_rfl
  go_enter Try.func43, Try.ntmps43
  go_upto_region 3 with (first
    | (go_at_call 59; refine (ref25_From.calls l A c n _ (Kd.C_below HA.out (by go_grown)) hcp HO.out hn h1 h2).mono ?_; rintro e w1 ⟨d, rfl, hd, hcb, hb1⟩)
    | (refine wpList_store_rowTo rfl 113 (.tmp 6) (.tmp 16) rfl rfl w1.heap.size (dl d).toArray rfl rfl 113 Z113 (by exact heap_alloc_new _ _) (dl_info d) (by exact dl_size d) (dl_one d) ?_))
  have hR : Below w.heap.size w w1 ∧ FRow enc63 3 63 w1 w.heap.size (.slice (some ⟨w.heap.size, 0, none⟩) 0 0) [] ∧ w.heap.size < w1.heap.size := by
    have := hb1.size
    simp only [World.size_alloc] at this
    exact ⟨(below_alloc (Below.refl _ _) _).trans (hb1.mono (by simp)), FRow.below (FRow.many lays63 w [] (by simp)) hb1, by omega⟩
  have hX : DBlk ((w1.alloc (.cells Z113 113)).setRow w1.heap.size (dl d).toArray) w1.heap.size d ∧ Below w1.heap.size w1 ((w1.alloc (.cells Z113 113)).setRow w1.heap.size (dl d).toArray) := ⟨DBlk_dl (setRow_heap _ _ _ _ _ _ (heap_alloc_new _ _)), below_setRow (below_alloc (Below.refl _ _) _) (Nat.le_refl _) _⟩
  have HX := Aside0.mk (And.intro hX.1 (And.intro (hR.1.trans (hX.2.mono hR.1.size)) (And.intro (FRow.below hR.2.1 hX.2) hR.2.2)))
  have HD := Aside0.mk (And.intro hd hcb)
  clear hR hX hb1 hd hcb
  generalize (w1.alloc (.cells Z113 113)).setRow w1.heap.size (dl d).toArray = w2 at *
  generalize w1.heap.size = g6 at *
  generalize Value.slice (some ⟨w.heap.size, 0, none⟩) 0 0 = v0 at *
  go_upto_region 4 with (refine wpList_store_rowTo rfl 115 (.tmp 7) (.tmp 17) rfl rfl _ Z115 rfl rfl 115 Z115 (by exact heap_alloc_new _ _) (by rw [Z115_size]; exact info115) rfl Z115_one ?_)
  have hY : ABlk ((w2.alloc (.cells Z115 115)).setRow w2.heap.size Z115) w2.heap.size (List.replicate 65 Dst.zero) ∧ Below w2.heap.size w2 ((w2.alloc (.cells Z115 115)).setRow w2.heap.size Z115) := by
    rw [setRow_self _ _ _ _ _ (heap_alloc_new _ _)]
    exact ⟨Z115_blk (heap_alloc_new _ _), below_alloc (Below.refl _ _) _⟩
  have HY := Aside0.mk (And.intro hY.1 (And.intro (HX.out.1.below hY.2) (And.intro (HX.out.2.1.trans (hY.2.mono HX.out.2.1.size)) (And.intro (FRow.below HX.out.2.2.1 hY.2) (Nat.lt_of_lt_of_le HX.out.2.2.2 (Nat.le_of_lt HX.out.1.lt))))))
  clear hY
  generalize (w2.alloc (.cells Z115 115)).setRow w2.heap.size Z115 = w3 at *
  generalize w2.heap.size = g7 at *
  clear hzc hzd
  generalize Z115 = zz
  go_wp2
  go_loopw [8] (fun i wr => ∃ (k : Nat) (ds : List Dst), Aside0 (k ≤ l.length ∧ ABlk wr g7 ds ∧ DBlk wr g6 d ∧ Below w.heap.size w wr ∧ FRow enc63 3 63 wr w.heap.size v0 [] ∧ (∀ j (h : j < l.length), j < k → l[j].f0 = n → Exact l l[j].f1.toNat (ds.getD l[j].f1.toNat Dst.zero) ∧ CB 7900000000000 (ds.getD l[j].f1.toNat Dst.zero))) ∧ i = .int .i64 k) (fun i _ => l.length - (intOf i).toNat)
  case atStart => exact ⟨0, _, ⟨by omega, HY.out.1, HY.out.2.1, HY.out.2.2.1, HY.out.2.2.2.1, fun j h hj => by omega⟩, rfl⟩
  case round =>
    obtain ⟨k, ds, hH, rfl⟩ := hrel
    have hkm : (k : Int) ≤ 112 := by have := hH.out.1; omega
    by_cases hk : k < l.length
    · obtain ⟨ad, rfl, a0', a1', a2'⟩ := at_T31 HA.out (k : Int) (by omega) (by omega)
      have hb : Below w.heap.size w wr := hH.out.2.2.2.1
      have a0 := (hb.cell (World.block_lt_of_cell? w _ a0')).trans a0'
      have a1 := (hb.cell (World.block_lt_of_cell? w _ a1')).trans a1'
      have HAL := Aside0.mk (World.block_lt_of_cell? w _ a1')
      clear a0' a1' a2' hb
      obtain ⟨x, hx⟩ : ∃ x, Aside0 (x = l[k]) := ⟨_, ⟨rfl⟩⟩
      rw [show rd_T31 l (k : Int) = x from (ar_get hk).trans hx.out.symm] at a0 a1
      simp only [Int.toNat_natCast] at a0 a1
      have hxo : ArcOk x := HO.out.1 x (by rw [hx.out]; exact List.getElem_mem _)
      obtain ⟨n1, hn1⟩ : ∃ n : Nat, x.f1 = n := ⟨x.f1.toNat, by have := hxo.2.1; omega⟩
      have hb1 : 1 ≤ (n1 : Int) ∧ (n1 : Int) ≤ 64 := by have := hxo.2.1; omega
      rw [hn1] at a1
      have HX2 := Aside0.mk hn1
      clear hn1 hxo
      have hki : (k : Int) < l.length := by omega
      by_cases he : x.f0 = n
      · have hbe : (x.f0 == (n : Int)) = true := by rw [beq_iff_eq]; exact he
        have HE := Aside0.mk he
        clear he
        go_upto_region 8 with fail
        have t1 := hH.out.2.1.there n1 (by omega)
        have HC := Aside0.mk (And.intro a1 t1)
        have HB := Aside0.mk hH.out.2.2.2.1
        have HNE : Aside0 ((ad.add (k * 3)).block ≠ g7) := ⟨fun e => by have h1 := HAL.out; have h2 := HY.out.2.2.2.2; simp only [Int.toNat_natCast] at h1; omega⟩
        have hn1i : (n1 : Int) < 65 := by omega
        clear a0 hbe
        have hcd : wr.drew.cell? ⟨(ad.add (k * 3)).block, (ad.add (k * 3)).off + 1, none⟩ = some (.int .i64 n1) := HC.out.1
        have HCD := Aside0.mk hcd
        clear hcd
        go_region_held3 (fun w' => w'.cell? ⟨(ad.add (k * 3)).block, (ad.add (k * 3)).off + 1, none⟩ = some (.int .i64 n1))
          ((first
            | (with_reducible exact HCD.out)
            | (with_reducible exact HC5.out)
            | (with_reducible exact HC6.out)))
          ((go_at_call 59; refine (ref25_From.calls l (some ad) c n1 _ (Kd.C_below HA.out HB.out.drew) hcp HO.out hn hb1.1 hb1.2).mono ?_; rintro e w5 ⟨d5, rfl, hd5, hcb5, hb5'⟩; have hb5 : Below wr.heap.size wr w5 := (show Below wr.heap.size wr wr.drew from (Below.refl _ _).drew).trans hb5'; clear hb5'; have hst := store_mid w5 g7 (n1 * 130) d5 (hH.out.2.1.below_there hb5 (by omega)); have HC5 := Aside0.mk ((hb5.cell (World.block_lt_of_cell? wr _ HC.out.1)).trans HC.out.1); have HC6 := Aside0.mk ((World.cell?_setCells_out g7 (dl d5) (n1 * 130) w5 ⟨(ad.add (k * 3)).block, (ad.add (k * 3)).off + 1, none⟩ (fun h _ => absurd h HNE.out)).trans HC5.out); have HG5 := Aside0.mk (And.intro hd5 (And.intro hcb5 hb5)); clear hd5 hcb5 hb5))
        have hw6 : ABlk (w5.setCells g7 (n1 * 130) (dl d5)) g7 (ds.set n1 d5) := (hH.out.2.1.below HG5.out.2.2).set n1 (by omega) d5
        have hch : Chg (fun j => j = g7) wr (w5.setCells g7 (n1 * 130) (dl d5)) := (Chg.of_below HG5.out.2.2 _).trans (Chg.setCells _ _ _) (fun _ _ h => h)
        have HW6 := Aside0.mk (And.intro hw6 hch)
        clear hw6 hch hst HC6
        generalize w5.setCells g7 (n1 * 130) (dl d5) = w6 at HW6 ⊢
        go_wp2
        have hg6 : g6 ≠ g7 := by
          obtain ⟨cs, hc, _⟩ := hH.out.2.2.1
          exact blk_ne hc hH.out.2.1.2 (by decide)
        refine ⟨⟨k + 1, ds.set n1 d5, ⟨hk, HW6.out.1, hH.out.2.2.1.move (HW6.out.2.block g6 hH.out.2.2.1.lt hg6), hH.out.2.2.2.1.trans (HW6.out.2.below hH.out.2.2.2.1.size (fun j e => by have := HY.out.2.2.2.2; omega)), hH.out.2.2.2.2.1.chg HW6.out.2 (fun j hj e => ?_), fun j h hj hf => ?_⟩, by go_num⟩, by simp [intOf]; omega⟩
        · obtain ⟨cells, hc⟩ := hH.out.2.2.2.2.1.typed hj
          subst e
          exact blk_ne hc hH.out.2.1.2 (by decide) rfl
        · by_cases e : l[j].f1.toNat = n1
          · rw [e]
            have e2 : (ds.set n1 d5).getD n1 Dst.zero = d5 := by
              rw [List.getD_eq_getElem?_getD, List.getElem?_set_self (by rw [hH.out.2.1.1]; omega)]; rfl
            rw [e2]
            exact ⟨HG5.out.1, HG5.out.2.1⟩
          · have e2 : (ds.set n1 d5).getD l[j].f1.toNat Dst.zero = ds.getD l[j].f1.toNat Dst.zero := by
              rw [List.getD_eq_getElem?_getD, List.getElem?_set_ne (fun e' => e e'.symm), List.getD_eq_getElem?_getD]
            rw [e2]
            refine hH.out.2.2.2.2.2 j h ?_ hf
            by_cases e3 : j = k
            · subst e3
              exfalso
              rw [← hx.out, HX2.out] at e
              exact e (by omega)
            · omega
      · have hbe : (x.f0 == (n : Int)) = false := by rw [beq_eq_false_iff_ne]; exact he
        have HE := Aside0.mk he
        clear he
        go_wp2
        refine ⟨⟨k + 1, ds, ⟨hk, hH.out.2.1, hH.out.2.2.1, hH.out.2.2.2.1, hH.out.2.2.2.2.1, fun j h hj hf => ?_⟩, by go_num⟩, by simp [intOf]; omega⟩
        by_cases e : j = k
        · subst e
          rw [← hx.out] at hf
          exact absurd hf HE.out
        · exact hH.out.2.2.2.2.2 j h (by omega) hf
    · have hk2 : ¬ ((k : Int) < l.length) := by omega
      have hds : ∀ a ∈ l, a.f0 = n → Exact l a.f1.toNat (ds.getD a.f1.toNat Dst.zero) ∧ CB 7900000000000 (ds.getD a.f1.toNat Dst.zero) := fun a ha hf => by
        obtain ⟨j, hj, rfl⟩ := List.mem_iff_getElem.1 ha
        exact hH.out.2.2.2.2.2 j hj (by omega) hf
      have HDS := Aside0.mk hds
      clear hds hk
      go_wp2
      clear hk2
      obtain ⟨w9, rfl⟩ : ∃ x, x = wr := ⟨_, rfl⟩
      go_loopw [5, 9] (fun s5 s9 wr => ∃ (t : Nat) (v : Value) (rs : List S63), Aside0 (1 ≤ t ∧ t ≤ 65 ∧ ABlk wr g7 ds ∧ DBlk wr g6 d ∧ Below w.heap.size w wr ∧ FRow enc63 3 63 wr w.heap.size v rs ∧ rs.length < t ∧ RtOk l n t rs) ∧ s9 = .int .i64 t ∧ v = s5) (fun _ i _ => 65 - (intOf i).toNat)
      case atStart => exact ⟨1, v0, [], ⟨by omega, by omega, hH.out.2.1, hH.out.2.2.1, hH.out.2.2.2.1, hH.out.2.2.2.2.1, by simp, RtOk.nil l n⟩, rfl, rfl⟩
      case round =>
        obtain ⟨t, v, rs, hT, rfl, rfl⟩ := hrel
        have htm : (t : Int) ≤ 65 := by have := hT.out.2.1; omega
        by_cases ht : (t : Int) ≤ 64
        · by_cases hte : t = n
          · have hb1 : ((t : Int) == (n : Int)) = true := by rw [beq_iff_eq]; omega
            have hb2 : (t == n) = true := by rw [beq_iff_eq]; exact hte
            have hR := hT.out.2.2.2.2.2.2.2.skip HD.out.1 (.inl hte)
            have HR := Aside0.mk hR
            clear hte hR
            go_wp2
            exact ⟨⟨t + 1, v, rs, ⟨by omega, by omega, hT.out.2.2.1, hT.out.2.2.2.1, hT.out.2.2.2.2.1, hT.out.2.2.2.2.2.1, by have := hT.out.2.2.2.2.2.2.1; omega, by have := HR.out; rwa [Int.natCast_succ]⟩, by go_num, rfl⟩, by simp [intOf]; omega⟩
          · have hb1 : ((t : Int) == (n : Int)) = false := by rw [beq_eq_false_iff_ne]; omega
            have hb2 : (t == n) = false := by rw [beq_eq_false_iff_ne]; exact hte
            have HTE := Aside0.mk hte
            clear hte
            have hc := hT.out.2.2.2.1.cell t (by omega)
            have r1 := hc.2.1
            have hl6 := hT.out.2.2.2.1.lt
            have hti : (t : Int) < 65 := by omega
            clear hc
            cases hr : d.r t with
            | false =>
              rw [hr] at r1
              have hR := hT.out.2.2.2.2.2.2.2.skip HD.out.1 (.inr hr)
              have HR := Aside0.mk hR
              clear hR hr
              go_wp2
              exact ⟨⟨t + 1, v, rs, ⟨by omega, by omega, hT.out.2.2.1, hT.out.2.2.2.1, hT.out.2.2.2.2.1, hT.out.2.2.2.2.2.1, by have := hT.out.2.2.2.2.2.2.1; omega, by have := HR.out; rwa [Int.natCast_succ]⟩, by go_num, rfl⟩, by simp [intOf]; omega⟩
            | true =>
              rw [hr] at r1
              have HRT := Aside0.mk hr
              clear hr
              go_wp2
              clear r1 hl6 hb1 hb2
              obtain ⟨w8, rfl⟩ : ∃ x, x = wr := ⟨_, rfl⟩
              go_loopw [10, 11] (fun s10 s11 wq => ∃ (m : Nat) (via : Int), Aside0 (m ≤ l.length ∧ ABlk wq g7 ds ∧ DBlk wq g6 d ∧ Below w.heap.size w wq ∧ FRow enc63 3 63 wq w.heap.size v rs ∧ Via l n t (d.c t) (fun i => ds.getD i Dst.zero) m via) ∧ s11 = .int .i64 ((m : Int) - 1) ∧ s10 = .int .i64 via) (fun _ i _ => (intOf i + 1).toNat)
              case atStart => exact ⟨l.length, 0, ⟨by omega, hT.out.2.2.1, hT.out.2.2.2.1, hT.out.2.2.2.2.1, hT.out.2.2.2.2.2.1, Via.start⟩, rfl, rfl⟩
              case round =>
                obtain ⟨m, via, hM, he, rfl⟩ := hrel
                cases m with
                | zero =>
                  have he2 := he.trans (show Value.int .i64 (((0 : Nat) : Int) - 1) = .int .i64 (-1) from rfl)
                  clear he
                  subst he2
                  have hl6 := hM.out.2.2.1.lt
                  have hc := hM.out.2.2.1.cell t (by omega)
                  have q1 := hc.1
                  have hti : (t : Int) < 65 := by omega
                  have hrl : rs.length ≤ 64 := by have := hT.out.2.2.2.2.2.2.1; omega
                  clear hc
                  obtain ⟨dt, hdt⟩ : ∃ x, Aside0 (x = d.c t) := ⟨_, ⟨rfl⟩⟩
                  rw [← hdt.out] at q1
                  go_wp2_with (at_builtin; refine wpList_append_flat lays63 w.heap.size rfl (.tmp 108) (.tmp 116) 65 63 (.agg #[.int .i64 0, .int .i64 0, .int .u64 0]) 24 rfl Try.underlying65 info63 rfl (by decide) (by decide) v rs ⟨t, via, dt⟩ wr.heap.size rfl rfl (heap_alloc_new _ _) (FRow.below hM.out.2.2.2.2.1 (below_alloc (Below.refl _ _) _)) (by have := hM.out.2.2.2.1.size; simp; omega) (by omega) ?_; intro v2 w6 hv2 hg2 hat2)
                  have hrow := hM.out.2.2.2.2.1
                  have n7 : v.ownBlock ≠ some g7 := hrow.ne_block hM.out.2.1.2 (by decide)
                  have n6 : v.ownBlock ≠ some g6 := by
                    obtain ⟨cs, hc, _⟩ := hM.out.2.2.1
                    exact hrow.ne_block hc (by decide)
                  have l7 := hM.out.2.1.lt
                  have l6 := hM.out.2.2.1.lt
                  refine ⟨⟨t + 1, v2, rs ++ [⟨t, via, dt⟩], ⟨by omega, by omega, ?_, ?_, ?_, hv2, by have := hT.out.2.2.2.2.2.2.1; simp; omega, ?_⟩, by go_num, rfl⟩, by simp [intOf]; omega⟩
                  · exact (hM.out.2.1.below (below_alloc (Below.refl _ _) _)).move (hg2.block g7 (by simp; omega) (fun e1 => n7 e1.symm))
                  · exact (hM.out.2.2.1.below (below_alloc (Below.refl _ _) _)).move (hg2.block g6 (by simp; omega) (fun e1 => n6 e1.symm))
                  · exact (hM.out.2.2.2.1.alloc hM.out.2.2.2.1.size _).grown hg2 (by have := hM.out.2.2.2.1.size; simp; omega) (fun k hk => hrow.ge hk)
                  · rw [hdt.out, Int.natCast_succ]
                    exact hT.out.2.2.2.2.2.2.2.add HO.out hT.out.1 HD.out.1 HD.out.2 (fun a ha hf => (HDS.out a ha hf).1) HRT.out HTE.out hM.out.2.2.2.2.2
                | succ j =>
                  have he2 := he.trans (show Value.int .i64 (((j + 1 : Nat) : Int) - 1) = .int .i64 j by congr 1; omega)
                  clear he
                  subst he2
                  have hj : j < l.length := by have := hM.out.1; omega
                  have hjm : (j : Int) ≤ 112 := by omega
                  obtain ⟨ad, rfl, a0', a1', a2'⟩ := at_T31 HA.out (j : Int) (by omega) (by omega)
                  have hb : Below w.heap.size w wr := hM.out.2.2.2.1
                  have a0 := (hb.cell (World.block_lt_of_cell? w _ a0')).trans a0'
                  have a1 := (hb.cell (World.block_lt_of_cell? w _ a1')).trans a1'
                  clear a0' a1' a2' hb
                  obtain ⟨x, hx⟩ : ∃ x, Aside0 (x = l[j]) := ⟨_, ⟨rfl⟩⟩
                  rw [show rd_T31 l (j : Int) = x from (ar_get hj).trans hx.out.symm] at a0 a1
                  simp only [Int.toNat_natCast] at a0 a1
                  have hxo : ArcOk x := HO.out.1 x (by rw [hx.out]; exact List.getElem_mem _)
                  obtain ⟨n1, hn1⟩ : ∃ n : Nat, x.f1 = n := ⟨x.f1.toNat, by have := hxo.2.1; omega⟩
                  have hb1 : 1 ≤ (n1 : Int) ∧ (n1 : Int) ≤ 64 := by have := hxo.2.1; omega
                  rw [hn1] at a1
                  have HX2 := Aside0.mk (And.intro hn1 hxo.2.2.2)
                  clear hn1 hxo
                  have hji : (j : Int) < l.length := by omega
                  have hn1i : (n1 : Int) < 65 := by omega
                  obtain ⟨dd, hdd⟩ : ∃ x, Aside0 (x = ds.getD n1 Dst.zero) := ⟨_, ⟨rfl⟩⟩
                  have HRG := Aside0.mk (hM.out.2.1.range n1 (by omega))
                  rw [← hdd.out] at HRG
                  have hzd : Try.zeroCells113 = Z113 := by kernel_rfl
                  go_upto_region 18 with (first
                    | (refine wpList_load_mid rfl 113 (.tmp 70) rfl g7 (n1 * 130) rfl (dl dd) _ HRG.out Try.underlying113 rfl (dl_infoL dd) ?_)
                    | (refine wpList_store_rowTo rfl 113 (.tmp 12) (.tmp 71) rfl rfl wr.heap.size (dl dd).toArray rfl rfl 113 Z113 (by exact heap_alloc_new _ _) (dl_info dd) (by exact dl_size dd) (dl_one dd) ?_))
                  have hX : DBlk ((wr.alloc (.cells Z113 113)).setRow wr.heap.size (dl dd).toArray) wr.heap.size dd ∧ Below wr.heap.size wr ((wr.alloc (.cells Z113 113)).setRow wr.heap.size (dl dd).toArray) := ⟨DBlk_dl (setRow_heap _ _ _ _ _ _ (heap_alloc_new _ _)), below_setRow (below_alloc (Below.refl _ _) _) (Nat.le_refl _) _⟩
                  have HX4 := Aside0.mk (And.intro hX.1 (And.intro (hM.out.2.1.below hX.2) (And.intro (hM.out.2.2.1.below hX.2) (And.intro (hM.out.2.2.2.1.trans (hX.2.mono hM.out.2.2.2.1.size)) (FRow.below hM.out.2.2.2.2.1 hX.2)))))
                  clear hX hzd a0 a1
                  generalize (wr.alloc (.cells Z113 113)).setRow wr.heap.size (dl dd).toArray = w4 at HX4 ⊢
                  generalize wr.heap.size = b12 at HX4 ⊢
                  obtain ⟨ad', had, a0', a1', a2'⟩ := at_T31 HA.out (j : Int) (by omega) (by omega)
                  obtain rfl : ad = ad' := Option.some.inj had
                  have hb : Below w.heap.size w w4 := HX4.out.2.2.2.1
                  have a0 := (hb.cell (World.block_lt_of_cell? w _ a0')).trans a0'
                  have a1 := (hb.cell (World.block_lt_of_cell? w _ a1')).trans a1'
                  have a2 := (hb.cell (World.block_lt_of_cell? w _ a2')).trans a2'
                  clear a0' a1' a2' hb had
                  rw [show rd_T31 l (j : Int) = x from (ar_get hj).trans hx.out.symm] at a0 a1 a2
                  simp only [Int.toNat_natCast] at a0 a1 a2
                  rw [HX2.out.1] at a1
                  have HA1 := Aside0.mk a1
                  clear a1
                  have hc := HX4.out.1.cell t (by omega)
                  have r12 := hc.2.1
                  have q12 := hc.1
                  have hc6 := HX4.out.2.2.1.cell t (by omega)
                  have q6 := hc6.1
                  have l12 := HX4.out.1.lt
                  have l6 := HX4.out.2.2.1.lt
                  clear hc hc6
                  obtain ⟨cd, hcd⟩ : ∃ c, Aside0 (c = dd.c t) := ⟨_, ⟨rfl⟩⟩
                  obtain ⟨dt, hdt⟩ : ∃ c, Aside0 (c = d.c t) := ⟨_, ⟨rfl⟩⟩
                  obtain ⟨rt, hrt⟩ : ∃ c, Aside0 (c = dd.r t) := ⟨_, ⟨rfl⟩⟩
                  rw [← hrt.out] at r12
                  rw [← hcd.out] at q12
                  rw [← hdt.out] at q6
                  have hti : (t : Int) < 65 := by omega
                  have hjl : (j : Int) < l.length := hji
                  have hhit : Aside0 (Hit l n t (d.c t) (fun i => ds.getD i Dst.zero) l[j] ↔ x.f0 = n ∧ rt = true ∧ x.f2 + cd = dt) := ⟨by
                    unfold Hit
                    rw [← hx.out, HX2.out.1, Int.toNat_natCast]
                    simp only
                    rw [← hdd.out, hrt.out, hcd.out, hdt.out]⟩
                  have hmiss : Aside0 (¬ (x.f0 = n ∧ rt = true ∧ x.f2 + cd = dt) → Via l n t (d.c t) (fun i => ds.getD i Dst.zero) j via) := ⟨fun h => hM.out.2.2.2.2.2.miss hj (fun h2 => h (hhit.out.1 h2))⟩
                  by_cases he : x.f0 = n
                  · have hbe : (x.f0 == (n : Int)) = true := by rw [beq_iff_eq]; exact he
                    have hcdb : 0 ≤ cd ∧ cd ≤ 7900000000000 := by
                      have := (HDS.out x (by rw [hx.out]; exact List.getElem_mem _) he).2 t
                      rw [HX2.out.1, Int.toNat_natCast, ← hdd.out, ← hcd.out] at this
                      exact this
                    have HE := Aside0.mk (And.intro he hcdb)
                    clear he hcdb
                    cases rt with
                    | false =>
                      have hv := hmiss.out (by simp)
                      have HV := Aside0.mk hv
                      clear hv
                      go_quiet (fail)
                      go_wp2
                      exact ⟨⟨j, via, ⟨by omega, HX4.out.2.1, HX4.out.2.2.1, pw_below_drewN HX4.out.2.2.2.1 nq, HX4.out.2.2.2.2, HV.out⟩, rfl, rfl⟩, by first | (simp [intOf]; done) | (simp [intOf]; omega)⟩
                    | true =>
                      have hf2 : 0 ≤ x.f2 ∧ x.f2 ≤ 1073741824 := by have := HX2.out.2; omega
                      have hwr := wrapU x.f2 hf2.1 hf2.2
                      by_cases hq : x.f2 + cd = dt
                      · have hqb : (x.f2 + cd == dt) = true := by rw [beq_iff_eq]; exact hq
                        have hv := Via.hit hj (hhit.out.2 ⟨HE.out.1, rfl, hq⟩)
                        rw [← hx.out, HX2.out.1] at hv
                        have HV := Aside0.mk hv
                        clear hq hv
                        have a1 := HA1.out
                        go_quiet ((go_at_call 60; exact Calls.quiet_of_same (ref22_Add.same x.f2 cd _ hf2.1 (by omega) HE.out.2.1 (by have := HE.out.2.2; omega))))
                        go_wp2
                        exact ⟨⟨j, n1, ⟨by omega, HX4.out.2.1, HX4.out.2.2.1, pw_below_drewN HX4.out.2.2.2.1 nq, HX4.out.2.2.2.2, HV.out⟩, rfl, rfl⟩, by first | (simp [intOf]; done) | (simp [intOf]; omega)⟩
                      · have hqb : (x.f2 + cd == dt) = false := by rw [beq_eq_false_iff_ne]; exact hq
                        have hv := hmiss.out (fun h => hq h.2.2)
                        have HV := Aside0.mk hv
                        clear hq hv
                        go_quiet ((go_at_call 60; exact Calls.quiet_of_same (ref22_Add.same x.f2 cd _ hf2.1 (by omega) HE.out.2.1 (by have := HE.out.2.2; omega))))
                        go_wp2
                        exact ⟨⟨j, via, ⟨by omega, HX4.out.2.1, HX4.out.2.2.1, pw_below_drewN HX4.out.2.2.2.1 nq, HX4.out.2.2.2.2, HV.out⟩, rfl, rfl⟩, by first | (simp [intOf]; done) | (simp [intOf]; omega)⟩
                  · have hbe : (x.f0 == (n : Int)) = false := by rw [beq_eq_false_iff_ne]; exact he
                    have hv := hmiss.out (fun h => he h.1)
                    have HV := Aside0.mk hv
                    clear hv he
                    go_quiet (fail)
                    go_wp2
                    exact ⟨⟨j, via, ⟨by omega, HX4.out.2.1, HX4.out.2.2.1, pw_below_drewN HX4.out.2.2.2.1 nq, HX4.out.2.2.2.2, HV.out⟩, rfl, rfl⟩, by first | (simp [intOf]; done) | (simp [intOf]; omega)⟩
        · obtain rfl : t = 65 := by have := hT.out.2.1; omega
          have ht2 : ¬ ((65 : Int) ≤ 64) := by omega
          clear ht
          go_wp2
          go_ret
          exact ⟨v, rs, rfl, hT.out.2.2.2.2.2.1, hT.out.2.2.2.2.1, by have := hT.out.2.2.2.2.2.2.1; omega, hT.out.2.2.2.2.2.2.2⟩
end Go.Proofs.Ytinkhlfmjfahpaa.PLoadKeeps
