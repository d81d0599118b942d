/- The heap's Take within a walk; a map's keys, sorted. -/
import Derived.Test.YtinkhlfmjfahpaaRa
import Derived.Deep.LoopGhost
namespace Go.Proofs.Ytinkhlfmjfahpaa.PLoadKeeps
open Go.RowKit Go.MapKept Go.Proofs.YtinkhlfmjfahpaaW.PrintWords Go.Proofs.YtinkhlfmjfahpaaW.PrintLast Go.Proofs.YtinkhlfmjfahpaaW.PrintMore
set_option linter.unusedVariables false
set_option linter.unusedSimpArgs false

section
variable {B : Nat} {W W' : World} {pw : Nat} {root : Int} {kb db ph : Nat} {K : Known} {D D' : Int → Bool} {v : Value} {xs : List S94}
theorem WalkW.chg (h : WalkW B W pw root kb db ph K D v xs) {S : Nat → Prop} (hc : Chg S W W') (h1 : ¬ S pw) (h2 : ¬ S kb) (h3 : ¬ S db) (h4 : ¬ S ph) (h5 : ∀ k, v.ownBlock = some k → ¬ S k) : WalkW B W' pw root kb db ph K D v xs :=
  ⟨hc.blk h.blk h1, h.known.chg hc h2, h.done.chg hc h3, hc.blk h.hp h4, h.row.chg hc h5, h.ne, h.ge, Nat.le_trans h.lt hc.size⟩
/-- A store to a spot's own block. -/
theorem WalkW.spot (h : WalkW B W pw root kb db ph K D v xs) {b : Nat} {cs : Array Value} (hb : W.heap[b]? = some (.cells cs 94 (0, 0))) (hv : v.ownBlock ≠ some b) (hc : Chg (fun k => k = b) W W') : WalkW B W' pw root kb db ph K D v xs :=
  h.chg hc (fun e => blk_ne h.blk hb (by decide) e) (h.known.ne_cells hb) (h.done.ne_cells hb) (fun e => blk_ne h.hp hb (by decide) e) (fun k hk e => hv (e ▸ hk))
theorem WalkW.marks (h : WalkW B W pw root kb db ph K D v xs) (hm : IMap W' db (encD D')) (hc : Chg (fun j => j = db) W W') : WalkW B W' pw root kb db ph K D' v xs ∧ WF kb db ph v W W' v := by
  have hv : ∀ k, v.ownBlock = some k → ¬ k = db := fun k hk e => by
    obtain ⟨cells, hcc⟩ := h.row.typed hk
    exact h.done.ne_cells hcc e.symm
  exact ⟨⟨hc.blk h.blk (fun e => h.done.ne_cells h.blk e.symm), h.known.chg hc h.ne, hm, hc.blk h.hp (fun e => h.done.ne_cells h.hp e.symm), h.row.chg hc hv, h.ne, h.ge, Nat.le_trans h.lt hc.size⟩, ⟨hc.mono (fun k _ hk => .inr (.inl hk)), .inl rfl⟩⟩
end

theorem WalkW.spot_kept {B : Nat} {W W' : World} {pw : Nat} {root : Int} {kb db ph : Nat} {K : Known} {D : Int → Bool} {v v' : Value} {xs : List S94} (h : WalkW B W pw root kb db ph K D v xs) {b : Nat} {cs : Array Value} (hb : W.heap[b]? = some (.cells cs 94 (0, 0))) (hv : v.ownBlock ≠ some b) (hf : WF kb db ph v W W' v') : W'.heap[b]? = some (.cells cs 94 (0, 0)) ∧ v'.ownBlock ≠ some b := by
  refine ⟨hf.chg.blk hb ?_, fun e => ?_⟩
  · rintro (e | e | e | e)
    · exact h.known.ne_cells hb e.symm
    · exact h.done.ne_cells hb e.symm
    · exact blk_ne h.hp hb (by decide) e.symm
    · exact hv e
  · rcases hf.at_ with e2 | ⟨c, e2, hc⟩
    · exact hv (e2 ▸ e)
    · rw [e] at e2; injection e2 with e2; have := blk_lt hb; omega
/-- A walk's start. -/
theorem walk_start (wr w2 : World) (root : Int) (ph : Nat) (v : Value) (xs : List S94) (o : Array Value) (hN : NewHeap (((wr.alloc (.map #[] 0)).alloc (.map #[] 0)).alloc (.cells o 94)) w2 ph v xs) :
    WalkW wr.heap.size (w2.alloc (.cells #[.int .i64 root, .map (some wr.heap.size), .map (some (wr.heap.size + 1)), .pointer (some ⟨ph, 0, none⟩)] 96)) w2.heap.size root wr.heap.size (wr.heap.size + 1) ph (fun _ => none) (fun _ => false) v xs ∧
    Below wr.heap.size wr (w2.alloc (.cells #[.int .i64 root, .map (some wr.heap.size), .map (some (wr.heap.size + 1)), .pointer (some ⟨ph, 0, none⟩)] 96)) := by
  have hs : (((wr.alloc (.map #[] 0)).alloc (.map #[] 0)).alloc (.cells o 94)).heap.size = wr.heap.size + 3 := by simp
  have hb := hN.below
  have hge := hN.ge
  have hsz := hN.below.size
  rw [hs] at hge hsz
  have hbw : Below w2.heap.size w2 (w2.alloc (.cells #[.int .i64 root, .map (some wr.heap.size), .map (some (wr.heap.size + 1)), .pointer (some ⟨ph, 0, none⟩)] 96)) := below_alloc (Below.refl _ _) _
  have hb2 : Below wr.heap.size wr w2 := (below_alloc (below_alloc (below_alloc (Below.refl _ _) _) _) _).trans (hb.mono (by rw [hs]; omega))
  refine ⟨⟨heap_alloc_new _ _, ?_, ?_, blk_alloc hN.ptr _, ?_, by omega, ⟨by omega, Nat.le_refl _, by omega, by omega⟩, by simp; omega⟩, hb2.trans (hbw.mono (by omega))⟩
  · exact (((((IMap.made wr).below (below_alloc (Below.refl _ _) _)).below (below_alloc (Below.refl _ _) _)).below hb).below hbw)
  · have h := IMap.made (wr.alloc (.map #[] 0))
    rw [show (wr.alloc (.map #[] 0)).heap.size = wr.heap.size + 1 by simp] at h
    exact ((h.below (below_alloc (Below.refl _ _) _)).below hb).below hbw
  · exact FRow.below (ownsRow_base_a hN.row (by rw [hs]; omega)) hbw

/-- What a Take has left. -/
def Taken (l : List S31) (root : Int) (t : Nat) (K : Known) (D : Int → Bool) (xs' : List S94) (n : Int) (ok : Bool) : Prop :=
  if ok = true then ∃ xs, Dij l root t K D xs ∧ 0 < xs.length ∧ n = (sp xs 0).f1 ∧ xs' = htake xs else Dij l root t K D [] ∧ xs' = []
def TakePost (l : List S31) (B : Nat) (W : World) (pw : Nat) (root : Int) (kb db ph : Nat) (K : Known) (D : Int → Bool) (v : Value) (t : Nat) (e : Ending) (w' : World) : Prop :=
  ∃ (c n : Int) (ok : Bool) (xs' : List S94) (v' : Value), e = .returned (.tuple #[.agg #[.int .u64 c, .int .i64 n], .bool ok]) ∧ Aside0 (Taken l root t K D xs' n ok ∧ WalkW B w' pw root kb db ph K D v' xs' ∧ WF kb db ph v W w' v')

theorem walk_take.calls (l : List S31) (B : Nat) (W : World) (pw : Nat) (root : Int) (kb db ph : Nat) (K : Known) (D : Int → Bool) (v : Value) (xs : List S94) (t : Nat) (hW : WalkW B W pw root kb db ph K D v xs) (hD : Dij l root t K D xs) (hn : l.length ≤ 100000) :
    Calls Try.prog 50 #[.pointer (some ⟨ph, 0, none⟩)] W (TakePost l B W pw root kb db ph K D v t) := by
  have hb := hD.bound
  by_cases h0 : 0 < xs.length
  · refine (heap_Take.calls W B ph v xs hW.hp hW.row hW.lt (by omega) h0).mono ?_
    rintro e w' ⟨rfl, v', hH⟩
    obtain ⟨h1, h2⟩ := hW.heaped hH
    exact ⟨_, _, true, _, v', rfl, ⟨by unfold Taken; rw [if_pos rfl]; exact ⟨xs, hD, h0, rfl, rfl⟩, h1, h2⟩⟩
  · obtain rfl : xs = [] := List.eq_nil_of_length_eq_zero (by omega)
    obtain ⟨A, c, rfl, _⟩ := hW.row.slice
    refine (heap_Take.nothing W ph A c hW.hp).mono ?_
    rintro e w' ⟨rfl, hb⟩
    exact ⟨_, _, false, _, _, rfl, ⟨by unfold Taken; rw [if_neg (by simp)]; exact ⟨hD, rfl⟩, hW.below hb, WF.of_below hb⟩⟩
theorem Dij.next {l : List S31} {root : Int} {t : Nat} {K : Known} {D : Int → Bool} {xs' : List S94} {n : Int} (h : Taken l root t K D xs' n true) :
    (D n = true → Dij l root (t + 1) K D xs') ∧ (D n = false → Dij l root (t + 1) (spreadS root n (setD D n) (outs l n) (K, xs')).1 (setD D n) (spreadS root n (setD D n) (outs l n) (K, xs')).2) ∧ t ≤ l.length ∧ xs'.length + (outs l n).length ≤ 1 + l.length + l.length ∧ (∀ (ha : ∀ a ∈ l, 1 ≤ a.f2 ∧ a.f2 ≤ 1073741824), CostIn (1073741824 * (t : Int)) K) := by
  unfold Taken at h
  rw [if_pos rfl] at h
  obtain ⟨xs, hD, h0, rfl, rfl⟩ := h
  have hb := hD.bound
  have hl := htake_len xs h0
  have ho : (outs l (sp xs 0).f1).length ≤ l.length := List.length_filter_le _ _
  exact ⟨fun h => hD.skip h0 h, fun h => hD.settle h0 h, by omega, by omega, fun ha => hD.cost ha⟩

/-- Between two rounds of the walk. -/
structure L2 (l : List S31) (root : Int) (w1 : World) (pw kb db ph gk : Nat) (K : Known) (D : Int → Bool) (v : Value) (xs : List S94) (t : Nat) (n c : Int) (ok : Bool) (b9 : Nat) (wx : World) : Prop where
  taken : Taken l root t K D xs n ok
  walk : WalkW w1.heap.size wx pw root kb db ph K D v xs
  below : Below w1.heap.size w1 wx
  at_ : wx.heap[b9]? = some (.cells #[.int .u64 c, .int .i64 n] 94 (0, 0))
  ne : v.ownBlock ≠ some b9
  num : t + gk = 2 + l.length
  ge : w1.heap.size ≤ b9
/-- What the tail of a round has left. -/
theorem L2.next {l : List S31} {root : Int} {w1 : World} {pw kb db ph gk : Nat} {K : Known} {D : Int → Bool} {v v' : Value} {xs xs' : List S94} {t : Nat} {n c n' c' : Int} {ok' : Bool} {w5 w7 : World}
    (hW : WalkW w1.heap.size w5 pw root kb db ph K D v xs) (hb : Below w1.heap.size w1 w5) (hnum : t + 1 + gk = 2 + l.length)
    (hT : Taken l root (t + 1) K D xs' n' ok' ∧ WalkW w1.heap.size w7 pw root kb db ph K D v' xs' ∧ WF kb db ph v (w5.alloc (.cells #[.int .u64 c, .int .i64 n] 94)) w7 v') :
    L2 l root w1 pw kb db ph gk K D v' xs' (t + 1) n' c' ok' w5.heap.size ((w7.setCell ⟨w5.heap.size, 0, none⟩ (.int .u64 c')).setCell ⟨w5.heap.size, 1, none⟩ (.int .i64 n')) := by
  obtain ⟨h1, h2, h3⟩ := hT
  have hbb : Below w5.heap.size w5 (w5.alloc (.cells #[.int .u64 c, .int .i64 n] 94)) := below_alloc (Below.refl _ _) _
  have hW6 := hW.below hbb
  have hne : v.ownBlock ≠ some w5.heap.size := fun e => by have := hW.row.lt e; omega
  obtain ⟨h4, h5⟩ := hW6.spot_kept (heap_alloc_new _ _) hne h3
  have hc : Chg (fun k => k = w5.heap.size) w7 ((w7.setCell ⟨w5.heap.size, 0, none⟩ (.int .u64 c')).setCell ⟨w5.heap.size, 1, none⟩ (.int .i64 n')) := (Chg.setCell (S := fun k => k = w5.heap.size) w7 ⟨w5.heap.size, 0, none⟩ _ rfl).trans (Chg.setCell (S := fun k => k = w5.heap.size) _ ⟨w5.heap.size, 1, none⟩ _ rfl) (fun _ _ h => h)
  refine ⟨h1, h2.spot h4 h5 hc, ?_, blk_set (blk_set h4 0 _) 1 _, h5, hnum, hb.size⟩
  exact (hb.trans (hbb.mono hb.size)).trans ((hW6.wbelow h3).trans (hc.below h2.lt (fun k e => e ▸ hb.size)))

/-! ### a map's keys, sorted -/
def enc3 (k : Int) : List Value := [.int .i64 k]
theorem lays3 : Lays enc3 1 := ⟨fun _ => rfl, fun x u hu => by simp [enc3] at hu; rcases hu with rfl; rfl⟩
theorem Try.sortsA (m : Nat) : AnyZI.SortsIn Try.prog Try.sortedA_ren Fence.wide m :=
  ⟨fun blk off cap ss W hH hblk hsz => callsIn_wide.2 (AnyM.slices_Sort_int Try.sortA blk off cap ss W hH hblk hsz),
   fun p cap W => callsIn_wide.2 (AnyM.slices_Sort_int_none Try.sortA p cap W)⟩
theorem maps_Keys.calls (kb : Nat) (W : World) : Calls Try.prog 53 #[.map (some kb)] W fun e w' => e = .returned (.func (.func 74) #[] #[.pointer (some ⟨W.heap.size, 0, none⟩)]) ∧ w' = W.alloc (.cells #[.map (some kb)] 89) :=
  (callsIn_wide (n := 5)).1 (AnyZI.keys_in Try.keysA Fence.wide 5 trivial rfl (some kb) W)
def SortedPost (f : Int → Option Value) (W : World) (e : Ending) (w' : World) : Prop :=
  ∃ (v : Value) (ks : List Int), e = .returned v ∧ Aside0 (ks.Pairwise (· < ·) ∧ (∀ k, k ∈ ks ↔ f k ≠ none) ∧ FRow enc3 1 3 w' W.heap.size v ks ∧ Below W.heap.size W w' ∧ ks.length ≤ 65)
theorem slices_Sorted.calls (kb : Nat) (f : Int → Option Value) (W : World) (h : IMap W kb f) (hk : ∀ k, f k ≠ none → 0 ≤ k ∧ k ≤ 64) :
    Calls Try.prog 52 #[.func (.func 74) #[] #[.pointer (some ⟨W.heap.size, 0, none⟩)]] (W.alloc (.cells #[.map (some kb)] 89)) (SortedPost f W) := by
  obtain ⟨D0, hown, hnd, hmem, hsz⟩ := h.own hk
  refine (callsIn_wide (n := 5)).1 ?_
  have hbl := hown.lt
  have hseq : SeqGives Fence.wide 2 Try.prog 74 #[.pointer (some ⟨W.heap.size, 0, none⟩)] encZ (fun ss => ss.Perm (intKeys D0)) (Maps.size D0) (W.alloc (.cells #[.map (some kb)] 89)) :=
    AnyZI.keys_gives (ρ := Try.keysA_ren) { Try.keysA with } Fence.wide _ trivial rfl (by omega) W.heap.size kb 65 D0 _ (by simp) (by simp) (by
      obtain ⟨es, clock, hb, Ft, hs, hD⟩ := hown
      exact ⟨es, clock, (Below.heap_alloc _ _ kb hbl).trans hb, Ft, hs, hD⟩)
  have cS := AnyZI.sorted_in Try.sortedA Fence.wide 5 trivial trivial trivial trivial rfl (by omega) (Try.sortsA _) (enters_of Try.func73 (by kernel_rfl) rfl) 74 #[.pointer (some ⟨W.heap.size, 0, none⟩)] trivial (enters_of Try.func74 (by kernel_rfl) rfl) _ (Maps.size D0) (by simp only [maxLen]; omega) (by omega) _ hseq
  change CallsIn _ _ Try.prog 52 _ _ _ at cS
  refine cS.mono ?_
  rintro e w' ⟨v, ss, rfl, hS, hrow, hnil, hb⟩
  have hlen : (ss.mergeSort (fun x y => decide (x ≤ y))).length = ss.length := (List.mergeSort_perm ss _).length_eq
  have hp := (List.mergeSort_perm ss (fun x y => decide (x ≤ y))).trans hS
  refine ⟨v, ss.mergeSort (fun x y => decide (x ≤ y)), rfl, ⟨?_, fun k => ?_, ?_, ?_, ?_⟩⟩
  · have h1 : (ss.mergeSort (fun x y => decide (x ≤ y))).Pairwise (fun a b => decide (a ≤ b) = true) := List.pairwise_mergeSort (fun a b c h1 h2 => by simp only [decide_eq_true_eq] at *; omega) (fun a b => by simp only [Bool.or_eq_true, decide_eq_true_eq]; omega) ss
    have h2 : (ss.mergeSort (fun x y => decide (x ≤ y))).Nodup := hp.nodup_iff.2 hnd
    exact (h1.and h2).imp (fun ⟨h3, h4⟩ => by simp only [decide_eq_true_eq] at h3; omega)
  · rw [hp.mem_iff, hmem]
  · unfold FRow
    rw [hlen]
    have e : (ss.mergeSort (fun x y => decide (x ≤ y))).flatMap enc3 = (ss.mergeSort (fun x y => decide (x ≤ y))).map encZ := by
      generalize ss.mergeSort (fun x y => decide (x ≤ y)) = m
      induction m with
      | nil => rfl
      | cons x m ih => rw [List.flatMap_cons, List.map_cons, ih]; rfl
    rw [e]
    exact ownsRow_base_a hrow (by simp)
  · exact ((Below.refl _ W).alloc (Nat.le_refl _) _).trans (hb.mono (by simp))
  · rw [hlen, hS.length_eq]
    have : (intKeys D0).length = Maps.size D0 := by cases D0 <;> simp [intKeys, Maps.size]
    omega
end Go.Proofs.Ytinkhlfmjfahpaa.PLoadKeeps
