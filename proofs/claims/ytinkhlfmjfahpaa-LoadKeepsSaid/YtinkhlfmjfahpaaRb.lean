/- spf.Routes. -/
import Derived.Test.YtinkhlfmjfahpaaRc
namespace Go.Proofs.Ytinkhlfmjfahpaa.PLoadKeeps
open Go.RowKit Go.MapKept Go.Proofs.YtinkhlfmjfahpaaW.PrintWords Go.Proofs.YtinkhlfmjfahpaaW.PrintLast Go.Proofs.YtinkhlfmjfahpaaW.PrintMore
set_option linter.unusedVariables false
set_option linter.unusedSimpArgs false

def enc63 (x : S63) : List Value := [.int .i64 x.f0, .int .i64 x.f1, .int .u64 x.f2]
theorem lays63 : Lays enc63 3 := ⟨fun _ => rfl, fun x u hu => by simp [enc63] at hu; rcases hu with rfl | rfl | rfl <;> rfl⟩
theorem info63 : (Try.prog.info? 63).map (fun i => (i.zero, i.size, i.bytes)) = some (some (.agg #[(.int .i64 0), (.int .i64 0), (.int .u64 0)]), 3, 24) := by kernel_rfl
theorem wasT_some {K : Known} {k : Int} (h : K k ≠ none) : wasT K k = k := by
  unfold wasT
  split
  · rename_i e; exact absurd e h
  · rfl
/-- Rows of routes as the least ways give them. -/
def RoutesOf (l : List S31) (root : Int) (rs : List S63) : Prop :=
  ∃ t K D, Dij l root t K D [] ∧ ∃ ks : List Int, ks.Pairwise (· < ·) ∧ (∀ k, k ∈ ks ↔ K k ≠ none) ∧ rs = ks.map (fun k => ⟨k, wasV K k, wasC K k⟩)
def RPost (w : World) (l : List S31) (root : Int) (e : Ending) (w' : World) : Prop := ∃ v rs, e = .returned v ∧ FRow enc63 3 63 w' w.heap.size v rs ∧ Below w.heap.size w w' ∧ RoutesOf l root rs

theorem IMap.grow {w w1 : World} {b base : Nat} {f g : Int → Option Value} {v : Value} {xs : List S31} (hg : w.grownBy w1 v.ownBlock) (h : IMap w b g) (hv : FRow enc31 3 31 w base v xs) : IMap w1 b g :=
  h.move (hg.block b h.lt (fun e => by
    obtain ⟨cells, hc⟩ := hv.typed e.symm
    exact h.ne_cells hc rfl))
/-- What an arc's taking in leaves. -/
theorem from_step {W w w1 : World} {base b : Nat} {f : Int → Option Value} {l : List S31} {a : S31} {v v1 : Value} (h : FromOf w base f l) (hm : IMap w b f) (hb : Below base W w) (hbs : base ≤ w.heap.size) (hbb : base ≤ b) (hve : v = fv f a.f0)
    (hv : FRow enc31 3 31 w1 base v1 (outs l a.f0 ++ [a])) (hg : w.grownBy w1 v.ownBlock) (hat : v1.ownBlock = v.ownBlock ∨ v1.ownBlock = some w.heap.size) :
    ∃ w2, (Instr.mapUpdate 87 (.map (some b)) (.int .i64 a.f0) v1).run Try.prog w1 = .ok () w2 ∧ Aside0 (Below base W w2 ∧ IMap w2 b (put f a.f0 v1) ∧ FromOf w2 base (put f a.f0 v1) (l ++ [a])) := by
  subst hve
  have hm1 : IMap w1 b f := IMap.grow (f := f) hg hm (h.row a.f0)
  obtain ⟨w2, hr, hm2, hc⟩ := hm1.store (P := Try.prog) Try.underlying87 Try.underlying3 a.f0 v1
  exact ⟨w2, hr, (hb.grown hg hbs (fun k e => (h.row a.f0).ge e)).trans (hc.below (Nat.le_trans hbs hg.size) (fun k e => e ▸ hbb)), hm2, h.step a hv hg hat hc ⟨f, hm1⟩⟩

theorem three_new (w : World) (o o' o2 : Obj) : (((w.alloc o).alloc o').alloc o2).heap[w.heap.size + 2]? = some o2 := by
  have h := heap_alloc_new ((w.alloc o).alloc o') o2
  rw [show ((w.alloc o).alloc o').heap.size = w.heap.size + 2 by simp] at h
  exact h

set_option maxHeartbeats 3200000 in
set_option maxRecDepth 100000 in
theorem spf_Routes.calls (l : List S31) (A : Option Addr) (c : Nat) (root : Int) (w : World) (hA : Kd.C k31 w A l.length l) (hcp : l.length ≤ c) (hok : ArcsOk l) (hn : l.length ≤ 100000) :
    Calls Try.prog 32 #[.slice A l.length c, .int .i64 root] w (RPost w l root) := by
  have HA := Aside0.mk hA
  have HO := Aside0.mk hok
  clear hA hok
  have hmm := @run_makeMap Try.prog
  go_enter Try.func32, Try.ntmps32
  go_wp2_with (go_at_call 48; refine (graph_Check.calls l A c _ HA.out hcp HO.out).mono ?_; rintro e w1 ⟨rfl, hb1⟩)
  have hW1 : Below w.heap.size w (w1.alloc (.map #[] 0)) := hb1.alloc hb1.size _
  have HM0 := Aside0.mk (And.intro hW1 (And.intro (IMap.made w1) hb1.size))
  clear hW1 hb1
  generalize w1.heap.size = mb at HM0 ⊢
  go_loopw [20] (fun i wr => ∃ (k : Nat) (f : Int → Option Value), Aside0 (k ≤ l.length ∧ Below w.heap.size w wr ∧ IMap wr mb f ∧ FromOf wr w.heap.size f (l.take k)) ∧ i = .int .i64 k) (fun i _ => l.length - (intOf i).toNat)
  case atStart => exact ⟨0, fun _ => none, ⟨by omega, HM0.out.1, HM0.out.2.1, FromOf.nil _ _⟩, rfl⟩
  case round =>
    obtain ⟨k, f, hH, rfl⟩ := hrel
    have hb := hH.out.2.1
    have hkm : (k : Int) ≤ 100000 := by have := hH.out.1; omega
    by_cases hk : k < l.length
    · obtain ⟨ad, rfl, h0', h1', h2'⟩ := at_T31 HA.out (k : Int) (by omega) (by omega)
      have h0 := (hb.cell (World.block_lt_of_cell? w _ h0')).trans h0'
      have h1 := (hb.cell (World.block_lt_of_cell? w _ h1')).trans h1'
      have h2 := (hb.cell (World.block_lt_of_cell? w _ h2')).trans h2'
      clear h0' h1' h2'
      obtain ⟨a, ha⟩ : ∃ a, Aside0 (a = ar l k) := ⟨_, ⟨rfl⟩⟩
      rw [show rd_T31 l (k : Int) = a from ha.out.symm] at h0 h1 h2
      simp only [Int.toNat_natCast] at h0 h1 h2
      have HB := Aside0.mk hb
      clear hb
      go_upto_region 7 with fail
      generalize hX : wr.alloc (.cells #[.int .i64 a.f0, .int .i64 a.f1, .int .i64 a.f2] 31) = X
      have hbX : Below wr.heap.size wr X := by rw [← hX]; exact below_alloc (Below.refl _ _) _
      have ha31 : X.heap[wr.heap.size]? = some (.cells #[.int .i64 a.f0, .int .i64 a.f1, .int .i64 a.f2] 31 (0, 0)) := by rw [← hX]; exact heap_alloc_new _ _
      clear hX h0 h1 h2
      have hmX := hH.out.2.2.1.below hbX
      have hfX := hH.out.2.2.2.below hbX
      have hbW : Below w.heap.size w X := HB.out.trans (hbX.mono HB.out.size)
      have HX := Aside0.mk (And.intro hmX (And.intro hfX hbW))
      clear hbX
      generalize hba : wr.heap.size = ba at *
      have hvb : Aside0 (∀ j, (fv f a.f0).ownBlock = some j → j < ba) := ⟨fun j hj => hba ▸ (hH.out.2.2.2.row a.f0).lt hj⟩
      clear hba
      have hbl : ba < X.heap.size := blk_lt ha31
      have q0 : X.cell? ⟨ba, 0, none⟩ = some (.int .i64 a.f0) := (blk_cell ha31 0).trans rfl
      have q1 : X.cell? ⟨ba, 1, none⟩ = some (.int .i64 a.f1) := (blk_cell ha31 1).trans rfl
      have q2 : X.cell? ⟨ba, 2, none⟩ = some (.int .i64 a.f2) := (blk_cell ha31 2).trans rfl
      have hz28 : ∀ w, (zeroValue 28).run Try.prog w = .ok (.slice none 0 0) w := fun w => by kernel_rfl
      have hlk1 := (hmX.below (w1 := X.drew) (by go_grown)).lookup (P := Try.prog) Try.underlying87 Try.underlying3 _ hz28 a.f0 false
      have hlk2 := (hmX.below (w1 := (X.alloc (.cells #[.int .i64 a.f0, .int .i64 a.f1, .int .i64 a.f2] 31)).drew) (by go_grown)).lookup (P := Try.prog) Try.underlying87 Try.underlying3 _ hz28 a.f0 false
      simp only [Bool.false_eq_true, if_false] at hlk1 hlk2
      obtain ⟨v, hv⟩ : ∃ v, Aside0 (v = fv f a.f0) := ⟨_, ⟨rfl⟩⟩
      rw [show (f a.f0).getD (.slice none 0 0) = v from hv.out.symm] at hlk1 hlk2
      have H31 := Aside0.mk ha31
      clear hmX hfX hbW ha31
      have hlen : (outs (l.take k) a.f0).length ≤ 100000 := Nat.le_trans (List.length_filter_le _ _) (by rw [List.length_take]; omega)
      go_region_law (refine step_append_flat lays31 w.heap.size rfl (.tmp 30) (.tmp 32) 28 31 (.agg #[.int .i64 0, .int .i64 0, .int .i64 0]) 24 rfl Try.underlying28 info31 rfl (by decide) (by decide) v (outs (l.take k) a.f0) a X.heap.size rfl rfl (by exact blk_drew (heap_alloc_new _ _)) (by rw [hv.out]; exact (HX.out.2.1.row a.f0).below (by go_grown)) (by have := HX.out.2.2.size; simp; omega) (by omega) ?_; intro v1 w1 hv1 hgr hat; obtain ⟨w5, hrun, hQ⟩ := from_step (W := w) (base := w.heap.size) (b := mb) (HX.out.2.1.below (by go_grown)) (HX.out.1.below (by go_grown)) (HX.out.2.2.trans (Below.mono (B' := w.heap.size) (show Below X.heap.size X _ by go_grown) HX.out.2.2.size)) (by have := HX.out.2.2.size; simp; omega) HM0.out.2.2 hv.out hv1 hgr hat; have r0 : w1.cell? ⟨ba, 0, none⟩ = some (.int .i64 a.f0) := (blk_cell ((hgr.block ba (by simp; omega) (fun e => Nat.lt_irrefl _ (hvb.out ba (hv.out ▸ e.symm)))).trans (blk_drew (blk_alloc H31.out _))) 0).trans rfl; have rl : ba < w1.heap.size := Nat.lt_of_lt_of_le hbl (Nat.le_trans (by simp) hgr.size))
      all_goals
        go_wp2_with fail
        refine ⟨⟨k + 1, _, ⟨hk, hQ.out.1, hQ.out.2.1, ?_⟩, by go_num⟩, by simp [intOf]; omega⟩
        rw [List.take_succ_eq_append_getElem hk, ← ar_get hk, ← ha.out]
        exact hQ.out.2.2
    · have hk2 : ¬ ((k : Int) < l.length) := by omega
      obtain rfl : k = l.length := by have := hH.out.1; omega
      clear hkm hk
      have HB := Aside0.mk hb
      clear hb
      rw [List.take_length] at hH
      obtain ⟨w8, rfl⟩ : ∃ x, x = wr := ⟨_, rfl⟩
      go_wp2_with (first
        | (go_at_call 49; refine (heap_New.calls _ (w8.heap.size + 2) ⟨0, root⟩ (by exact three_new _ _ _ _)).mono ?_; rintro e w2 ⟨ph, v, rfl, hN⟩; have hWk := walk_start _ _ root _ _ _ _ hN)
        | (go_at_call 50; refine (walk_take.calls l w8.heap.size _ w2.heap.size root w8.heap.size (w8.heap.size + 1) ph _ _ v _ 0 hWk.1 .start hn).mono ?_; rintro e w3 ⟨c3, n3, ok3, xs3, v3, rfl, hT⟩))
      have h0 : L2 l root w8 w2.heap.size w8.heap.size (w8.heap.size + 1) ph (2 + l.length) (fun _ => none) (fun _ => false) v3 xs3 0 n3 c3 ok3 w3.heap.size (w3.alloc (.cells #[.int .u64 c3, .int .i64 n3] 94)) := by
        have hbb : Below w3.heap.size w3 (w3.alloc (.cells #[.int .u64 c3, .int .i64 n3] 94)) := below_alloc (Below.refl _ _) _
        have hlt := hT.out.2.1.lt
        refine ⟨hT.out.1, hT.out.2.1.below hbb, (hWk.2.trans (hWk.1.wbelow hT.out.2.2)).trans (hbb.mono hlt), heap_alloc_new _ _, fun e => ?_, by omega, hlt⟩
        have := hT.out.2.1.row.lt e
        omega
      have H0 := Aside0.mk h0
      clear h0 hN hWk
      generalize w3.alloc (.cells #[.int .u64 c3, .int .i64 n3] 94) = wa at H0 ⊢
      generalize w3.heap.size = ba at H0 ⊢
      generalize hpw : w2.heap.size = pw at *
      generalize hkb : w8.heap.size = kb at *
      have HKB := Aside0.mk hkb
      clear hkb hpw
      go_loopg [9, 10] (2 + l.length) (fun gk s9 s10 wx => ∃ (K : Known) (D : Int → Bool) (v : Value) (xs : List S94) (t : Nat) (n c : Int) (ok : Bool) (b9 : Nat), Aside0 (L2 l root w8 pw kb (kb + 1) ph gk K D v xs t n c ok b9 wx) ∧ s9 = .pointer (some ⟨b9, 0, none⟩) ∧ s10 = .bool ok)
      case atStart => exact ⟨_, _, _, _, _, _, _, _, _, H0, rfl, rfl⟩
      case round =>
        obtain ⟨K, D, v, xs, t, n, cc, ok, b9, hL, rfl, rfl⟩ := hrel
        have hWr := hL.out.walk
        have hlr : pw < wr.heap.size := blk_lt hWr.blk
        have hp2 : wr.cell? ⟨pw, 2, none⟩ = some (.map (some (kb + 1))) := (blk_cell hWr.blk 2).trans rfl
        have q1 : wr.cell? ⟨b9, 1, none⟩ = some (.int .i64 n) := (blk_cell hL.out.at_ 1).trans rfl
        have hlb : b9 < wr.heap.size := blk_lt hL.out.at_
        have hz4 : ∀ w, (zeroValue 4).run Try.prog w = .ok (.bool false) w := fun w => by kernel_rfl
        have hlq := fun nq => (hWr.done.below (pw_below_drewN (Below.refl _ _) nq)).lookup (P := Try.prog) Try.underlying90 Try.underlying3 _ hz4 n false
        simp only [Bool.false_eq_true, if_false, encD_was] at hlq
        clear hWr
        cases ok with
        | false =>
          have hf := hL.out.taken
          have hDj : Dij l root t K D [] := by
            unfold Taken at hf
            rw [if_neg (by simp)] at hf
            exact hf.1
          have hkb : ∀ k, encK K k ≠ none → 0 ≤ k ∧ k ≤ 64 := fun k hk => by
            have hk2 : K k ≠ none := fun e => hk (by unfold encK; rw [e]; rfl)
            obtain ⟨a, ha, rfl⟩ := hDj.keys k hk2
            have := (HO.out.1 a ha).2.1
            omega
          obtain ⟨w9, rfl⟩ : ∃ x, x = wr := ⟨_, rfl⟩
          have HJ := Aside0.mk (And.intro hDj hkb)
          have hp1 : w9.cell? ⟨pw, 1, none⟩ = some (.map (some kb)) := (blk_cell hL.out.walk.blk 1).trans rfl
          clear hf hDj hkb hp2 q1 hlb hz4 hlq
          go_wp2_with (first
            | (go_at_call 53; refine (maps_Keys.calls kb _).mono ?_; rintro e w' ⟨rfl, rfl⟩)
            | (go_at_call 52; refine (slices_Sorted.calls kb (encK K) _ hL.out.walk.known HJ.out.2).mono ?_; rintro e w10 ⟨vk, ks, rfl, hS⟩; obtain ⟨A9, c9, rfl, hc9⟩ := hS.out.2.2.1.slice))
          have hbw9 : Below w.heap.size w w9 := HB.out.trans (hL.out.below.mono HB.out.size)
          have hbw : Below w.heap.size w w10 := hbw9.trans (hS.out.2.2.2.1.mono hbw9.size)
          have hI : w10.heap[pw]? = some (.cells #[.int .i64 root, .map (some kb), .map (some (kb + 1)), .pointer (some ⟨ph, 0, none⟩)] 96 (0, 0)) ∧ IMap w10 kb (encK K) ∧ FRow enc3 1 3 w10 w9.heap.size (.slice A9 ks.length c9) ks :=
            ⟨(hS.out.2.2.2.1.block _ (blk_lt hL.out.walk.blk)).trans hL.out.walk.blk, hL.out.walk.known.below hS.out.2.2.2.1, hS.out.2.2.1⟩
          have HI := Aside0.mk (And.intro hbw hI)
          clear hbw hbw9 hI hlr hp1
          go_loopw [11, 91] (fun s11 i wr => ∃ (j : Nat) (v' : Value), Aside0 (j ≤ ks.length ∧ Below w.heap.size w wr ∧ wr.heap[pw]? = some (.cells #[.int .i64 root, .map (some kb), .map (some (kb + 1)), .pointer (some ⟨ph, 0, none⟩)] 96 (0, 0)) ∧ IMap wr kb (encK K) ∧ FRow enc3 1 3 wr w9.heap.size (.slice A9 ks.length c9) ks ∧ FRow enc63 3 63 wr w.heap.size v' ((ks.take j).map (fun k => (⟨k, wasV K k, wasC K k⟩ : S63)))) ∧ i = .int .i64 j ∧ v' = s11) (fun _ i _ => ks.length - (intOf i).toNat)
          case atStart => exact ⟨0, .slice none 0 0, ⟨by omega, HI.out.1, HI.out.2.1, HI.out.2.2.1, HI.out.2.2.2, FRow.nil _ _⟩, rfl, rfl⟩
          case round =>
            obtain ⟨j, v', hR, rfl, rfl⟩ := hrel
            have hjm : (j : Int) ≤ 65 := by have := hR.out.1; have := hS.out.2.2.2.2; omega
            have hkl : (ks.length : Int) ≤ 65 := by have := hS.out.2.2.2.2; omega
            by_cases hj : j < ks.length
            · obtain ⟨g, cp, e, hc9⟩ := hR.out.2.2.2.2.1.form (by omega)
              injection e with eA _ eC
              subst eA; subst eC
              obtain ⟨n1, hn1⟩ : ∃ n1, Aside0 (n1 = ks.getD j 0) := ⟨_, ⟨rfl⟩⟩
              have hc0 : wr.cell? ⟨g, j, none⟩ = some (.int .i64 n1) := by
                have h := (hR.out.2.2.2.2.1.cell lays3 (0 : Int) j 0 hj (by omega)).1
                rw [← hn1.out, Nat.mul_one, Nat.add_zero] at h
                exact h
              have hgl : g < wr.heap.size := hR.out.2.2.2.2.1.lt rfl
              have hkn : K n1 ≠ none := by
                have h1 : n1 ∈ ks := by rw [hn1.out, List.getD_eq_getElem?_getD, List.getElem?_eq_getElem hj]; exact List.getElem_mem _
                have h2 := (hS.out.2.1 n1).1 h1
                exact fun e => h2 (by unfold encK; rw [e]; rfl)
              have hp1 : wr.cell? ⟨pw, 1, none⟩ = some (.map (some kb)) := (blk_cell hR.out.2.2.1 1).trans rfl
              have hlr : pw < wr.heap.size := blk_lt hR.out.2.2.1
              have hz63 : ∀ w, (zeroValue 63).run Try.prog w = .ok (.agg #[.int .i64 0, .int .i64 0, .int .u64 0]) w := fun w => by kernel_rfl
              have hlk := hR.out.2.2.2.1.lookup (P := Try.prog) Try.underlying89 Try.underlying3 _ hz63 n1 false
              rw [encK_was, wasT_some hkn] at hlk
              simp only [Bool.false_eq_true, if_false] at hlk
              have HK := Aside0.mk hkn
              clear hz63 hkn
              go_wp2_with (at_builtin; refine wpList_append_flat lays63 w.heap.size rfl (.tmp 95) (.tmp 102) 65 63 (.agg #[.int .i64 0, .int .i64 0, .int .u64 0]) 24 rfl Try.underlying65 info63 rfl (by decide) (by decide) v' ((ks.take j).map (fun k => (⟨k, wasV K k, wasC K k⟩ : S63))) ⟨n1, wasV K n1, wasC K n1⟩ wr.heap.size rfl rfl (heap_alloc_new _ _) (FRow.below hR.out.2.2.2.2.2 (below_alloc (Below.refl _ _) _)) (by have := hR.out.2.1.size; simp; omega) (by simp; omega) ?_; intro v2 w6 hv2 hg2 hat2)
              have hb6 : Below w.heap.size w w6 := (hR.out.2.1.alloc hR.out.2.1.size _).grown hg2 (by have := hR.out.2.1.size; simp; omega) (fun k hk => hR.out.2.2.2.2.2.ge hk)
              have hbb : Below wr.heap.size wr (wr.alloc (.cells #[.int .i64 n1, .int .i64 (wasV K n1), .int .u64 (wasC K n1)] 63)) := below_alloc (Below.refl _ _) _
              have hrow := hR.out.2.2.2.2.2
              have n0 : v'.ownBlock ≠ some pw := hrow.ne_block hR.out.2.2.1 (by decide)
              have n2 : v'.ownBlock ≠ some kb := fun h => by
                obtain ⟨cells, hc⟩ := hrow.typed h
                exact hR.out.2.2.2.1.ne_cells hc rfl
              have n3 : v'.ownBlock ≠ some g := fun h => by
                obtain ⟨cells, hc⟩ := hrow.typed h
                obtain ⟨cells2, hc2⟩ := hR.out.2.2.2.2.1.typed (k := g) rfl
                exact blk_ne hc hc2 (by decide) rfl
              refine ⟨⟨j + 1, v2, ⟨hj, hb6, ?_, ?_, ?_, ?_⟩, by go_num, rfl⟩, by simp [intOf]; omega⟩
              · exact (hg2.block pw (by simp; omega) (fun e => n0 e.symm)).trans (blk_alloc hR.out.2.2.1 _)
              · exact (hR.out.2.2.2.1.below hbb).move (hg2.block kb (by have := hR.out.2.2.2.1.lt; simp; omega) (fun e => n2 e.symm))
              · exact (FRow.below hR.out.2.2.2.2.1 hbb).move (fun k hk => by
                  obtain rfl : g = k := by simpa [Value.ownBlock] using hk
                  exact hg2.block _ (by simp; omega) (fun e => n3 e.symm))
              · rw [List.take_succ_eq_append_getElem hj, List.map_append]
                have e : ks[j] = n1 := by rw [hn1.out, List.getD_eq_getElem?_getD, List.getElem?_eq_getElem hj]; rfl
                rw [e]
                exact hv2
            · have hj2 : ¬ ((j : Int) < ks.length) := by omega
              have hfin : Aside0 (j = ks.length) := ⟨by have := hR.out.1; omega⟩
              go_wp2
              go_ret
              refine ⟨v', _, rfl, hR.out.2.2.2.2.2, hR.out.2.1, t, K, D, HJ.out.1, ks, hS.out.1, fun k => ?_, ?_⟩
              · rw [hS.out.2.1 k]
                unfold encK
                cases K k <;> simp
              · rw [hfin.out, List.take_length]
        | true =>
          go_upto_region 13 with fail
          go_quiet (fail)
          have hbd : Below wr.heap.size wr (wr.drewN nq) := pw_below_drewN (Below.refl _ _) nq
          have hW2 := hL.out.walk.below hbd
          have hb2 := hL.out.below.trans (hbd.mono hL.out.below.size)
          have h94 : (wr.drewN nq).heap[b9]? = some (.cells #[.int .u64 cc, .int .i64 n] 94 (0, 0)) := hL.out.at_
          obtain ⟨d1, d2, d3, d4, d5⟩ := Dij.next hL.out.taken
          have HN := Aside0.mk (And.intro d1 (And.intro d2 (And.intro d4 d5)))
          have hgk : 1 ≤ gk := by have := hL.out.num; omega
          have hnum : t + 1 + (gk - 1) = 2 + l.length := by have := hL.out.num; omega
          have HG := Aside0.mk (And.intro hgk hnum)
          clear hlr hp2 q1 hlb hlq hbd d1 d2 d3 d4 d5 hgk hnum
          have hne := hL.out.ne
          have HP := Aside0.mk (And.intro hb2 (And.intro h94 hne))
          have HW2 := Aside0.mk hW2
          clear hb2 hL hne
          generalize wr.drewN nq = w2 at HP HW2 hW2 h94 ⊢
          have hlr : pw < w2.heap.size := blk_lt hW2.blk
          have hp1 : w2.cell? ⟨pw, 2, none⟩ = some (.map (some (kb + 1))) := (blk_cell hW2.blk 2).trans rfl
          have hp3 : w2.cell? ⟨pw, 3, none⟩ = some (.pointer (some ⟨ph, 0, none⟩)) := (blk_cell hW2.blk 3).trans rfl
          have q0 : w2.cell? ⟨b9, 0, none⟩ = some (.int .u64 cc) := (blk_cell h94 0).trans rfl
          have q1 : w2.cell? ⟨b9, 1, none⟩ = some (.int .i64 n) := (blk_cell h94 1).trans rfl
          have hlb : b9 < w2.heap.size := blk_lt h94
          clear hW2 h94
          cases hD : D n with
          | true =>
            have hDn := HN.out.1 hD
            have HD2 := Aside0.mk hDn
            clear hDn
            go_wp2_with (go_at_call 50; refine (walk_take.calls l w8.heap.size _ pw root kb (kb + 1) ph _ _ v _ (t + 1) (HW2.out.below (below_alloc (Below.refl _ _) _)) HD2.out hn).mono ?_; rintro e w7 ⟨c7, n7, ok7, xs7, v7, rfl, hT⟩; have hK7 := (HW2.out.below (below_alloc (Below.refl _ _) _)).spot_kept (heap_alloc_new _ _) (fun e => Nat.lt_irrefl _ (HW2.out.row.lt e)) hT.out.2.2; have e0 : w7.cell? ⟨w2.heap.size, 0, none⟩ = some (.int .u64 cc) := (blk_cell hK7.1 0).trans rfl; have e1 : w7.cell? ⟨w2.heap.size, 1, none⟩ = some (.int .i64 n) := (blk_cell hK7.1 1).trans rfl; have e2 : w7.frozen? ⟨w2.heap.size, 0, none⟩ = false := blk_frozen hK7.1 0; have e3 : w7.frozen? ⟨w2.heap.size, 1, none⟩ = false := blk_frozen hK7.1 1; have hl2 : w2.heap.size < w7.heap.size := blk_lt hK7.1)
            go_roundg (gk - 1)
            case measure => have := HG.out.1; omega
            case rel => exact ⟨_, _, _, _, _, _, _, _, _, ⟨L2.next HW2.out HP.out.1 HG.out.2 hT.out⟩, rfl, rfl⟩
          | false =>
            have hDn := HN.out.2.1 hD
            have HD2 := Aside0.mk hDn
            clear hDn
            go_upto_region 14 with fail
            go_still_tail 6, (by kernel_rfl)
            change wpList _ _ _ _ _ w2.drew
            have hbd : Below w2.heap.size w2 w2.drew := (Below.refl _ _).drew
            have hW3 := HW2.out.below hbd
            have hb3 := HP.out.1.trans (hbd.mono HP.out.1.size)
            have h93 : w2.drew.heap[b9]? = some (.cells #[.int .u64 cc, .int .i64 n] 94 (0, 0)) := HP.out.2.1
            clear hlr hp1 hp3 q0 q1 hlb hbd
            have HP3 := Aside0.mk (And.intro hb3 (And.intro h93 hW3))
            have hW3 := HP3.out.2.2
            clear hb3 h93 hW3
            generalize w2.drew = w3 at HP3 ⊢
            obtain ⟨w4, hrun, hm4, hc4⟩ := HP3.out.2.2.done.store (P := Try.prog) Try.underlying90 Try.underlying3 n (.bool true)
            rw [← encD_set] at hm4
            obtain ⟨hW4, hf4⟩ := HP3.out.2.2.marks hm4 hc4
            have hb4 := HP3.out.1.trans (HP3.out.2.2.wbelow hf4)
            obtain ⟨h94, hn4⟩ := HP3.out.2.2.spot_kept HP3.out.2.1 HP.out.2.2 hf4
            have hlr : pw < w4.heap.size := blk_lt hW4.blk
            have q0 : w4.cell? ⟨b9, 0, none⟩ = some (.int .u64 cc) := (blk_cell h94 0).trans rfl
            have q1 : w4.cell? ⟨b9, 1, none⟩ = some (.int .i64 n) := (blk_cell h94 1).trans rfl
            have hlb : b9 < w4.heap.size := blk_lt h94
            have hz28 : ∀ w, (zeroValue 28).run Try.prog w = .ok (.slice none 0 0) w := fun w => by kernel_rfl
            have hlk := (hH.out.2.2.1.below hb4).lookup (P := Try.prog) Try.underlying87 Try.underlying3 _ hz28 n false
            simp only [Bool.false_eq_true, if_false] at hlk
            obtain ⟨A6, c6, hv6, hc6⟩ := (hH.out.2.2.2.row n).slice
            rw [show (f n).getD (.slice none 0 0) = .slice A6 (outs l n).length c6 from hv6] at hlk
            have hrow6 := hH.out.2.2.2.row n
            rw [hv6] at hrow6
            have hC6 : Kd.C k31 w8 A6 (outs l n).length (outs l n) := hrow6.C rfl (fun w x => k31_mk w x) lays31
            have hac : ∀ a ∈ l, 1 ≤ a.f2 ∧ a.f2 ≤ 1073741824 := fun a ha => ⟨(HO.out.1 a ha).2.2.2.1, (HO.out.1 a ha).2.2.2.2⟩
            have hct := (HN.out.2.2.2 hac).was (by omega) n
            have hgn := HG.out
            have HS := Aside0.mk (And.intro hW4 (And.intro hb4 (And.intro h94 (And.intro hn4 (And.intro hC6 (And.intro hac (And.intro hct hgn)))))))
            clear hm4 hc4 hW4 hf4 hb4 h94 hn4 hC6 hac hct hrow6 hz28 hv6 hgn
            go_wp2_with (first
              | (go_at_call 51; refine (spf_spread.calls w8.heap.size w8 w4 pw root kb (kb + 1) ph K (setD D n) v xs A6 c6 (outs l n) n HS.out.1 HS.out.2.2.2.2.1 hc6 (Nat.le_refl _) HS.out.2.1 (by have := HN.out.2.2.1; omega) (fun a ha => HS.out.2.2.2.2.2.1 a (List.mem_filter.1 ha).1) (by have := HS.out.2.2.2.2.2.2.1; have := HS.out.2.2.2.2.2.2.2.2; omega)).mono ?_; rintro e w5 ⟨rfl, v5, hW5, hf5⟩; have hK5 := HS.out.1.spot_kept HS.out.2.2.1 HS.out.2.2.2.1 hf5; have hb5 := HS.out.2.1.trans (HS.out.1.wbelow hf5); clear q0 q1 hlr hlb hlk hrun; have q0 : w5.cell? ⟨b9, 0, none⟩ = some (.int .u64 cc) := (blk_cell hK5.1 0).trans rfl; have q1 : w5.cell? ⟨b9, 1, none⟩ = some (.int .i64 n) := (blk_cell hK5.1 1).trans rfl; have hlb : b9 < w5.heap.size := blk_lt hK5.1; have hlr : pw < w5.heap.size := blk_lt hW5.blk; have hp3 : w5.cell? ⟨pw, 3, none⟩ = some (.pointer (some ⟨ph, 0, none⟩)) := (blk_cell hW5.blk 3).trans rfl; have HW5 := Aside0.mk (And.intro hW5 (And.intro hb5 hK5)); clear hW5 hf5 hb5 hK5)
              | (go_at_call 50; refine (walk_take.calls l w8.heap.size _ pw root kb (kb + 1) ph _ _ v5 _ (t + 1) (HW5.out.1.below (below_alloc (Below.refl _ _) _)) HD2.out hn).mono ?_; rintro e w7 ⟨c7, n7, ok7, xs7, v7, rfl, hT⟩; have hK7 := (HW5.out.1.below (below_alloc (Below.refl _ _) _)).spot_kept (heap_alloc_new _ _) (fun e => Nat.lt_irrefl _ (HW5.out.1.row.lt e)) hT.out.2.2; have e0 : w7.cell? ⟨w5.heap.size, 0, none⟩ = some (.int .u64 cc) := (blk_cell hK7.1 0).trans rfl; have e1 : w7.cell? ⟨w5.heap.size, 1, none⟩ = some (.int .i64 n) := (blk_cell hK7.1 1).trans rfl; have e2 : w7.frozen? ⟨w5.heap.size, 0, none⟩ = false := blk_frozen hK7.1 0; have e3 : w7.frozen? ⟨w5.heap.size, 1, none⟩ = false := blk_frozen hK7.1 1; have hl2 : w5.heap.size < w7.heap.size := blk_lt hK7.1))
            go_roundg (gk - 1)
            case measure => have := HG.out.1; omega
            case rel => exact ⟨_, _, _, _, _, _, _, _, _, ⟨L2.next HW5.out.1 HW5.out.2.1 HG.out.2 hT.out⟩, rfl, rfl⟩
end Go.Proofs.Ytinkhlfmjfahpaa.PLoadKeeps
