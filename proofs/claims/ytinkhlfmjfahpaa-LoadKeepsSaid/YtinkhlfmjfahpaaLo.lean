/- load.Of. -/
import Derived.Test.YtinkhlfmjfahpaaLq
import Derived.Deep.LoopGhost
import Derived.BigRegion
namespace Go.Proofs.Ytinkhlfmjfahpaa.PLoadKeeps
open Go.RowKit Go.MapKept Go.Proofs.YtinkhlfmjfahpaaW.PrintWords Go.Proofs.YtinkhlfmjfahpaaW.PrintLast Go.Proofs.YtinkhlfmjfahpaaW.PrintMore
set_option linter.unusedVariables false
set_option linter.unusedSimpArgs false

/-- The steps of a way. -/
def steps (h : List Int) : List (Int × Int) := h.zip h.tail
def walkE (E : PE) (ps : List (Int × Int)) (a : Int) : PE := ps.foldl (fun E p => bump E p (pget E p + a)) E
/-- What the arcs bear behind some demands. -/
inductive Loaded (l : List S31) : List S35 → PE → Prop
  | nil : Loaded l [] []
  | step {ds : List S35} {E : PE} {d : S35} {h : List Int} {ok : Bool} (k : Loaded l ds E) (w : WayOf l d h ok) : Loaded l (ds ++ [d]) (walkE E (steps h) d.f2)
def InB (c : Int) (E : PE) : Prop := ∀ e ∈ E, 0 ≤ e.2 ∧ e.2 ≤ c
theorem InB.get {c : Int} {E : PE} (h : InB c E) (h0 : 0 ≤ c) (p : Int × Int) : 0 ≤ pget E p ∧ pget E p ≤ c := by
  unfold pget
  split
  · rename_i e he; exact h e (List.mem_of_find?_eq_some he)
  · omega
theorem InB.bump {c : Int} {E : PE} (h : InB c E) {v : Int} (p : Int × Int) {d : Int} (h0 : 0 ≤ v) (h1 : v ≤ d) (hc : c ≤ d) : InB d (bump E p v) := by
  unfold PLoadKeeps.bump
  intro e he
  split at he
  · obtain ⟨x, hx, rfl⟩ := List.mem_map.1 he
    split
    · exact ⟨h0, h1⟩
    · have := h x hx; omega
  · rcases List.mem_append.1 he with he | he
    · have := h e he; omega
    · simp at he; subst he; exact ⟨h0, h1⟩
theorem steps_len (h : List Int) : (steps h).length = h.length - 1 := by simp [steps]
theorem steps_get (h : List Int) (j : Nat) (hj : j + 1 < h.length) : (steps h)[j]? = some (h.getD j 0, h.getD (j + 1) 0) := by
  unfold steps
  rw [List.getElem?_zip_eq_some]
  simp [List.getD_eq_getElem?_getD, List.getElem?_eq_getElem (show j < h.length by omega), List.getElem?_eq_getElem hj]
theorem Chg.setBlock (w : World) (b : Nat) (o : Obj) : Chg (fun i => i = b) w (Go.ChangeMaps.setBlock w b o) :=
  ⟨rfl, rfl, rfl, by simp [Go.ChangeMaps.setBlock], fun i _ hi => by simp [Go.ChangeMaps.setBlock, Ne.symm hi]⟩
theorem WayOf.amt {l : List S31} {d : S35} {h : List Int} {ok : Bool} (w : WayOf l d h ok) (h0 : 0 < h.length) : 1 ≤ d.f2 ∧ d.f2 ≤ 1073741824 := by
  unfold WayOf at w
  split at w
  · assumption
  · rw [w.2] at h0; simp at h0
theorem PMap.chg {w w1 : World} {b : Nat} {E : PE} {S : Nat → Prop} (h : PMap w b E) (hc : Chg S w w1) (hn : ¬ S b) : PMap w1 b E := h.move (hc.block b h.lt hn)
theorem two_new' (w : World) (o o' : Obj) : ((w.alloc o).alloc o').heap[w.heap.size + 1]? = some o' := two_new w o o'
def OPost (w : World) (l : List S31) (ds : List S35) (e : Ending) (w' : World) : Prop :=
  ∃ (v : Value) (E : PE) (out : List S31), e = .returned v ∧ FRow enc31 3 31 w' w.heap.size v out ∧ Below w.heap.size w w' ∧ Loaded l ds E ∧ (∀ x ∈ E, Small x.1) ∧ (E.map (·.1)).Nodup ∧ out.Perm (E.map mkArc) ∧ (∀ i j, i < j → j < out.length → ¬ (Go.Proofs.ltOf cmpA (out.getD j z31) (out.getD i z31) = true))

set_option maxHeartbeats 3200000 in
set_option maxRecDepth 100000 in
theorem load_Of.calls (k0 : Nat) (db : List S39) (A : Option Addr) (c : Nat) (ds : List S35) (Ad : Option Addr) (cd : Nat) (w : World) (hB : BaseOk k0 db w A c) (hD : Kd.C k35 w Ad ds.length ds) (hcd : ds.length ≤ cd) (hn : ds.length ≤ 1000)
    (hsm : ∀ d h ok, WayOf (arcsOf db) d h ok → h.length ≤ 65 ∧ ∀ x ∈ h, 1 ≤ x ∧ x ≤ 64) :
    Calls Try.prog 7 #[.slice A db.length c, .slice Ad ds.length cd] w (OPost w (arcsOf db) ds) := by
  have HB := Aside0.mk hB
  have HD := Aside0.mk hD
  have HS := Aside0.mk hsm
  clear hB hD hsm
  have hn2 : (ds.length : Int) ≤ 1000 := by omega
  have hmin : min (ds.length : Int) 1000 = ds.length := Int.min_eq_left hn2
  have hmax : max (ds.length : Int) 0 = ds.length := Int.max_eq_left (by omega)
  have hmm := @run_makeMap Try.prog
  go_enter Try.func7, Try.ntmps7
  go_wp2_with (go_at_call 13; refine (lsdb_Check.calls k0 A c db 0 _ HB.out.row HB.out.cap HB.out.chk).mono ?_; rintro e w1 ⟨rfl, hb1⟩)
  have hW1 : Below w.heap.size w (w1.alloc (.map #[] 0)) := hb1.alloc hb1.size _
  have HM0 := Aside0.mk (And.intro hW1 (And.intro (PMap.made w1) hb1.size))
  clear hW1 hb1 hmin hmax
  generalize w1.heap.size = mb at HM0 ⊢
  go_loopw [24] (fun i wr => ∃ (k : Nat) (E : PE), Aside0 (k ≤ ds.length ∧ Below w.heap.size w wr ∧ PMap wr mb E ∧ Loaded (arcsOf db) (ds.take k) E ∧ InB (1073741824 * 64 * (k : Int)) E ∧ E.length ≤ 64 * k) ∧ i = .int .i64 k) (fun i _ => ds.length - (intOf i).toNat)
  case atStart => exact ⟨0, [], ⟨by omega, HM0.out.1, HM0.out.2.1, .nil, (fun e he => by cases he), by simp⟩, rfl⟩
  case round =>
    obtain ⟨k, E, hH, rfl⟩ := hrel
    have hb := hH.out.2.1
    have hkm : (k : Int) ≤ 1000 := by have := hH.out.1; omega
    by_cases hk : k < ds.length
    · obtain ⟨ad, rfl, h0', h1', h2'⟩ := at_T35 HD.out (k : Int) (by omega) (by omega)
      have h0 := (hb.cell (World.block_lt_of_cell? w _ h0')).trans h0'
      have h1 := (hb.cell (World.block_lt_of_cell? w _ h1')).trans h1'
      have h2 := (hb.cell (World.block_lt_of_cell? w _ h2')).trans h2'
      clear h0' h1' h2'
      obtain ⟨d, hd⟩ : ∃ d, Aside0 (d = dm ds k) := ⟨_, ⟨rfl⟩⟩
      rw [show rd_T35 ds (k : Int) = d from hd.out.symm] at h0 h1 h2
      simp only [Int.toNat_natCast] at h0 h1 h2
      have hBW := Aside0.mk hb
      clear hb
      go_wp2_with (go_at_call 14; refine (load_way.calls k0 db A c d _ (HB.out.below (hBW.out.alloc hBW.out.size _))).mono ?_; rintro e w3 ⟨v, h, ok, rfl, hr, hb3, hw⟩; obtain ⟨A9, c9, rfl, hc9⟩ := hr.slice)
      have hbw : Below wr.heap.size wr w3 := (below_alloc (Below.refl _ _) _).trans (hb3.mono (by simp))
      have h35 : w3.heap[wr.heap.size]? = some (.cells #[.int .i64 d.f0, .int .i64 d.f1, .int .i64 d.f2] 35 (0, 0)) := (hb3.block _ (by simp)).trans (heap_alloc_new _ _)
      have hlen := (HS.out d h ok hw).1
      have HW := Aside0.mk (And.intro hbw (And.intro hw (And.intro h35 hr)))
      have hPM := hH.out.2.2.1.below hbw
      have HP := Aside0.mk (And.intro hPM hBW.out.size)
      clear hb3 h35 hbw h0 h1 h2 hr hw hPM
      simp only [World.size_alloc] at HW
      generalize hb7 : wr.heap.size = b7 at *
      have HB7 := Aside0.mk hb7
      clear hb7
      go_loopw [10] (fun i wq => ∃ (j : Nat) (E' : PE), Aside0 ((j + 1 ≤ h.length ∨ j = 0) ∧ Below w.heap.size w wq ∧ PMap wq mb E' ∧ E' = walkE E ((steps h).take j) d.f2 ∧ InB (1073741824 * 64 * (k : Int) + 1073741824 * (j : Int)) E' ∧ wq.heap[b7]? = some (.cells #[.int .i64 d.f0, .int .i64 d.f1, .int .i64 d.f2] 35 (0, 0)) ∧ FRow enc3 1 3 wq (b7 + 1) (.slice A9 h.length c9) h ∧ E'.length ≤ 64 * k + j) ∧ i = .int .i64 ((j : Int) + 1)) (fun i _ => h.length - (intOf i).toNat)
      case atStart => exact ⟨0, E, ⟨.inr rfl, hBW.out.trans (HW.out.1.mono HP.out.2), HP.out.1, by simp [walkE], (fun e he => by have := hH.out.2.2.2.2.1 e he; omega), HW.out.2.2.1, HW.out.2.2.2, hH.out.2.2.2.2.2⟩, rfl⟩
      case round =>
        obtain ⟨j, E', hJ, rfl⟩ := hrel
        have hjm : (j : Int) ≤ 64 := by have := hJ.out.1; omega
        by_cases hj : j + 1 < h.length
        · obtain ⟨g, cp, e, hc9⟩ := hJ.out.2.2.2.2.2.2.1.form (by omega)
          injection e with eA _ eC
          subst eA; subst eC
          obtain ⟨n0, hn0⟩ : ∃ n, Aside0 (n = h.getD j 0) := ⟨_, ⟨rfl⟩⟩
          obtain ⟨n1, hn1⟩ : ∃ n, Aside0 (n = h.getD (j + 1) 0) := ⟨_, ⟨rfl⟩⟩
          have c0 : wr.cell? ⟨g, j, none⟩ = some (.int .i64 n0) := by
            have h := (hJ.out.2.2.2.2.2.2.1.cell lays3 (0 : Int) j 0 (by omega) (by omega)).1
            rw [← hn0.out, Nat.mul_one, Nat.add_zero] at h
            exact h
          have c1 : wr.cell? ⟨g, j + 1, none⟩ = some (.int .i64 n1) := by
            have h := (hJ.out.2.2.2.2.2.2.1.cell lays3 (0 : Int) (j + 1) 0 hj (by omega)).1
            rw [← hn1.out, Nat.mul_one, Nat.add_zero] at h
            exact h
          have hgl : g < wr.heap.size := hJ.out.2.2.2.2.2.2.1.lt rfl
          have x2 : wr.cell? ⟨b7, 2, none⟩ = some (.int .i64 d.f2) := (blk_cell hJ.out.2.2.2.2.2.1 2).trans rfl
          have xl : b7 < wr.heap.size := blk_lt hJ.out.2.2.2.2.2.1
          have hjl : (j : Int) + 1 < h.length := by omega
          have q1 : IntKind.i64.wrap ((j : Int) + 1 - 1) = j := by unfold IntKind.wrap; simp [IntKind.bits, IntKind.signed]; omega
          have q2 : ((j : Int) + 1).toNat = j + 1 := by omega
          have hps : Small (n0, n1) := by
            have hx := (HS.out d h ok HW.out.2.1).2
            refine ⟨hx n0 ?_, hx n1 ?_⟩
            · rw [hn0.out, List.getD_eq_getElem?_getD, List.getElem?_eq_getElem (by omega)]; exact List.getElem_mem _
            · rw [hn1.out, List.getD_eq_getElem?_getD, List.getElem?_eq_getElem hj]; exact List.getElem_mem _
          have hPd : PMap wr.drew mb E' := hJ.out.2.2.1
          obtain ⟨pv, hpv⟩ : ∃ v, Aside0 (v = pget E' (n0, n1)) := ⟨_, ⟨rfl⟩⟩
          obtain ⟨st, es1, clock1, hme, hl2, hes⟩ := hPd.entry (n0, n1) hps
          have hl1 := hPd.lookup (n0, n1) hps
          rw [← hpv.out] at hme hl2 hl1
          have hamt := Aside0.mk (HW.out.2.1.amt (by omega))
          have hS1 : (Go.ChangeMaps.setBlock wr.drew mb (.map es1 clock1)).heap[mb]? = some (.map es1 clock1) := by
            obtain ⟨es, clock, hb, _⟩ := hPd
            exact (heap_set hb).1
          have hS2 : ∀ i, i ≠ mb → (Go.ChangeMaps.setBlock wr.drew mb (.map es1 clock1)).heap[i]? = wr.heap[i]? := by
            obtain ⟨es, clock, hb, _⟩ := hPd
            exact fun i hi => (heap_set hb).2 i hi
          obtain ⟨es2, clock2, hst, hP2⟩ := hes _ (pv + d.f2) hS1
          have hb7S := (hS2 b7 (fun e => hJ.out.2.2.1.ne_cells hJ.out.2.2.2.2.2.1 e.symm)).trans hJ.out.2.2.2.2.2.1
          have q3 : IntKind.i64.wrap (pv + d.f2) = pv + d.f2 := by
            have := hamt.out
            have h3 := hJ.out.2.2.2.2.1.get (by omega) (n0, n1)
            rw [← hpv.out] at h3
            unfold IntKind.wrap; simp [IntKind.bits, IntKind.signed]; omega
          have hch : Chg (fun i => i = mb) wr (Go.ChangeMaps.setBlock (Go.ChangeMaps.setBlock wr.drew mb (.map es1 clock1)) mb (.map es2 clock2)) :=
            ((Chg.drew (fun i => i = mb) wr).trans (Chg.setBlock _ _ _) (fun _ _ h => h)).trans (Chg.setBlock _ _ _) (fun _ _ h => h)
          have HQ := Aside0.mk (And.intro hP2 (And.intro hch (And.intro hpv.out hamt.out)))
          clear hes hPd hps hamt hS1 hS2 hP2 hch
          unfold pk at hme hl1 hl2
          generalize Go.ChangeMaps.setBlock wr.drew mb (.map es1 clock1) = wS at *
          have y2 : wS.cell? ⟨b7, 2, none⟩ = some (.int .i64 d.f2) := (blk_cell hb7S 2).trans rfl
          have yl : b7 < wS.heap.size := blk_lt hb7S
          clear hb7S
          generalize hw4 : Go.ChangeMaps.setBlock wS mb (.map es2 clock2) = w4 at *
          have HW4 := Aside0.mk hw4
          clear hw4
          simp only at hme hl1 hl2
          go_upto_region 11 with fail
          go_region
          all_goals
            go_wp2
            have hgb : g ≠ mb := fun e => by
              obtain ⟨cells, hc⟩ := hJ.out.2.2.2.2.2.2.1.typed (k := g) rfl
              exact hJ.out.2.2.1.ne_cells hc e.symm
            have hst2 : walkE E ((steps h).take (j + 1)) d.f2 = bump E' (n0, n1) (pv + d.f2) := by
              have hg := steps_get h j hj
              rw [← hn0.out, ← hn1.out] at hg
              obtain ⟨hl, he⟩ := List.getElem?_eq_some_iff.1 hg
              rw [List.take_succ_eq_append_getElem hl, he]
              unfold walkE
              rw [List.foldl_append]
              have he2 := hJ.out.2.2.2.1
              unfold walkE at he2
              rw [← he2, HQ.out.2.2.1]
              rfl
            have h3 := hJ.out.2.2.2.2.1.get (by omega) (n0, n1)
            rw [← hpv.out] at h3
            exact ⟨⟨j + 1, _, ⟨.inl (by omega), hJ.out.2.1.trans (HQ.out.2.1.below hJ.out.2.1.size (fun i e => e ▸ HM0.out.2.2)), HQ.out.1, hst2.symm, hJ.out.2.2.2.2.1.bump _ (by have := HQ.out.2.2.2; omega) (by have := HQ.out.2.2.2; omega) (by omega), HQ.out.2.1.blk hJ.out.2.2.2.2.2.1 (fun e => hJ.out.2.2.1.ne_cells hJ.out.2.2.2.2.2.1 e.symm), hJ.out.2.2.2.2.2.2.1.chg HQ.out.2.1 (fun i hi e => by
              have h5 : g = i := by simpa [Value.ownBlock] using hi
              exact hgb (h5.trans e)), by have := bump_len E' (n0, n1) (pv + d.f2); have := hJ.out.2.2.2.2.2.2.2; omega⟩, by go_num⟩, by simp [intOf]; omega⟩
        · have hjl : ¬ ((j : Int) + 1 < h.length) := by omega
          have HF := Aside0.mk (And.intro hj hjm)
          clear hj
          go_wp2
          refine ⟨⟨k + 1, E', ⟨hk, hJ.out.2.1, hJ.out.2.2.1, ?_, fun e he => ?_, by have := hJ.out.2.2.2.2.2.2.2; have := HF.out.2; omega⟩, by go_num⟩, by simp [intOf]; omega⟩
          · rw [List.take_succ_eq_append_getElem hk, ← dm_get hk, ← hd.out, hJ.out.2.2.2.1, List.take_of_length_le (l := steps h) (by rw [steps_len]; have := HF.out; omega)]
            exact .step hH.out.2.2.2.1 HW.out.2.1
          · have := hJ.out.2.2.2.2.1 e he
            have := HF.out.2
            omega
    · have hk2 : ¬ ((k : Int) < ds.length) := by omega
      obtain rfl : k = ds.length := by have := hH.out.1; omega
      have HB2 := Aside0.mk hb
      clear hb hkm hk
      rw [List.take_length] at hH
      obtain ⟨w8, rfl⟩ : ∃ x, x = wr := ⟨_, rfl⟩
      obtain ⟨w9, nr, hrg, hP9, hb9, hnr⟩ := hH.out.2.2.1.range
      have hb9' : Below w.heap.size w w9 := HB2.out.trans (hb9.mono HB2.out.size)
      have HR := Aside0.mk (And.intro hP9 (And.intro hb9' (And.intro hnr (And.intro HB2.out.size hH.out.2.2.2.2.2))))
      clear hP9 hb9 hb9' hnr
      go_wp2
      generalize hr8 : w8.heap.size = r8 at *
      clear hrg hr8 hmm
      go_loopg [11] nr (fun gk s11 wr => ∃ (v : Value) (out : List S31), Aside0 (PRng wr mb r8 E out gk ∧ Below w.heap.size w wr ∧ FRow enc31 3 31 wr w.heap.size v out ∧ out.length + gk ≤ nr) ∧ v = s11)
      case atStart => exact ⟨_, [], ⟨HR.out.1, HR.out.2.1, FRow.nil _ _, by simp⟩, rfl⟩
      case round =>
        obtain ⟨v, out, hL, rfl⟩ := hrel
        have hol : out.length ≤ 64000 := by have := hL.out.2.2.2; have := HR.out.2.2.1; have := HR.out.2.2.2.2; omega
        rcases hL.out.1.next with ⟨hnx, hpm⟩ | ⟨e, he, w3, cnt', hnx, hP3, hlt, hch, hen⟩
        · have HPM := Aside0.mk hpm
          clear hpm
          obtain ⟨A5, c5, rfl, hc5⟩ := hL.out.2.2.1.slice
          have hsort : Calls Try.prog 15 #[.slice A5 out.length c5, .func (.func 16) #[] #[]] wr fun e w' => e = .returned (.tuple #[]) ∧ ∃ ys : List S31, ys.Perm out ∧ (∀ i j, i < j → j < ys.length → ¬ (ltOf cmpA (ys.getD j z31) (ys.getD i z31) = true)) ∧ ys.length = out.length ∧ FRow enc31 3 31 w' w.heap.size (.slice A5 out.length c5) ys ∧ Below w.heap.size w w' := by
            by_cases h0 : 0 < out.length
            · obtain ⟨g, cp, e, _⟩ := hL.out.2.2.1.form h0
              injection e with eA _ eC
              subst eA; subst eC
              refine (slices_SortFunc.calls wr w.heap.size g c5 out hL.out.2.2.1 (by omega)).mono ?_
              rintro e w' ⟨rfl, ys, h1, h2, h3, h4, h5⟩
              exact ⟨rfl, ys, h1, h3, h2, h2 ▸ h4, hL.out.2.1.trans (h5.below hL.out.2.1.size (fun k e => e ▸ hL.out.2.2.1.ge rfl))⟩
            · obtain rfl : out = [] := List.eq_nil_of_length_eq_zero (by omega)
              have hcon := AnyF.slices_SortFunc_none Try.sortF A5 c5 (.func (.func 16) #[] #[]) wr
              change Calls Try.prog 15 _ _ _ at hcon
              refine hcon.mono ?_
              rintro e w' ⟨rfl, rfl⟩
              exact ⟨rfl, [], List.Perm.refl _, by simp, rfl, hL.out.2.2.1, hL.out.2.1⟩
          have HSO := Aside0.mk hsort
          clear hsort
          go_wp2_with (go_at_call 15; refine HSO.out.mono ?_; rintro e w5 ⟨rfl, ys, hy1, hy2, hy3, hy4, hy5⟩)
          have HF := Aside0.mk (And.intro hy1 (And.intro hy2 (And.intro hy3 (And.intro hy4 hy5))))
          clear hy1 hy2 hy3 hy4 hy5
          go_ret
          refine ⟨_, E, ys, rfl, HF.out.2.2.2.1, HF.out.2.2.2.2, hH.out.2.2.2.1, ?_, hH.out.2.2.1.nodup, HF.out.1.trans HPM.out, fun i j hij hj => HF.out.2.1 i j hij hj⟩
          obtain ⟨es, clock, _, _, _, hk⟩ := hH.out.2.2.1
          exact hk
        · have hrow := hL.out.2.2.1
          have hnr : ∀ i, v.ownBlock = some i → ¬ i = r8 := fun i hi e1 => by
            obtain ⟨cells, hc⟩ := hrow.typed hi
            exact (hL.out.1.ne_cells hc).2 e1.symm
          have hb3 : Below w.heap.size w w3 := hL.out.2.1.trans (hch.below hL.out.2.1.size (fun i e1 => e1 ▸ HR.out.2.2.2.1))
          have hr3 := hrow.chg hch hnr
          have HQ := Aside0.mk (And.intro hP3 (And.intro hlt (And.intro hb3 (And.intro hr3 he))))
          clear hP3 hlt hb3 hr3 he hrow hnr hch
          go_wp2_with (at_builtin; refine wpList_append_flat lays31 w.heap.size rfl (.tmp 65) (.tmp 72) 28 31 (.agg #[.int .i64 0, .int .i64 0, .int .i64 0]) 24 rfl Try.underlying28 info31 rfl (by decide) (by decide) v out (mkArc e) (w3.heap.size + 1) rfl rfl (two_new' _ _ _) (FRow.below HQ.out.2.2.2.1 (below_alloc (below_alloc (Below.refl _ _) _) _)) (by have := HQ.out.2.2.1.size; simp; omega) (by omega) ?_; intro v2 w6 hv2 hg2 hat2)
          have hrow2 := HQ.out.2.2.2.1
          have n1 : v.ownBlock ≠ some mb := fun h => by
            obtain ⟨cells, hc⟩ := hrow2.typed h
            exact (HQ.out.1.ne_cells hc).1 rfl
          have n2 : v.ownBlock ≠ some r8 := fun h => by
            obtain ⟨cells, hc⟩ := hrow2.typed h
            exact (HQ.out.1.ne_cells hc).2 rfl
          have hlt2 := HQ.out.1.ltm
          go_roundg cnt'
          case measure => exact HQ.out.2.1
          case rel =>
            refine ⟨v2, out ++ [mkArc e], ⟨?_, ?_, hv2, by have := hL.out.2.2.2; have := HQ.out.2.1; simp; omega⟩, rfl⟩
            · exact (HQ.out.1.below (below_alloc (below_alloc (Below.refl _ _) _) _)).move (hg2.block mb (by simp; omega) (fun e1 => n1 e1.symm)) (hg2.block r8 (by simp; omega) (fun e1 => n2 e1.symm))
            · exact ((HQ.out.2.2.1.alloc HQ.out.2.2.1.size _).alloc (by have := HQ.out.2.2.1.size; simp; omega) _).grown hg2 (by have := HQ.out.2.2.1.size; simp; omega) (fun k hk => hrow2.ge hk)
end Go.Proofs.Ytinkhlfmjfahpaa.PLoadKeeps
