/- The theorem of loads: the walk. -/
import Derived.Test.YtinkhlfmjfahpaaCk
namespace Go.Proofs.Ytinkhlfmjfahpaa.PLoadKeeps
open Go.RowKit Go.MapKept Go.Proofs.YtinkhlfmjfahpaaW.PrintWords Go.Proofs.YtinkhlfmjfahpaaW.PrintLast Go.Proofs.YtinkhlfmjfahpaaW.PrintMore
set_option linter.unusedVariables false
set_option linter.unusedSimpArgs false

/-- A row of 65 numbers. -/
def IBlk (w : World) (g : Nat) (f : Nat → Int) : Prop := w.heap[g]? = some (.cells ((List.range 65).map (fun i => Value.int .i64 (f i))).toArray 27 (0, 0))
theorem IBlk.lt {w : World} {g : Nat} {f : Nat → Int} (h : IBlk w g f) : g < w.heap.size := blk_lt h
theorem IBlk.move {w w1 : World} {g : Nat} {f : Nat → Int} (h : IBlk w g f) (hb : w1.heap[g]? = w.heap[g]?) : IBlk w1 g f := hb.trans h
theorem IBlk.below {w w1 : World} {g : Nat} {f : Nat → Int} (h : IBlk w g f) (hb : Below w.heap.size w w1) : IBlk w1 g f := h.move (hb.block g h.lt)
theorem IBlk.cell {w : World} {g : Nat} {f : Nat → Int} (h : IBlk w g f) (i : Nat) (hi : i < 65) : w.cell? ⟨g, i, none⟩ = some (.int .i64 (f i)) ∧ w.frozen? ⟨g, i, none⟩ = false := by
  refine ⟨?_, blk_frozen h i⟩
  rw [blk_cell h i]
  simp [hi]
def upd (f : Nat → Int) (i : Nat) (v : Int) : Nat → Int := fun j => if j = i then v else f j
theorem IBlk.set {w : World} {g : Nat} {f : Nat → Int} (h : IBlk w g f) (i : Nat) (hi : i < 65) (v : Int) : IBlk (w.setCell ⟨g, i, none⟩ (.int .i64 v)) g (upd f i v) := by
  have h2 := blk_set h i (.int .i64 v)
  unfold IBlk
  rw [h2]
  congr 2
  apply Array.ext_getElem?
  intro j
  rw [Array.getElem?_setIfInBounds]
  simp only [List.getElem?_toArray, List.size_toArray, List.length_map, List.length_range, List.getElem?_map]
  by_cases e : i = j
  · subst e
    simp [hi, upd]
  · rw [if_neg e]
    by_cases hj : j < 65
    · simp [hj, upd, Ne.symm e]
    · simp [hj]
def Z27 : Array Value := ((List.range 65).map (fun i => Value.int .i64 0)).toArray
theorem zero27 : Try.zeroCells27 = Z27 := by kernel_rfl
theorem info27 : (Try.prog.info? 27).map (·.size) = some 65 := by kernel_rfl
theorem Z27_info : (Try.prog.info? 27).map (·.size) = some Z27.size := by rw [info27]; simp [Z27]
theorem Z27_one : Z27.all (·.oneCell') = true := by simp [Z27, Value.oneCell']
theorem bal_nil (n : Int) : bal n [] = 0 := rfl
theorem bal_snoc (n : Int) (l : List S31) (a : S31) : bal n (l ++ [a]) = bal n l + net n (a.f0, a.f1) * a.f2 := by simp [bal]
theorem net_cases (n : Int) (p : Int × Int) : net n p = (if p.2 = n then 1 else 0) - (if p.1 = n then 1 else 0) := rfl
theorem mul_net (a b c n : Int) : net n (a, b) * c = (if b = n then c else 0) - (if a = n then c else 0) := by
  rw [net_cases, Int.sub_mul]
  congr 1
  · split <;> simp
  · split <;> simp
theorem bal_bound (B : Int) (h0 : 0 ≤ B) : ∀ (l : List S31) (n : Int), (∀ a ∈ l, 0 ≤ a.f2 ∧ a.f2 ≤ B) → -(B * (l.length : Int)) ≤ bal n l ∧ bal n l ≤ B * (l.length : Int)
  | [], n, _ => by simp [bal]
  | a :: l, n, h => by
    have ih := bal_bound B h0 l n (fun b hb => h b (by simp [hb]))
    have ha := h a (by simp)
    have e : bal n (a :: l) = net n (a.f0, a.f1) * a.f2 + bal n l := by simp [bal]
    have e2 : B * ((a :: l).length : Int) = B * (l.length : Int) + B := by rw [List.length_cons, Int.natCast_succ, Int.mul_add, Int.mul_one]
    rw [e, e2, mul_net]
    split <;> split <;> omega
theorem upd_arc (f : Nat → Int) (n0 n1 : Nat) (c : Int) (j : Nat) : upd (upd f n0 (f n0 - c)) n1 ((upd f n0 (f n0 - c)) n1 + c) j = f j + net j ((n0 : Int), (n1 : Int)) * c := by
  rw [mul_net]
  unfold upd
  by_cases h1 : j = n1
  · subst h1
    by_cases h0 : j = n0
    · subst h0
      first | (simp; done) | (simp; omega)
    · have h0' : ¬ ((n0 : Int) = (j : Int)) := by omega
      first | (simp [h0, h0']; done) | (simp [h0, h0']; omega)
  · have h1' : ¬ ((n1 : Int) = (j : Int)) := by omega
    by_cases h0 : j = n0
    · subst h0
      first | (simp [h1, h1']; done) | (simp [h1, h1']; omega)
    · have h0' : ¬ ((n0 : Int) = (j : Int)) := by omega
      first | (simp [h0, h0', h1, h1']; done) | (simp [h0, h0', h1, h1']; omega)
theorem upd_dem (f : Nat → Int) (n0 n1 : Nat) (c : Int) (j : Nat) : upd (upd f n0 (f n0 + c)) n1 ((upd f n0 (f n0 + c)) n1 - c) j = f j - net j ((n0 : Int), (n1 : Int)) * c := by
  have h := upd_arc f n0 n1 (-c) j
  rw [Int.sub_neg, ← Int.sub_eq_add_neg, Int.mul_neg, ← Int.sub_eq_add_neg] at h
  exact h

theorem adds_cases (l : List S31) (n : Int) (d : S35) : (Goes l d → adds l n d = net n (d.f0, d.f1) * d.f2) ∧ (¬ Goes l d → adds l n d = 0) := by
  unfold adds net
  exact ⟨fun h => by rw [if_pos h], fun h => by rw [if_neg h]⟩
theorem adds_bound (l : List S31) (n : Int) (d : S35) : -1073741824 ≤ adds l n d ∧ adds l n d ≤ 1073741824 := by
  by_cases h : Goes l d
  · rw [(adds_cases l n d).1 h, mul_net]
    have := h.1
    split <;> split <;> omega
  · rw [(adds_cases l n d).2 h]; omega
theorem sum_bound (B : Int) (f : S35 → Int) (h : ∀ d, -B ≤ f d ∧ f d ≤ B) : ∀ (ds : List S35), -(B * (ds.length : Int)) ≤ (ds.map f).sum ∧ (ds.map f).sum ≤ B * (ds.length : Int)
  | [] => by simp
  | d :: ds => by
    have ih := sum_bound B f h ds
    have := h d
    have e2 : B * ((d :: ds).length : Int) = B * (ds.length : Int) + B := by rw [List.length_cons, Int.natCast_succ, Int.mul_add, Int.mul_one]
    rw [e2, List.map_cons, List.sum_cons]
    omega
/-- What is asked of the loads. -/
def OutOk (l : List S31) (ds : List S35) (out : List S31) : Prop := (∀ a ∈ out, (1 ≤ a.f0 ∧ a.f0 ≤ 64) ∧ (1 ≤ a.f1 ∧ a.f1 ≤ 64) ∧ 0 ≤ a.f2 ∧ a.f2 ≤ 824633720832) ∧ out.length ≤ 768 ∧ ∀ n, bal n out = (ds.map (adds l n)).sum
theorem out_ok {l : List S31} (hok : ArcsOk l) {ds : List S35} {E : PE} {out : List S31} (hn : ds.length ≤ 12) (k : Loaded l ds E) (hs : ∀ x ∈ E, Small x.1) (hp : out.Perm (E.map mkArc)) : OutOk l ds out := by
  obtain ⟨h1, h2⟩ := k.small hok
  refine ⟨fun a ha => ?_, ?_, fun n => ?_⟩
  · obtain ⟨e, he, rfl⟩ := List.mem_map.1 (hp.mem_iff.1 ha)
    obtain ⟨a1, a2⟩ := hs e he
    have := h1 e he
    exact ⟨a1, a2, this.1, by show e.2 ≤ _; omega⟩
  · have := hp.length_eq
    rw [List.length_map] at this
    omega
  · rw [bal_perm hp, (k.balance hok n).2]
set_option maxHeartbeats 3200000 in
set_option maxRecDepth 100000 in
theorem LoadKeeps.walk (db : List S39) (A : Option Addr) (c : Nat) (ds : List S35) (Ad : Option Addr) (cd : Nat) (w : World) (hA : Kd.C k39 w A db.length db) (hcp : db.length ≤ c) (hD : Kd.C k35 w Ad ds.length ds) (hcd : ds.length ≤ cd) :
    Calls Try.prog 3 #[.slice A db.length c, .slice Ad ds.length cd] w fun e w' => e = .returned (.bool true) ∧ Below w.heap.size w w' := by
  obtain ⟨k1, r1, hf1, hr1⟩ := few_run db ds
  have HA := Aside0.mk (And.intro hA hD)
  clear hA hD
  cases r1 with
  | false =>
    have HF := Aside0.mk hf1
    clear hf1 hr1
    go_enter Try.func3, Try.ntmps3
    go_wp2_with (first
      | (go_at_call 4; refine (waymarklaw52_few.calls k1 A c db Ad cd ds false _ HA.out.1 hcp HA.out.2 hcd HF.out).mono ?_; rintro e w1 ⟨rfl, hb1⟩)
      | (go_at_call 6; refine (awake.calls _).mono ?_; rintro e w2 ⟨rfl, hb2⟩))
    go_ret
    exact ⟨rfl, hb1.trans (hb2.mono hb1.size)⟩
  | true =>
    obtain ⟨hn, hn2, hl⟩ := hr1 rfl
    obtain ⟨k2, r2, hf2, hok⟩ := may_some db (by omega) (fun x hx => by have := hl x hx; omega)
    have HF := Aside0.mk (And.intro hf1 hf2)
    clear hf1 hf2 hr1 hl
    cases r2 with
    | false =>
      clear hok
      go_enter Try.func3, Try.ntmps3
      go_wp2_with (first
        | (go_at_call 4; refine (waymarklaw52_few.calls k1 A c db Ad cd ds true _ HA.out.1 hcp HA.out.2 hcd HF.out.1).mono ?_; rintro e w1 ⟨rfl, hb1⟩)
        | (go_at_call 5; refine (waymarkref19_May.calls k2 A c db false _ (Kd.C_below HA.out.1 hb1) hcp HF.out.2).mono ?_; rintro e w2 ⟨rfl, hb2⟩)
        | (go_at_call 6; refine (awake.calls _).mono ?_; rintro e w3 ⟨rfl, hb3⟩))
      go_ret
      exact ⟨rfl, (hb1.trans (hb2.mono hb1.size)).trans (hb3.mono (hb1.trans (hb2.mono hb1.size)).size)⟩
    | true =>
      have HO := Aside0.mk (hok rfl)
      clear hok
      have hzc := zero27
      go_enter Try.func3, Try.ntmps3
      go_upto_region 4 with (first
        | (go_at_call 4; refine (waymarklaw52_few.calls k1 A c db Ad cd ds true _ HA.out.1 hcp HA.out.2 hcd HF.out.1).mono ?_; rintro e w1 ⟨rfl, hb1⟩)
        | (go_at_call 5; refine (waymarkref19_May.calls k2 A c db true _ (Kd.C_below HA.out.1 hb1) hcp HF.out.2).mono ?_; rintro e w2 ⟨rfl, hb2⟩)
        | (refine wpList_store_rowTo rfl 27 (.tmp 5) (.tmp 20) rfl rfl w2.heap.size Z27 rfl rfl 27 Z27 (by exact heap_alloc_new _ _) Z27_info rfl Z27_one ?_))
      have hX : IBlk ((w2.alloc (.cells Z27 27)).setRow w2.heap.size Z27) w2.heap.size (fun _ => 0) ∧ Below w.heap.size w ((w2.alloc (.cells Z27 27)).setRow w2.heap.size Z27) := by
        rw [setRow_self _ _ _ _ _ (heap_alloc_new _ _)]
        have hb := hb1.trans (hb2.mono hb1.size)
        exact ⟨heap_alloc_new _ _, hb.alloc hb.size _⟩
      have hg5 : w.heap.size ≤ w2.heap.size := (hb1.trans (hb2.mono hb1.size)).size
      have HX := Aside0.mk (And.intro hX.1 (And.intro hX.2 hg5))
      clear hX hb1 hb2 hg5 hzc
      generalize (w2.alloc (.cells Z27 27)).setRow w2.heap.size Z27 = w3 at HX ⊢
      generalize w2.heap.size = g5 at HX ⊢
      generalize Z27 = zz
      go_wp2_with (go_at_call 7; refine (load_Of.calls 2000 db A c ds Ad cd _ ⟨Kd.C_below HA.out.1 HX.out.2.1, hcp, HO.out, by omega, lsdb_ok db (by omega) HO.out, arcs_ok HO.out, by have := arcs_len HO.out; omega⟩ (Kd.C_below HA.out.2 HX.out.2.1) hcd (by omega) (WayOf.small (arcs_ok HO.out))).mono ?_; rintro e w4 ⟨v, E, out, rfl, hr4, hb4, hL, hS, hND, hP, _⟩; obtain ⟨A4, c4, rfl, hc4⟩ := hr4.slice)
      have hout := out_ok (arcs_ok HO.out) hn2 hL hS hP
      have hbw4 : Below w.heap.size w w4 := HX.out.2.1.trans (hb4.mono HX.out.2.1.size)
      have H4 : Aside0 (OutOk (arcsOf db) ds out ∧ Below w.heap.size w w4 ∧ IBlk w4 g5 (fun _ => 0) ∧ FRow enc31 3 31 w4 w.heap.size (.slice A4 out.length c4) out) := Aside0.mk (And.intro hout (And.intro hbw4 (And.intro (HX.out.1.below hb4) (ownsRow_base_a hr4 HX.out.2.1.size))))
      have hol : out.length ≤ 768 := hout.2.1
      clear hr4 hb4 hL hS hND hP hout hbw4
      go_loopw [7] (fun i wr => ∃ (k : Nat) (f : Nat → Int), Aside0 (k ≤ out.length ∧ Below w.heap.size w wr ∧ IBlk wr g5 f ∧ FRow enc31 3 31 wr w.heap.size (.slice A4 out.length c4) out ∧ ∀ n : Nat, n < 65 → f n = bal n (out.take k)) ∧ i = .int .i64 k) (fun i _ => out.length - (intOf i).toNat)
      case atStart => exact ⟨0, _, ⟨by omega, H4.out.2.1, H4.out.2.2.1, H4.out.2.2.2, fun n _ => by simp [bal]⟩, rfl⟩
      case round =>
        obtain ⟨k, f, hH, rfl⟩ := hrel
        have hkm : (k : Int) ≤ 768 := by have := hH.out.1; omega
        by_cases hk : k < out.length
        · obtain ⟨ad, rfl, a0, a1, a2⟩ := at_T31 (hH.out.2.2.2.1.C rfl (fun w x => k31_mk w x) lays31) (k : Int) (by omega) (by omega)
          obtain ⟨x, hx⟩ : ∃ x, Aside0 (x = out[k]) := ⟨_, ⟨rfl⟩⟩
          rw [show rd_T31 out (k : Int) = x from (ar_get hk).trans hx.out.symm] at a0 a1 a2
          simp only [Int.toNat_natCast] at a0 a1 a2
          have hxo := H4.out.1.1 x (by rw [hx.out]; exact List.getElem_mem _)
          obtain ⟨n0, hn0⟩ : ∃ n : Nat, x.f0 = n := ⟨x.f0.toNat, by omega⟩
          obtain ⟨n1, hn1⟩ : ∃ n : Nat, x.f1 = n := ⟨x.f1.toNat, by omega⟩
          have hb0 : 1 ≤ (n0 : Int) ∧ (n0 : Int) ≤ 64 := by omega
          have hb1 : 1 ≤ (n1 : Int) ∧ (n1 : Int) ≤ 64 := by omega
          rw [hn0] at a0
          rw [hn1] at a1
          have HX2 := Aside0.mk (And.intro hn0 (And.intro hn1 hxo.2.2))
          clear hn0 hn1 hxo
          have hki : (k : Int) < out.length := by omega
          have hbd : ∀ n : Nat, n < 65 → -633318697598976 ≤ f n ∧ f n ≤ 633318697598976 := fun n hn => by
            have := bal_bound 824633720832 (by omega) (out.take k) n (fun a ha => by have := H4.out.1.1 a (List.mem_of_mem_take ha); omega)
            have hl : ((out.take k).length : Int) ≤ 768 := by rw [List.length_take]; omega
            rw [hH.out.2.2.2.2 n hn]
            omega
          have h0 := hbd n0 (by omega)
          obtain ⟨v0, hv0⟩ : ∃ v, Aside0 (v = f n0) := ⟨_, ⟨rfl⟩⟩
          have q0 := (hH.out.2.2.1.cell n0 (by omega)).1
          have fz0 := (hH.out.2.2.1.cell n0 (by omega)).2
          rw [← hv0.out] at q0 h0
          have hl5 := hH.out.2.2.1.lt
          have hlad := World.block_lt_of_cell? wr _ a0
          have hi0 : (n0 : Int) < 65 := by omega
          have hi1 : (n1 : Int) < 65 := by omega
          have hw0 : IntKind.i64.wrap (v0 - x.f2) = v0 - x.f2 := by have := HX2.out.2.2; unfold IntKind.wrap; simp [IntKind.bits, IntKind.signed]; omega
          have HBD := Aside0.mk (And.intro hbd h0)
          clear hbd h0
          go_upto_region 10 with fail
          go_still_tail 18, (by kernel_rfl)
          change wpList _ _ _ _ _ wr.drew
          have hI5 : IBlk wr.drew g5 f := hH.out.2.2.1
          have q5 := hI5.cell n0 (by omega)
          have p0 := q5.1
          have p1 := q5.2
          have HW5 := Aside0.mk (And.intro hI5 (And.intro hH.out.2.1.drew (FRow.below hH.out.2.2.2.1 (below_drew (Below.refl _ _)))))
          clear q5 hI5 a0 a1 a2 q0 fz0 hl5 hlad hw0
          generalize wr.drew = w5 at HW5 p0 p1 ⊢
          go_upto_region 11 with fail
          have hI6 := HW5.out.1.set n0 (by omega) (v0 - x.f2)
          have hb6 : Below w.heap.size w (w5.setCell ⟨g5, n0, none⟩ (.int .i64 (v0 - x.f2))) := HW5.out.2.1.setCell HX.out.2.2 _
          have hr6 : FRow enc31 3 31 (w5.setCell ⟨g5, n0, none⟩ (.int .i64 (v0 - x.f2))) w.heap.size (.slice (some ad) out.length c4) out := HW5.out.2.2.chg (Chg.setCell (S := fun j => j = g5) w5 ⟨g5, n0, none⟩ _ rfl) (fun j hj e => HW5.out.2.2.ne_block HW5.out.1 (by decide) (e ▸ hj))
          have HW6 := Aside0.mk (And.intro hI6 (And.intro hb6 hr6))
          clear hI6 hb6 hr6 p0 p1
          generalize w5.setCell ⟨g5, n0, none⟩ (.int .i64 (v0 - x.f2)) = w6 at HW6 ⊢
          obtain ⟨ad', had, a0, a1, a2⟩ := at_T31 (HW6.out.2.2.C rfl (fun w x => k31_mk w x) lays31) (k : Int) (by omega) (by omega)
          obtain rfl : ad = ad' := Option.some.inj had
          clear had
          rw [show rd_T31 out (k : Int) = x from (ar_get hk).trans hx.out.symm] at a0 a1 a2
          simp only [Int.toNat_natCast] at a0 a1 a2
          rw [HX2.out.2.1] at a1
          clear a0
          obtain ⟨v1, hv1⟩ : ∃ v, Aside0 (v = upd f n0 (v0 - x.f2) n1) := ⟨_, ⟨rfl⟩⟩
          have q1 := (HW6.out.1.cell n1 (by omega)).1
          have fz1 := (HW6.out.1.cell n1 (by omega)).2
          rw [← hv1.out] at q1
          have hl5 := HW6.out.1.lt
          have hlad := World.block_lt_of_cell? w6 _ a1
          have hw1 : IntKind.i64.wrap (v1 + x.f2) = v1 + x.f2 := by
            have h1 := HX2.out.2.2
            have h2 := HBD.out.1 n1 (by omega)
            have h3 := HBD.out.2
            have h4 : v1 = v0 - x.f2 ∨ v1 = f n1 := by rw [hv1.out]; unfold upd; split <;> simp
            unfold IntKind.wrap; simp [IntKind.bits, IntKind.signed]; omega
          go_still_tail 18, (by kernel_rfl)
          change wpList _ _ _ _ _ w6.drew
          have hI7 : IBlk w6.drew g5 (upd f n0 (v0 - x.f2)) := HW6.out.1
          have p0 := (hI7.cell n1 (by omega)).1
          have p1 := (hI7.cell n1 (by omega)).2
          have HW7 := Aside0.mk (And.intro hI7 (And.intro HW6.out.2.1.drew (FRow.below HW6.out.2.2 (below_drew (Below.refl _ _)))))
          clear hI7 a1 a2 q1 fz1 hl5 hlad hw1
          generalize w6.drew = w7 at HW7 p0 p1 ⊢
          go_wp2
          have hr8 : FRow enc31 3 31 (w7.setCell ⟨g5, n1, none⟩ (.int .i64 (v1 + x.f2))) w.heap.size (.slice (some ad) out.length c4) out := HW7.out.2.2.chg (Chg.setCell (S := fun j => j = g5) w7 ⟨g5, n1, none⟩ _ rfl) (fun j hj e => HW7.out.2.2.ne_block HW7.out.1 (by decide) (e ▸ hj))
          refine ⟨⟨k + 1, _, ⟨hk, HW7.out.2.1.setCell HX.out.2.2 _, HW7.out.1.set n1 (by omega) (v1 + x.f2), hr8, fun j hj => ?_⟩, by go_num⟩, by simp [intOf]; omega⟩
          rw [hv1.out, hv0.out, upd_arc, hH.out.2.2.2.2 j hj, List.take_succ_eq_append_getElem hk, bal_snoc, ← hx.out, HX2.out.1, HX2.out.2.1]
        · have hk2 : ¬ ((k : Int) < out.length) := by omega
          have hfin : ∀ n : Nat, n < 65 → f n = bal n out := fun n hn => by
            have := hH.out.2.2.2.2 n hn
            rwa [List.take_of_length_le (by omega)] at this
          have HK := Aside0.mk (And.intro hk hfin)
          clear hk hfin
          go_wp2
          clear hk2
          obtain ⟨w9, rfl⟩ : ∃ x, x = wr := ⟨_, rfl⟩
          go_loopw [8] (fun i wr => ∃ (j : Nat) (h : Nat → Int), Aside0 (j ≤ ds.length ∧ Below w.heap.size w wr ∧ IBlk wr g5 h ∧ ∀ n : Nat, n < 65 → h n = bal n out - ((ds.take j).map (adds (arcsOf db) n)).sum) ∧ i = .int .i64 j) (fun i _ => ds.length - (intOf i).toNat)
          case atStart => exact ⟨0, f, ⟨by omega, hH.out.2.1, hH.out.2.2.1, fun n hn => by rw [HK.out.2 n hn]; simp⟩, rfl⟩
          case round =>
            obtain ⟨j, h, hJ, rfl⟩ := hrel
            have hjm : (j : Int) ≤ 12 := by have := hJ.out.1; omega
            by_cases hj : j < ds.length
            · obtain ⟨ad, rfl, a0', a1', a2'⟩ := at_T35 HA.out.2 (j : Int) (by omega) (by omega)
              have hb := hJ.out.2.1
              have a0 := (hb.cell (World.block_lt_of_cell? w _ a0')).trans a0'
              have a1 := (hb.cell (World.block_lt_of_cell? w _ a1')).trans a1'
              have a2 := (hb.cell (World.block_lt_of_cell? w _ a2')).trans a2'
              obtain ⟨d, hd⟩ : ∃ d, Aside0 (d = ds[j]) := ⟨_, ⟨rfl⟩⟩
              have hrd : rd_T35 ds (j : Int) = d := by
                unfold rd_T35
                rw [Int.toNat_natCast, List.getD_eq_getElem?_getD, List.getElem?_eq_getElem hj]
                exact hd.out.symm
              rw [hrd] at a0 a1 a2 a0' a1' a2'
              simp only [Int.toNat_natCast] at a0 a1 a2 a0' a1' a2'
              have HA0 := Aside0.mk (And.intro a0' (And.intro a1' a2'))
              have HB := Aside0.mk hb
              clear hb hrd a0' a1' a2'
              have hji : (j : Int) < ds.length := by omega
              have htk : ∀ n : Nat, ((ds.take (j + 1)).map (adds (arcsOf db) n)).sum = ((ds.take j).map (adds (arcsOf db) n)).sum + adds (arcsOf db) n d := fun n => by
                rw [List.take_succ_eq_append_getElem hj, List.map_append, List.sum_append, ← hd.out]
                simp
              have HTK := Aside0.mk htk
              clear htk
              go_upto_if 111 with (go_at_call 8; refine (ref52_Way.calls db A c d _ (Kd.C_below HA.out.1 HB.out) hcp HO.out hn).mono ?_; rintro e w5 ⟨v5, h5, rfl, hr5, hb5, hiff⟩; obtain ⟨A5, c5, rfl, hc5⟩ := hr5.slice)
              have hbw5 : Below w.heap.size w w5 := HB.out.trans (hb5.mono HB.out.size)
              have H5 := Aside0.mk (And.intro hbw5 (And.intro (hJ.out.2.2.1.below hb5) hiff))
              clear hr5 hb5 hiff hbw5 a0 a1 a2
              by_cases hg : Goes (arcsOf db) d
              · have hp := H5.out.2.2.2 hg
                have hd1 : decide ((h5.length : Int) > 0) = true := by simp; omega
                rw [hd1]
                clear hd1 hp
                obtain ⟨n0, hn0⟩ : ∃ n : Nat, d.f0 = n := ⟨d.f0.toNat, by have := hg.2.1; omega⟩
                obtain ⟨n1, hn1⟩ : ∃ n : Nat, d.f1 = n := ⟨d.f1.toNat, by have := hg.2.2.1; omega⟩
                have hb0 : 1 ≤ (n0 : Int) ∧ (n0 : Int) ≤ 64 := by have := hg.2.1; omega
                have hb1 : 1 ≤ (n1 : Int) ∧ (n1 : Int) ≤ 64 := by have := hg.2.2.1; omega
                have hf2 : 1 ≤ d.f2 ∧ d.f2 ≤ 1073741824 := hg.1
                have hbd : ∀ n : Nat, n < 65 → -700000000000000 ≤ h n ∧ h n ≤ 700000000000000 := fun n hn => by
                  have h1 := bal_bound 824633720832 (by omega) out n (fun a ha => by have := H4.out.1.1 a ha; omega)
                  have h2 := sum_bound 1073741824 (adds (arcsOf db) n) (fun d => adds_bound _ _ _) (ds.take j)
                  have h3 : ((ds.take j).length : Int) ≤ 12 := by rw [List.length_take]; omega
                  rw [hJ.out.2.2.2 n hn]
                  omega
                have h0 := hbd n0 (by omega)
                have HG := Aside0.mk (And.intro hg (And.intro hn0 (And.intro hn1 (And.intro hbd h0))))
                clear hg hbd h0
                obtain ⟨v0, hv0⟩ : ∃ v, Aside0 (v = h n0) := ⟨_, ⟨rfl⟩⟩
                have a0 := (H5.out.1.cell (World.block_lt_of_cell? w _ HA0.out.1)).trans HA0.out.1
                have a1 := (H5.out.1.cell (World.block_lt_of_cell? w _ HA0.out.2.1)).trans HA0.out.2.1
                have a2 := (H5.out.1.cell (World.block_lt_of_cell? w _ HA0.out.2.2)).trans HA0.out.2.2
                rw [hn0] at a0
                rw [hn1] at a1
                have q0 := (H5.out.2.1.cell n0 (by omega)).1
                have fz0 := (H5.out.2.1.cell n0 (by omega)).2
                rw [← hv0.out] at q0
                have hl5 := H5.out.2.1.lt
                have hlad := World.block_lt_of_cell? w5 _ a0
                have hi0 : (n0 : Int) < 65 := by omega
                have hi1 : (n1 : Int) < 65 := by omega
                have hw0 : IntKind.i64.wrap (v0 + d.f2) = v0 + d.f2 := by
                  have := HG.out.2.2.2.2; have := hv0.out
                  unfold IntKind.wrap; simp [IntKind.bits, IntKind.signed]; omega
                clear hn0 hn1
                go_upto_region 16 with fail
                go_still_tail 18, (by kernel_rfl)
                change wpList _ _ _ _ _ w5.drew
                have hI7 : IBlk w5.drew g5 h := H5.out.2.1
                have p0 := (hI7.cell n0 (by omega)).1
                have p1 := (hI7.cell n0 (by omega)).2
                have HW7 := Aside0.mk (And.intro hI7 H5.out.1.drew)
                clear hI7 a0 a1 a2 q0 fz0 hl5 hlad hw0
                generalize w5.drew = w7 at HW7 p0 p1 ⊢
                go_upto_region 17 with fail
                have HW8 := Aside0.mk (And.intro (HW7.out.1.set n0 (by omega) (v0 + d.f2)) (HW7.out.2.setCell (p := ⟨g5, n0, none⟩) HX.out.2.2 (.int .i64 (v0 + d.f2))))
                clear p0 p1
                generalize w7.setCell ⟨g5, n0, none⟩ (.int .i64 (v0 + d.f2)) = w8 at HW8 ⊢
                have a1 := (HW8.out.2.cell (World.block_lt_of_cell? w _ HA0.out.2.1)).trans HA0.out.2.1
                have a2 := (HW8.out.2.cell (World.block_lt_of_cell? w _ HA0.out.2.2)).trans HA0.out.2.2
                rw [HG.out.2.2.1] at a1
                obtain ⟨v1, hv1⟩ : ∃ v, Aside0 (v = upd h n0 (v0 + d.f2) n1) := ⟨_, ⟨rfl⟩⟩
                have q1 := (HW8.out.1.cell n1 (by omega)).1
                have fz1 := (HW8.out.1.cell n1 (by omega)).2
                rw [← hv1.out] at q1
                have hl5 := HW8.out.1.lt
                have hlad := World.block_lt_of_cell? w8 _ a1
                have hw1 : IntKind.i64.wrap (v1 - d.f2) = v1 - d.f2 := by
                  have h2 := HG.out.2.2.2.1 n1 (by omega)
                  have h3 := HG.out.2.2.2.2
                  have h5 := hv0.out
                  have h4 : v1 = v0 + d.f2 ∨ v1 = h n1 := by rw [hv1.out]; unfold upd; split <;> simp
                  unfold IntKind.wrap; simp [IntKind.bits, IntKind.signed]; omega
                go_still_tail 18, (by kernel_rfl)
                change wpList _ _ _ _ _ w8.drew
                have hI9 : IBlk w8.drew g5 (upd h n0 (v0 + d.f2)) := HW8.out.1
                have p0 := (hI9.cell n1 (by omega)).1
                have p1 := (hI9.cell n1 (by omega)).2
                have HW9 := Aside0.mk (And.intro hI9 HW8.out.2.drew)
                clear hI9 a1 a2 q1 fz1 hl5 hlad hw1
                generalize w8.drew = w9 at HW9 p0 p1 ⊢
                go_wp2
                refine ⟨⟨j + 1, _, ⟨hj, HW9.out.2.setCell HX.out.2.2 _, HW9.out.1.set n1 (by omega) (v1 - d.f2), fun n hn => ?_⟩, by go_num⟩, by simp [intOf]; omega⟩
                rw [hv1.out, hv0.out, upd_dem, hJ.out.2.2.2 n hn, HTK.out n, (adds_cases _ _ _).1 HG.out.1, HG.out.2.1, HG.out.2.2.1]
                omega
              · have hp : ¬ 0 < h5.length := fun hh => hg (H5.out.2.2.1 hh)
                have hd1 : decide ((h5.length : Int) > 0) = false := decide_eq_false (by omega)
                rw [hd1]
                clear hd1 hp
                have HG := Aside0.mk hg
                clear hg
                go_wp2
                refine ⟨⟨j + 1, h, ⟨hj, H5.out.1, H5.out.2.1, fun n hn => ?_⟩, by go_num⟩, by simp [intOf]; omega⟩
                rw [hJ.out.2.2.2 n hn, HTK.out n, (adds_cases _ _ _).2 HG.out]
                omega
            · have hj2 : ¬ ((j : Int) < ds.length) := by omega
              have hz : ∀ n : Nat, n < 65 → h n = 0 := fun n hn => by
                have h1 := hJ.out.2.2.2 n hn
                rw [List.take_of_length_le (by omega), H4.out.1.2.2 n] at h1
                omega
              have HZ := Aside0.mk hz
              clear hz hj
              go_wp2
              clear hj2
              obtain ⟨w8, rfl⟩ : ∃ x, x = wr := ⟨_, rfl⟩
              go_loopw [9] (fun i wr => ∃ (m : Nat), Aside0 (1 ≤ m ∧ m ≤ 65 ∧ wr = w8) ∧ i = .int .i64 m) (fun i _ => 65 - (intOf i).toNat)
              case atStart => exact ⟨1, ⟨by omega, by omega, rfl⟩, rfl⟩
              case round =>
                obtain ⟨m, hM, rfl⟩ := hrel
                obtain rfl : wr = w8 := hM.out.2.2
                have hmm : (m : Int) ≤ 65 := by have := hM.out.2.1; omega
                by_cases hm : (m : Int) ≤ 64
                · have q := (hJ.out.2.2.1.cell m (by omega)).1
                  rw [HZ.out m (by omega)] at q
                  have hl := hJ.out.2.2.1.lt
                  have hmi : (m : Int) < 65 := by omega
                  go_wp2
                  exact ⟨⟨m + 1, ⟨by omega, by omega, by first | rfl | trivial⟩, by go_num⟩, by simp [intOf]; omega⟩
                · have hm2 : ¬ ((m : Int) ≤ 64) := hm
                  clear hm
                  go_wp2_with (go_at_call 6; refine (awake.calls _).mono ?_; rintro e w3 ⟨rfl, hb3⟩)
                  go_ret
                  exact ⟨rfl, hJ.out.2.1.trans (hb3.mono hJ.out.2.1.size)⟩
end Go.Proofs.Ytinkhlfmjfahpaa.PLoadKeeps
