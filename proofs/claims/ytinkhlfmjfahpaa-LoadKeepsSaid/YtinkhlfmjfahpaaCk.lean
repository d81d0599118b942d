/- The reference's routes of a base, and its ways hop by hop. The small example of loads: true. -/
import Derived.Test.YtinkhlfmjfahpaaCj
import Derived.Test.YtinkhlfmjfahpaaFe
import Derived.Test.YtinkhlfmjfahpaaCl
namespace Go.Proofs.Ytinkhlfmjfahpaa.PLoadKeeps
open Go.RowKit Go.MapKept Go.Proofs.YtinkhlfmjfahpaaW.PrintWords Go.Proofs.YtinkhlfmjfahpaaW.PrintLast Go.Proofs.YtinkhlfmjfahpaaW.PrintMore
set_option linter.unusedVariables false
set_option linter.unusedSimpArgs false

theorem FRow.news {α : Type} {enc : α → List Value} {m : Nat} {e : TypeId} {w : World} {base g cap : Nat} {xs : List α} (h : FRow enc m e w base (.slice (some ⟨g, 0, none⟩) xs.length cap) xs) :
    ∀ (j : Nat) (u : Value), (xs.flatMap enc)[j]? = some u → w.cell? ((⟨g, 0, none⟩ : Addr).add j) = some u := by
  intro j u hj
  rcases h.2 with ⟨h1, h2⟩ | ⟨g', cap', cur, hv, _, hh, hc, hm, hs, ht⟩
  · cases h1
  · injection hv with ha _ hcap
    injection ha with ha
    injection ha with hg
    subst hg; subst hcap
    have e : (⟨g, 0, none⟩ : Addr).add j = ⟨g, j, none⟩ := by rw [Addr.add_mid]; simp
    rw [e, blk_cell hh]
    rw [← ht, List.getElem?_take] at hj
    split at hj
    · rwa [Array.getElem?_toList] at hj
    · cases hj

set_option maxHeartbeats 800000 in
set_option maxRecDepth 100000 in
theorem ref26_Of.calls (db : List S39) (A : Option Addr) (c : Nat) (n : Nat) (w : World) (hA : Kd.C k39 w A db.length db) (hcp : db.length ≤ c) (hok : DbOk db) (hn : db.length ≤ 7) (h1 : 1 ≤ (n : Int)) (h2 : (n : Int) ≤ 64) :
    Calls Try.prog 27 #[.slice A db.length c, .int .i64 n] w (RtPost w (arcsOf db) n) := by
  have HA := Aside0.mk (And.intro hA hok)
  have hl : Aside0 ((arcsOf db).length ≤ 112) := ⟨by have := arcs_len hok; omega⟩
  clear hA hok
  go_enter Try.func27, Try.ntmps27
  go_wp2_with (first
    | (go_at_call 44; refine (ref24_Arcs.walk db A c _ HA.out.1 hcp HA.out.2 (by omega)).mono ?_; rintro e w1 ⟨v1, rfl, hr1, hb1⟩; obtain ⟨A1, c1, rfl, hc1⟩ := hr1.slice; have HR1 := Aside0.mk (And.intro hr1 (And.intro hb1 hc1)); clear hr1 hb1 hc1)
    | (go_at_call 43; refine (ref25_Routes.walk (arcsOf db) A1 c1 n _ (HR1.out.1.C rfl (fun w x => k31_mk w x) lays31) HR1.out.2.2 (arcs_ok HA.out.2) hl.out h1 h2).mono ?_; rintro e w2 ⟨v2, rs, rfl, hr2, hb2, hlen, hrs⟩))
  go_ret
  exact ⟨v2, rs, rfl, ownsRow_base_a hr2 HR1.out.2.1.size, HR1.out.2.1.trans (hb2.mono HR1.out.2.1.size), hlen, hrs⟩

def HpPost (w : World) (l : List S31) (a : Nat) (t : Int) (e : Ending) (w' : World) : Prop :=
  ∃ v h ok, e = .returned (.tuple #[v, .bool ok]) ∧ FRow enc3 1 3 w' w.heap.size v h ∧ Below w.heap.size w w' ∧ (ok = true ↔ ∃ d, Wk l a t d) ∧ (ok = true → 0 < h.length ∧ ∀ c, Least l a t c → (h.length : Int) ≤ c + 1)
theorem findR_some {rs : List S63} {t : Int} {x : S63} (h : findR rs t = some x) : x ∈ rs ∧ x.f0 = t := by
  unfold findR at h
  exact ⟨List.mem_of_find?_eq_some h, by simpa using List.find?_some h⟩
theorem findR_none {rs : List S63} {t : Int} (h : findR rs t = none) : ∀ x ∈ rs, x.f0 ≠ t := by
  unfold findR at h
  intro x hx
  have := List.find?_eq_none.1 h x hx
  simpa using this
set_option maxHeartbeats 1600000 in
set_option maxRecDepth 100000 in
theorem ref26_Hops.walk (db : List S39) (A : Option Addr) (c : Nat) (t : Int) (hcp : db.length ≤ c) (hok : DbOk db) (hn : db.length ≤ 7) (ht1 : 1 ≤ t) (ht2 : t ≤ 64) : ∀ (m : Nat) (a : Nat) (w : World), Kd.C k39 w A db.length db → 1 ≤ (a : Int) → (a : Int) ≤ 64 → (∀ x, Least (arcsOf db) a t x → x ≤ m) →
    Calls Try.prog 19 #[.slice A db.length c, .int .i64 a, .int .i64 t] w (HpPost w (arcsOf db) a t) := by
  have HO := Aside0.mk hok
  clear hok
  intro m
  induction m using Nat.strongRecOn with
  | _ m ih =>
  intro a w hA h1 h2 hm
  have HI := Aside0.mk ih
  have HM := Aside0.mk hm
  have HA := Aside0.mk hA
  clear ih hm hA
  by_cases he : (a : Int) = t
  · have hbe : ((a : Int) == t) = true := by rw [beq_iff_eq]; exact he
    have HE := Aside0.mk he
    clear he
    go_enter Try.func19, Try.ntmps19
    go_wp2
    refine bodyPost_ret (v := .tuple #[.slice (some ⟨w.heap.size, 0, none⟩) 1 1, .bool true]) (by simp [results, Try.results19, go_sem]) rfl ⟨_, [(a : Int)], true, rfl, FRow.many lays3 w [(a : Int)] (by simp), below_alloc (Below.refl _ _) _, ⟨fun _ => ⟨0, by rw [← HE.out]; exact Wk.nil⟩, fun _ => rfl⟩, fun _ => ⟨by simp, fun x hx => ?_⟩⟩
    have := hx.1.nonneg (arcs_ok HO.out).pos
    simp; omega
  · have hbe : ((a : Int) == t) = false := by rw [beq_eq_false_iff_ne]; exact he
    have HE := Aside0.mk he
    clear he
    go_enter Try.func19, Try.ntmps19
    go_upto_region 4 with (first
      | (go_at_call 27; refine (ref26_Of.calls db A c a _ HA.out hcp HO.out hn h1 h2).mono ?_; rintro e w1 ⟨v1, rs, rfl, hr1, hb1, hlen, hrs⟩; obtain ⟨A1, c1, rfl, hc1⟩ := hr1.slice; have HR1 := Aside0.mk (And.intro hr1 (And.intro hb1 (And.intro hc1 hrs))); clear hr1 hb1 hc1 hrs)
      | (go_at_call 26; refine (ref26_Find.walk rs A1 c1 t _ (HR1.out.1.C rfl (fun w x => k63_mk w x) lays63) HR1.out.2.2.1 (by omega)).mono ?_; rintro e w2 ⟨rfl, hb2⟩))
    have hbw : Below w.heap.size w w2 := HR1.out.2.1.trans (hb2.mono HR1.out.2.1.size)
    have HB := Aside0.mk hbw
    clear hb2 hbw
    cases hF : findR rs t with
    | none =>
      have HF := Aside0.mk hF
      simp only [hF, Option.getD_none, z63]
      clear hF
      go_wp2
      refine bodyPost_ret (v := .tuple #[.slice none 0 0, .bool false]) (by simp [results, Try.results19, go_sem]) rfl ⟨.slice none 0 0, [], false, rfl, FRow.nil _ _, HB.out.alloc HB.out.size _, ⟨fun h => by (cases h), fun ⟨d, hd⟩ => ?_⟩, fun h => by cases h⟩
      obtain ⟨x, hx, hx2⟩ := HR1.out.2.2.2.2 t ht1 (by omega) (fun e => HE.out e.symm) ⟨d, hd⟩
      exact absurd hx2 (findR_none HF.out x hx)
    | some x =>
      have HF := Aside0.mk hF
      simp only [hF, Option.getD_some]
      clear hF
      obtain ⟨hxm, hxt⟩ := findR_some HF.out
      obtain ⟨_, _, cc, hl, hcc, b, hb, hb0, hb1, hw⟩ := HR1.out.2.2.2.1 x hxm
      have hbo := (arcs_ok HO.out).1 b hb
      rw [hxt] at hl hw
      have hnn := hw.nonneg (arcs_ok HO.out).pos
      obtain ⟨n1, hn1⟩ : ∃ n : Nat, x.f1 = n := ⟨x.f1.toNat, by have := hbo.2.1; omega⟩
      have hnb : 1 ≤ (n1 : Int) ∧ (n1 : Int) ≤ 64 := by have := hbo.2.1; omega
      rw [hn1] at hw
      have hf2 := hbo.2.2.2.1
      have hmm := HM.out cc hl
      have hm1 : 1 ≤ m := by omega
      have hih := HI.out (m - 1) (by omega) n1
      have hlm : ∀ y, Least (arcsOf db) n1 t y → y ≤ ((m - 1 : Nat) : Int) := fun y hy => by have := hy.2 _ hw; omega
      have hst : ∀ y, Least (arcsOf db) n1 t y → y + 1 ≤ cc := fun y hy => by have := hy.2 _ hw; omega
      have HH := Aside0.mk (And.intro hih (And.intro hlm (And.intro hst (And.intro hl (And.intro hcc hw)))))
      have hz : (t == 0) = false := by rw [beq_eq_false_iff_ne]; omega
      rw [hxt, hn1]
      clear hxm hxt hl hcc hb hb0 hb1 hw hbo hn1 hf2 hmm hih hlm hst hnn
      have h63 : (w2.alloc (.cells #[.int .i64 t, .int .i64 n1, .int .u64 x.f2] 63)).heap[w2.heap.size]? = some (.cells #[.int .i64 t, .int .i64 n1, .int .u64 x.f2] 63 (0, 0)) := heap_alloc_new _ _
      have HB3 := Aside0.mk (HB.out.alloc HB.out.size (.cells #[.int .i64 t, .int .i64 n1, .int .u64 x.f2] 63))
      generalize w2.alloc (.cells #[.int .i64 t, .int .i64 n1, .int .u64 x.f2] 63) = w3 at *
      generalize w2.heap.size = g3 at *
      have x0 : w3.cell? ⟨g3, 0, none⟩ = some (.int .i64 t) := (blk_cell h63 0).trans rfl
      have x1 : w3.cell? ⟨g3, 1, none⟩ = some (.int .i64 n1) := (blk_cell h63 1).trans rfl
      have xl : g3 < w3.heap.size := blk_lt h63
      clear h63
      go_upto_region 7 with (go_at_call 19; refine (HH.out.1 _ (Kd.C_below HA.out HB3.out) hnb.1 hnb.2 HH.out.2.1).mono ?_; rintro e w4 ⟨v4, h, ok, rfl, hr4, hb4, hiff, hlen4⟩)
      have hok4 : ok = true := hiff.2 ⟨_, HH.out.2.2.2.2.2⟩
      subst hok4
      obtain ⟨cy, hcy⟩ := least_exists (arcs_ok HO.out).pos HH.out.2.2.2.2.2
      obtain ⟨hl0, hl1⟩ := hlen4 rfl
      have hl2 := hl1 cy hcy
      have hl3 := HH.out.2.2.1 cy hcy
      have hbb : (h.length : Int) ≤ 7900000000000 := by have := HH.out.2.2.2.2.1; omega
      obtain ⟨g4, cp4, rfl, hc4⟩ := hr4.form hl0
      have hbw4 : Below w.heap.size w w4 := HB3.out.trans (hb4.mono HB3.out.size)
      have H4 := Aside0.mk (And.intro hr4 (And.intro hbw4 (And.intro hl0 (And.intro hl2 hl3))))
      clear hr4 hb4 hiff hlen4 hl1 hl2 hl3 hcy hbw4 x0 x1 xl hl0
      obtain ⟨i0, hi0, hz0, hz1, hz2⟩ := info_parts (show (Try.prog.info? 3).map (fun i => (i.zero, i.size, i.bytes)) = some (some (.int .i64 0), 1, 8) from info3)
      have HZ := Aside0.mk (And.intro hi0 (And.intro hz0 (And.intro hz1 hz2)))
      clear hi0 hz0 hz1 hz2
      have hmy : FRow enc3 1 3 (w4.alloc (.cells #[.int .i64 a] 3)) w4.heap.size (.slice (some ⟨w4.heap.size, 0, none⟩) 1 1) [(a : Int)] := FRow.many lays3 w4 [(a : Int)] (by simp)
      have hmy2 : FRow enc3 1 3 (w4.alloc (.cells #[.int .i64 a] 3)) w.heap.size (.slice (some ⟨w4.heap.size, 0, none⟩) 1 1) [(a : Int)] := ownsRow_base_a hmy H4.out.2.1.size
      have hnews := (FRow.below H4.out.1 (below_alloc (Below.refl _ _) (.cells #[.int .i64 a] 3))).news
      have HN := Aside0.mk (And.intro hmy2 hnews)
      clear hmy hmy2 hnews
      go_wp2_with (at_builtin; refine wpList_append_own _ rfl (.tmp 33) (.tmp 34) 32 rfl w.heap.size 3 i0 (.int .i64 0) 1 8 Try.underlying32 HZ.out.1 HZ.out.2.1 HZ.out.2.2.1 HZ.out.2.2.2 rfl (by decide) _ 1 [.int .i64 a] rfl HN.out.1 ⟨g4, 0, none⟩ h.length cp4 (h.flatMap enc3) rfl (flat_length lays3 h) HN.out.2 (fun u hu => by obtain ⟨y, _, hy⟩ := List.mem_flatMap.1 hu; exact lays3.one y u hy) (by unfold maxLen; omega) (by omega) (by have := H4.out.2.1.size; simp; omega) ?_; intro v' w6 hown6 hg6 _)
      refine bodyPost_ret (v := .tuple #[v', .bool true]) (by simp [results, Try.results19, go_sem]) rfl ⟨v', (a : Int) :: h, true, rfl, ?_, ?_, ⟨fun _ => ⟨_, HH.out.2.2.2.1.1⟩, fun _ => rfl⟩, fun _ => ⟨by simp, fun y hy => ?_⟩⟩
      · unfold FRow
        rw [List.length_cons, Nat.add_comm, List.flatMap_cons]
        exact hown6
      · exact (H4.out.2.1.alloc H4.out.2.1.size _).grown hg6 (by have := H4.out.2.1.size; simp; omega) (fun k hk => HN.out.1.ge hk)
      · have := hy.inj HH.out.2.2.2.1
        have := H4.out.2.2.2
        simp; omega
/-- Each demand's way. -/
def WyPost (w : World) (l : List S31) (d : S35) (e : Ending) (w' : World) : Prop := ∃ v h, e = .returned v ∧ FRow enc3 1 3 w' w.heap.size v h ∧ Below w.heap.size w w' ∧ (0 < h.length ↔ Goes l d)
def goodD (d : S35) : Bool := decide (1 ≤ d.f0 ∧ d.f0 ≤ 64 ∧ 1 ≤ d.f1 ∧ d.f1 ≤ 64 ∧ 1 ≤ d.f2 ∧ d.f2 ≤ 1073741824)
set_option maxHeartbeats 1600000 in
set_option maxRecDepth 100000 in
theorem ref52_Way.calls (db : List S39) (A : Option Addr) (c : Nat) (d : S35) (w : World) (hA : Kd.C k39 w A db.length db) (hcp : db.length ≤ c) (hok : DbOk db) (hn : db.length ≤ 7) :
    Calls Try.prog 8 #[.slice A db.length c, .agg #[.int .i64 d.f0, .int .i64 d.f1, .int .i64 d.f2]] w (WyPost w (arcsOf db) d) := by
  have HA := Aside0.mk (And.intro hA hok)
  clear hA hok
  have hno : ¬ (1 ≤ d.f0 ∧ d.f0 ≤ 64 ∧ 1 ≤ d.f1 ∧ d.f1 ≤ 64 ∧ 1 ≤ d.f2 ∧ d.f2 ≤ 1073741824) → WyPost w (arcsOf db) d (.returned (.slice none 0 0)) (w.alloc (.cells #[.int .i64 d.f0, .int .i64 d.f1, .int .i64 d.f2] 35)) := fun h =>
    ⟨_, [], rfl, FRow.nil _ _, below_alloc (Below.refl _ _) _, ⟨fun h => by simp at h, fun ⟨h2, h0, h1, _⟩ => absurd ⟨h0.1, h0.2, h1.1, h1.2, h2.1, h2.2⟩ h⟩⟩
  have HN := Aside0.mk hno
  clear hno
  by_cases c1 : d.f0 < 1
  · have hx := HN.out (by omega)
    have HX := Aside0.mk hx
    clear hx
    go_enter Try.func8, Try.ntmps8
    go_wp2
    go_ret
    exact HX.out
  by_cases c2 : d.f0 > 64
  · have hx := HN.out (by omega)
    have HX := Aside0.mk hx
    clear hx
    go_enter Try.func8, Try.ntmps8
    go_wp2
    go_ret
    exact HX.out
  by_cases c3 : d.f1 < 1
  · have hx := HN.out (by omega)
    have HX := Aside0.mk hx
    clear hx
    go_enter Try.func8, Try.ntmps8
    go_wp2
    go_ret
    exact HX.out
  by_cases c4 : d.f1 > 64
  · have hx := HN.out (by omega)
    have HX := Aside0.mk hx
    clear hx
    go_enter Try.func8, Try.ntmps8
    go_wp2
    go_ret
    exact HX.out
  by_cases c5 : d.f2 < 1
  · have hx := HN.out (by omega)
    have HX := Aside0.mk hx
    clear hx
    go_enter Try.func8, Try.ntmps8
    go_wp2
    go_ret
    exact HX.out
  by_cases c6 : d.f2 > 1073741824
  · have hx := HN.out (by omega)
    have HX := Aside0.mk hx
    clear hx
    go_enter Try.func8, Try.ntmps8
    go_wp2
    go_ret
    exact HX.out
  have hb : ∃ m : Nat, ∀ x, Least (arcsOf db) d.f0 d.f1 x → x ≤ m := by
    by_cases h : ∃ x, Least (arcsOf db) d.f0 d.f1 x
    · obtain ⟨x, hx⟩ := h
      exact ⟨x.toNat, fun y hy => by have := hy.inj hx; omega⟩
    · exact ⟨0, fun y hy => absurd ⟨y, hy⟩ h⟩
  obtain ⟨m, hm⟩ := hb
  obtain ⟨f0, f1, f2⟩ := d
  simp only at c1 c2 c3 c4 c5 c6 hm HN ⊢
  obtain ⟨a, rfl⟩ : ∃ a : Nat, f0 = a := ⟨f0.toNat, by omega⟩
  have HM := Aside0.mk hm
  clear hm HN
  have hw : 1 ≤ (a : Int) ∧ (a : Int) ≤ 64 := by omega
  have hw2 : 1 ≤ f1 ∧ f1 ≤ 64 := by omega
  have hw3 : 1 ≤ f2 ∧ f2 ≤ 1073741824 := by omega
  go_enter Try.func8, Try.ntmps8
  go_upto_region 4 with (go_at_call 19; refine (ref26_Hops.walk db A c f1 hcp HA.out.2 hn hw2.1 hw2.2 m a _ (Kd.C_below HA.out.1 (below_alloc (Below.refl _ _) _)) hw.1 hw.2 HM.out).mono ?_; rintro e w2 ⟨v, h, ok, rfl, hr, hb, hiff, hlen⟩)
  have hrow := ownsRow_base_a hr (show w.heap.size ≤ _ by simp)
  have hbl : Below w.heap.size w w2 := (below_alloc (Below.refl _ _) _).trans (hb.mono (by simp))
  have HR := Aside0.mk (And.intro hrow (And.intro hbl (And.intro hiff hlen)))
  clear hr hb hiff hlen hrow hbl
  cases ok with
  | true =>
    go_wp2
    go_ret
    exact ⟨v, h, rfl, HR.out.1, HR.out.2.1, ⟨fun _ => ⟨hw3, hw, hw2, HR.out.2.2.1.1 trivial⟩, fun _ => (HR.out.2.2.2 trivial).1⟩⟩
  | false =>
    go_wp2
    go_ret
    exact ⟨_, [], rfl, FRow.nil _ _, HR.out.2.1, ⟨fun h => by simp at h, fun ⟨_, _, _, h2⟩ => by have := HR.out.2.2.1.2 h2; cases this⟩⟩
end Go.Proofs.Ytinkhlfmjfahpaa.PLoadKeeps

namespace Go.Proofs.Ytinkhlfmjfahpaa.PLoadKeeps
open Go.RowKit Go.MapKept Go.Proofs.YtinkhlfmjfahpaaW.PrintWords Go.Proofs.YtinkhlfmjfahpaaW.PrintLast Go.Proofs.YtinkhlfmjfahpaaW.PrintMore
set_option linter.unusedVariables false
set_option linter.unusedSimpArgs false

def enc35 (x : S35) : List Value := [.int .i64 x.f0, .int .i64 x.f1, .int .i64 x.f2]
theorem lays35 : Lays enc35 3 := ⟨fun _ => rfl, fun x u hu => by simp [enc35] at hu; rcases hu with rfl | rfl | rfl <;> rfl⟩
theorem row_f : waymarklaw52_row.f = some rowL := rfl
theorem row_base {w : World} {A : Option Addr} {c : Nat} (h : Kd.C k39 w A rowL.length rowL) (hc : rowL.length ≤ c) : BaseOk 2000 rowL w A c :=
  ⟨h, hc, row_ok, by decide, lsdb_ok rowL (by decide) row_ok, arcs_ok row_ok, by rw [row_arcs]; simp⟩
set_option maxHeartbeats 1600000 in
set_option maxRecDepth 100000 in
theorem awake.calls (w : World) : Calls Try.prog 6 #[] w fun e w' => e = .returned (.bool true) ∧ Below w.heap.size w w' := by
  have heq : ∀ w, (binOp .eql 31 (.agg #[.int .i64 2, .int .i64 3, .int .i64 5]) (.agg #[.int .i64 2, .int .i64 3, .int .i64 5])).run Try.prog w = .ok (.bool true) w := fun w => by kernel_rfl
  have HEQ := Aside0.mk heq
  clear heq
  go_enter Try.func6, Try.ntmps6
  go_wp2_with (first
    | (go_at_call 11; refine (waymarklaw52_row.calls rowL _ row_f).mono ?_; rintro e w1 ⟨v1, rfl, hN1, hb1⟩; obtain ⟨A1, c1, rfl, hc1, hC1⟩ := Kd.N_reads hN1; clear hN1))
  have hD1 : FRow enc35 3 35 (w1.alloc (.cells #[.int .i64 1, .int .i64 3, .int .i64 5] 35)) w1.heap.size (.slice (some ⟨w1.heap.size, 0, none⟩) 1 1) [(⟨1, 3, 5⟩ : S35)] := FRow.many lays35 w1 [(⟨1, 3, 5⟩ : S35)] (by simp)
  have hW1 : Below w.heap.size w (w1.alloc (.cells #[.int .i64 1, .int .i64 3, .int .i64 5] 35)) := hb1.alloc hb1.size _
  have hcall := load_Of.calls 2000 rowL A1 c1 [(⟨1, 3, 5⟩ : S35)] (some ⟨w1.heap.size, 0, none⟩) 1 _ (row_base (Kd.C_below hC1 (below_alloc (Below.refl _ _) (.cells #[.int .i64 1, .int .i64 3, .int .i64 5] 35))) hc1) (FRow.C (c := 1) (xs := [(⟨1, 3, 5⟩ : S35)]) rfl (fun w x => k35_mk w x) lays35 hD1) (by decide) (by decide) (WayOf.small (arcs_ok row_ok))
  have HW1 := Aside0.mk hW1
  clear hD1 hW1 hb1 hC1 hc1
  generalize w1.alloc (.cells #[.int .i64 1, .int .i64 3, .int .i64 5] 35) = w2 at *
  refine hcall.mono ?_
  clear hcall
  rintro e w3 ⟨v, E, out, rfl, hr3, hb3, hL, hS, hND, hP, hso⟩
  obtain rfl := row_out hL hP hso
  obtain ⟨g, cp, rfl, hcp⟩ := hr3.form (by decide)
  have hb3' := HW1.out.trans (hb3.mono HW1.out.size)
  have H3 := Aside0.mk (And.intro hr3 hb3')
  clear hr3 hb3 hL hS hND hP hso hb3'
  go_wp2_with (go_at_call 11; refine (waymarklaw52_row.calls rowL _ row_f).mono ?_; rintro e w4 ⟨v1, rfl, hN4, hb4⟩; obtain ⟨A4, c4, rfl, hc4, hC4⟩ := Kd.N_reads hN4; clear hN4)
  have hD1 : FRow enc35 3 35 (w4.alloc (.cells #[.int .i64 1, .int .i64 3, .int .i64 5, .int .i64 1, .int .i64 4, .int .i64 1] 35)) w4.heap.size (.slice (some ⟨w4.heap.size, 0, none⟩) 2 2) [(⟨1, 3, 5⟩ : S35), ⟨1, 4, 1⟩] := FRow.many lays35 w4 [(⟨1, 3, 5⟩ : S35), ⟨1, 4, 1⟩] (by simp)
  have hb4' : Below w3.heap.size w3 (w4.alloc (.cells #[.int .i64 1, .int .i64 3, .int .i64 5, .int .i64 1, .int .i64 4, .int .i64 1] 35)) := hb4.alloc hb4.size _
  have hcall := load_Carried.calls 2000 rowL A4 c4 [(⟨1, 3, 5⟩ : S35), ⟨1, 4, 1⟩] (some ⟨w4.heap.size, 0, none⟩) 2 _ (row_base (Kd.C_below hC4 (below_alloc (Below.refl _ _) (.cells #[.int .i64 1, .int .i64 3, .int .i64 5, .int .i64 1, .int .i64 4, .int .i64 1] 35))) hc4) (FRow.C (c := 2) (xs := [(⟨1, 3, 5⟩ : S35), ⟨1, 4, 1⟩]) rfl (fun w x => k35_mk w x) lays35 hD1) (by decide) (by decide)
  have HW4 := Aside0.mk hb4'
  clear hD1 hb4 hC4 hc4 hb4'
  generalize w4.alloc (.cells #[.int .i64 1, .int .i64 3, .int .i64 5, .int .i64 1, .int .i64 4, .int .i64 1] 35) = w5 at *
  refine hcall.mono ?_
  clear hcall
  rintro e w6 ⟨s, n, rfl, hb6, hC⟩
  obtain ⟨rfl, rfl⟩ := row_carry hC
  clear hC
  have hb36 := HW4.out.trans (hb6.mono HW4.out.size)
  have hr6 := FRow.below H3.out.1 hb36
  have x0 := (hr6.cell lays31 z31 1 0 (by decide) (by decide)).1
  have x1 := (hr6.cell lays31 z31 1 1 (by decide) (by decide)).1
  have x2 := (hr6.cell lays31 z31 1 2 (by decide) (by decide)).1
  change w6.cell? ⟨g, 3, none⟩ = some (.int .i64 2) at x0
  change w6.cell? ⟨g, 4, none⟩ = some (.int .i64 3) at x1
  change w6.cell? ⟨g, 5, none⟩ = some (.int .i64 5) at x2
  have HE := Aside0.mk (H3.out.2.trans (hb36.mono H3.out.2.size))
  have heq := HEQ.out w6
  clear hr6 hb36 hb6
  go_wp2
  go_ret
  exact ⟨rfl, HE.out⟩
end Go.Proofs.Ytinkhlfmjfahpaa.PLoadKeeps
