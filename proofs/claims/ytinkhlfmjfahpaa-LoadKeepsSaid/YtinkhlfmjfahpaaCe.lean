/- graph.Check of arcs that may be. graph.Arcs of a base that may be. -/
import Derived.Test.YtinkhlfmjfahpaaCd
namespace Go.Proofs.Ytinkhlfmjfahpaa.PLoadKeeps
open Go.RowKit Go.Proofs.YtinkhlfmjfahpaaW.PrintWords Go.Proofs.YtinkhlfmjfahpaaW.PrintLast Go.Proofs.YtinkhlfmjfahpaaW.PrintMore
set_option linter.unusedVariables false
set_option linter.unusedSimpArgs false

/-- An arc that may be. -/
def ArcOk (a : S31) : Prop := (1 ≤ a.f0 ∧ a.f0 ≤ 64) ∧ (1 ≤ a.f1 ∧ a.f1 ≤ 64) ∧ a.f0 ≠ a.f1 ∧ 1 ≤ a.f2 ∧ a.f2 ≤ 1073741824
/-- One arc is ahead of another one. -/
def ArcLt (a b : S31) : Prop := a.f0 < b.f0 ∨ (a.f0 = b.f0 ∧ a.f1 < b.f1)
def ArcsOk (l : List S31) : Prop := (∀ a ∈ l, ArcOk a) ∧ l.Pairwise ArcLt

theorem compare_lt {a b : Int} (h : a < b) : cmp_Compare_int.f a b = some (-1) := by
  unfold cmp_Compare_int.f cmp_isNaN_int.f
  simp [h]
theorem compare_eq (a : Int) : cmp_Compare_int.f a a = some 0 := by
  unfold cmp_Compare_int.f cmp_isNaN_int.f
  simp
theorem compare_some (a b : Int) : ∃ r, cmp_Compare_int.f a b = some r := by
  unfold cmp_Compare_int.f cmp_isNaN_int.f
  simp only [Option.bind_some]
  repeat' split
  all_goals exact ⟨_, rfl⟩
theorem or_first (r : Int) : cmp_Or_int.f 3 [-1, r] = some (-1) := by
  simp [cmp_Or_int.f, cmp_Or_int.l0, rd]
theorem or_second : cmp_Or_int.f 3 [0, -1] = some (-1) := by
  simp [cmp_Or_int.f, cmp_Or_int.l0, rd, wrap64]
theorem order_lt {a b : S31} (h : ArcLt a b) : graph_order.f 3 a.f0 a.f1 a.f2 b.f0 b.f1 b.f2 = some (-1) := by
  unfold graph_order.f
  rcases h with h | ⟨h, h1⟩
  · obtain ⟨r, hr⟩ := compare_some a.f1 b.f1
    rw [compare_lt h, hr]
    simp only [Option.bind_some, or_first]
  · rw [h, compare_eq, compare_lt h1]
    simp only [Option.bind_some, or_second]

theorem wpStill_skip {P : Program} {ops : Array Oper} {w : World} {Q : Act → Prop} {a : Act} {o : Oper} {rest : List Oper} (hw : Region.wanted o (yielded ops a.tmps) = false) (h : wpStill P ops w Q rest (a.put o.dst undef)) : wpStill P ops w Q (o :: rest) a := by
  unfold wpStill
  rw [if_neg (by rw [hw]; simp)]
  exact h
theorem ar_get {l : List S31} {i : Nat} (h : i < l.length) : ar l i = l[i] := by
  unfold ar
  rw [List.getD_eq_getElem?_getD, List.getElem?_eq_getElem h]
  rfl
theorem graph_node.same (n : Int) (w : World) (h1 : 1 ≤ n) (h2 : n ≤ 64) : Calls Try.prog 65 #[.int .i64 n] w fun e w' => e = .returned (.bool true) ∧ w' = w := by
  have d1 : decide (1 ≤ n) = true := by simpa using h1
  have d2 : decide (n ≤ 64) = true := by simpa using h2
  go_enter Try.func65, Try.ntmps65
  go_wp2
  go_ret
  exact ⟨rfl, rfl⟩

set_option maxHeartbeats 1600000 in
set_option maxRecDepth 100000 in
theorem graph_Check.calls (l : List S31) (A : Option Addr) (c : Nat) (w : World) (hA : Kd.C k31 w A l.length l) (hcp : l.length ≤ c) (hok : ArcsOk l) :
    Calls Try.prog 48 #[.slice A l.length c] w fun e w' => e = .returned (.int .i64 0) ∧ Below w.heap.size w w' := by
  have hm := Kd.C_max hA
  have HA := Aside0.mk hA
  have HO := Aside0.mk hok
  clear hA hok
  go_enter Try.func48, Try.ntmps48
  go_wp2
  go_loopw [3, 7] (fun _ i wr => ∃ k : Nat, Aside0 (k ≤ l.length ∧ Below w.heap.size w wr) ∧ i = .int .i64 k) (fun _ i _ => l.length - (intOf i).toNat)
  case atStart => exact ⟨0, ⟨by omega, Below.refl _ _⟩, rfl⟩
  case round =>
    obtain ⟨k, hH, rfl⟩ := hrel
    have hb := hH.out.2
    by_cases hk : k < l.length
    · have hkm : (k : Int) < 9223372036854775807 := by omega
      have hC := Kd.C_below HA.out hb
      obtain ⟨ad, rfl, h0, h1, h2⟩ := at_T31 hC (k : Int) (by omega) (by omega)
      obtain ⟨a, ha⟩ : ∃ a, Aside0 (a = ar l k) := ⟨_, ⟨rfl⟩⟩
      rw [show rd_T31 l (k : Int) = a from ha.out.symm] at h0 h1 h2
      simp only [Int.toNat_natCast] at h0 h1 h2
      have hamem : a ∈ l := by rw [ha.out]; unfold ar; rw [List.getD_eq_getElem?_getD, List.getElem?_eq_getElem hk]; exact List.getElem_mem _
      have hak := HO.out.1 a hamem
      have HK := Aside0.mk hak
      have b1 : (a.f0 == a.f1) = false := by rw [beq_eq_false_iff_ne]; exact HK.out.2.2.1
      have b2 : decide (a.f2 < 1) = false := by simp; have := HK.out.2.2.2; omega
      have b3 : decide (1073741824 < a.f2) = false := by simp; have := HK.out.2.2.2; omega
      have HB := Aside0.mk hb
      clear hak hb hC
      go_upto_region 4 with fail
      generalize hX : wr.alloc (.cells #[.int .i64 a.f0, .int .i64 a.f1, .int .i64 a.f2] 31) = X
      have hbX : Below wr.heap.size wr X := by rw [← hX]; exact below_alloc (Below.refl _ _) _
      have ha31 : X.heap[wr.heap.size]? = some (.cells #[.int .i64 a.f0, .int .i64 a.f1, .int .i64 a.f2] 31 (0, 0)) := by rw [← hX]; exact heap_alloc_new _ _
      clear hX h0 h1 h2
      have q0 : X.cell? ⟨wr.heap.size, 0, none⟩ = some (.int .i64 a.f0) := (blk_cell ha31 0).trans rfl
      have q1 : X.cell? ⟨wr.heap.size, 1, none⟩ = some (.int .i64 a.f1) := (blk_cell ha31 1).trans rfl
      have q2 : X.cell? ⟨wr.heap.size, 2, none⟩ = some (.int .i64 a.f2) := (blk_cell ha31 2).trans rfl
      have HbX := Aside0.mk (HB.out.trans (hbX.mono HB.out.size))
      clear hbX ha31
      generalize wr.heap.size = ba at *
      by_cases h0 : k = 0
      · have g0 : decide (0 < (k : Int)) = false := by simp; omega
        refine wp_region_still_tail 37 (by kernel_rfl) (by kernel_rfl) ?_
        simp only [List.take_succ_cons, List.take_zero, List.drop_succ_cons, List.drop_zero]
        iterate 2 still_step
        still_call (graph_node.same a.f0 _ HK.out.1.1 HK.out.1.2)
        iterate 4 still_step
        still_call (graph_node.same a.f1 _ HK.out.2.1.1 HK.out.2.1.2)
        iterate 23 still_step
        iterate 6 ((with_reducible refine wpStill_skip ?_ ?_); (· rfl))
        with_reducible refine wpStill_nil ?_
        go_wp2
        subst h0
        exact ⟨⟨1, ⟨hk, HbX.out.drew⟩, by go_num⟩, by simp [intOf]; omega⟩
      · have g0 : decide (0 < (k : Int)) = true := by simp; omega
        have g1 : 0 < k := by omega
        obtain ⟨j, hj⟩ : ∃ j, Aside0 (k = j + 1) := ⟨k - 1, ⟨by omega⟩⟩
        have hjl : j < l.length := by have := hj.out; omega
        obtain ⟨_, e, p0, p1, p2⟩ := at_T31 (Kd.C_below HA.out HbX.out) (j : Int) (by omega) (by omega)
        injection e with e
        subst e
        obtain ⟨a1, ha1⟩ : ∃ a, Aside0 (a = ar l j) := ⟨_, ⟨rfl⟩⟩
        rw [show rd_T31 l (j : Int) = a1 from ha1.out.symm] at p0 p1 p2
        simp only [Int.toNat_natCast] at p0 p1 p2
        have hsub : (k : Int) - 1 = (j : Int) := by have := hj.out; omega
        have hwr : IntKind.i64.wrap ((k : Int) - 1) = (j : Int) := by rw [hsub]; unfold IntKind.wrap; simp [IntKind.bits, IntKind.signed]; omega
        clear hsub
        have hji : (j : Int) < l.length := by omega
        have hlt : ArcLt a1 a := by
          have := List.pairwise_iff_getElem.1 HO.out.2 j k hjl hk (by have := hj.out; omega)
          rw [ha.out, ha1.out, ar_get hk, ar_get hjl]
          exact this
        have HLT := Aside0.mk hlt
        clear hlt
        refine wp_region_still_tail 37 (by kernel_rfl) (by kernel_rfl) ?_
        simp only [List.take_succ_cons, List.take_zero, List.drop_succ_cons, List.drop_zero]
        iterate 2 still_step
        still_call (graph_node.same a.f0 _ HK.out.1.1 HK.out.1.2)
        iterate 4 still_step
        still_call (graph_node.same a.f1 _ HK.out.2.1.1 HK.out.2.1.2)
        iterate 29 still_step
        with_reducible refine wpStill_nil ?_
        change wpList _ _ _ _ _ X.drew
        clear q0 q1 q2 p0 p1 p2 hwr
        have hbd : Below w.heap.size w X.drew := HbX.out.drew
        generalize X.drew = w2 at hbd ⊢
        go_wp2_with (go_at_call 66; refine (graph_order.calls 3 _ _ _ _ _ _ _ _ (order_lt HLT.out)).mono ?_; rintro e w' ⟨rfl, hb3⟩)
        exact ⟨⟨k + 1, ⟨hk, hbd.trans (hb3.mono hbd.size)⟩, by go_num⟩, by simp [intOf]; omega⟩
    · have hk2 : ¬ ((k : Int) < l.length) := by omega
      have HB := Aside0.mk hb
      clear hb
      go_wp2
      go_ret
      exact ⟨rfl, HB.out⟩

end Go.Proofs.Ytinkhlfmjfahpaa.PLoadKeeps

namespace Go.Proofs.Ytinkhlfmjfahpaa.PLoadKeeps
open Go.RowKit Go.Proofs.YtinkhlfmjfahpaaW.PrintWords Go.Proofs.YtinkhlfmjfahpaaW.PrintLast Go.Proofs.YtinkhlfmjfahpaaW.PrintMore
set_option linter.unusedVariables false
set_option linter.unusedSimpArgs false

/-- An Lsa that may be. -/
structure LsaOk (x : S39) : Prop where
  o1 : 1 ≤ x.f0
  o2 : x.f0 ≤ 64
  s1 : 1 ≤ x.f1
  s2 : x.f1 ≤ 4611686018427387904
  few : x.f2.length ≤ 16
  link : ∀ y ∈ x.f2, (1 ≤ y.f0 ∧ y.f0 ≤ 64) ∧ y.f0 ≠ x.f0 ∧ 1 ≤ y.f1 ∧ y.f1 ≤ 1073741824
  sorted : x.f2.Pairwise (fun a b => a.f0 < b.f0)
structure DbOk (db : List S39) : Prop where
  each : ∀ x ∈ db, LsaOk x
  sorted : db.Pairwise (fun a b => a.f0 < b.f0)

/-- The links that an origin tells of. -/
def linksOf (db : List S39) (t : Int) : List S56 := match db.find? (fun x => decide (x.f0 = t)) with | some x => x.f2 | none => []
/-- Does the other end tell of it, too? -/
def both (db : List S39) (o : Int) (y : S56) : Bool := decide (0 < costOf (linksOf db y.f0) o)
def arcsOfLsa (db : List S39) (x : S39) : List S31 := (x.f2.filter (both db x.f0)).map (fun y => ⟨x.f0, y.f0, y.f1⟩)
def arcsOf (db : List S39) : List S31 := db.flatMap (arcsOfLsa db)

def lk (db : List S39) (i : Nat) : S39 := db.getD i z39
theorem lk_get {l : List S39} {i : Nat} (h : i < l.length) : lk l i = l[i] := by
  unfold lk
  rw [List.getD_eq_getElem?_getD, List.getElem?_eq_getElem h]
  rfl

/-- An Lsa as a value. -/
def IsLsa (w : World) (x : S39) (v : Value) : Prop := ∃ A c, v = .agg #[.int .i64 x.f0, .int .i64 x.f1, .slice A x.f2.length c] ∧ x.f2.length ≤ c ∧ Kd.C k56 w A x.f2.length x.f2
theorem IsLsa.below {w w1 : World} {x : S39} {v : Value} (h : IsLsa w x v) (hb : Below w.heap.size w w1) : IsLsa w1 x v := by
  obtain ⟨A, c, h1, h2, h3⟩ := h
  exact ⟨A, c, h1, h2, Kd.C_below h3 hb⟩
/-- The map of a base's first Lsas. -/
def MapOf (w : World) (db : List S39) (k : Nat) (f : Int → Option Value) : Prop := (∀ j, j < k → ∃ v, f (lk db j).f0 = some v ∧ IsLsa w (lk db j) v) ∧ ∀ o, (∀ j, j < k → (lk db j).f0 ≠ o) → f o = none
theorem MapOf.put {w : World} {db : List S39} {k : Nat} {f : Int → Option Value} (h : MapOf w db k f) (hd : db.Pairwise (fun a b => a.f0 < b.f0)) (hk : k < db.length) {v : Value} (hv : IsLsa w (lk db k) v) : MapOf w db (k + 1) (put f (lk db k).f0 v) := by
  have hne : ∀ j, j < k → (lk db j).f0 ≠ (lk db k).f0 := fun j hj => by
    rw [lk_get hk, lk_get (Nat.lt_trans hj hk)]
    have := List.pairwise_iff_getElem.1 hd j k (Nat.lt_trans hj hk) hk hj
    omega
  refine ⟨fun j hj => ?_, fun o ho => ?_⟩
  · by_cases e : j = k
    · subst e; exact ⟨v, by simp [PLoadKeeps.put], hv⟩
    · obtain ⟨u, h1, h2⟩ := h.1 j (by omega)
      exact ⟨u, by unfold PLoadKeeps.put; rw [if_neg (hne j (by omega))]; exact h1, h2⟩
  · unfold PLoadKeeps.put
    rw [if_neg (fun e => ho k (by omega) e.symm)]
    exact h.2 o (fun j hj => ho j (by omega))
theorem MapOf.below {w w1 : World} {db : List S39} {k : Nat} {f : Int → Option Value} (h : MapOf w db k f) (hb : Below w.heap.size w w1) : MapOf w1 db k f :=
  ⟨fun j hj => by obtain ⟨v, h1, h2⟩ := h.1 j hj; exact ⟨v, h1, h2.below hb⟩, h.2⟩

theorem MapOf.at_ {w : World} {db : List S39} {f : Int → Option Value} (h : MapOf w db db.length f) (hd : db.Pairwise (fun a b => a.f0 < b.f0)) (t : Int) :
    ∃ o s A1 c1, (f t).getD (.agg #[.int .i64 0, .int .i64 0, .slice none 0 0]) = .agg #[.int .i64 o, .int .i64 s, .slice A1 (linksOf db t).length c1] ∧ (linksOf db t).length ≤ c1 ∧ Kd.C k56 w A1 (linksOf db t).length (linksOf db t) := by
  by_cases hj : ∃ j, j < db.length ∧ (lk db j).f0 = t
  · obtain ⟨j, hj, rfl⟩ := hj
    obtain ⟨v, h1, A, c, rfl, h2, h3⟩ := h.1 j hj
    have hl : linksOf db (lk db j).f0 = (lk db j).f2 := by
      unfold linksOf
      rw [find_first z39 _ db j hj (by show decide ((lk db j).f0 = (lk db j).f0) = true; simp) (fun i hi => by
        have := List.pairwise_iff_getElem.1 hd i j (by omega) hj hi
        rw [← lk_get hj, ← lk_get (by omega)] at this
        show decide ((lk db i).f0 = (lk db j).f0) = false
        simp; omega)]
      rfl
    rw [hl]
    exact ⟨_, _, A, c, by rw [h1]; rfl, h2, h3⟩
  · have hn : ∀ j, j < db.length → (lk db j).f0 ≠ t := fun j hj' e => hj ⟨j, hj', e⟩
    have hl : linksOf db t = [] := by
      unfold linksOf
      rw [find_none' z39 _ db (fun j hj' => by have := hn j hj'; show decide ((lk db j).f0 = t) = false; simpa using this)]
    rw [hl, h.2 t hn]
    exact ⟨0, 0, none, 0, rfl, by simp, Kd.C_nil _ _⟩

def enc31 (x : S31) : List Value := [.int .i64 x.f0, .int .i64 x.f1, .int .i64 x.f2]
theorem lays31 : Lays enc31 3 := ⟨fun _ => rfl, fun x u hu => by simp [enc31] at hu; rcases hu with rfl | rfl | rfl <;> rfl⟩
def ArcsPost (w : World) (l : List S31) (e : Ending) (w' : World) : Prop := ∃ v, e = .returned v ∧ FRow enc31 3 31 w' w.heap.size v l ∧ Below w.heap.size w w'

set_option maxHeartbeats 1600000 in
set_option maxRecDepth 100000 in
theorem graph_Arcs.calls (k0 : Nat) (db : List S39) (A : Option Addr) (c : Nat) (w : World) (hA : Kd.C k39 w A db.length db) (hcp : db.length ≤ c) (hok : DbOk db) (hn : db.length ≤ 1000) (hck : lsdb_Check.f k0 db = some 0) :
    Calls Try.prog 30 #[.slice A db.length c] w (ArcsPost w (arcsOf db)) := by
  have HA := Aside0.mk hA
  have HO := Aside0.mk hok
  have HCK := Aside0.mk hck
  clear hA hok hck
  have hmm := @run_makeMap Try.prog
  go_enter Try.func30, Try.ntmps30
  go_wp2_with (go_at_call 13; refine (lsdb_Check.calls k0 A c db 0 _ HA.out hcp HCK.out).mono ?_; rintro e w1 ⟨rfl, hb1⟩)
  have hW1 : Below w.heap.size w (w1.alloc (.map #[] 0)) := hb1.alloc hb1.size _
  have HM0 := Aside0.mk (And.intro hW1 (And.intro (IMap.made w1) hb1.size))
  clear hW1 hb1
  generalize w1.heap.size = mb at HM0 ⊢
  go_loopw [17] (fun i wr => ∃ (k : Nat) (f : Int → Option Value), Aside0 (k ≤ db.length ∧ Below w.heap.size w wr ∧ IMap wr mb f ∧ MapOf w db k f) ∧ i = .int .i64 k) (fun i _ => db.length - (intOf i).toNat)
  case atStart => exact ⟨0, fun _ => none, ⟨by omega, HM0.out.1, HM0.out.2.1, ⟨by omega, fun _ _ => rfl⟩⟩, rfl⟩
  case round =>
    obtain ⟨k, f, hH, rfl⟩ := hrel
    have hb := hH.out.2.1
    have hkm : (k : Int) ≤ 1000 := by have := hH.out.1; omega
    by_cases hk : k < db.length
    · obtain ⟨ad, A0, c0, rfl, h0', h1', h2', hl, hC⟩ := at_T39 HA.out (k : Int) (by omega) (by omega)
      have h0 := (hb.cell (World.block_lt_of_cell? w _ h0')).trans h0'
      have h1 := (hb.cell (World.block_lt_of_cell? w _ h1')).trans h1'
      have h2 := (hb.cell (World.block_lt_of_cell? w _ h2')).trans h2'
      clear h0' h1' h2'
      obtain ⟨x, hx⟩ : ∃ x, Aside0 (x = lk db k) := ⟨_, ⟨rfl⟩⟩
      rw [show rd_T39 db (k : Int) = x from hx.out.symm] at h0 h1 h2 hl hC
      simp only [Int.toNat_natCast] at h0 h1 h2
      have hlsa : IsLsa w x (.agg #[.int .i64 x.f0, .int .i64 x.f1, .slice A0 x.f2.length c0]) := ⟨A0, c0, rfl, hl, hC⟩
      have HL := Aside0.mk hlsa
      have HB := Aside0.mk hb
      clear hlsa hb hC
      go_upto_region 7 with fail
      have hbX : Below wr.heap.size wr (wr.alloc (.cells #[.int .i64 x.f0, .int .i64 x.f1, .slice A0 x.f2.length c0] 39)) := below_alloc (Below.refl _ _) _
      obtain ⟨w5, hrun, hm, hc⟩ := (hH.out.2.2.1.below hbX).store (P := Try.prog) Try.underlying82 Try.underlying3 x.f0 (.agg #[.int .i64 x.f0, .int .i64 x.f1, .slice A0 x.f2.length c0])
      have hb5 : Below w.heap.size w w5 := (HB.out.alloc HB.out.size _).trans (hc.below (by simp; have := HB.out.size; omega) (fun j hj => by rw [hj]; exact HM0.out.2.2))
      have hbr : MapOf w db (k + 1) (put f x.f0 (.agg #[.int .i64 x.f0, .int .i64 x.f1, .slice A0 x.f2.length c0])) := by
        have := MapOf.put hH.out.2.2.2 HO.out.sorted hk (v := .agg #[.int .i64 x.f0, .int .i64 x.f1, .slice A0 x.f2.length c0]) (by rw [← hx.out]; exact HL.out)
        rwa [← hx.out] at this
      have HQ := Aside0.mk (And.intro hb5 (And.intro hm hbr))
      clear hm hc hbX hb5 hbr
      go_wp2
      exact ⟨⟨k + 1, _, ⟨hk, HQ.out.1, HQ.out.2.1, HQ.out.2.2⟩, by go_num⟩, by simp [intOf]; omega⟩
    · have hk2 : ¬ ((k : Int) < db.length) := by omega
      obtain rfl : k = db.length := by have := hH.out.1; omega
      clear hkm
      have HB := Aside0.mk hb
      clear hb hk
      go_wp2
      obtain ⟨w2, rfl⟩ : ∃ w2, w2 = wr := ⟨_, rfl⟩
      go_loopw [6, 28] (fun o i wr => ∃ (k : Nat) (v : Value) (l : List S31), Aside0 (k ≤ db.length ∧ Below w.heap.size w wr ∧ IMap wr mb f ∧ FRow enc31 3 31 wr w.heap.size v l ∧ l = (db.take k).flatMap (arcsOfLsa db) ∧ l.length ≤ 16 * k) ∧ i = .int .i64 k ∧ v = o) (fun _ i _ => db.length - (intOf i).toNat)
      case atStart => exact ⟨0, .slice none 0 0, [], ⟨by omega, HB.out, hH.out.2.2.1, FRow.nil _ _, by simp, by simp⟩, rfl, rfl⟩
      case round =>
        obtain ⟨k, v, l, hI, rfl, rfl⟩ := hrel
        have hb := hI.out.2.1
        have hkm : (k : Int) ≤ 1000 := by have := hI.out.1; omega
        by_cases hk : k < db.length
        · obtain ⟨ad, A0, c0, rfl, h0', h1', h2', hl, hC⟩ := at_T39 HA.out (k : Int) (by omega) (by omega)
          have h0 := (hb.cell (World.block_lt_of_cell? w _ h0')).trans h0'
          have h1 := (hb.cell (World.block_lt_of_cell? w _ h1')).trans h1'
          have h2 := (hb.cell (World.block_lt_of_cell? w _ h2')).trans h2'
          clear h0' h1' h2'
          obtain ⟨x, hx⟩ : ∃ x, Aside0 (x = lk db k) := ⟨_, ⟨rfl⟩⟩
          rw [show rd_T39 db (k : Int) = x from hx.out.symm] at h0 h1 h2 hl hC
          simp only [Int.toNat_natCast] at h0 h1 h2
          have HC := Aside0.mk hC
          have HB2 := Aside0.mk hb
          clear hb hC
          have hxm : LsaOk x := HO.out.each x (by rw [hx.out, lk_get hk]; exact List.getElem_mem _)
          have hxl : x.f2.length ≤ 16 := hxm.few
          have HXM := Aside0.mk hxm
          clear hxm
          go_wp2
          have hbx : (wr.alloc (.cells #[.int .i64 x.f0, .int .i64 x.f1, .slice A0 x.f2.length c0] 39)).heap[wr.heap.size]? = some (.cells #[.int .i64 x.f0, .int .i64 x.f1, .slice A0 x.f2.length c0] 39 (0, 0)) := heap_alloc_new _ _
          have hbW : Below w.heap.size w (wr.alloc (.cells #[.int .i64 x.f0, .int .i64 x.f1, .slice A0 x.f2.length c0] 39)) := HB2.out.alloc HB2.out.size _
          have hbr : Below wr.heap.size wr (wr.alloc (.cells #[.int .i64 x.f0, .int .i64 x.f1, .slice A0 x.f2.length c0] 39)) := below_alloc (Below.refl _ _) _
          have HS := Aside0.mk (And.intro hbx (And.intro hbW (And.intro (hI.out.2.2.1.below hbr) (FRow.below hI.out.2.2.2.1 hbr))))
          clear hbx hbW hbr h0 h1 h2
          generalize wr.alloc (.cells #[.int .i64 x.f0, .int .i64 x.f1, .slice A0 x.f2.length c0] 39) = w3 at HS ⊢
          have HSZ := Aside0.mk HB2.out.size
          generalize wr.heap.size = bx at HS HSZ ⊢
          go_loopw [6, 35] (fun o i wq => ∃ (j : Nat) (v' : Value) (l' : List S31), Aside0 (j ≤ x.f2.length ∧ Below w.heap.size w wq ∧ IMap wq mb f ∧ FRow enc31 3 31 wq w.heap.size v' l' ∧ l' = l ++ ((x.f2.take j).filter (both db x.f0)).map (fun y => (⟨x.f0, y.f0, y.f1⟩ : S31)) ∧ l'.length ≤ 16 * k + j ∧ wq.heap[bx]? = some (.cells #[.int .i64 x.f0, .int .i64 x.f1, .slice A0 x.f2.length c0] 39 (0, 0))) ∧ i = .int .i64 j ∧ v' = o) (fun _ i _ => x.f2.length - (intOf i).toNat)
          case atStart => exact ⟨0, v, l, ⟨by omega, HS.out.2.1, HS.out.2.2.1, HS.out.2.2.2, by simp, by have := hI.out.2.2.2.2.2; omega, HS.out.1⟩, rfl, rfl⟩
          case round =>
            obtain ⟨j, v', l', hJ, rfl, rfl⟩ := hrel
            have hb := hJ.out.2.1
            have hjm : (j : Int) ≤ 16 := by have := hJ.out.1; omega
            by_cases hj : j < x.f2.length
            · obtain ⟨ad2, rfl, g0', g1'⟩ := at_T56 HC.out (j : Int) (by omega) (by omega)
              have g0 := (hb.cell (World.block_lt_of_cell? w _ g0')).trans g0'
              have g1 := (hb.cell (World.block_lt_of_cell? w _ g1')).trans g1'
              clear g0' g1'
              obtain ⟨y, hy⟩ : ∃ y, Aside0 (y = x.f2.getD j z56) := ⟨_, ⟨rfl⟩⟩
              rw [show rd_T56 x.f2 (j : Int) = y from hy.out.symm] at g0 g1
              simp only [Int.toNat_natCast] at g0 g1
              have hz39 : ∀ w, (zeroValue 39).run Try.prog w = .ok (.agg #[.int .i64 0, .int .i64 0, .slice none 0 0]) w := fun w => by kernel_rfl
              obtain ⟨o1, s1, A1, c1, e1, e2, e3⟩ := MapOf.at_ hH.out.2.2.2 HO.out.sorted y.f0
              have hlk := (hJ.out.2.2.1.below (w1 := wr.alloc (.cells #[.int .i64 y.f0, .int .i64 y.f1] 56)) (below_alloc (Below.refl _ _) _)).lookup (P := Try.prog) Try.underlying82 Try.underlying3 _ hz39 y.f0 false
              simp only [Bool.false_eq_true, if_false] at hlk
              rw [e1] at hlk
              have x0 : wr.cell? ⟨bx, 0, none⟩ = some (.int .i64 x.f0) := (blk_cell hJ.out.2.2.2.2.2.2 0).trans rfl
              have hbl : bx < wr.heap.size := blk_lt hJ.out.2.2.2.2.2.2
              have HE := Aside0.mk (And.intro e2 e3)
              have HB3 := Aside0.mk hb
              clear e1 e2 e3 hb hz39
              go_wp2_with fail
              have hbw0 : Below w.heap.size w (wr.alloc (.cells #[.int .i64 y.f0, .int .i64 y.f1] 56)) := HB3.out.alloc HB3.out.size _
              refine (lsa_Cost.calls o1 s1 (linksOf db y.f0) A1 c1 x.f0 _ (Kd.C_below HE.out.2 hbw0) HE.out.1).mono ?_
              rintro e w4 ⟨rfl, hb4⟩
              have hb14 : Below wr.heap.size wr w4 := (below_alloc (Below.refl _ _) _).trans (hb4.mono (by simp))
              have hyb : w4.heap[wr.heap.size]? = some (.cells #[.int .i64 y.f0, .int .i64 y.f1] 56 (0, 0)) := (hb4.block _ (by simp)).trans (heap_alloc_new _ _)
              have hxb : w4.heap[bx]? = some (.cells #[.int .i64 x.f0, .int .i64 x.f1, .slice (some ad2) x.f2.length c0] 39 (0, 0)) := (hb14.block _ hbl).trans hJ.out.2.2.2.2.2.2
              have HW4 := Aside0.mk (And.intro (HB3.out.trans (hb14.mono HB3.out.size)) (And.intro (hJ.out.2.2.1.below hb14) (And.intro (FRow.below hJ.out.2.2.2.1 hb14) hxb)))
              clear x0 hbl hlk g0 g1 hb4
              have x0 : w4.cell? ⟨bx, 0, none⟩ = some (.int .i64 x.f0) := (blk_cell hxb 0).trans rfl
              have y0 : w4.cell? ⟨wr.heap.size, 0, none⟩ = some (.int .i64 y.f0) := (blk_cell hyb 0).trans rfl
              have y1 : w4.cell? ⟨wr.heap.size, 1, none⟩ = some (.int .i64 y.f1) := (blk_cell hyb 1).trans rfl
              have hbo : Aside0 (both db x.f0 y = decide (0 < costOf (linksOf db y.f0) x.f0)) := ⟨rfl⟩
              generalize costOf (linksOf db y.f0) x.f0 = cc at hbo ⊢
              have hfl : Aside0 (((x.f2.take (j + 1)).filter (both db x.f0)).map (fun y => (⟨x.f0, y.f0, y.f1⟩ : S31)) = ((x.f2.take j).filter (both db x.f0)).map (fun y => (⟨x.f0, y.f0, y.f1⟩ : S31)) ++ (if 0 < cc then [(⟨x.f0, y.f0, y.f1⟩ : S31)] else [])) := by
                refine ⟨?_⟩
                have ey : x.f2[j] = y := by rw [hy.out, List.getD_eq_getElem?_getD, List.getElem?_eq_getElem hj]; rfl
                rw [List.take_succ_eq_append_getElem hj, List.filter_append, List.map_append, ey]
                congr 1
                by_cases h : 0 < cc
                · rw [if_pos h]; simp [List.filter_cons, hbo.out, h]
                · rw [if_neg h]; simp [List.filter_cons, hbo.out, h]
              clear hxb hyb hb14
              by_cases hcc : 0 < cc
              · go_wp2_with (at_builtin; refine wpList_append_flat lays31 w.heap.size rfl (.tmp 47) (.tmp 55) 28 31 (.agg #[.int .i64 0, .int .i64 0, .int .i64 0]) 24 rfl Try.underlying28 info31 rfl (by decide) (by decide) v' l' ⟨x.f0, y.f0, y.f1⟩ w4.heap.size rfl rfl (heap_alloc_new _ _) (FRow.below HW4.out.2.2.1 (below_alloc (Below.refl _ _) _)) (by have := HW4.out.1.size; simp; omega) (by have := hJ.out.2.2.2.2.2.1; omega) ?_; intro v2 w6 hv2 hg2 hat2)
                have hb6 : Below w.heap.size w w6 := (HW4.out.1.alloc HW4.out.1.size _).grown hg2 (by have := HW4.out.1.size; simp; omega) (fun k hk => HW4.out.2.2.1.ge hk)
                have hn1 : v'.ownBlock ≠ some bx := HW4.out.2.2.1.ne_block HW4.out.2.2.2 (by decide)
                have hn2 : v'.ownBlock ≠ some mb := fun h => by
                  obtain ⟨cells, hc⟩ := HW4.out.2.2.1.typed h
                  exact HW4.out.2.1.ne_cells hc rfl
                refine ⟨⟨j + 1, v2, l' ++ [⟨x.f0, y.f0, y.f1⟩], ⟨hj, hb6, ?_, hv2, ?_, ?_, ?_⟩, by go_num, rfl⟩, by simp [intOf]; omega⟩
                · exact (HW4.out.2.1.below (below_alloc (Below.refl _ _) _)).move (hg2.block mb (by have := HW4.out.2.1.lt; simp; omega) (fun e => hn2 e.symm))
                · rw [hfl.out, if_pos hcc, hJ.out.2.2.2.2.1, List.append_assoc]
                · have := hJ.out.2.2.2.2.2.1; simp; omega
                · exact (hg2.block bx (by have := blk_lt HW4.out.2.2.2; simp; omega) (fun e => hn1 e.symm)).trans (blk_alloc HW4.out.2.2.2 _)
              · go_wp2
                refine ⟨⟨j + 1, v', l', ⟨hj, HW4.out.1, HW4.out.2.1, HW4.out.2.2.1, ?_, ?_, HW4.out.2.2.2⟩, by go_num, rfl⟩, by simp [intOf]; omega⟩
                · rw [hfl.out, if_neg (by omega), List.append_nil]; exact hJ.out.2.2.2.2.1
                · have := hJ.out.2.2.2.2.2.1; omega
            · have hj2 : ¬ ((j : Int) < x.f2.length) := by omega
              have HB3 := Aside0.mk hb
              clear hb
              go_wp2
              refine ⟨⟨k + 1, v', l', ⟨hk, HB3.out, hJ.out.2.2.1, hJ.out.2.2.2.1, ?_, ?_⟩, by go_num, rfl⟩, by simp [intOf]; omega⟩
              · rw [hJ.out.2.2.2.2.1, List.take_of_length_le (by omega), hI.out.2.2.2.2.1, List.take_succ_eq_append_getElem hk, List.flatMap_append, ← lk_get hk, ← hx.out]
                simp [arcsOfLsa]
              · have := hJ.out.2.2.2.2.2.1; have := hJ.out.1; omega
        · have hk2 : ¬ ((k : Int) < db.length) := by omega
          have HB2 := Aside0.mk hb
          clear hb
          go_wp2
          go_ret
          refine ⟨_, rfl, ?_, HB2.out⟩
          have h := hI.out.2.2.2.1
          rw [hI.out.2.2.2.2.1, List.take_of_length_le (by omega)] at h
          exact h

end Go.Proofs.Ytinkhlfmjfahpaa.PLoadKeeps
