/- load.way and load.Carried. -/
import Derived.Test.YtinkhlfmjfahpaaLa
namespace Go.Proofs.Ytinkhlfmjfahpaa.PLoadKeeps
open Go.RowKit Go.MapKept Go.Proofs.YtinkhlfmjfahpaaW.PrintWords Go.Proofs.YtinkhlfmjfahpaaW.PrintLast Go.Proofs.YtinkhlfmjfahpaaW.PrintMore
set_option linter.unusedVariables false
set_option linter.unusedSimpArgs false

/-- A demand's way. -/
def WayOf (l : List S31) (d : S35) (h : List Int) (ok : Bool) : Prop := if 1 ≤ d.f2 ∧ d.f2 ≤ 1073741824 then HopsOf l d.f0 d.f1 h ok else ok = false ∧ h = []
def WPost (w : World) (l : List S31) (d : S35) (e : Ending) (w' : World) : Prop := ∃ v h ok, e = .returned (.tuple #[v, .bool ok]) ∧ FRow enc3 1 3 w' w.heap.size v h ∧ Below w.heap.size w w' ∧ WayOf l d h ok
/-- What is asked of a base. -/
structure BaseOk (k0 : Nat) (db : List S39) (w : World) (A : Option Addr) (c : Nat) : Prop where
  row : Kd.C k39 w A db.length db
  cap : db.length ≤ c
  ok : DbOk db
  few : db.length ≤ 1000
  chk : lsdb_Check.f k0 db = some 0
  arcs : ArcsOk (arcsOf db)
  len : (arcsOf db).length ≤ 100000
theorem BaseOk.below {k0 : Nat} {db : List S39} {w w1 : World} {A : Option Addr} {c : Nat} (h : BaseOk k0 db w A c) (hb : Below w.heap.size w w1) : BaseOk k0 db w1 A c := ⟨Kd.C_below h.row hb, h.cap, h.ok, h.few, h.chk, h.arcs, h.len⟩

set_option maxHeartbeats 1600000 in
set_option maxRecDepth 100000 in
theorem load_way.calls (k0 : Nat) (db : List S39) (A : Option Addr) (c : Nat) (d : S35) (w : World) (hB : BaseOk k0 db w A c) :
    Calls Try.prog 14 #[.slice A db.length c, .agg #[.int .i64 d.f0, .int .i64 d.f1, .int .i64 d.f2]] w (WPost w (arcsOf db) d) := by
  have HB := Aside0.mk hB
  clear hB
  by_cases h1 : 1 ≤ d.f2
  · by_cases h2 : d.f2 ≤ 1073741824
    · have HW := Aside0.mk (And.intro h1 h2)
      have d1 : decide (d.f2 < 1) = false := by simpa using h1
      have d2 : decide (d.f2 > 1073741824) = false := by simpa using h2
      have d3 : decide (1073741824 < d.f2) = false := by simpa using h2
      go_enter Try.func14, Try.ntmps14
      go_wp2_with (go_at_call 22; refine (route_Hops.calls k0 db A c d.f0 d.f1 _ (HB.out.below (below_alloc (Below.refl _ _) _)).row HB.out.cap HB.out.ok HB.out.few HB.out.chk HB.out.arcs HB.out.len).mono ?_; rintro e w1 ⟨v, h, ok, rfl, hr, hb, hh⟩)
      refine bodyPost_ret (v := .tuple #[v, .bool ok]) (by simp [results, Try.results14, go_sem]) rfl ⟨v, h, ok, rfl, ownsRow_base_a hr (by simp), (below_alloc (Below.refl _ _) _).trans (hb.mono (by simp)), ?_⟩
      unfold WayOf
      rw [if_pos HW.out]
      exact hh
    · have HW := Aside0.mk h2
      have d1 : decide (d.f2 < 1) = false := by simpa using h1
      have d2 : decide (d.f2 > 1073741824) = true := by simpa using h2
      have d3 : decide (1073741824 < d.f2) = true := by simpa using h2
      go_enter Try.func14, Try.ntmps14
      go_wp2
      refine bodyPost_ret (v := .tuple #[.slice none 0 0, .bool false]) (by simp [results, Try.results14, go_sem]) rfl ⟨_, [], false, rfl, FRow.nil _ _, below_alloc (Below.refl _ _) _, ?_⟩
      unfold WayOf
      rw [if_neg (fun h => by have := HW.out; omega)]
      exact ⟨rfl, rfl⟩
  · have HW := Aside0.mk h1
    have d1 : decide (d.f2 < 1) = true := by simpa using h1
    go_enter Try.func14, Try.ntmps14
    go_wp2
    refine bodyPost_ret (v := .tuple #[.slice none 0 0, .bool false]) (by simp [results, Try.results14, go_sem]) rfl ⟨_, [], false, rfl, FRow.nil _ _, below_alloc (Below.refl _ _) _, ?_⟩
    unfold WayOf
    rw [if_neg (fun h => by have := HW.out; omega)]
    exact ⟨rfl, rfl⟩

/-- What is carried. -/
inductive Carry (l : List S31) : List S35 → Int → Int → Prop
  | nil : Carry l [] 0 0
  | yes {ds : List S35} {s n : Int} {d : S35} {h : List Int} (k : Carry l ds s n) (w : WayOf l d h true) : Carry l (ds ++ [d]) (s + d.f2) n
  | no {ds : List S35} {s n : Int} {d : S35} {h : List Int} (k : Carry l ds s n) (w : WayOf l d h false) : Carry l (ds ++ [d]) s (n + 1)
theorem WayOf.amount {l : List S31} {d : S35} {h : List Int} (w : WayOf l d h true) : 1 ≤ d.f2 ∧ d.f2 ≤ 1073741824 := by
  unfold WayOf at w
  split at w
  · assumption
  · cases w.1
theorem Carry.bound {l : List S31} {ds : List S35} {s n : Int} (k : Carry l ds s n) : 0 ≤ s ∧ s ≤ 1073741824 * (ds.length : Int) ∧ 0 ≤ n ∧ n ≤ ds.length := by
  induction k with
  | nil => simp
  | yes k w ih => have := w.amount; simp only [List.length_append, List.length_singleton]; omega
  | no k w ih => simp only [List.length_append, List.length_singleton]; omega
def dm (ds : List S35) (i : Nat) : S35 := ds.getD i z35
theorem dm_get {l : List S35} {i : Nat} (h : i < l.length) : dm l i = l[i] := by
  unfold dm
  rw [List.getD_eq_getElem?_getD, List.getElem?_eq_getElem h]
  rfl
def CPost (w : World) (l : List S31) (ds : List S35) (e : Ending) (w' : World) : Prop := ∃ s n, e = .returned (.tuple #[.int .u64 s, .int .i64 n]) ∧ Below w.heap.size w w' ∧ Carry l ds s n

set_option maxHeartbeats 1600000 in
set_option maxRecDepth 100000 in
theorem load_Carried.calls (k0 : Nat) (db : List S39) (A : Option Addr) (c : Nat) (ds : List S35) (Ad : Option Addr) (cd : Nat) (w : World) (hB : BaseOk k0 db w A c) (hD : Kd.C k35 w Ad ds.length ds) (hcd : ds.length ≤ cd) (hn : ds.length ≤ 1000) :
    Calls Try.prog 12 #[.slice A db.length c, .slice Ad ds.length cd] w (CPost w (arcsOf db) ds) := by
  have HB := Aside0.mk hB
  have HD := Aside0.mk hD
  clear hB hD
  have hn2 : (ds.length : Int) ≤ 1000 := by omega
  have hmin : min (ds.length : Int) 1000 = ds.length := Int.min_eq_left hn2
  have hmax : max (ds.length : Int) 0 = ds.length := Int.max_eq_left (by omega)
  go_enter Try.func12, Try.ntmps12
  go_wp2
  clear hmin hmax
  go_loopw [6, 7, 18] (fun s6 s7 i wr => ∃ (k : Nat) (s n : Int), Aside0 (k ≤ ds.length ∧ Below w.heap.size w wr ∧ Carry (arcsOf db) (ds.take k) s n) ∧ i = .int .i64 k ∧ s6 = .int .u64 s ∧ s7 = .int .i64 n) (fun _ _ i _ => ds.length - (intOf i).toNat)
  case atStart => exact ⟨0, 0, 0, ⟨by omega, Below.refl _ _, .nil⟩, rfl, rfl, rfl⟩
  case round =>
    obtain ⟨k, s, n, hH, rfl, rfl, rfl⟩ := hrel
    have hb := hH.out.2.1
    have hkm : (k : Int) ≤ 1000 := by have := hH.out.1; omega
    by_cases hk : k < ds.length
    · obtain ⟨ad, rfl, h0', h1', h2'⟩ := at_T35 HD.out (k : Int) (by omega) (by omega)
      have h0 := (hb.cell (World.block_lt_of_cell? w _ h0')).trans h0'
      have h1 := (hb.cell (World.block_lt_of_cell? w _ h1')).trans h1'
      have h2 := (hb.cell (World.block_lt_of_cell? w _ h2')).trans h2'
      clear h0' h1' h2'
      obtain ⟨d, hd⟩ : ∃ d, Aside0 (d = dm ds k) := ⟨_, ⟨rfl⟩⟩
      rw [show rd_T35 ds (k : Int) = d from hd.out.symm] at h0 h1 h2
      simp only [Int.toNat_natCast] at h0 h1 h2
      have hBW := Aside0.mk hb
      clear hb
      have hcb := hH.out.2.2.bound
      have hcl : ((ds.take k).length : Int) ≤ 1000 := by rw [List.length_take]; omega
      have HC := Aside0.mk (And.intro hcb hcl)
      clear hcb hcl
      go_upto_region 6 with (go_at_call 14; refine (load_way.calls k0 db A c d _ (HB.out.below (hBW.out.alloc hBW.out.size _))).mono ?_; rintro e w1 ⟨v, h, ok, rfl, hr, hb1, hw⟩)
      have hbw : Below w.heap.size w w1 := (hBW.out.alloc hBW.out.size _).trans (hb1.mono (by have := hBW.out.size; simp; omega))
      have h35 : w1.heap[wr.heap.size]? = some (.cells #[.int .i64 d.f0, .int .i64 d.f1, .int .i64 d.f2] 35 (0, 0)) := (hb1.block _ (by simp)).trans (heap_alloc_new _ _)
      have x2 : w1.cell? ⟨wr.heap.size, 2, none⟩ = some (.int .i64 d.f2) := (blk_cell h35 2).trans rfl
      have xl : wr.heap.size < w1.heap.size := blk_lt h35
      have HW := Aside0.mk (And.intro hbw hw)
      clear hb1 h35 hbw h0 h1 h2 hr
      have htk : ds.take (k + 1) = ds.take k ++ [d] := by rw [List.take_succ_eq_append_getElem hk, hd.out, dm_get hk]
      have HT := Aside0.mk htk
      clear htk
      cases ok with
      | true =>
        have ham := HW.out.2.amount
        have e1 : IntKind.u64.wrap d.f2 = d.f2 := wrapU d.f2 (by omega) ham.2
        have e2 : IntKind.u64.wrap (s + d.f2) = s + d.f2 := by have := HC.out; unfold IntKind.wrap; simp [IntKind.bits, IntKind.signed]; omega
        clear ham hw
        go_wp2
        exact ⟨⟨k + 1, s + d.f2, n, ⟨hk, HW.out.1, by rw [HT.out]; exact .yes hH.out.2.2 HW.out.2⟩, by go_num, rfl, rfl⟩, by simp [intOf]; omega⟩
      | false =>
        have hnl : 0 ≤ n ∧ n ≤ 1000 := by have := HC.out; omega
        clear hw
        go_wp2
        exact ⟨⟨k + 1, s, n + 1, ⟨hk, HW.out.1, by rw [HT.out]; exact .no hH.out.2.2 HW.out.2⟩, by go_num, rfl, rfl⟩, by simp [intOf]; omega⟩
    · have hk2 : ¬ ((k : Int) < ds.length) := by omega
      have HB2 := Aside0.mk (And.intro hb (show k = ds.length by have := hH.out.1; omega))
      clear hb hkm
      go_wp2
      refine bodyPost_ret (v := .tuple #[.int .u64 s, .int .i64 n]) (by simp [results, Try.results12, go_sem]) rfl ⟨s, n, rfl, HB2.out.1, ?_⟩
      have := hH.out.2.2
      rw [HB2.out.2, List.take_length] at this
      exact this
end Go.Proofs.Ytinkhlfmjfahpaa.PLoadKeeps
