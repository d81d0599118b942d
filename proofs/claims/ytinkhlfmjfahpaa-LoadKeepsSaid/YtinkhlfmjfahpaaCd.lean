/- slices.IndexFunc over closures that hold a field against a number. lsa.Cost and route.Find. -/
import Derived.Test.YtinkhlfmjfahpaaCc
namespace Go.Proofs.Ytinkhlfmjfahpaa.PLoadKeeps
open Go.RowKit Go.Proofs.YtinkhlfmjfahpaaW.PrintWords Go.Proofs.YtinkhlfmjfahpaaW.PrintLast Go.Proofs.YtinkhlfmjfahpaaW.PrintMore
set_option linter.unusedVariables false
set_option linter.unusedSimpArgs false

/-- The first place at which p holds, or -1. -/
def IdxPost (p : Nat → Prop) (n : Nat) (e : Ending) : Prop := (∃ i : Nat, e = .returned (.int .i64 i) ∧ i < n ∧ p i ∧ ∀ j, j < i → ¬ p j) ∨ (e = .returned (.int .i64 (-1)) ∧ ∀ j, j < n → ¬ p j)

set_option maxHeartbeats 400000 in
theorem cost_is.calls (x : S56) (p : Nat) (tt : Int) (w : World) (hp : w.heap[p]? = some (.cells #[.int .i64 tt] 3 (0, 0))) :
    Calls Try.prog 64 #[.agg #[.int .i64 x.f0, .int .i64 x.f1], .pointer (some ⟨p, 0, none⟩)] w fun e w' => e = .returned (.bool (x.f0 == tt)) ∧ Below w.heap.size w w' := by
  have hl : p < w.heap.size := blk_lt hp
  have hc : w.cell? ⟨p, 0, none⟩ = some (.int .i64 tt) := (blk_cell hp 0).trans rfl
  go_enter Try.func64, Try.ntmps64
  go_wp2
  go_ret
  refine ⟨rfl, ?_⟩
  go_grown

set_option maxHeartbeats 800000 in
set_option maxRecDepth 100000 in
theorem cost_index.calls (xs : List S56) (A : Option Addr) (c p : Nat) (tt : Int) (w : World) (hA : Kd.C k56 w A xs.length xs) (hcp : xs.length ≤ c) (hp : w.heap[p]? = some (.cells #[.int .i64 tt] 3 (0, 0))) :
    Calls Try.prog 63 #[.slice A xs.length c, .func (.func 64) #[] #[.pointer (some ⟨p, 0, none⟩)]] w fun e w' => IdxPost (fun i => (xs.getD i z56).f0 = tt) xs.length e ∧ Below w.heap.size w w' := by
  have hm := Kd.C_max hA
  have HA := Aside0.mk hA
  have HP := Aside0.mk hp
  clear hA hp
  go_enter Try.func63, Try.ntmps63
  go_wp2
  go_loopw [8] (fun i wr => ∃ k : Nat, Aside0 (k ≤ xs.length ∧ (∀ j, j < k → (xs.getD j z56).f0 ≠ tt) ∧ Below w.heap.size w wr) ∧ i = .int .i64 k) (fun i _ => xs.length - (intOf i).toNat)
  case atStart => exact ⟨0, ⟨by omega, by omega, Below.refl _ _⟩, rfl⟩
  case round =>
    obtain ⟨k, hH, rfl⟩ := hrel
    have hb := hH.out.2.2
    by_cases hk : k < xs.length
    · obtain ⟨ad, rfl, h0, h1⟩ := at_T56 (Kd.C_below HA.out hb) (k : Int) (by omega) (by omega)
      obtain ⟨x, hx⟩ : ∃ x, Aside0 (x = xs.getD k z56) := ⟨_, ⟨rfl⟩⟩
      rw [show rd_T56 xs (k : Int) = x from hx.out.symm] at h0 h1
      simp only [Int.toNat_natCast] at h0 h1
      have hpw : wr.heap[p]? = some (.cells #[.int .i64 tt] 3 (0, 0)) := (hb.block p (blk_lt HP.out)).trans HP.out
      have HPW := Aside0.mk hpw
      clear hpw
      have HB := Aside0.mk hb
      clear hb
      have hkm : (k : Int) < 9223372036854775807 := by omega
      cases hq : (x.f0 == tt) with
      | true =>
        go_wp2_with (go_at_call 64; refine (cost_is.calls x p tt _ HPW.out).mono ?_; rintro e w' ⟨rfl, hb3⟩)
        go_ret
        exact ⟨.inl ⟨k, rfl, hk, by have h := hx.out; show (xs.getD k z56).f0 = tt; rw [← h]; simpa using hq, hH.out.2.1⟩, HB.out.trans (hb3.mono HB.out.size)⟩
      | false =>
        go_wp2_with (go_at_call 64; refine (cost_is.calls x p tt _ HPW.out).mono ?_; rintro e w' ⟨rfl, hb3⟩)
        refine ⟨⟨k + 1, ⟨hk, fun j hj => ?_, HB.out.trans (hb3.mono HB.out.size)⟩, by go_num⟩, by simp [intOf]; omega⟩
        by_cases hjk : j = k
        · rw [hjk, ← hx.out]; simpa using hq
        · exact hH.out.2.1 j (by omega)
    · have hk2 : ¬ ((k : Int) < xs.length) := by omega
      have HB := Aside0.mk hb
      clear hb
      go_wp2
      go_ret
      exact ⟨.inr ⟨rfl, fun j hj => hH.out.2.1 j (by omega)⟩, HB.out⟩

set_option maxHeartbeats 400000 in
theorem find_is.calls (x : S63) (p : Nat) (tt : Int) (w : World) (hp : w.heap[p]? = some (.cells #[.int .i64 tt] 3 (0, 0))) :
    Calls Try.prog 47 #[.agg #[.int .i64 x.f0, .int .i64 x.f1, .int .u64 x.f2], .pointer (some ⟨p, 0, none⟩)] w fun e w' => e = .returned (.bool (x.f0 == tt)) ∧ Below w.heap.size w w' := by
  have hl : p < w.heap.size := blk_lt hp
  have hc : w.cell? ⟨p, 0, none⟩ = some (.int .i64 tt) := (blk_cell hp 0).trans rfl
  go_enter Try.func47, Try.ntmps47
  go_wp2
  go_ret
  refine ⟨rfl, ?_⟩
  go_grown

set_option maxHeartbeats 800000 in
set_option maxRecDepth 100000 in
theorem find_index.calls (xs : List S63) (A : Option Addr) (c p : Nat) (tt : Int) (w : World) (hA : Kd.C k63 w A xs.length xs) (hcp : xs.length ≤ c) (hp : w.heap[p]? = some (.cells #[.int .i64 tt] 3 (0, 0))) :
    Calls Try.prog 46 #[.slice A xs.length c, .func (.func 47) #[] #[.pointer (some ⟨p, 0, none⟩)]] w fun e w' => IdxPost (fun i => (xs.getD i z63).f0 = tt) xs.length e ∧ Below w.heap.size w w' := by
  have hm := Kd.C_max hA
  have HA := Aside0.mk hA
  have HP := Aside0.mk hp
  clear hA hp
  go_enter Try.func46, Try.ntmps46
  go_wp2
  go_loopw [8] (fun i wr => ∃ k : Nat, Aside0 (k ≤ xs.length ∧ (∀ j, j < k → (xs.getD j z63).f0 ≠ tt) ∧ Below w.heap.size w wr) ∧ i = .int .i64 k) (fun i _ => xs.length - (intOf i).toNat)
  case atStart => exact ⟨0, ⟨by omega, by omega, Below.refl _ _⟩, rfl⟩
  case round =>
    obtain ⟨k, hH, rfl⟩ := hrel
    have hb := hH.out.2.2
    by_cases hk : k < xs.length
    · obtain ⟨ad, rfl, h0, h1, h2⟩ := at_T63 (Kd.C_below HA.out hb) (k : Int) (by omega) (by omega)
      obtain ⟨x, hx⟩ : ∃ x, Aside0 (x = xs.getD k z63) := ⟨_, ⟨rfl⟩⟩
      rw [show rd_T63 xs (k : Int) = x from hx.out.symm] at h0 h1 h2
      simp only [Int.toNat_natCast] at h0 h1 h2
      have hpw : wr.heap[p]? = some (.cells #[.int .i64 tt] 3 (0, 0)) := (hb.block p (blk_lt HP.out)).trans HP.out
      have HPW := Aside0.mk hpw
      clear hpw
      have HB := Aside0.mk hb
      clear hb
      have hkm : (k : Int) < 9223372036854775807 := by omega
      cases hq : (x.f0 == tt) with
      | true =>
        go_wp2_with (go_at_call 47; refine (find_is.calls x p tt _ HPW.out).mono ?_; rintro e w' ⟨rfl, hb3⟩)
        go_ret
        exact ⟨.inl ⟨k, rfl, hk, by have h := hx.out; show (xs.getD k z63).f0 = tt; rw [← h]; simpa using hq, hH.out.2.1⟩, HB.out.trans (hb3.mono HB.out.size)⟩
      | false =>
        go_wp2_with (go_at_call 47; refine (find_is.calls x p tt _ HPW.out).mono ?_; rintro e w' ⟨rfl, hb3⟩)
        refine ⟨⟨k + 1, ⟨hk, fun j hj => ?_, HB.out.trans (hb3.mono HB.out.size)⟩, by go_num⟩, by simp [intOf]; omega⟩
        by_cases hjk : j = k
        · rw [hjk, ← hx.out]; simpa using hq
        · exact hH.out.2.1 j (by omega)
    · have hk2 : ¬ ((k : Int) < xs.length) := by omega
      have HB := Aside0.mk hb
      clear hb
      go_wp2
      go_ret
      exact ⟨.inr ⟨rfl, fun j hj => hH.out.2.1 j (by omega)⟩, HB.out⟩

end Go.Proofs.Ytinkhlfmjfahpaa.PLoadKeeps

namespace Go.Proofs.Ytinkhlfmjfahpaa.PLoadKeeps
open Go.RowKit Go.Proofs.YtinkhlfmjfahpaaW.PrintWords Go.Proofs.YtinkhlfmjfahpaaW.PrintLast Go.Proofs.YtinkhlfmjfahpaaW.PrintMore
set_option linter.unusedVariables false
set_option linter.unusedSimpArgs false

theorem find_first {α : Type} (z : α) (p : α → Bool) (xs : List α) (i : Nat) (hi : i < xs.length) (hp : p (xs.getD i z) = true) (hn : ∀ j, j < i → p (xs.getD j z) = false) : xs.find? p = some (xs.getD i z) := by
  induction xs generalizing i with
  | nil => simp at hi
  | cons x xs ih =>
    cases i with
    | zero => simp at hp ⊢; exact .inl hp
    | succ i =>
      have h0 := hn 0 (by omega)
      simp at h0
      simp only [List.find?_cons, h0]
      rw [ih i (by simpa using hi) (by simpa using hp) (fun j hj => by simpa using hn (j + 1) (by omega))]
      simp
theorem find_none' {α : Type} (z : α) (p : α → Bool) (xs : List α) (hn : ∀ j, j < xs.length → p (xs.getD j z) = false) : xs.find? p = none := by
  rw [List.find?_eq_none]
  intro x hx
  obtain ⟨j, hj, rfl⟩ := List.getElem_of_mem hx
  have := hn j hj
  rw [List.getD_eq_getElem?_getD, List.getElem?_eq_getElem hj] at this
  simpa using this

/-- What a link costs. -/
def costOf (xs : List S56) (t : Int) : Int := match xs.find? (fun x => decide (x.f0 = t)) with | some x => x.f1 | none => 0

set_option maxHeartbeats 800000 in
set_option maxRecDepth 100000 in
theorem lsa_Cost.calls (o s : Int) (xs : List S56) (A : Option Addr) (c : Nat) (t : Int) (w : World) (hA : Kd.C k56 w A xs.length xs) (hcp : xs.length ≤ c) :
    Calls Try.prog 45 #[.agg #[.int .i64 o, .int .i64 s, .slice A xs.length c], .int .i64 t] w fun e w' => e = .returned (.int .i64 (costOf xs t)) ∧ Below w.heap.size w w' := by
  have hm := Kd.C_max hA
  have HA := Aside0.mk hA
  clear hA
  go_enter Try.func45, Try.ntmps45
  go_wp2_with fail
  refine (cost_index.calls xs A c (w.heap.size + 1) t _ (HA.out |> fun h => Kd.C_below h (by go_grown)) hcp (by exact two_new w _ _)).mono ?_
  rintro e w1 ⟨hI, hb1⟩
  have hbw : Below w.heap.size w w1 := (below_alloc (below_alloc (Below.refl _ _) _) _).trans (hb1.mono (by simp; omega))
  have hbx : w1.heap[w.heap.size]? = some (.cells #[.int .i64 o, .int .i64 s, .slice A xs.length c] 39 (0, 0)) := (hb1.block _ (by simp; omega)).trans (blk_alloc (heap_alloc_new _ _) _)
  clear hb1
  rcases hI with ⟨i, rfl, hi, hp, hn⟩ | ⟨rfl, hn⟩
  · obtain ⟨ad, rfl, h0, h1⟩ := at_T56 (Kd.C_below HA.out hbw) (i : Int) (by omega) (by omega)
    obtain ⟨x, hx⟩ : ∃ x, Aside0 (x = xs.getD i z56) := ⟨_, ⟨rfl⟩⟩
    rw [show rd_T56 xs (i : Int) = x from hx.out.symm] at h0 h1
    simp only [Int.toNat_natCast] at h0 h1
    have hc2 : w1.cell? ⟨w.heap.size, 2, none⟩ = some (.slice (some ad) xs.length c) := (blk_cell hbx 2).trans rfl
    have hi2 : (i : Int) < xs.length := by omega
    have HX := Aside0.mk (And.intro hp hn)
    clear hp hn hbx
    go_wp2
    go_ret
    refine ⟨ret_int ?_, hbw⟩
    unfold costOf
    rw [find_first z56 _ xs i hi (by simpa using HX.out.1) (fun j hj => by simpa using HX.out.2 j hj), hx.out]
  · have HX := Aside0.mk hn
    clear hn hbx
    go_wp2
    go_ret
    refine ⟨ret_int ?_, hbw⟩
    unfold costOf
    rw [find_none' z56 _ xs (fun j hj => by simpa using HX.out j hj)]

/-- The route to a node. -/
def findR (xs : List S63) (t : Int) : Option S63 := xs.find? (fun x => decide (x.f0 = t))

set_option maxHeartbeats 800000 in
set_option maxRecDepth 100000 in
theorem route_Find.calls (xs : List S63) (A : Option Addr) (c : Nat) (t : Int) (w : World) (hA : Kd.C k63 w A xs.length xs) (hcp : xs.length ≤ c) :
    Calls Try.prog 31 #[.slice A xs.length c, .int .i64 t] w fun e w' => e = .returned (.tuple #[.agg #[.int .i64 ((findR xs t).getD z63).f0, .int .i64 ((findR xs t).getD z63).f1, .int .u64 ((findR xs t).getD z63).f2], .bool (findR xs t).isSome]) ∧ Below w.heap.size w w' := by
  have hm := Kd.C_max hA
  have HA := Aside0.mk hA
  clear hA
  go_enter Try.func31, Try.ntmps31
  go_wp2_with fail
  refine (find_index.calls xs A c w.heap.size t _ (HA.out |> fun h => Kd.C_below h (by go_grown)) hcp (blk_alloc (heap_alloc_new _ _) _)).mono ?_
  rintro e w1 ⟨hI, hb1⟩
  have hbw : Below w.heap.size w w1 := (below_alloc (below_alloc (Below.refl _ _) _) _).trans (hb1.mono (by simp; omega))
  have hbx : w1.heap[w.heap.size + 1]? = some (.cells #[.int .i64 0, .int .i64 0, .int .u64 0] 63 (0, 0)) := (hb1.block _ (by simp)).trans (two_new w _ _)
  have hz1 : w.heap.size + 1 < w1.heap.size := blk_lt hbx
  clear hb1
  have d0 : w1.cell? ⟨w.heap.size + 1, 0, none⟩ = some (.int .i64 0) := (blk_cell hbx 0).trans rfl
  have d1 : w1.cell? ⟨w.heap.size + 1, 1, none⟩ = some (.int .i64 0) := (blk_cell hbx 1).trans rfl
  have d2 : w1.cell? ⟨w.heap.size + 1, 2, none⟩ = some (.int .u64 0) := (blk_cell hbx 2).trans rfl
  have e0 : w1.frozen? ⟨w.heap.size + 1, 0, none⟩ = false := blk_frozen hbx 0
  have e1 : w1.frozen? ⟨w.heap.size + 1, 1, none⟩ = false := blk_frozen hbx 1
  have e2 : w1.frozen? ⟨w.heap.size + 1, 2, none⟩ = false := blk_frozen hbx 2
  rcases hI with ⟨i, rfl, hi, hp, hn⟩ | ⟨rfl, hn⟩
  · obtain ⟨ad, rfl, h0, h1, h2⟩ := at_T63 (Kd.C_below HA.out hbw) (i : Int) (by omega) (by omega)
    obtain ⟨x, hx⟩ : ∃ x, Aside0 (x = xs.getD i z63) := ⟨_, ⟨rfl⟩⟩
    rw [show rd_T63 xs (i : Int) = x from hx.out.symm] at h0 h1 h2
    simp only [Int.toNat_natCast] at h0 h1 h2
    have hi2 : (i : Int) < xs.length := by omega
    have hf : findR xs t = some x := by
      unfold findR
      rw [find_first z63 _ xs i hi (by simpa using hp) (fun j hj => by simpa using hn j hj), hx.out]
    have HF := Aside0.mk hf
    clear hp hn hbx hf
    go_wp2
    rw [HF.out]
    refine bodyPost_ret (v := .tuple #[.agg #[.int .i64 x.f0, .int .i64 x.f1, .int .u64 x.f2], .bool true]) (by simp [results, Try.results31, go_sem, d0, d1, d2]) rfl ⟨rfl, ?_⟩
    exact ((hbw.setCell (p := ⟨w.heap.size + 1, 0, none⟩) (by simp) _).setCell (p := ⟨w.heap.size + 1, 1, none⟩) (by simp) _).setCell (p := ⟨w.heap.size + 1, 2, none⟩) (by simp) _
  · have hf : findR xs t = none := find_none' z63 _ xs (fun j hj => by simpa using hn j hj)
    have HF := Aside0.mk hf
    clear hn hbx hf
    go_wp2
    rw [HF.out]
    refine bodyPost_ret (v := .tuple #[.agg #[.int .i64 0, .int .i64 0, .int .u64 0], .bool false]) (by simp [results, Try.results31, go_sem, d0, d1, d2]) rfl ⟨rfl, ?_⟩
    exact ((hbw.setCell (p := ⟨w.heap.size + 1, 0, none⟩) (by simp) _).setCell (p := ⟨w.heap.size + 1, 1, none⟩) (by simp) _).setCell (p := ⟨w.heap.size + 1, 2, none⟩) (by simp) _

end Go.Proofs.Ytinkhlfmjfahpaa.PLoadKeeps
