/- The plain law of what may be: the reference's May, the program's Check, few; arcs that may be. The plain law of the row of three nodes, and of the sums of loads. -/
import Derived.Test.YtinkhlfmjfahpaaCe
import Derived.Test.YtinkhlfmjfahpaaPLoadKeepsx2
import Derived.Test.YtinkhlfmjfahpaaPLoadKeepsx3
import Derived.Test.YtinkhlfmjfahpaaCg
namespace Go.Proofs.Ytinkhlfmjfahpaa.PLoadKeeps
open Go.RowKit Go.Proofs.YtinkhlfmjfahpaaW.PrintWords Go.Proofs.YtinkhlfmjfahpaaW.PrintLast Go.Proofs.YtinkhlfmjfahpaaW.PrintMore
set_option linter.unusedVariables false
set_option linter.unusedSimpArgs false

theorem wrap_add (i : Nat) (h : i < 1000000) : wrap64 ((i : Int) + 1) = ((i + 1 : Nat) : Int) := by unfold wrap64; omega
theorem wrap_sub (i : Nat) (h : i < 1000000) (h0 : 0 < i) : wrap64 ((i : Int) - 1) = ((i - 1 : Nat) : Int) := by unfold wrap64; omega

theorem light_run (db : List S39) (hn : db.length ≤ 7) : ∀ (d i k : Nat), i + d = db.length → 2 * d + 2 ≤ k → ∃ r, waymarklaw19_Light.l0 k db i = some r ∧ (r = true → ∀ j, i ≤ j → j < db.length → (rd_T39 db j).f2.length ≤ 40)
  | 0, i, k, hi, hk => by
    obtain ⟨k, rfl⟩ : ∃ m, k = m + 2 := ⟨k - 2, by omega⟩
    refine ⟨true, ?_, fun _ j _ _ => by omega⟩
    simp only [waymarklaw19_Light.l0]
    rw [if_neg (by omega)]
    simp only [waymarklaw19_Light.j1]
    rw [if_neg (by simp)]
    simp; omega
  | d + 1, i, k, hi, hk => by
    obtain ⟨k, rfl⟩ : ∃ m, k = m + 2 := ⟨k - 2, by omega⟩
    obtain ⟨r, hr, hr2⟩ := light_run db hn d (i + 1) k (by omega) (by omega)
    simp only [waymarklaw19_Light.l0]
    rw [if_pos (by omega)]
    have e : decide ((i : Int) ≤ 70) = true := by simp; omega
    rw [e]
    simp only [waymarklaw19_Light.j1]
    rw [if_pos trivial, if_pos (by omega), if_pos (by omega), wrap_add i (by omega), hr]
    unfold waymarklaw09_Light.f
    by_cases h : ((rd_T39 db i).f2.length : Int) ≤ 40
    · refine ⟨r, by simp [h], fun hh j hj hjl => ?_⟩
      by_cases e : j = i
      · subst e; omega
      · exact hr2 hh j (by omega) hjl
    · exact ⟨false, by simp [h], by simp⟩
theorem few_run (db : List S39) (ds : List S35) : ∃ k r, waymarklaw52_few.f k db ds = some r ∧ (r = true → db.length ≤ 7 ∧ ds.length ≤ 12 ∧ ∀ x ∈ db, x.f2.length ≤ 40) := by
  by_cases h : (db.length : Int) ≤ 7
  · obtain ⟨r, hr, hr2⟩ := light_run db (by omega) db.length 0 (2 * db.length + 2) (by omega) (by omega)
    unfold waymarklaw52_few.f waymarklaw19_Light.f
    refine ⟨2 * db.length + 2, if r = true then decide ((ds.length : Int) ≤ 12) else false, ?_, ?_⟩
    · rw [if_pos h, show (0 : Int) = ((0 : Nat) : Int) from rfl, hr]
      cases r <;> simp
    · cases r with
      | true =>
        intro hh
        simp at hh
        refine ⟨by omega, by omega, fun x hx => ?_⟩
        obtain ⟨j, hj, rfl⟩ := List.mem_iff_getElem.1 hx
        have := hr2 rfl j (by omega) hj
        unfold rd_T39 at this
        rwa [Int.toNat_natCast, List.getD_eq_getElem?_getD, List.getElem?_eq_getElem hj] at this
      | false => simp
  · refine ⟨0, false, ?_, by simp⟩
    unfold waymarklaw52_few.f
    rw [if_neg h]

def lkd (xs : List S56) (j : Nat) : S56 := rd_T56 xs j
theorem lkd_get {xs : List S56} {j : Nat} (h : j < xs.length) : lkd xs j = xs[j] := by
  unfold lkd rd_T56
  rw [Int.toNat_natCast, List.getD_eq_getElem?_getD, List.getElem?_eq_getElem h]; rfl
def LkOk (o : Int) (xs : List S56) (j : Nat) : Prop := (1 ≤ (lkd xs j).f0 ∧ (lkd xs j).f0 ≤ 64) ∧ (lkd xs j).f0 ≠ o ∧ 1 ≤ (lkd xs j).f1 ∧ (lkd xs j).f1 ≤ 1073741824 ∧ (0 < j → (lkd xs (j - 1)).f0 < (lkd xs j).f0)
theorem may09_run (o s : Int) (xs : List S56) (hn : xs.length ≤ 100000) : ∀ (d i k : Nat), i + d = xs.length → d < k →
    ∃ r, waymarkref09_May.l0 k i o s xs = some r ∧ (r = true → (∀ j, i ≤ j → j < xs.length → LkOk o xs j) ∧ 1 ≤ o ∧ o ≤ 64 ∧ 1 ≤ s ∧ s ≤ 4611686018427387904 ∧ xs.length ≤ 16)
  | 0, i, k, hi, hk => by
    obtain ⟨k, rfl⟩ : ∃ m, k = m + 1 := ⟨k - 1, by omega⟩
    simp only [waymarkref09_May.l0]
    rw [if_neg (by omega)]
    by_cases h1 : o ≥ 1
    · rw [if_pos h1]
      by_cases h2 : o ≤ 64
      · rw [if_pos h2]
        by_cases h3 : s ≥ 1
        · rw [if_pos h3]
          by_cases h4 : s ≤ 4611686018427387904
          · rw [if_pos h4]
            refine ⟨_, rfl, fun h => ?_⟩
            simp at h
            exact ⟨fun j _ _ => by omega, h1, h2, h3, h4, by omega⟩
          · rw [if_neg h4]; exact ⟨false, rfl, by simp⟩
        · rw [if_neg h3]; exact ⟨false, rfl, by simp⟩
      · rw [if_neg h2]; exact ⟨false, rfl, by simp⟩
    · rw [if_neg h1]; exact ⟨false, rfl, by simp⟩
  | d + 1, i, k, hi, hk => by
    obtain ⟨k, rfl⟩ : ∃ m, k = m + 1 := ⟨k - 1, by omega⟩
    obtain ⟨r, hr, hr2⟩ := may09_run o s xs hn d (i + 1) k (by omega) (by omega)
    simp only [waymarkref09_May.l0]
    rw [if_pos (by omega), if_pos (by omega), show rd_T56 xs (i : Int) = lkd xs i from rfl]
    by_cases h1 : (lkd xs i).f0 < 1
    · rw [if_pos h1]; exact ⟨false, rfl, by simp⟩
    rw [if_neg h1]
    by_cases h2 : (lkd xs i).f0 > 64
    · rw [if_pos h2]; exact ⟨false, rfl, by simp⟩
    rw [if_neg h2]
    by_cases h3 : (lkd xs i).f0 = o
    · rw [if_pos h3]; exact ⟨false, rfl, by simp⟩
    rw [if_neg h3]
    by_cases h4 : (lkd xs i).f1 < 1
    · rw [if_pos h4]; exact ⟨false, rfl, by simp⟩
    rw [if_neg h4]
    by_cases h5 : (lkd xs i).f1 > 1073741824
    · rw [if_pos h5]; exact ⟨false, rfl, by simp⟩
    rw [if_neg h5, wrap_add i (by omega), hr]
    by_cases h6 : (i : Int) > 0
    · rw [if_pos h6, wrap_sub i (by omega) (by omega), if_pos (by omega), if_pos (by omega), show rd_T56 xs ((i - 1 : Nat) : Int) = lkd xs (i - 1) from rfl]
      by_cases h7 : (lkd xs (i - 1)).f0 ≥ (lkd xs i).f0
      · rw [if_pos h7]; exact ⟨false, rfl, by simp⟩
      · rw [if_neg h7]
        refine ⟨r, rfl, fun h => ?_⟩
        obtain ⟨a, b⟩ := hr2 h
        refine ⟨fun j hj hjl => ?_, b⟩
        by_cases e : j = i
        · subst e; exact ⟨⟨by omega, by omega⟩, h3, by omega, by omega, fun _ => by omega⟩
        · exact a j (by omega) hjl
    · rw [if_neg h6]
      refine ⟨r, rfl, fun h => ?_⟩
      obtain ⟨a, b⟩ := hr2 h
      refine ⟨fun j hj hjl => ?_, b⟩
      by_cases e : j = i
      · subst e; exact ⟨⟨by omega, by omega⟩, h3, by omega, by omega, fun _ => by omega⟩
      · exact a j (by omega) hjl
theorem adj_lt (f : Nat → Int) (n : Nat) (h : ∀ j, 0 < j → j < n → f (j - 1) < f j) : ∀ (d i : Nat), i + d + 1 < n → f i < f (i + d + 1)
  | 0, i, hi => by have := h (i + 1) (by omega) hi; simpa using this
  | d + 1, i, hi => by
    have h1 := adj_lt f n h d i (by omega)
    have h2 := h (i + (d + 1) + 1) (by omega) hi
    have e : i + (d + 1) + 1 - 1 = i + d + 1 := by omega
    rw [e] at h2
    omega
theorem adj_pair {α : Type} (g : α → Int) (z : α) (xs : List α) (h : ∀ j, 0 < j → j < xs.length → g (xs.getD (j - 1) z) < g (xs.getD j z)) : xs.Pairwise (fun a b => g a < g b) := by
  rw [List.pairwise_iff_getElem]
  intro i j hi hj hij
  have := adj_lt (fun j => g (xs.getD j z)) xs.length h (j - i - 1) i (by omega)
  have e : i + (j - i - 1) + 1 = j := by omega
  rw [e] at this
  simpa [List.getD_eq_getElem?_getD, List.getElem?_eq_getElem hi, List.getElem?_eq_getElem hj] using this
theorem lsaOk_of {x : S39} (h : ∀ j, 0 ≤ j → j < x.f2.length → LkOk x.f0 x.f2 j) (h1 : 1 ≤ x.f0) (h2 : x.f0 ≤ 64) (h3 : 1 ≤ x.f1) (h4 : x.f1 ≤ 4611686018427387904) (h5 : x.f2.length ≤ 16) : LsaOk x := by
  refine ⟨h1, h2, h3, h4, h5, fun y hy => ?_, ?_⟩
  · obtain ⟨j, hj, rfl⟩ := List.mem_iff_getElem.1 hy
    have := h j (by omega) hj
    unfold LkOk at this
    rw [lkd_get hj] at this
    exact ⟨this.1, this.2.1, this.2.2.1, this.2.2.2.1⟩
  · refine adj_pair (fun y => y.f0) z56 x.f2 fun j h0 hj => ?_
    have := (h j (by omega) hj).2.2.2.2 h0
    simpa [lkd, rd_T56] using this
def dbd (db : List S39) (j : Nat) : S39 := rd_T39 db j
theorem dbd_get {xs : List S39} {j : Nat} (h : j < xs.length) : dbd xs j = xs[j] := by
  unfold dbd rd_T39
  rw [Int.toNat_natCast, List.getD_eq_getElem?_getD, List.getElem?_eq_getElem h]; rfl
theorem may_run (db : List S39) (hn : db.length ≤ 1000) (hl : ∀ x ∈ db, x.f2.length ≤ 100000) (K : Nat) (hK : ∀ x ∈ db, x.f2.length < K) : ∀ (d i k : Nat), i + d = db.length → d + K < k →
    ∃ r, waymarkref19_May.l0 k db i = some r ∧ (r = true → ∀ j, i ≤ j → j < db.length → LsaOk (dbd db j) ∧ (0 < j → (dbd db (j - 1)).f0 < (dbd db j).f0))
  | 0, i, k, hi, hk => by
    obtain ⟨k, rfl⟩ : ∃ m, k = m + 1 := ⟨k - 1, by omega⟩
    simp only [waymarkref19_May.l0]
    rw [if_neg (by omega)]
    exact ⟨true, rfl, fun _ j hj hjl => by omega⟩
  | d + 1, i, k, hi, hk => by
    obtain ⟨k, rfl⟩ : ∃ m, k = m + 1 := ⟨k - 1, by omega⟩
    obtain ⟨r, hr, hr2⟩ := may_run db hn hl K hK d (i + 1) k (by omega) (by omega)
    have hm : dbd db i ∈ db := by rw [dbd_get (by omega)]; exact List.getElem_mem _
    obtain ⟨q, hq, hq2⟩ := may09_run (dbd db i).f0 (dbd db i).f1 (dbd db i).f2 (hl _ hm) (dbd db i).f2.length 0 k (by omega) (by have := hK _ hm; omega)
    simp only [waymarkref19_May.l0]
    rw [if_pos (by omega), if_pos (by omega), show rd_T39 db (i : Int) = dbd db i from rfl]
    unfold waymarkref09_May.f
    rw [show (0 : Int) = ((0 : Nat) : Int) from rfl, hq]
    simp only [Option.bind_some]
    cases q with
    | false => exact ⟨false, by simp, by simp⟩
    | true =>
      obtain ⟨a1, a2, a3, a4, a5, a6⟩ := hq2 rfl
      have hok := lsaOk_of a1 a2 a3 a4 a5 a6
      rw [if_pos rfl, wrap_add i (by omega), hr]
      by_cases h6 : (i : Int) > ((0 : Nat) : Int)
      · rw [if_pos h6, wrap_sub i (by omega) (by omega), if_pos (by omega), if_pos (by omega), show rd_T39 db ((i - 1 : Nat) : Int) = dbd db (i - 1) from rfl]
        by_cases h7 : (dbd db (i - 1)).f0 ≥ (dbd db i).f0
        · rw [if_pos h7]; exact ⟨false, rfl, by simp⟩
        · rw [if_neg h7]
          refine ⟨r, rfl, fun h j hj hjl => ?_⟩
          by_cases e : j = i
          · subst e; exact ⟨hok, fun _ => by omega⟩
          · exact hr2 h j (by omega) hjl
      · rw [if_neg h6]
        refine ⟨r, rfl, fun h j hj hjl => ?_⟩
        by_cases e : j = i
        · subst e; exact ⟨hok, fun _ => by omega⟩
        · exact hr2 h j (by omega) hjl
theorem max_len (db : List S39) : ∃ K, ∀ x ∈ db, x.f2.length < K := by
  induction db with
  | nil => exact ⟨0, fun x hx => by cases hx⟩
  | cons a db ih =>
    obtain ⟨K, h⟩ := ih
    exact ⟨K + a.f2.length + 1, fun x hx => by
      rcases List.mem_cons.1 hx with rfl | hx
      · omega
      · have := h x hx; omega⟩
/-- The reference's May has an answer; where it is yes, the base may be. -/
theorem may_some (db : List S39) (hn : db.length ≤ 1000) (hl : ∀ x ∈ db, x.f2.length ≤ 100000) : ∃ k r, waymarkref19_May.f k db = some r ∧ (r = true → DbOk db) := by
  obtain ⟨K, hK⟩ := max_len db
  obtain ⟨r, hr, h⟩ := may_run db hn hl K hK db.length 0 (db.length + K + 1) (by omega) (by omega)
  refine ⟨_, r, hr, fun e => ?_⟩
  have h := h e
  refine ⟨fun x hx => ?_, adj_pair (fun y => y.f0) z39 db fun j h0 hj => ?_⟩
  · obtain ⟨j, hj, rfl⟩ := List.mem_iff_getElem.1 hx
    have := (h j (by omega) hj).1
    rwa [dbd_get hj] at this
  · have := (h j (by omega) hj).2 h0
    simpa [dbd, rd_T39] using this

theorem node_ok {n : Int} (h1 : 1 ≤ n) (h2 : n ≤ 64) : lsa_node.f n = some true := by
  unfold lsa_node.f
  rw [if_pos h1]
  simp [h2]
theorem lsa_loop (o s : Int) (xs : List S56) (hn : xs.length ≤ 100000) (ho : ∀ y ∈ xs, (1 ≤ y.f0 ∧ y.f0 ≤ 64) ∧ y.f0 ≠ o ∧ 1 ≤ y.f1 ∧ y.f1 ≤ 1073741824) (hs : xs.Pairwise (fun a b => a.f0 < b.f0)) (zs : List S56) : ∀ (d i k : Nat) (p : Int), i + d = xs.length → d < k → (∀ j, i ≤ j → j < xs.length → p < (lkd xs j).f0) → lsa_Check.l0 k p xs xs.length i o s zs = some 0
  | 0, i, k, p, hi, hk, hp => by
    obtain ⟨k, rfl⟩ : ∃ m, k = m + 1 := ⟨k - 1, by omega⟩
    simp only [lsa_Check.l0]
    rw [if_neg (by omega)]
  | d + 1, i, k, p, hi, hk, hp => by
    obtain ⟨k, rfl⟩ : ∃ m, k = m + 1 := ⟨k - 1, by omega⟩
    have hm : lkd xs i ∈ xs := by rw [lkd_get (by omega)]; exact List.getElem_mem _
    obtain ⟨⟨a1, a2⟩, a3, a4, a5⟩ := ho _ hm
    have ih := lsa_loop o s xs hn ho hs zs d (i + 1) k (lkd xs i).f0 (by omega) (by omega) (fun j hj hjl => by
      rw [lkd_get hjl, lkd_get (by omega)]
      exact List.pairwise_iff_getElem.1 hs i j (by omega) hjl (by omega))
    simp only [lsa_Check.l0]
    rw [if_pos (by omega), if_pos (by omega), if_pos (by omega), show rd_T56 xs (i : Int) = lkd xs i from rfl, node_ok a1 a2]
    simp only [Option.bind_some]
    rw [if_pos trivial, if_neg (by have := hp i (by omega) (by omega); omega), if_neg a3, if_neg (by omega), if_neg (by omega), wrap_add i (by omega)]
    exact ih
theorem lsa_ok {x : S39} (h : LsaOk x) (k : Nat) (hk : x.f2.length + 2 < k) : lsa_Check.f k x.f0 x.f1 x.f2 = some 0 := by
  obtain ⟨k, rfl⟩ : ∃ m, k = m + 1 := ⟨k - 1, by omega⟩
  have hl := h.few
  have hlp := lsa_loop x.f0 x.f1 x.f2 (by omega) h.link h.sorted x.f2 x.f2.length 0 k 0 (by omega) (by omega) (fun j _ hj => by
    rw [lkd_get hj]
    have := (h.link _ (List.getElem_mem hj)).1
    omega)
  unfold lsa_Check.f
  rw [node_ok h.o1 h.o2]
  simp only [Option.bind_some]
  have := h.s1; have := h.s2
  rw [if_pos trivial, if_neg (by omega), if_neg (by omega)]
  have e : decide ((x.f2.length : Int) > 16) = false := by simp; omega
  rw [e]
  simp only [lsa_Check.j0]
  rw [if_neg (by simp)]
  exact hlp
theorem lsdb_loop (db : List S39) (hn : db.length ≤ 1000) (hok : DbOk db) (K : Nat) (hK : ∀ x ∈ db, x.f2.length + 2 < K) : ∀ (d i k : Nat) (p : Int), i + d = db.length → d + K < k → (∀ j, i ≤ j → j < db.length → p < (dbd db j).f0) → lsdb_Check.l0 k p db db.length i = some 0
  | 0, i, k, p, hi, hk, hp => by
    obtain ⟨k, rfl⟩ : ∃ m, k = m + 1 := ⟨k - 1, by omega⟩
    simp only [lsdb_Check.l0]
    rw [if_neg (by omega)]
  | d + 1, i, k, p, hi, hk, hp => by
    obtain ⟨k, rfl⟩ : ∃ m, k = m + 1 := ⟨k - 1, by omega⟩
    have hm : dbd db i ∈ db := by rw [dbd_get (by omega)]; exact List.getElem_mem _
    have ih := lsdb_loop db hn hok K hK d (i + 1) k (dbd db i).f0 (by omega) (by omega) (fun j hj hjl => by
      rw [dbd_get hjl, dbd_get (by omega)]
      exact List.pairwise_iff_getElem.1 hok.sorted i j (by omega) hjl (by omega))
    simp only [lsdb_Check.l0]
    rw [if_pos (by omega), if_pos (by omega), if_pos (by omega), show rd_T39 db (i : Int) = dbd db i from rfl, lsa_ok (hok.each _ hm) k (by have := hK _ hm; omega)]
    simp only [Option.bind_some]
    rw [if_pos trivial, if_neg (by have := hp i (by omega) (by omega); omega), wrap_add i (by omega)]
    exact ih
/-- The program's Check lets a base that may be. -/
theorem lsdb_ok (db : List S39) (hn : db.length ≤ 1000) (hok : DbOk db) : lsdb_Check.f 2000 db = some 0 := by
  unfold lsdb_Check.f
  exact lsdb_loop db hn hok 30 (fun x hx => by have := (hok.each x hx).few; omega) db.length 0 2000 0 (by omega) (by omega) (fun j _ hj => by
    rw [dbd_get hj]
    have := (hok.each _ (List.getElem_mem hj)).o1
    omega)
theorem arcs_ok {db : List S39} (hok : DbOk db) : ArcsOk (arcsOf db) := by
  refine ⟨fun a ha => ?_, ?_⟩
  · obtain ⟨x, hx, ha⟩ := List.mem_flatMap.1 ha
    obtain ⟨y, hy, rfl⟩ := List.mem_map.1 ha
    have hxo := hok.each x hx
    have := hxo.link y (List.mem_filter.1 hy).1
    exact ⟨⟨hxo.o1, hxo.o2⟩, this.1, fun e => this.2.1 e.symm, this.2.2⟩
  · refine List.pairwise_flatMap.2 ⟨fun x hx => ?_, hok.sorted.imp fun {x z} hlt a ha b hb => ?_⟩
    · refine List.Pairwise.map (R := fun a b : S56 => a.f0 < b.f0) _ (fun a b h => .inr ⟨rfl, h⟩) ((hok.each x hx).sorted.filter _)
    · obtain ⟨y, _, rfl⟩ := List.mem_map.1 ha
      obtain ⟨u, _, rfl⟩ := List.mem_map.1 hb
      exact .inl hlt
theorem arcs_len {db : List S39} (hok : DbOk db) : (arcsOf db).length ≤ 16 * db.length := by
  have : ∀ (l : List S39), (∀ x ∈ l, x.f2.length ≤ 16) → (l.flatMap (arcsOfLsa db)).length ≤ 16 * l.length := by
    intro l
    induction l with
    | nil => simp
    | cons x l ih =>
      intro h
      rw [List.flatMap_cons, List.length_append, List.length_cons]
      have h1 := ih (fun y hy => h y (by simp [hy]))
      have h2 : (arcsOfLsa db x).length ≤ x.f2.length := by
        unfold arcsOfLsa
        rw [List.length_map]
        exact List.length_filter_le _ _
      have h3 := h x (by simp)
      omega
  exact this db fun x hx => (hok.each x hx).few
end Go.Proofs.Ytinkhlfmjfahpaa.PLoadKeeps

namespace Go.Proofs.Ytinkhlfmjfahpaa.PLoadKeeps
set_option linter.unusedVariables false
set_option linter.unusedSimpArgs false

def rowL : List S39 := [⟨1, 1, [⟨2, 1⟩]⟩, ⟨2, 1, [⟨1, 1⟩, ⟨3, 1⟩]⟩, ⟨3, 1, [⟨2, 1⟩]⟩]
theorem row_ok : DbOk rowL := by
  refine ⟨fun x hx => ?_, by simp [rowL]⟩
  simp only [rowL, List.mem_cons, List.not_mem_nil, or_false] at hx
  rcases hx with rfl | rfl | rfl
  · exact ⟨by decide, by decide, by decide, by decide, by decide, fun y hy => by simp at hy; subst hy; decide, by simp⟩
  · exact ⟨by decide, by decide, by decide, by decide, by decide, fun y hy => by simp at hy; rcases hy with rfl | rfl <;> decide, by simp⟩
  · exact ⟨by decide, by decide, by decide, by decide, by decide, fun y hy => by simp at hy; subst hy; decide, by simp⟩
theorem row_arcs : arcsOf rowL = [⟨1, 2, 1⟩, ⟨2, 1, 1⟩, ⟨2, 3, 1⟩, ⟨3, 2, 1⟩] := by
  simp [arcsOf, rowL, arcsOfLsa, both, linksOf, costOf]
theorem row_mem {a b : Int} (h : ∃ y ∈ arcsOf rowL, y.f0 = a ∧ y.f1 = b) : (a = 1 ∧ b = 2) ∨ (a = 2 ∧ b = 1) ∨ (a = 2 ∧ b = 3) ∨ (a = 3 ∧ b = 2) := by
  rw [row_arcs] at h
  obtain ⟨y, hy, rfl, rfl⟩ := h
  simp only [List.mem_cons, List.not_mem_nil, or_false] at hy
  rcases hy with rfl | rfl | rfl | rfl <;> simp
theorem row_goes : Goes (arcsOf rowL) ⟨1, 3, 5⟩ := by
  refine ⟨by decide, by decide, by decide, 0 + 1 + 1, ?_⟩
  have h1 : (⟨1, 2, 1⟩ : S31) ∈ arcsOf rowL := by rw [row_arcs]; simp
  have h2 : (⟨2, 3, 1⟩ : S31) ∈ arcsOf rowL := by rw [row_arcs]; simp
  exact Wk.snoc (Wk.snoc Wk.nil h1 rfl) h2 rfl
theorem row_stops : ¬ Goes (arcsOf rowL) ⟨1, 4, 1⟩ := by
  rintro ⟨_, _, _, w, hw⟩
  simp only at hw
  generalize hb : (4 : Int) = b at hw
  cases hw with
  | nil => omega
  | snoc h ha e =>
    have := row_mem ⟨_, ha, rfl, hb.symm⟩
    omega
theorem row_way {h : List Int} (k : CF (arcsOf rowL) 3 1 h 3) : h = [1, 2, 3] := by
  have h1 := k.head
  have h2 := k.last
  have h3 := k.arcs
  have h4 := k.nodup
  match h, h1, h2, h3, h4 with
  | [], h1, _, _, _ => simp at h1
  | [x], h1, h2, _, _ => simp at h1 h2; omega
  | [x, y], h1, h2, h3, h4 =>
    simp at h1 h2
    subst h1; subst h2
    have := row_mem (h3 (1, 3) (by simp [steps]))
    omega
  | [x, y, z], h1, h2, h3, h4 =>
    simp at h1 h2
    subst h1; subst h2
    have := row_mem (h3 (1, y) (by simp [steps]))
    have : y = 2 := by omega
    subst this
    rfl
  | x :: y :: z :: u :: r, h1, h2, h3, h4 =>
    simp at h1
    subst h1
    have e1 := row_mem (h3 (1, y) (by simp [steps]))
    have e2 := row_mem (h3 (y, z) (by simp [steps]))
    have e3 := row_mem (h3 (z, u) (by simp [steps]))
    simp at h4
    have : y = 2 := by omega
    subst this
    omega
theorem Loaded.last {l : List S31} {ds : List S35} {E : PE} (k : Loaded l ds E) : (ds = [] ∧ E = []) ∨ ∃ ds0 d h ok E0, ds = ds0 ++ [d] ∧ Loaded l ds0 E0 ∧ WayOf l d h ok ∧ E = walkE E0 (steps h) d.f2 := by
  cases k with
  | nil => exact .inl ⟨rfl, rfl⟩
  | step k w => exact .inr ⟨_, _, _, _, _, rfl, k, w, rfl⟩
theorem row_loaded {E : PE} (k : Loaded (arcsOf rowL) [⟨1, 3, 5⟩] E) : E = [((1, 2), 5), ((2, 3), 5)] := by
  rcases k.last with ⟨h, _⟩ | ⟨ds0, d, h, ok, E0, e, k0, w, rfl⟩
  · cases h
  · have e1 : ds0 = [] ∧ d = ⟨1, 3, 5⟩ := by
      cases ds0 with
      | nil => simp at e; exact ⟨rfl, e.symm⟩
      | cons a ds0 => cases ds0 <;> simp at e
    obtain ⟨rfl, rfl⟩ := e1
    rcases k0.last with ⟨_, rfl⟩ | ⟨ds1, d1, _, _, _, e2, _⟩
    · rcases w.goes (arcs_ok row_ok) with ⟨_, _, hc⟩ | ⟨hn, _⟩
      · obtain rfl := row_way hc
        rfl
      · exact absurd row_goes hn
    · cases ds1 <;> simp at e2
theorem cmpA_lt : Go.Proofs.ltOf cmpA ⟨1, 2, 5⟩ ⟨2, 3, 5⟩ = true := by decide
theorem row_out {out : List S31} {E : PE} (k : Loaded (arcsOf rowL) [⟨1, 3, 5⟩] E) (hp : out.Perm (E.map mkArc)) (hs : ∀ i j, i < j → j < out.length → ¬ (Go.Proofs.ltOf cmpA (out.getD j z31) (out.getD i z31) = true)) : out = [⟨1, 2, 5⟩, ⟨2, 3, 5⟩] := by
  obtain rfl := row_loaded k
  have hp' : out.Perm [⟨1, 2, 5⟩, ⟨2, 3, 5⟩] := hp
  have hl := hp'.length_eq
  match out, hl with
  | [a, b], _ =>
    have ha : a ∈ [(⟨1, 2, 5⟩ : S31), ⟨2, 3, 5⟩] := hp'.mem_iff.1 (by simp)
    simp only [List.mem_cons, List.not_mem_nil, or_false] at ha
    rcases ha with rfl | rfl
    · have h2 := (List.perm_cons _).1 hp'
      have := List.perm_singleton.1 h2
      rw [this]
    · have h2 : [(⟨2, 3, 5⟩ : S31), b].Perm [⟨2, 3, 5⟩, ⟨1, 2, 5⟩] := hp'.trans (List.Perm.swap _ _ _)
      have := List.perm_singleton.1 ((List.perm_cons _).1 h2)
      simp at this
      subst this
      exact absurd cmpA_lt (hs 0 1 (by omega) (by simp))
theorem Carry.last {l : List S31} {ds : List S35} {s n : Int} (k : Carry l ds s n) : (ds = [] ∧ s = 0 ∧ n = 0) ∨ ∃ ds0 d h ok s0 n0, ds = ds0 ++ [d] ∧ Carry l ds0 s0 n0 ∧ WayOf l d h ok ∧ ((ok = true ∧ s = s0 + d.f2 ∧ n = n0) ∨ (ok = false ∧ s = s0 ∧ n = n0 + 1)) := by
  cases k with
  | nil => exact .inl ⟨rfl, rfl, rfl⟩
  | yes k w => exact .inr ⟨_, _, _, true, _, _, rfl, k, w, .inl ⟨rfl, rfl, rfl⟩⟩
  | no k w => exact .inr ⟨_, _, _, false, _, _, rfl, k, w, .inr ⟨rfl, rfl, rfl⟩⟩
theorem app_last {α : Type} {a b : List α} {x y : α} (h : a ++ [x] = b ++ [y]) : a = b ∧ x = y := by
  have := List.append_inj' h rfl
  exact ⟨this.1, by simpa using this.2⟩
theorem row_carry {s n : Int} (k : Carry (arcsOf rowL) [⟨1, 3, 5⟩, ⟨1, 4, 1⟩] s n) : s = 5 ∧ n = 1 := by
  rcases k.last with ⟨h, _⟩ | ⟨ds0, d, h, ok, s0, n0, e, k0, w, hw⟩
  · cases h
  · obtain ⟨rfl, rfl⟩ := app_last (a := [(⟨1, 3, 5⟩ : S35)]) e
    rcases w.goes (arcs_ok row_ok) with ⟨hg, _⟩ | ⟨_, rfl, _⟩
    · exact absurd hg row_stops
    rcases hw with ⟨h, _⟩ | ⟨_, rfl, rfl⟩
    · cases h
    rcases k0.last with ⟨h, _⟩ | ⟨ds1, d1, h1, ok1, s1, n1, e1, k1, w1, hw1⟩
    · cases h
    · obtain ⟨rfl, rfl⟩ := app_last (a := []) e1
      rcases w1.goes (arcs_ok row_ok) with ⟨_, rfl, _⟩ | ⟨hg, _⟩
      · rcases hw1 with ⟨_, rfl, rfl⟩ | ⟨h, _⟩
        · rcases k1.last with ⟨_, rfl, rfl⟩ | ⟨ds2, d2, _, _, _, _, e2, _⟩
          · exact ⟨rfl, rfl⟩
          · cases ds2 <;> simp at e2
        · cases h
      · exact absurd row_goes hg

/-! ### sums -/
theorem sum_perm {α : Type} (f : α → Int) {a b : List α} (h : a.Perm b) : (a.map f).sum = (b.map f).sum := by
  induction h with
  | nil => rfl
  | cons x _ ih => simp [ih]
  | swap x y l => simp; omega
  | trans _ _ h1 h2 => exact h1.trans h2
def bal (n : Int) (out : List S31) : Int := (out.map (fun a => net n (a.f0, a.f1) * a.f2)).sum
theorem bal_perm {n : Int} {out : List S31} {E : PE} (h : out.Perm (E.map mkArc)) : bal n out = sumG (net n) E := by
  unfold bal sumG
  rw [sum_perm _ h, List.map_map]
  rfl
theorem bump_in {c : Int} {E : PE} (h : InB c E) (h0 : 0 ≤ c) (p : Int × Int) {a : Int} (ha : 0 ≤ a) : InB (c + a) (bump E p (pget E p + a)) := by
  have := h.get h0 p
  exact h.bump p (by omega) (by omega) (by omega)
theorem walkE_in {a : Int} (ha : 0 ≤ a) : ∀ (ps : List (Int × Int)) (c : Int) (E : PE), 0 ≤ c → InB c E → InB (c + a * (ps.length : Int)) (walkE E ps a) ∧ (walkE E ps a).length ≤ E.length + ps.length
  | [], c, E, h0, h => ⟨by simpa [walkE] using h, by simp [walkE]⟩
  | p :: ps, c, E, h0, h => by
    obtain ⟨h1, h2⟩ := walkE_in ha ps (c + a) _ (by omega) (bump_in h h0 p ha)
    have e : c + a * ((p :: ps).length : Int) = c + a + a * (ps.length : Int) := by
      rw [List.length_cons, Int.natCast_succ, Int.mul_add, Int.mul_one]; omega
    refine ⟨?_, ?_⟩
    · rw [e]; exact h1
    · have := bump_len E p (pget E p + a)
      show (walkE (bump E p (pget E p + a)) ps a).length ≤ _
      rw [List.length_cons]
      omega
theorem InB.mono {c d : Int} {E : PE} (h : InB c E) (hc : c ≤ d) : InB d E := fun e he => by have := h e he; omega
theorem Loaded.small {l : List S31} (hok : ArcsOk l) {ds : List S35} {E : PE} (k : Loaded l ds E) : InB (1073741824 * 64 * (ds.length : Int)) E ∧ E.length ≤ 64 * ds.length := by
  induction k with
  | nil => exact ⟨fun e he => by (cases he), by simp⟩
  | step k w ih =>
    rename_i ds E d h ok
    have hs := (w.small hok).1
    by_cases h0 : 0 < h.length
    · have ham := w.amt h0
      obtain ⟨h1, h2⟩ := walkE_in (a := d.f2) (by omega) (steps h) _ E (by omega) ih.1
      rw [steps_len] at h1 h2
      refine ⟨h1.mono ?_, by rw [List.length_append]; simp; omega⟩
      have e1 : d.f2 * ((h.length - 1 : Nat) : Int) ≤ 1073741824 * 64 := Int.mul_le_mul ham.2 (by omega) (by omega) (by omega)
      rw [List.length_append, List.length_singleton]
      omega
    · obtain rfl : h = [] := List.eq_nil_of_length_eq_zero (by omega)
      refine ⟨?_, ?_⟩
      · refine InB.mono (c := 1073741824 * 64 * (ds.length : Int)) ?_ (by rw [List.length_append, List.length_singleton]; omega)
        simpa [steps, walkE] using ih.1
      · have := ih.2
        simp [steps, walkE]; omega
end Go.Proofs.Ytinkhlfmjfahpaa.PLoadKeeps
