/- The plain law of the reference's distances: rounds over all arcs end in the least ones. The plain law of the reference's distances: the end. The plain law of the reference's distances: the rounds are enough. The plain law of the reference's routes. -/
import Derived.Test.YtinkhlfmjfahpaaCg
import Derived.Test.YtinkhlfmjfahpaaFc
namespace Go.Proofs.Ytinkhlfmjfahpaa.PLoadKeeps
set_option linter.unusedVariables false
set_option linter.unusedSimpArgs false

def Sound (l : List S31) (r : Nat) (d : Dst) : Prop := (∀ i, d.r i = true → Wk l r i (d.c i)) ∧ d.r r = true
theorem start_sound (l : List S31) (r : Nat) : Sound l r (start r) := by
  refine ⟨fun i hi => ?_, by simp [start]⟩
  unfold start at hi ⊢
  simp only [Int.toNat_natCast] at hi
  split at hi
  · rename_i e; subst e; exact Wk.nil
  · cases hi
theorem relax_sound {l : List S31} (hok : ArcsOk l) {r : Nat} {s : Dst × Bool} {a : S31} (ha : a ∈ l) (h : Sound l r s.1) : Sound l r (relax s a).1 := by
  have h0 := hok.1 a ha
  unfold relax
  simp only
  split
  · rename_i hc
    refine ⟨fun i hi => ?_, ?_⟩
    · simp only at hi ⊢
      split
      · rename_i e
        have hw := h.1 _ hc.1
        have := Wk.snoc hw ha (by have := h0.1; omega)
        have e2 : a.f1 = (i : Int) := by have := h0.2.1; omega
        rw [e2] at this
        exact this
      · rename_i e
        rw [if_neg e] at hi
        exact h.1 i hi
    · simp only
      split
      · rfl
      · exact h.2
  · exact h
/-- A node's distance is the least one. -/
def Ex (l : List S31) (r : Nat) (d : Dst) (i : Nat) : Prop := d.r i = true ∧ Least l r i (d.c i)
theorem relax_ex {l : List S31} (hok : ArcsOk l) {r : Nat} {s : Dst × Bool} {a : S31} (ha : a ∈ l) (h : Sound l r s.1) {i : Nat} (hi : Ex l r s.1 i) : Ex l r (relax s a).1 i := by
  have hs := (relax_sound hok ha h).1 i
  have h0 := hok.1 a ha
  unfold relax at hs ⊢
  simp only at hs ⊢
  split
  · rename_i hc
    rw [if_pos hc] at hs
    simp only at hs
    unfold Ex
    simp only
    by_cases e : i = a.f1.toNat
    · rw [if_pos e, if_pos e]
      rw [if_pos e, if_pos e] at hs
      have hw := hs rfl
      have hle := hi.2.2 _ hw
      rcases hc.2 with h1 | h1
      · rw [← e, hi.1] at h1; cases h1
      · rw [← e] at h1; omega
    · rw [if_neg e, if_neg e]
      exact hi
  · exact hi
theorem fold_keep {l : List S31} (hok : ArcsOk l) {r : Nat} : ∀ (arcs : List S31) (s : Dst × Bool), (∀ a ∈ arcs, a ∈ l) → Sound l r s.1 → Sound l r (arcs.foldl relax s).1 ∧ (∀ i, Ex l r s.1 i → Ex l r (arcs.foldl relax s).1 i)
  | [], s, _, h => ⟨h, fun _ h => h⟩
  | a :: arcs, s, hm, h => by
    obtain ⟨h1, h2⟩ := fold_keep hok arcs (relax s a) (fun b hb => hm b (by simp [hb])) (relax_sound hok (hm a (by simp)) h)
    exact ⟨h1, fun i hi => h2 i (relax_ex hok (hm a (by simp)) h hi)⟩
theorem fold_turned : ∀ (arcs : List S31) (s : Dst × Bool), s.2 = true → (arcs.foldl relax s).2 = true
  | [], s, h => h
  | a :: arcs, s, h => by
    refine fold_turned arcs (relax s a) ?_
    unfold relax
    simp only
    split
    · rfl
    · exact h
/-- No turn: nothing has changed, and no arc is shorter. -/
theorem fold_still : ∀ (arcs : List S31) (s : Dst × Bool), (arcs.foldl relax s).2 = false → arcs.foldl relax s = s ∧ ∀ a ∈ arcs, s.1.r a.f0.toNat = true → s.1.r a.f1.toNat = true ∧ s.1.c a.f1.toNat ≤ s.1.c a.f0.toNat + a.f2
  | [], s, h => ⟨rfl, fun a ha => by cases ha⟩
  | a :: arcs, s, h => by
    have hr : relax s a = s := by
      unfold relax
      simp only
      split
      · rename_i hc
        have h1 : (arcs.foldl relax (relax s a)).2 = true := fold_turned arcs _ (by unfold relax; simp only; rw [if_pos hc])
        rw [List.foldl_cons, h1] at h
        cases h
      · rfl
    rw [List.foldl_cons, hr] at h ⊢
    obtain ⟨h1, h2⟩ := fold_still arcs s h
    refine ⟨h1, fun b hb hb2 => ?_⟩
    rcases List.mem_cons.1 hb with rfl | hb
    · have hc : ¬ (s.1.r b.f0.toNat = true ∧ (s.1.r b.f1.toNat = false ∨ s.1.c b.f0.toNat + b.f2 < s.1.c b.f1.toNat)) := fun hc => by
        have : (relax s b).2 = true := by unfold relax; simp only; rw [if_pos hc]
        rw [hr] at this
        have h3 := fold_turned arcs s this
        rw [h] at h3
        cases h3
      cases h5 : s.1.r b.f1.toNat with
      | false => exact absurd ⟨hb2, .inl h5⟩ hc
      | true =>
        refine ⟨rfl, ?_⟩
        by_cases h6 : s.1.c b.f0.toNat + b.f2 < s.1.c b.f1.toNat
        · exact absurd ⟨hb2, .inr h6⟩ hc
        · omega
    · exact h2 b hb hb2
end Go.Proofs.Ytinkhlfmjfahpaa.PLoadKeeps

namespace Go.Proofs.Ytinkhlfmjfahpaa.PLoadKeeps
set_option linter.unusedVariables false
set_option linter.unusedSimpArgs false

theorem start_ex {l : List S31} (hok : ArcsOk l) (r : Nat) : Ex l r (start r) r := by
  refine ⟨by simp [start], Wk.nil, fun d hd => hd.nonneg hok.pos⟩
/-- What the rounds have. -/
structure BInv (l : List S31) (r : Nat) (d : Dst) : Prop where
  sound : Sound l r d
  root : Ex l r d r
theorem BF.inv {l : List S31} (hok : ArcsOk l) {r : Nat} {k : Nat} {d : Dst} (h : BF l r k d) : BInv l r d := by
  induction h with
  | start => exact ⟨start_sound l r, start_ex hok r⟩
  | next h ht ih =>
    obtain ⟨h1, h2⟩ := fold_keep hok l (_, false) (fun a ha => ha) ih.sound
    exact ⟨h1, h2 _ ih.root⟩
/-- A state that no arc betters is exact. -/
theorem still_exact {l : List S31} (hok : ArcsOk l) {r : Nat} {d : Dst} (h : BInv l r d) (hs : ∀ a ∈ l, d.r a.f0.toNat = true → d.r a.f1.toNat = true ∧ d.c a.f1.toNat ≤ d.c a.f0.toNat + a.f2) :
    ∀ v c, Wk l r v c → d.r v.toNat = true ∧ d.c v.toNat ≤ c := fun v c hw => by
  induction hw with
  | nil =>
    rw [Int.toNat_natCast]
    exact ⟨h.root.1, h.root.2.2 0 Wk.nil⟩
  | snoc hw ha e ih =>
    have := hs _ ha (by rw [e]; exact ih.1)
    refine ⟨this.1, ?_⟩
    have h2 := this.2
    rw [e] at h2
    have := ih.2
    omega
/-- Where all that is reached is exact, nothing turns. -/
theorem all_still {l : List S31} (hok : ArcsOk l) {r : Nat} : ∀ (arcs : List S31) (s : Dst × Bool), (∀ a ∈ arcs, a ∈ l) → Sound l r s.1 → (∀ i : Nat, ∀ c, Wk l r i c → Ex l r s.1 i) → arcs.foldl relax s = s
  | [], s, _, _, _ => rfl
  | a :: arcs, s, hm, hs, hx => by
    have ha := hm a (by simp)
    have h0 := hok.1 a ha
    have hr : relax s a = s := by
      unfold relax
      simp only
      split
      · rename_i hc
        have hw := hs.1 _ hc.1
        have hw2 := Wk.snoc hw ha (by have := h0.1; omega)
        have e2 : a.f1 = (a.f1.toNat : Int) := by have := h0.2.1; omega
        rw [e2] at hw2
        have hex := hx _ _ hw2
        have hle := hex.2.2 _ hw2
        rcases hc.2 with h1 | h1
        · rw [hex.1] at h1; cases h1
        · exfalso; omega
      · rfl
    rw [List.foldl_cons, hr]
    exact all_still hok arcs s (fun b hb => hm b (by simp [hb])) hs hx
/-- A least one among those that are reached and not exact. -/
theorem least_bad {l : List S31} (hok : ArcsOk l) {r : Nat} {d : Dst} : ∀ (n : Nat) (i : Nat) (c : Int), c.toNat = n → Least l r i c → ¬ Ex l r d i →
    ∃ (i : Nat) (c : Int), Least l r i c ∧ ¬ Ex l r d i ∧ ∀ (j : Nat) (e : Int), Least l r j e → e < c → Ex l r d j := by
  intro n
  induction n using Nat.strongRecOn with
  | _ n ih =>
    intro i c hc hl hb
    by_cases h : ∃ (j : Nat) (e : Int), Least l r j e ∧ e < c ∧ ¬ Ex l r d j
    · obtain ⟨j, e, h1, h2, h3⟩ := h
      have := h1.1.nonneg hok.pos
      exact ih e.toNat (by omega) j e rfl h1 h3
    · exact ⟨i, c, hl, hb, fun j e h1 h2 => by
        by_cases h3 : Ex l r d j
        · exact h3
        · exact absurd ⟨j, e, h1, h2, h3⟩ h⟩
/-- Behind an arc whose start is exact its end costs no more than by it. -/
theorem relax_to {l : List S31} (hok : ArcsOk l) {r : Nat} {s : Dst × Bool} {a : S31} (ha : a ∈ l) (hs : Sound l r s.1) {c : Int} (hu : Ex l r s.1 a.f0.toNat) (hc : s.1.c a.f0.toNat + a.f2 = c) (hl : Least l r a.f1.toNat c) : Ex l r (relax s a).1 a.f1.toNat := by
  have h2 := relax_sound hok ha hs
  have key : (relax s a).1.r a.f1.toNat = true ∧ (relax s a).1.c a.f1.toNat ≤ c := by
    unfold relax
    simp only
    split
    · simp only [if_true]
      exact ⟨trivial, by omega⟩
    · rename_i h
      cases h5 : s.1.r a.f1.toNat with
      | false => exact absurd ⟨hu.1, .inl h5⟩ h
      | true =>
        refine ⟨rfl, ?_⟩
        by_cases h6 : s.1.c a.f0.toNat + a.f2 < s.1.c a.f1.toNat
        · exact absurd ⟨hu.1, .inr h6⟩ h
        · omega
  have hw := h2.1 _ key.1
  have := hl.2 _ hw
  have e : (relax s a).1.c a.f1.toNat = c := by omega
  exact ⟨key.1, by rw [e]; exact hl⟩
theorem wk_last {l : List S31} {u v c : Int} (h : Wk l u v c) : v = u ∨ ∃ a ∈ l, ∃ e, Wk l u a.f0 e ∧ a.f1 = v ∧ c = e + a.f2 := by
  cases h with
  | nil => exact .inl rfl
  | snoc h ha e => exact .inr ⟨_, ha, _, by rw [e]; exact h, rfl, rfl⟩
/-- A round that turns makes one more node exact. -/
theorem round_gains {l : List S31} (hok : ArcsOk l) {r : Nat} {d : Dst} (h : BInv l r d) (ht : (rnd l d).2 = true) : ∃ i : Nat, 1 ≤ i ∧ i ≤ 64 ∧ ¬ Ex l r d i ∧ Ex l r (rnd l d).1 i := by
  by_cases hall : ∀ i : Nat, ∀ c, Wk l r i c → Ex l r d i
  · have := all_still hok l (d, false) (fun a ha => ha) h.sound hall
    unfold rnd at ht
    rw [this] at ht
    cases ht
  · have hbad : ∃ (i : Nat) (c : Int), Wk l r i c ∧ ¬ Ex l r d i := by
      by_cases h2 : ∃ (i : Nat) (c : Int), Wk l r i c ∧ ¬ Ex l r d i
      · exact h2
      · exact absurd (fun i c hw => by
          by_cases h3 : Ex l r d i
          · exact h3
          · exact absurd ⟨i, c, hw, h3⟩ h2) hall
    obtain ⟨i0, c0, hw0, hb0⟩ := hbad
    obtain ⟨c1, hl1⟩ := least_exists hok.pos hw0
    obtain ⟨i, c, hl, hb, hmin⟩ := least_bad hok c1.toNat i0 c1 rfl hl1 hb0
    rcases wk_last hl.1 with e | ⟨a, ha, e, hw, e1, e2⟩
    · have : i = r := by omega
      subst this
      exact absurd h.root hb
    · have h0 := hok.1 a ha
      have hf0 : a.f0 = (a.f0.toNat : Int) := by have := h0.1; omega
      have hf1 : a.f1.toNat = i := by omega
      have hlu : Least l r a.f0.toNat e := ⟨by rw [← hf0]; exact hw, fun x hx => by
        rw [← hf0] at hx
        have := hl.2 _ (by rw [← e1]; exact Wk.snoc hx ha rfl)
        omega⟩
      have hu := hmin _ e hlu (by have := h0.2.2.2.1; omega)
      obtain ⟨l1, l2, hsplit⟩ := List.append_of_mem ha
      have hm1 : ∀ b ∈ l1, b ∈ l := fun b hb => by rw [hsplit]; simp [hb]
      have hm2 : ∀ b ∈ l2, b ∈ l := fun b hb => by rw [hsplit]; simp [hb]
      have hr : rnd l d = l2.foldl relax (relax (l1.foldl relax (d, false)) a) := by
        unfold rnd
        conv => lhs; rw [hsplit]
        rw [List.foldl_append, List.foldl_cons]
      obtain ⟨s1, k1⟩ := fold_keep hok l1 (d, false) hm1 h.sound
      have hu1 := k1 _ hu
      have hx := relax_to hok ha s1 hu1 (c := c) (by have := hu1.2.inj hlu; omega) (by rw [hf1]; exact hl)
      obtain ⟨s2, k2⟩ := fold_keep hok l2 (relax (l1.foldl relax (d, false)) a) hm2 (relax_sound hok ha s1)
      refine ⟨i, by have := h0.2.1; omega, by have := h0.2.1; omega, hb, ?_⟩
      rw [hr, ← hf1]
      exact k2 _ hx
end Go.Proofs.Ytinkhlfmjfahpaa.PLoadKeeps

namespace Go.Proofs.Ytinkhlfmjfahpaa.PLoadKeeps
set_option linter.unusedVariables false
set_option linter.unusedSimpArgs false
open Classical in
noncomputable def cnt (l : List S31) (r : Nat) (d : Dst) : Nat := ((List.range 65).filter (fun i => decide (Ex l r d i ∧ 1 ≤ i))).length
theorem filter_grow {p q : Nat → Bool} (h : ∀ i, p i = true → q i = true) : ∀ (xs : List Nat), (xs.filter p).length ≤ (xs.filter q).length ∧ ((∃ i ∈ xs, p i = false ∧ q i = true) → (xs.filter p).length < (xs.filter q).length)
  | [] => ⟨by simp, fun ⟨i, hi, _⟩ => by cases hi⟩
  | x :: xs => by
    obtain ⟨h1, h2⟩ := filter_grow h xs
    simp only [List.filter_cons]
    cases hp : p x with
    | true =>
      rw [h x hp]
      simp only [if_true, List.length_cons]
      refine ⟨by omega, fun ⟨i, hi, e1, e2⟩ => ?_⟩
      rcases List.mem_cons.1 hi with rfl | hi
      · rw [hp] at e1; cases e1
      · have := h2 ⟨i, hi, e1, e2⟩; omega
    | false =>
      cases hq : q x with
      | true => simp; omega
      | false =>
        simp
        refine ⟨h1, fun h => ?_⟩
        rcases h with ⟨_, e2⟩ | ⟨i, hi, e1, e2⟩
        · rw [hq] at e2; cases e2
        · exact h2 ⟨i, hi, e1, e2⟩
open Classical in
theorem round_cnt {l : List S31} (hok : ArcsOk l) {r : Nat} {d : Dst} (h : BInv l r d) (ht : (rnd l d).2 = true) : cnt l r d < cnt l r (rnd l d).1 := by
  obtain ⟨i, h1, h2, h3, h4⟩ := round_gains hok h ht
  obtain ⟨_, hk⟩ := fold_keep hok l (d, false) (fun a ha => ha) h.sound
  unfold cnt
  exact (filter_grow (fun j hj => by
    simp only [decide_eq_true_eq] at hj ⊢
    exact ⟨hk j hj.1, hj.2⟩) (List.range 65)).2 ⟨i, by rw [List.mem_range]; omega, by simp [h3], by simp; exact ⟨h4, h1⟩⟩
theorem BF.cnt {l : List S31} (hok : ArcsOk l) {r k : Nat} {d : Dst} (h : BF l r k d) : k ≤ PLoadKeeps.cnt l r d := by
  induction h with
  | start => omega
  | next h ht ih => have := round_cnt hok (h.inv hok) ht; omega
open Classical in
theorem cnt_le (l : List S31) (r : Nat) (d : Dst) : cnt l r d ≤ 64 := by
  unfold cnt
  have := (filter_grow (p := fun i => decide (Ex l r d i ∧ 1 ≤ i)) (q := fun i => decide (1 ≤ i)) (fun i hi => by simp at hi ⊢; exact hi.2) (List.range 65)).1
  have e : ((List.range 65).filter (fun i => decide (1 ≤ i))).length = 64 := by decide
  omega
/-- The reference's distances are the least ones. -/
theorem BFEnd.exact {l : List S31} (hok : ArcsOk l) {r : Nat} {d : Dst} (h : BFEnd l r d) : (∀ v c, Wk l r v c → d.r v.toNat = true ∧ d.c v.toNat ≤ c) ∧ (∀ i, d.r i = true → Wk l r i (d.c i)) := by
  obtain ⟨k, d0, hB, h⟩ := h
  have hi := hB.inv hok
  rcases h with ⟨ht, rfl⟩ | ⟨rfl, _⟩
  · obtain ⟨e, hs⟩ := fold_still l (d0, false) ht
    have e2 : (rnd l d0).1 = d0 := by unfold rnd; rw [e]
    rw [e2]
    exact ⟨still_exact hok hi hs, hi.sound.1⟩
  · have := hB.cnt hok
    have := cnt_le l r d0
    omega
end Go.Proofs.Ytinkhlfmjfahpaa.PLoadKeeps

namespace Go.Proofs.Ytinkhlfmjfahpaa.PLoadKeeps
set_option linter.unusedVariables false
set_option linter.unusedSimpArgs false

/-- Distances that are the least ones. -/
def Exact (l : List S31) (r : Nat) (d : Dst) : Prop := (∀ v c, Wk l r v c → d.r v.toNat = true ∧ d.c v.toNat ≤ c) ∧ (∀ i : Nat, d.r i = true → Wk l r i (d.c i))
theorem CB.fold : ∀ (arcs : List S31) (c : Int) (s : Dst × Bool), (∀ a ∈ arcs, 0 ≤ a.f2 ∧ a.f2 ≤ 1073741824) → CB c s.1 → CB (c + 1073741824 * (arcs.length : Int)) (arcs.foldl PLoadKeeps.relax s).1
  | [], c, s, _, h => by simpa using h
  | a :: arcs, c, s, ha, h => by
    have h1 := h.relax (a := a) (ha a (by simp)).1 (ha a (by simp)).2
    have h2 := CB.fold arcs _ _ (fun b hb => ha b (by simp [hb])) h1
    rw [List.foldl_cons, List.length_cons, Int.natCast_succ]
    have e : c + 1073741824 + 1073741824 * (arcs.length : Int) = c + 1073741824 * ((arcs.length : Int) + 1) := by omega
    rw [← e]
    exact h2
theorem BF.cb {l : List S31} (hok : ArcsOk l) {r k : Nat} {d : Dst} (h : BF l r k d) : CB (1073741824 * (l.length : Int) * (k : Int)) d := by
  induction h with
  | start => exact fun i => by simp [PLoadKeeps.start]
  | next h ht ih =>
    rename_i k d
    have := CB.fold l _ (d, false) (fun a ha => by have := hok.1 a ha; exact ⟨by have := this.2.2.2; omega, this.2.2.2.2⟩) ih
    have e : 1073741824 * (l.length : Int) * ((k + 1 : Nat) : Int) = 1073741824 * (l.length : Int) * (k : Int) + 1073741824 * (l.length : Int) := by
      rw [Int.natCast_succ, Int.mul_add, Int.mul_one]
    rw [e]
    exact this
theorem BFEnd.cb {l : List S31} (hok : ArcsOk l) (hn : l.length ≤ 112) {r : Nat} {d : Dst} (h : BFEnd l r d) : CB 7900000000000 d := by
  obtain ⟨k, d0, hB, h⟩ := h
  have h1 := hB.cnt hok
  have h2 := cnt_le l r d0
  have hk : (k : Int) ≤ 64 := by omega
  have hm : 1073741824 * (l.length : Int) * (k : Int) ≤ 120259084288 * 64 := Int.mul_le_mul (by omega) hk (by omega) (by omega)
  have hc := hB.cb hok
  rcases h with ⟨_, rfl⟩ | ⟨rfl, rfl⟩
  · have h3 := CB.fold l _ (d0, false) (fun a ha => by have := hok.1 a ha; exact ⟨by have := this.2.2.2; omega, this.2.2.2.2⟩) hc
    intro i
    have := h3 i
    unfold rnd
    omega
  · intro i
    have := hc i
    omega
theorem wk_first {l : List S31} {u v c : Int} (h : Wk l u v c) : (v = u ∧ c = 0) ∨ ∃ b ∈ l, b.f0 = u ∧ ∃ e, Wk l b.f1 v e ∧ c = b.f2 + e := by
  induction h with
  | nil => exact .inl ⟨rfl, rfl⟩
  | snoc h ha e ih =>
    rcases ih with ⟨rfl, rfl⟩ | ⟨b, hb, e1, x, hw, e2⟩
    · exact .inr ⟨_, ha, e, 0, Wk.nil, by omega⟩
    · exact .inr ⟨b, hb, e1, _, Wk.snoc hw ha e, by omega⟩
/-- The routes so far: to the nodes below k. -/
def RtOk (l : List S31) (n : Nat) (k : Int) (rs : List S63) : Prop :=
  (∀ x ∈ rs, (1 ≤ x.f0 ∧ x.f0 < k) ∧ x.f0 ≠ n ∧ ∃ c, Least l n x.f0 c ∧ c ≤ 7900000000000 ∧ ∃ b ∈ l, b.f0 = n ∧ b.f1 = x.f1 ∧ Wk l x.f1 x.f0 (c - b.f2)) ∧ (∀ t : Int, 1 ≤ t → t < k → t ≠ n → (∃ c, Wk l n t c) → ∃ x ∈ rs, x.f0 = t)
theorem RtOk.nil (l : List S31) (n : Nat) : RtOk l n 1 [] := ⟨fun x hx => by (cases hx), fun t h1 h2 => by omega⟩
theorem RtOk.skip {l : List S31} {n : Nat} {k : Nat} {rs : List S63} {d : Dst} (h : RtOk l n k rs) (hd : Exact l n d) (hs : k = n ∨ d.r k = false) : RtOk l n ((k : Int) + 1) rs := by
  refine ⟨fun x hx => ?_, fun t h1 h2 h3 h4 => ?_⟩
  · obtain ⟨a, b⟩ := h.1 x hx
    exact ⟨⟨a.1, by omega⟩, b⟩
  · by_cases e : t = k
    · subst e
      rcases hs with rfl | hs
      · exact absurd rfl h3
      · obtain ⟨c, hw⟩ := h4
        have := (hd.1 _ c hw).1
        rw [Int.toNat_natCast, hs] at this
        cases this
    · exact h.2 t h1 (by omega) h3 h4
/-- An arc that the way to t may begin with. -/
def Hit (l : List S31) (n t : Nat) (dc : Int) (ds : Nat → Dst) (a : S31) : Prop := a.f0 = n ∧ (ds a.f1.toNat).r t = true ∧ a.f2 + (ds a.f1.toNat).c t = dc
/-- What the search for the via has, behind the arcs from m on. -/
def Via (l : List S31) (n t : Nat) (dc : Int) (ds : Nat → Dst) (m : Nat) (via : Int) : Prop :=
  (via = 0 ∧ ∀ i (h : i < l.length), m ≤ i → ¬ Hit l n t dc ds l[i]) ∨ ∃ a ∈ l, Hit l n t dc ds a ∧ via = a.f1
theorem Via.start {l : List S31} {n t : Nat} {dc : Int} {ds : Nat → Dst} : Via l n t dc ds l.length 0 := .inl ⟨rfl, fun i h hm => by omega⟩
theorem Via.miss {l : List S31} {n t : Nat} {dc : Int} {ds : Nat → Dst} {m : Nat} {via : Int} (h : Via l n t dc ds (m + 1) via) (hm : m < l.length) (hn : ¬ Hit l n t dc ds l[m]) : Via l n t dc ds m via := by
  rcases h with ⟨h1, h2⟩ | h
  · exact .inl ⟨h1, fun i hi hmi => by
      by_cases e : i = m
      · subst e; exact hn
      · exact h2 i hi (by omega)⟩
  · exact .inr h
theorem Via.hit {l : List S31} {n t : Nat} {dc : Int} {ds : Nat → Dst} {m : Nat} (hm : m < l.length) (hh : Hit l n t dc ds l[m]) : Via l n t dc ds m (l[m]).f1 := .inr ⟨_, List.getElem_mem _, hh, rfl⟩
theorem Via.ends {l : List S31} (hok : ArcsOk l) {n t : Nat} {d : Dst} {ds : Nat → Dst} {via : Int} (hd : Exact l n d) (hds : ∀ a ∈ l, a.f0 = n → Exact l a.f1.toNat (ds a.f1.toNat)) (ht : d.r t = true) (hnt : t ≠ n) (h : Via l n t (d.c t) ds 0 via) :
    ∃ b ∈ l, b.f0 = n ∧ b.f1 = via ∧ Wk l via t (d.c t - b.f2) := by
  have hw := hd.2 t ht
  rcases h with ⟨rfl, hno⟩ | ⟨a, ha, hh, rfl⟩
  · rcases wk_first hw with ⟨e, _⟩ | ⟨b, hb, e1, x, hx, e2⟩
    · exact absurd (by omega) hnt
    · obtain ⟨i, hi, rfl⟩ := List.mem_iff_getElem.1 hb
      exfalso
      refine hno i hi (by omega) ?_
      have hex := hds _ hb e1
      have hf1 : ((l[i].f1.toNat : Nat) : Int) = l[i].f1 := by have := (hok.1 _ hb).2.1; omega
      have h1 := hex.1 t x (by rw [hf1]; exact hx)
      rw [Int.toNat_natCast] at h1
      refine ⟨e1, h1.1, ?_⟩
      have h2 := hex.2 t h1.1
      rw [hf1] at h2
      have h3 := Wk.cons hb h2
      rw [e1] at h3
      have h4 := (hd.1 _ _ h3).2
      rw [Int.toNat_natCast] at h4
      omega
  · obtain ⟨e1, h1, h2⟩ := hh
    refine ⟨a, ha, e1, rfl, ?_⟩
    have hex := (hds a ha e1).2 t h1
    have hf1 : ((a.f1.toNat : Nat) : Int) = a.f1 := by have := (hok.1 _ ha).2.1; omega
    rw [hf1] at hex
    have e : d.c t - a.f2 = (ds a.f1.toNat).c t := by omega
    rw [e]
    exact hex
theorem RtOk.add {l : List S31} (hok : ArcsOk l) {n t : Nat} {d : Dst} {ds : Nat → Dst} {via : Int} {rs : List S63} (h : RtOk l n t rs) (h1 : 1 ≤ t) (hd : Exact l n d) (hcb : CB 7900000000000 d) (hds : ∀ a ∈ l, a.f0 = n → Exact l a.f1.toNat (ds a.f1.toNat)) (ht : d.r t = true) (hnt : t ≠ n) (hv : Via l n t (d.c t) ds 0 via) :
    RtOk l n ((t : Int) + 1) (rs ++ [⟨t, via, d.c t⟩]) := by
  obtain ⟨b, hb, e1, e2, hw⟩ := hv.ends hok hd hds ht hnt
  refine ⟨fun x hx => ?_, fun s hs1 hs2 hs3 hs4 => ?_⟩
  · rcases List.mem_append.1 hx with hx | hx
    · obtain ⟨a, b⟩ := h.1 x hx
      exact ⟨⟨a.1, by omega⟩, b⟩
    · simp at hx
      subst hx
      refine ⟨⟨by simp; omega, by simp; omega⟩, by simp; omega, d.c t, ⟨hd.2 t ht, fun c hc => ?_⟩, (hcb t).2, b, hb, e1, e2, hw⟩
      have := (hd.1 _ c hc).2
      rwa [Int.toNat_natCast] at this
  · by_cases e : s = t
    · exact ⟨⟨t, via, d.c t⟩, by simp, e.symm⟩
    · obtain ⟨x, hx, hx2⟩ := h.2 s hs1 (by omega) hs3 hs4
      exact ⟨x, by simp [hx], hx2⟩
end Go.Proofs.Ytinkhlfmjfahpaa.PLoadKeeps
