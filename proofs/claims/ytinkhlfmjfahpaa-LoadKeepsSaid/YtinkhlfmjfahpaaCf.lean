/- The plain law of the heap: what is put and taken; the first is the least. The plain law of the least ways: the walk by the heap ends in the least distances. -/
import Derived.Test.YtinkhlfmjfahpaaCb
import Derived.Test.YtinkhlfmjfahpaaRa
namespace Go.Proofs.Ytinkhlfmjfahpaa.PLoadKeeps
set_option linter.unusedVariables false
set_option linter.unusedSimpArgs false

/-- One spot is not behind another one. -/
def leS (a b : S94) : Prop := a.f0 < b.f0 ∨ (a.f0 = b.f0 ∧ a.f1 ≤ b.f1)
theorem leS.trans {a b c : S94} (h : leS a b) (k : leS b c) : leS a c := by unfold leS at *; omega
theorem leS.refl (a : S94) : leS a a := by unfold leS; omega
theorem sless_le {a b : S94} (h : sless a b = true) : leS a b := by
  unfold sless at h
  unfold leS
  split at h
  · simp at h; omega
  · simp at h; omega
theorem le_of_not {a b : S94} (h : ¬ sless a b = true) : leS b a := by
  unfold sless at h
  unfold leS
  split at h
  · simp at h; omega
  · simp at h; omega
theorem sp_swp (l : List S94) (i j k : Nat) (hi : i < l.length) (hj : j < l.length) : sp (swp l i j) k = if k = j then sp l i else if k = i then sp l j else sp l k := by
  unfold swp sp
  simp only [List.getD_eq_getElem?_getD, List.getElem?_set, List.length_set]
  by_cases h1 : k = j
  · subst h1; simp [hj]
  · by_cases h2 : k = i
    · subst h2; simp [h1, Ne.symm h1, hi]
    · simp [h1, h2, Ne.symm h1, Ne.symm h2]
theorem swp_len (l : List S94) (i j : Nat) : (swp l i j).length = l.length := by simp [swp]
theorem mem_sp {l : List S94} {x : S94} : x ∈ l ↔ ∃ k, k < l.length ∧ sp l k = x := by
  constructor
  · intro h
    obtain ⟨k, hk, rfl⟩ := List.getElem_of_mem h
    exact ⟨k, hk, by unfold sp; rw [List.getD_eq_getElem?_getD, List.getElem?_eq_getElem hk]; rfl⟩
  · rintro ⟨k, hk, rfl⟩
    unfold sp
    rw [List.getD_eq_getElem?_getD, List.getElem?_eq_getElem hk]
    exact List.getElem_mem _
theorem mem_swp {l : List S94} {i j : Nat} (hi : i < l.length) (hj : j < l.length) {x : S94} : x ∈ swp l i j ↔ x ∈ l := by
  rw [mem_sp, mem_sp, swp_len]
  constructor
  · rintro ⟨k, hk, rfl⟩
    rw [sp_swp l i j k hi hj]
    split
    · exact ⟨i, hi, rfl⟩
    · split
      · exact ⟨j, hj, rfl⟩
      · exact ⟨k, hk, rfl⟩
  · rintro ⟨k, hk, rfl⟩
    by_cases h1 : k = i
    · exact ⟨j, hj, by rw [sp_swp l i j j hi hj, if_pos rfl, h1]⟩
    · by_cases h2 : k = j
      · subst h2
        exact ⟨i, hi, by rw [sp_swp l i k i hi hj, if_neg (fun e => h1 e.symm), if_pos rfl]⟩
      · exact ⟨k, hk, by rw [sp_swp l i j k hi hj, if_neg h2, if_neg h1]⟩
/-- A heap: none is behind the ones below it. -/
def Hp (l : List S94) : Prop := ∀ k, 0 < k → k < l.length → leS (sp l ((k - 1) / 2)) (sp l k)
theorem Hp.first {l : List S94} (h : Hp l) : ∀ k, k < l.length → leS (sp l 0) (sp l k) := by
  intro k
  induction k using Nat.strongRecOn with
  | _ k ih =>
    intro hk
    by_cases h0 : k = 0
    · subst h0; exact leS.refl _
    · exact (ih ((k - 1) / 2) (by omega) (by omega)).trans (h k (by omega) hk)
structure HpUp (l : List S94) (i : Nat) : Prop where
  other : ∀ k, 0 < k → k < l.length → k ≠ i → leS (sp l ((k - 1) / 2)) (sp l k)
  under : 0 < i → ∀ c, c < l.length → 0 < c → (c - 1) / 2 = i → leS (sp l ((i - 1) / 2)) (sp l c)
theorem siftUp_ok : ∀ (n : Nat) (l : List S94) (i : Nat), i < n → i < l.length → HpUp l i → Hp (siftUp n l i) ∧ (siftUp n l i).length = l.length ∧ ∀ x, x ∈ siftUp n l i ↔ x ∈ l
  | 0, l, i, hn, hi, h => by omega
  | n + 1, l, 0, hn, hi, h => ⟨fun k h0 hk => h.other k h0 hk (by omega), rfl, fun x => Iff.rfl⟩
  | n + 1, l, i + 1, hn, hi, h => by
    unfold siftUp
    have hp : i / 2 < l.length := by omega
    split
    · rename_i hs
      have hle := sless_le hs
      have hup : HpUp (swp l (i + 1) (i / 2)) (i / 2) := by
        refine ⟨fun k h0 hk hne => ?_, fun h0 c hc hc0 hcp => ?_⟩
        · rw [swp_len] at hk
          rw [sp_swp l _ _ _ hi hp, sp_swp l _ _ _ hi hp, if_neg hne]
          by_cases e1 : k = i + 1
          · subst e1
            rw [if_pos (by omega), if_pos rfl]
            exact hle
          · rw [if_neg e1]
            by_cases e2 : (k - 1) / 2 = i / 2
            · rw [if_pos e2]
              have := h.other k h0 hk e1
              rw [e2] at this
              exact hle.trans this
            · rw [if_neg e2]
              by_cases e3 : (k - 1) / 2 = i + 1
              · rw [if_pos e3]
                exact h.under (by omega) k hk h0 e3
              · rw [if_neg e3]
                exact h.other k h0 hk e1
        · rw [swp_len] at hc
          have hgp := h.other (i / 2) h0 hp (by omega)
          rw [sp_swp l _ _ _ hi hp, sp_swp l _ _ _ hi hp, if_neg (by omega), if_neg (by omega), if_neg (by omega)]
          by_cases e1 : c = i + 1
          · rw [if_pos e1]; exact hgp
          · rw [if_neg e1]
            have := h.other c hc0 hc e1
            rw [hcp] at this
            exact hgp.trans this
      obtain ⟨h1, h2, h3⟩ := siftUp_ok n (swp l (i + 1) (i / 2)) (i / 2) (by omega) (by rw [swp_len]; exact hp) hup
      exact ⟨h1, by rw [h2, swp_len], fun x => (h3 x).trans (mem_swp hi hp)⟩
    · rename_i hs
      have hle := le_of_not hs
      refine ⟨fun k h0 hk => ?_, rfl, fun x => Iff.rfl⟩
      by_cases e : k = i + 1
      · subst e; exact hle
      · exact h.other k h0 hk e
theorem hput_ok (l : List S94) (s : S94) (h : Hp l) : Hp (hput l s) ∧ ∀ x, x ∈ hput l s ↔ x = s ∨ x ∈ l := by
  have hsp : ∀ k, k < l.length → sp (l ++ [s]) k = sp l k := fun k hk => by
    unfold sp
    rw [List.getD_eq_getElem?_getD, List.getD_eq_getElem?_getD, List.getElem?_append_left hk]
  obtain ⟨h1, h2, h3⟩ := siftUp_ok (l.length + 1) (l ++ [s]) l.length (by omega) (by simp) ⟨fun k h0 hk hne => by
    rw [List.length_append, List.length_singleton] at hk
    rw [hsp _ (by omega), hsp _ (by omega)]
    exact h k h0 (by omega), fun h0 c hc hc0 hcp => by
    rw [List.length_append, List.length_singleton] at hc
    omega⟩
  refine ⟨h1, fun x => (h3 x).trans ?_⟩
  rw [List.mem_append, List.mem_singleton]
  exact Or.comm

theorem lst_props (l : List S94) (i : Nat) (hi : i < l.length) : ∀ j, leS (sp l (lst l i j)) (sp l i) ∧ (∀ t, t < j → 2 * i + 1 + t < l.length → leS (sp l (lst l i j)) (sp l (2 * i + 1 + t))) ∧ (lst l i j = i ∨ ∃ t, t < j ∧ lst l i j = 2 * i + 1 + t)
  | 0 => ⟨leS.refl _, fun t ht => by omega, .inl rfl⟩
  | j + 1 => by
    obtain ⟨h1, h2, h3⟩ := lst_props l i hi j
    unfold lst
    split
    · rename_i h
      have hle := sless_le h.2
      refine ⟨hle.trans h1, fun t ht hl => ?_, .inr ⟨j, by omega, rfl⟩⟩
      by_cases e : t = j
      · subst e; exact leS.refl _
      · exact hle.trans (h2 t (by omega) hl)
    · rename_i h
      refine ⟨h1, fun t ht hl => ?_, ?_⟩
      · by_cases e : t = j
        · subst e
          exact le_of_not (fun hs => h ⟨hl, hs⟩)
        · exact h2 t (by omega) hl
      · rcases h3 with h3 | ⟨t, ht, h3⟩
        · exact .inl h3
        · exact .inr ⟨t, by omega, h3⟩
structure HpDn (l : List S94) (i : Nat) : Prop where
  other : ∀ k, 0 < k → k < l.length → (k - 1) / 2 ≠ i → leS (sp l ((k - 1) / 2)) (sp l k)
  over : 0 < i → ∀ c, c < l.length → 0 < c → (c - 1) / 2 = i → leS (sp l ((i - 1) / 2)) (sp l c)
theorem siftDown_ok : ∀ (n : Nat) (l : List S94) (i : Nat), l.length ≤ n + i → i < l.length → HpDn l i → Hp (siftDown n l i) ∧ (siftDown n l i).length = l.length ∧ ∀ x, x ∈ siftDown n l i ↔ x ∈ l
  | 0, l, i, hn, hi, h => by omega
  | n + 1, l, i, hn, hi, h => by
    obtain ⟨p1, p2, p3⟩ := lst_props l i hi 2
    have hml := lst_lt l i hi 2
    unfold siftDown
    split
    · rename_i hm
      rw [hm] at p2
      refine ⟨fun k h0 hk => ?_, rfl, fun x => Iff.rfl⟩
      by_cases e : (k - 1) / 2 = i
      · have h9 := p2 (k - 1 - 2 * i) (by omega) (by omega)
        have e9 : 2 * i + 1 + (k - 1 - 2 * i) = k := by omega
        rw [e9] at h9
        rw [e]
        exact h9
      · exact h.other k h0 hk e
    · rename_i hm
      generalize hmm : lst l i 2 = m at *
      have hmi : (m - 1) / 2 = i ∧ 0 < m := by
        rcases p3 with h3 | ⟨t, ht, h3⟩
        · exact absurd h3 hm
        · omega
      have hdn : HpDn (swp l i m) m := by
        refine ⟨fun k h0 hk hne => ?_, fun h0 c hc hc0 hcp => ?_⟩
        · rw [swp_len] at hk
          rw [sp_swp l _ _ _ hi hml, sp_swp l _ _ _ hi hml, if_neg hne]
          by_cases e1 : (k - 1) / 2 = i
          · rw [if_pos e1]
            by_cases e2 : k = m
            · rw [if_pos e2]; exact p1
            · rw [if_neg e2, if_neg (by omega)]
              have := p2 (k - 1 - 2 * i) (by omega) (by omega)
              rw [show 2 * i + 1 + (k - 1 - 2 * i) = k by omega] at this
              exact this
          · rw [if_neg e1, if_neg (by rintro rfl; exact e1 hmi.1)]
            by_cases e2 : k = i
            · subst e2
              rw [if_pos rfl]
              exact h.over h0 m hml hmi.2 hmi.1
            · rw [if_neg e2]
              exact h.other k h0 hk e1
        · rw [swp_len] at hc
          rw [sp_swp l _ _ _ hi hml, sp_swp l _ _ _ hi hml, hmi.1, if_neg (fun e => hm e.symm), if_pos rfl, if_neg (show ¬ c = m by omega), if_neg (show ¬ c = i by have := hmi.1; omega)]
          have := h.other c hc0 hc (by rw [hcp]; omega)
          rw [hcp] at this
          exact this
      obtain ⟨h1, h2, h3⟩ := siftDown_ok n (swp l i m) m (by rw [swp_len]; omega) (by rw [swp_len]; exact hml) hdn
      exact ⟨h1, by rw [h2, swp_len], fun x => (h3 x).trans (mem_swp hi hml)⟩
theorem htake_ok (l : List S94) (h : Hp l) (h0 : 0 < l.length) : Hp (htake l) ∧ (∀ x, x ∈ htake l → x ∈ l) ∧ ∀ x, x ∈ l → x = sp l 0 ∨ x ∈ htake l := by
  unfold htake
  have hlen : ((l.set 0 (sp l (l.length - 1))).take (l.length - 1)).length = l.length - 1 := by simp
  have hsp : ∀ k, k < l.length - 1 → sp ((l.set 0 (sp l (l.length - 1))).take (l.length - 1)) k = if k = 0 then sp l (l.length - 1) else sp l k := fun k hk => by
    unfold sp
    simp only [List.getD_eq_getElem?_getD, List.getElem?_take, if_pos hk, List.getElem?_set]
    by_cases e : k = 0
    · subst e; simp [h0]
    · simp [e, Ne.symm e]
  have hmem : ∀ x, x ∈ ((l.set 0 (sp l (l.length - 1))).take (l.length - 1)) → x ∈ l := fun x hx => by
    rw [mem_sp, hlen] at hx
    obtain ⟨k, hk, rfl⟩ := hx
    rw [hsp k hk]
    split
    · exact mem_sp.2 ⟨_, by omega, rfl⟩
    · exact mem_sp.2 ⟨_, by omega, rfl⟩
  have hmem2 : ∀ x, x ∈ l → x = sp l 0 ∨ x ∈ ((l.set 0 (sp l (l.length - 1))).take (l.length - 1)) := fun x hx => by
    obtain ⟨k, hk, rfl⟩ := mem_sp.1 hx
    by_cases e : k = 0
    · exact .inl (by rw [e])
    · refine .inr (mem_sp.2 ?_)
      rw [hlen]
      by_cases e2 : k = l.length - 1
      · exact ⟨0, by omega, by rw [hsp 0 (by omega), if_pos rfl, e2]⟩
      · exact ⟨k, by omega, by rw [hsp k (by omega), if_neg e]⟩
  by_cases h1 : l.length = 1
  · have hnil : ((l.set 0 (sp l (l.length - 1))).take (l.length - 1)) = [] := List.eq_nil_of_length_eq_zero (by rw [hlen]; omega)
    rw [hnil] at hmem hmem2 ⊢
    have hsd : ∀ n, siftDown n [] 0 = [] := fun n => by
      cases n with
      | zero => rfl
      | succ n => unfold siftDown; simp [lst]
    rw [hsd]
    exact ⟨fun k h0 hk => by simp at hk, hmem, hmem2⟩
  · obtain ⟨a, b, c⟩ := siftDown_ok l.length _ 0 (by rw [hlen]; omega) (by rw [hlen]; omega) ⟨fun k hk0 hk hne => by
      rw [hlen] at hk
      rw [hsp _ (by omega), hsp _ hk, if_neg hne, if_neg (by omega)]
      exact h k hk0 (by omega), fun hz => by omega⟩
    exact ⟨a, fun x hx => hmem x ((c x).1 hx), fun x hx => (hmem2 x hx).imp id (c x).2⟩
end Go.Proofs.Ytinkhlfmjfahpaa.PLoadKeeps

namespace Go.Proofs.Ytinkhlfmjfahpaa.PLoadKeeps
set_option linter.unusedVariables false
set_option linter.unusedSimpArgs false

/-- A walk over arcs, and what it costs. -/
inductive Wk (l : List S31) (u : Int) : Int → Int → Prop
  | nil : Wk l u u 0
  | snoc {v c : Int} {a : S31} (h : Wk l u v c) (ha : a ∈ l) (e : a.f0 = v) : Wk l u a.f1 (c + a.f2)
theorem Wk.cons {l : List S31} {a : S31} {v c : Int} (ha : a ∈ l) (h : Wk l a.f1 v c) : Wk l a.f0 v (a.f2 + c) := by
  induction h with
  | nil =>
    have := Wk.snoc (u := a.f0) Wk.nil ha rfl
    rw [show a.f2 + 0 = 0 + a.f2 by omega]
    exact this
  | snoc h hb e ih =>
    rw [← Int.add_assoc]
    exact Wk.snoc ih hb e
/-- All arcs cost something. -/
def Pos (l : List S31) : Prop := ∀ a ∈ l, 1 ≤ a.f2 ∧ a.f0 ≠ a.f1
theorem Wk.nonneg {l : List S31} (hl : Pos l) {u v c : Int} (h : Wk l u v c) : 0 ≤ c := by
  induction h with
  | nil => omega
  | snoc h ha e ih => have := (hl _ ha).1; omega

/-- What is known of a node costs at most c. -/
def Le (K : Known) (k c : Int) : Prop := ∃ via d, K k = some (via, d) ∧ d ≤ c
def Wit (l : List S31) (root : Int) (K : Known) : Prop := ∀ k via c, K k = some (via, c) → k ≠ root ∧ ∃ a ∈ l, a.f0 = root ∧ a.f1 = via ∧ Wk l via k (c - a.f2)
structure Inv (l : List S31) (root : Int) (K : Known) (D : Int → Bool) (xs : List S94) : Prop where
  hp : Hp xs
  wit : Wit l root K
  ent : ∀ s ∈ xs, 0 ≤ s.f0 ∧ ((s.f1 = root ∧ s.f0 = 0) ∨ Le K s.f1 s.f0)
  opn : ∀ k via c, K k = some (via, c) → D k = false → (⟨c, k⟩ : S94) ∈ xs
  closed : ∀ n, D n = true → ∀ a ∈ l, a.f0 = n → a.f1 = root ∨ Le K a.f1 (wasC K n + a.f2)
  done : ∀ n, D n = true → n = root ∨ K n ≠ none
  low : ∀ n, D n = true → ∀ s ∈ xs, wasC K n ≤ s.f0
  rootD : D root = true ∨ (⟨0, root⟩ : S94) ∈ xs
theorem Wit.root {l : List S31} {root : Int} {K : Known} (h : Wit l root K) : K root = none := by
  cases hk : K root with
  | none => rfl
  | some r => exact absurd rfl (h root r.1 r.2 (by rw [hk])).1
theorem Inv.start (l : List S31) (root : Int) : Inv l root (fun _ => none) (fun _ => false) (hput [] ⟨0, root⟩) := by
  obtain ⟨h1, h2⟩ := hput_ok [] ⟨0, root⟩ (fun k h0 hk => by simp at hk)
  refine ⟨h1, fun k via c h => by simp at h, fun s hs => ?_, fun k via c h => by simp at h, fun n h => by simp at h, fun n h => by simp at h, fun n h => by simp at h, .inr ((h2 _).2 (.inl rfl))⟩
  rcases (h2 s).1 hs with rfl | h
  · exact ⟨by simp, .inl ⟨rfl, rfl⟩⟩
  · cases h
theorem Inv.skip {l : List S31} {root : Int} {K : Known} {D : Int → Bool} {xs : List S94} (h : Inv l root K D xs) (h0 : 0 < xs.length) (hd : D (sp xs 0).f1 = true) : Inv l root K D (htake xs) := by
  obtain ⟨t1, t2, t3⟩ := htake_ok xs h.hp h0
  refine ⟨t1, h.wit, fun s hs => h.ent s (t2 s hs), fun k via c hk hD => ?_, h.closed, h.done, fun n hn s hs => h.low n hn s (t2 s hs), ?_⟩
  · rcases t3 _ (h.opn k via c hk hD) with e | e
    · rw [← e] at hd
      simp only at hd
      rw [hD] at hd
      cases hd
    · exact e
  · rcases h.rootD with e | e
    · exact .inl e
    · rcases t3 _ e with e2 | e2
      · rw [← e2] at hd
        exact .inl hd
      · exact .inr e2
theorem wasC_some {K : Known} {k via c : Int} (h : K k = some (via, c)) : wasC K k = c := by unfold wasC; rw [h]
theorem wasC_none {K : Known} {k : Int} (h : K k = none) : wasC K k = 0 := by unfold wasC; rw [h]
theorem wasV_some {K : Known} {k via c : Int} (h : K k = some (via, c)) : wasV K k = via := by unfold wasV; rw [h]

/-- While the arcs of a settled node n are followed. -/
structure Fol (X0 : List S94) (l : List S31) (root n c0 : Int) (K0 : Known) (D : Int → Bool) (done : List S31) (K : Known) (xs : List S94) : Prop where
  hp : Hp xs
  wit : Wit l root K
  ent : ∀ s ∈ xs, 0 ≤ s.f0 ∧ ((s.f1 = root ∧ s.f0 = 0) ∨ Le K s.f1 s.f0)
  opn : ∀ k via c, K k = some (via, c) → D k = false → (⟨c, k⟩ : S94) ∈ xs
  same : ∀ k, D k = true → K k = K0 k
  mono : ∀ k c, Le K0 k c → Le K k c
  low : ∀ s ∈ xs, c0 ≤ s.f0
  proc : ∀ a ∈ done, a.f1 = root ∨ Le K a.f1 (c0 + a.f2)
  keep : ∀ s ∈ X0, s ∈ xs
theorem Le.mono {K : Known} {k c d : Int} (h : Le K k c) (hc : c ≤ d) : Le K k d := by
  obtain ⟨via, e, h1, h2⟩ := h
  exact ⟨via, e, h1, by omega⟩
/-- What better does. -/
theorem better_cases (K : Known) (xs : List S94) (t via c : Int) :
    (betterS K xs t via c = (setK K t (via, c), hput xs ⟨c, t⟩) ∧ ∀ v d, K t = some (v, d) → c < d) ∨
    (betterS K xs t via c = (K, xs) ∧ Le K t c) ∨
    (betterS K xs t via c = (setK K t (via, c), xs) ∧ ∃ v, K t = some (v, c)) := by
  unfold betterS
  cases hk : K t with
  | none => exact .inl ⟨rfl, fun v d h => by cases h⟩
  | some r =>
    obtain ⟨v, d⟩ := r
    simp only
    by_cases h1 : c < d
    · rw [if_pos h1]; exact .inl ⟨rfl, fun v' d' h => by injection h with h; injection h with _ h; omega⟩
    · rw [if_neg h1]
      by_cases h2 : d < c ∨ v ≤ via
      · rw [if_pos h2]; exact .inr (.inl ⟨rfl, v, d, hk, by omega⟩)
      · rw [if_neg h2]
        have : d = c := by omega
        subst this
        exact .inr (.inr ⟨rfl, v, rfl⟩)
theorem Fol.step {X0 : List S94} {l : List S31} {root n c0 : Int} {K0 : Known} {D : Int → Bool} {done : List S31} {K : Known} {xs : List S94} (h : Fol X0 l root n c0 K0 D done K xs) (hl : Pos l) (a : S31) (ha : a ∈ l) (hn : a.f0 = n) (av : Int)
    (hc0 : 0 ≤ c0) (hav : (n = root ∧ c0 = 0) ∨ (n ≠ root ∧ ∃ b ∈ l, b.f0 = root ∧ b.f1 = av ∧ Wk l av n (c0 - b.f2)))
    (hD : ∀ k, D k = true → k ≠ root → k ≠ n → Le K0 k c0) (hDn : D n = true) :
    Fol X0 l root n c0 K0 D (done ++ [a]) (stepA root n D av c0 (K, xs) a).1 (stepA root n D av c0 (K, xs) a).2 := by
  have hpos := hl a ha
  have hproc : ∀ {K' : Known}, (∀ b ∈ done, b.f1 = root ∨ Le K' b.f1 (c0 + b.f2)) → (a.f1 = root ∨ Le K' a.f1 (c0 + a.f2)) → ∀ b ∈ done ++ [a], b.f1 = root ∨ Le K' b.f1 (c0 + b.f2) := fun h1 h2 b hb => by
    rcases List.mem_append.1 hb with hb | hb
    · exact h1 b hb
    · simp at hb; subst hb; exact h2
  unfold stepA
  by_cases hr : a.f1 = root
  · rw [if_pos hr]
    exact { h with proc := hproc h.proc (.inl hr) }
  · rw [if_neg hr]
    by_cases hd : D a.f1 = true
    · rw [if_pos hd]
      refine { h with proc := hproc h.proc (.inr ?_) }
      exact (h.mono _ _ (hD a.f1 hd hr (by have := hpos.2; omega))).mono (by omega)
    · rw [if_neg hd]
      have hd' : D a.f1 = false := by simpa using hd
      generalize hvia : (if n = root then a.f1 else av) = via
      have hwit : Wit l root (setK K a.f1 (via, c0 + a.f2)) := fun k v c hk => by
        unfold setK at hk
        split at hk
        · rename_i e
          injection hk with hk
          injection hk with hk1 hk2
          subst hk1; subst hk2
          rw [e]
          refine ⟨hr, ?_⟩
          by_cases hnn : n = root
          · rw [if_pos hnn] at hvia
            have hc : c0 = 0 := by
              rcases hav with h1 | h1
              · exact h1.2
              · exact absurd hnn h1.1
            refine ⟨a, ha, by rw [hn, hnn], hvia, ?_⟩
            rw [hc, ← hvia, show (0 + a.f2 - a.f2 : Int) = 0 by omega]
            exact Wk.nil
          · rw [if_neg hnn] at hvia
            subst hvia
            rcases hav with h1 | ⟨_, b, hb, hb1, hb2, hb3⟩
            · exact absurd h1.1 hnn
            · refine ⟨b, hb, hb1, hb2, ?_⟩
              rw [show c0 + a.f2 - b.f2 = (c0 - b.f2) + a.f2 by omega]
              exact Wk.snoc hb3 ha hn
        · exact h.wit k v c hk
      have hsame : ∀ k, D k = true → setK K a.f1 (via, c0 + a.f2) k = K0 k := fun k hk => by
        unfold setK
        rw [if_neg (fun e => by rw [e] at hk; exact hd hk)]
        exact h.same k hk
      have hle : Le (setK K a.f1 (via, c0 + a.f2)) a.f1 (c0 + a.f2) := ⟨via, c0 + a.f2, by unfold setK; rw [if_pos rfl], Int.le_refl _⟩
      have hkeep : (∀ v d, K a.f1 = some (v, d) → c0 + a.f2 ≤ d) → ∀ k c, Le K k c → Le (setK K a.f1 (via, c0 + a.f2)) k c := fun hx k c hk => by
        obtain ⟨v, d, h1, h2⟩ := hk
        by_cases e : k = a.f1
        · subst e
          exact hle.mono (by have := hx v d h1; omega)
        · exact ⟨v, d, by unfold setK; rw [if_neg e]; exact h1, h2⟩
      rcases better_cases K xs a.f1 via (c0 + a.f2) with ⟨e, hx⟩ | ⟨e, hx⟩ | ⟨e, v, hx⟩
      · rw [e]
        have hk := hkeep (fun v d hv => by have := hx v d hv; omega)
        obtain ⟨p1, p2⟩ := hput_ok xs ⟨c0 + a.f2, a.f1⟩ h.hp
        refine ⟨p1, hwit, fun s hs => ?_, fun k v c hkk hDk => ?_, hsame, fun k c hkc => hk k c (h.mono k c hkc), fun s hs => ?_, hproc (fun b hb => (h.proc b hb).imp id (hk _ _)) (.inr hle), fun s hs => (p2 s).2 (.inr (h.keep s hs))⟩
        · rcases (p2 s).1 hs with rfl | hs
          · exact ⟨by simp only; omega, .inr hle⟩
          · exact ⟨(h.ent s hs).1, (h.ent s hs).2.imp id (hk _ _)⟩
        · change setK K a.f1 (via, c0 + a.f2) k = some (v, c) at hkk
          unfold setK at hkk
          split at hkk
          · rename_i e1
            injection hkk with hkk
            injection hkk with _ hkk
            rw [e1, ← hkk]
            exact (p2 _).2 (.inl rfl)
          · exact (p2 _).2 (.inr (h.opn k v c hkk hDk))
        · rcases (p2 s).1 hs with rfl | hs
          · simp only; omega
          · exact h.low s hs
      · rw [e]
        exact { h with proc := hproc h.proc (.inr hx) }
      · rw [e]
        have hk := hkeep (fun v' d hv => by rw [hx] at hv; injection hv with hv; injection hv with _ hv; omega)
        refine ⟨h.hp, hwit, fun s hs => ⟨(h.ent s hs).1, (h.ent s hs).2.imp id (hk _ _)⟩, fun k v' c hkk hDk => ?_, hsame, fun k c hkc => hk k c (h.mono k c hkc), h.low, hproc (fun b hb => (h.proc b hb).imp id (hk _ _)) (.inr hle), h.keep⟩
        change setK K a.f1 (via, c0 + a.f2) k = some (v', c) at hkk
        unfold setK at hkk
        split at hkk
        · rename_i e1
          injection hkk with hkk
          injection hkk with _ hkk
          rw [e1, ← hkk]
          exact h.opn a.f1 v _ hx hd'
        · exact h.opn k v' c hkk hDk
theorem Fol.all {X0 : List S94} {l : List S31} {root n c0 : Int} {K0 : Known} {D : Int → Bool} (hl : Pos l) (av : Int)
    (hc0 : 0 ≤ c0) (hav : (n = root ∧ c0 = 0) ∨ (n ≠ root ∧ ∃ b ∈ l, b.f0 = root ∧ b.f1 = av ∧ Wk l av n (c0 - b.f2)))
    (hD : ∀ k, D k = true → k ≠ root → k ≠ n → Le K0 k c0) (hDn : D n = true) :
    ∀ (arcs done : List S31) (K : Known) (xs : List S94), (∀ a ∈ arcs, a ∈ l ∧ a.f0 = n) → Fol X0 l root n c0 K0 D done K xs →
      Fol X0 l root n c0 K0 D (done ++ arcs) (arcs.foldl (stepA root n D av c0) (K, xs)).1 (arcs.foldl (stepA root n D av c0) (K, xs)).2
  | [], done, K, xs, _, h => by rw [List.append_nil]; exact h
  | a :: arcs, done, K, xs, hm, h => by
    have h1 := h.step hl a (hm a (by simp)).1 (hm a (by simp)).2 av hc0 hav hD hDn
    have := Fol.all hl av hc0 hav hD hDn arcs (done ++ [a]) _ _ (fun b hb => hm b (by simp [hb])) h1
    rw [List.append_assoc] at this
    exact this
theorem Inv.settle {l : List S31} {root : Int} {K : Known} {D : Int → Bool} {xs : List S94} (h : Inv l root K D xs) (hl : Pos l) (h0 : 0 < xs.length) (hd : D (sp xs 0).f1 = false) :
    Inv l root (spreadS root (sp xs 0).f1 (setD D (sp xs 0).f1) (outs l (sp xs 0).f1) (K, htake xs)).1 (setD D (sp xs 0).f1) (spreadS root (sp xs 0).f1 (setD D (sp xs 0).f1) (outs l (sp xs 0).f1) (K, htake xs)).2 := by
  obtain ⟨t1, t2, t3⟩ := htake_ok xs h.hp h0
  have hfirst := h.hp.first
  have hs0 : sp xs 0 ∈ xs := mem_sp.2 ⟨0, h0, rfl⟩
  have hle : ∀ s ∈ xs, (sp xs 0).f0 ≤ s.f0 := fun s hs => by
    obtain ⟨k, hk, rfl⟩ := mem_sp.1 hs
    have := hfirst k hk
    unfold leS at this
    omega
  generalize hn : (sp xs 0).f1 = n at *
  generalize hcc : (sp xs 0).f0 = c0 at *
  have hent := h.ent _ hs0
  rw [hn, hcc] at hent
  have hrn := h.wit.root
  have hcn : wasC K n = c0 := by
    rcases hent.2 with ⟨e1, e2⟩ | ⟨via, c, e1, e2⟩
    · rw [e1, wasC_none hrn, e2]
    · rw [wasC_some e1]
      have := hle _ (h.opn n via c e1 hd)
      simp only at this
      omega
  have hav : (n = root ∧ c0 = 0) ∨ (n ≠ root ∧ ∃ b ∈ l, b.f0 = root ∧ b.f1 = wasV K n ∧ Wk l (wasV K n) n (c0 - b.f2)) := by
    rcases hent.2 with ⟨e1, e2⟩ | ⟨via, c, e1, e2⟩
    · exact .inl ⟨e1, e2⟩
    · obtain ⟨hne, b, hb, hb1, hb2, hb3⟩ := h.wit n via c e1
      rw [wasC_some e1] at hcn
      subst hcn
      exact .inr ⟨hne, b, hb, hb1, by rw [wasV_some e1]; exact hb2, by rw [wasV_some e1]; exact hb3⟩
  have hDD : ∀ k, setD D n k = true → k ≠ root → k ≠ n → Le K k c0 := fun k hk hr hne => by
    unfold setD at hk
    rw [if_neg hne] at hk
    have h2 := h.low k hk _ hs0
    rw [hcc] at h2
    rcases h.done k hk with e | e
    · exact absurd e hr
    · cases hkk : K k with
      | none => exact absurd hkk e
      | some r => exact ⟨r.1, r.2, hkk, by rw [wasC_some (via := r.1) (c := r.2) hkk] at h2; exact h2⟩
  have hDn : setD D n n = true := by unfold setD; rw [if_pos rfl]
  have hstart : Fol (htake xs) l root n c0 K (setD D n) [] K (htake xs) := by
    refine ⟨t1, h.wit, fun s hs => h.ent s (t2 s hs), fun k via c hk hD => ?_, fun k _ => rfl, fun k c hk => hk, fun s hs => hle s (t2 s hs), fun a ha => (by cases ha), fun s hs => hs⟩
    have hkn : k ≠ n := fun e => by rw [e, hDn] at hD; cases hD
    have hDk : D k = false := by unfold setD at hD; rwa [if_neg hkn] at hD
    rcases t3 _ (h.opn k via c hk hDk) with e | e
    · rw [← e] at hn; exact absurd hn hkn
    · exact e
  have hall := Fol.all hl (wasV K n) hent.1 hav hDD hDn (outs l n) [] K (htake xs) (fun a ha => by
    have := List.mem_filter.1 ha
    exact ⟨this.1, by simpa using this.2⟩) hstart
  have hsp : spreadS root n (setD D n) (outs l n) (K, htake xs) = (outs l n).foldl (stepA root n (setD D n) (wasV K n) c0) (K, htake xs) := by
    unfold spreadS
    rw [show (K, htake xs).1 = K from rfl, hcn]
  rw [hsp]
  generalize (outs l n).foldl (stepA root n (setD D n) (wasV K n) c0) (K, htake xs) = s at hall ⊢
  have hws : ∀ k, setD D n k = true → wasC s.1 k = wasC K k := fun k hk => by unfold wasC; rw [hall.same k hk]
  refine ⟨hall.hp, hall.wit, hall.ent, hall.opn, fun m hm a ha e => ?_, fun m hm => ?_, fun m hm x hx => ?_, ?_⟩
  · rw [hws m hm]
    by_cases hmn : m = n
    · subst hmn
      rw [hcn]
      exact hall.proc a (by rw [List.nil_append]; exact List.mem_filter.2 ⟨ha, by simpa using e⟩)
    · have hDm : D m = true := by unfold setD at hm; rwa [if_neg hmn] at hm
      exact (h.closed m hDm a ha e).imp id (hall.mono _ _)
  · by_cases hmn : m = n
    · subst hmn
      rcases hent.2 with ⟨e1, _⟩ | ⟨via, c, e1, _⟩
      · exact .inl e1
      · refine .inr ?_
        rw [hall.same m hm, e1]
        simp
    · have hDm : D m = true := by unfold setD at hm; rwa [if_neg hmn] at hm
      rw [hall.same m hm]
      exact h.done m hDm
  · rw [hws m hm]
    by_cases hmn : m = n
    · subst hmn
      rw [hcn]
      exact hall.low x hx
    · have hDm : D m = true := by unfold setD at hm; rwa [if_neg hmn] at hm
      have h2 := h.low m hDm _ hs0
      rw [hcc] at h2
      have := hall.low x hx
      omega
  · by_cases hrn2 : root = n
    · exact .inl (by unfold setD; rw [if_pos hrn2])
    · rcases h.rootD with e | e
      · exact .inl (by unfold setD; rw [if_neg hrn2]; exact e)
      · refine .inr (hall.keep _ ?_)
        rcases t3 _ e with e2 | e2
        · rw [← e2] at hn; exact absurd hn hrn2
        · exact e2
theorem Dij.inv {l : List S31} {root : Int} (hl : Pos l) {t : Nat} {K : Known} {D : Int → Bool} {xs : List S94} (h : Dij l root t K D xs) : Inv l root K D xs := by
  induction h with
  | start => exact Inv.start l root
  | skip h h0 hd ih => exact ih.skip h0 hd
  | settle h h0 hd ih => exact ih.settle hl h0 hd

/-- The least cost of a walk. -/
def Least (l : List S31) (u v c : Int) : Prop := Wk l u v c ∧ ∀ d, Wk l u v d → c ≤ d
/-- What a heap's walk knows in the end. -/
theorem Dij.exact {l : List S31} {root : Int} (hl : Pos l) {t : Nat} {K : Known} {D : Int → Bool} (h : Dij l root t K D []) :
    (∀ v d, Wk l root v d → v = root ∨ Le K v d) ∧ ∀ k via c, K k = some (via, c) → k ≠ root ∧ Least l root k c ∧ ∃ a ∈ l, a.f0 = root ∧ a.f1 = via ∧ Wk l via k (c - a.f2) := by
  have hi := h.inv hl
  have hdone : ∀ k r, K k = some r → D k = true := fun k r hk => by
    cases hD : D k with
    | true => rfl
    | false => have := hi.opn k r.1 r.2 hk hD; cases this
  have hroot : D root = true := by
    rcases hi.rootD with e | e
    · exact e
    · cases e
  have h1 : ∀ v d, Wk l root v d → v = root ∨ Le K v d := fun v d hw => by
    induction hw with
    | nil => exact .inl rfl
    | snoc hw ha e ih =>
      rename_i v c a
      rcases ih with e1 | ⟨via, e1, h2, h3⟩
      · have := hi.closed root hroot a ha (e.trans e1)
        rw [wasC_none hi.wit.root] at this
        exact this.imp id (fun x => x.mono (by have := hw.nonneg hl; omega))
      · have := hi.closed v (hdone v _ h2) a ha e
        rw [wasC_some h2] at this
        exact this.imp id (fun x => x.mono (by omega))
  refine ⟨h1, fun k via c hk => ?_⟩
  obtain ⟨hne, a, ha, e1, e2, hw⟩ := hi.wit k via c hk
  refine ⟨hne, ⟨?_, fun d hd => ?_⟩, a, ha, e1, e2, hw⟩
  · have := Wk.cons ha (e2 ▸ hw)
    rw [e1] at this
    rwa [show a.f2 + (c - a.f2) = c by omega] at this
  · rcases h1 k d hd with e | ⟨v', c', h2, h3⟩
    · exact absurd e hne
    · rw [hk] at h2
      injection h2 with h2
      injection h2 with _ h2
      omega
end Go.Proofs.Ytinkhlfmjfahpaa.PLoadKeeps
