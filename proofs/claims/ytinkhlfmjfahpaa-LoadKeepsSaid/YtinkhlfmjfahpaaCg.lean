/- The plain law of ways hop by hop: they end at their end, and pass no node twice. The plain law of loads: what comes to a node, and begins there, goes from it, or ends there. -/
import Derived.Test.YtinkhlfmjfahpaaCf
import Derived.Test.YtinkhlfmjfahpaaLo
namespace Go.Proofs.Ytinkhlfmjfahpaa.PLoadKeeps
set_option linter.unusedVariables false
set_option linter.unusedSimpArgs false

theorem ArcsOk.pos {l : List S31} (h : ArcsOk l) : Pos l := fun a ha => ⟨(h.1 a ha).2.2.2.1, (h.1 a ha).2.2.1⟩
theorem Wk.trans {l : List S31} {u v x c d : Int} (h : Wk l u v c) (k : Wk l v x d) : Wk l u x (c + d) := by
  induction k with
  | nil => rw [Int.add_zero]; exact h
  | snoc k ha e ih => rw [← Int.add_assoc]; exact ih.snoc ha e
theorem findR_map {K : Known} {ks : List Int} {t : Int} : findR (ks.map (fun k => (⟨k, wasV K k, wasC K k⟩ : S63))) t = if t ∈ ks then some ⟨t, wasV K t, wasC K t⟩ else none := by
  unfold findR
  induction ks with
  | nil => rfl
  | cons k ks ih =>
    rw [List.map_cons, List.find?_cons]
    by_cases e : k = t
    · subst e; simp
    · simp only [e, decide_false, List.mem_cons]
      rw [ih]
      simp [Ne.symm e]
/-- What a route tells. -/
theorem routes_some {l : List S31} (hl : Pos l) {a t : Int} {rs : List S63} {x : S63} (h : RoutesOf l a rs) (hf : findR rs t = some x) :
    a ≠ t ∧ ∃ c, Least l a t c ∧ ∃ b ∈ l, b.f0 = a ∧ b.f1 = x.f1 ∧ Wk l x.f1 t (c - b.f2) := by
  obtain ⟨n, K, D, hD, ks, hs, hm, rfl⟩ := h
  rw [findR_map] at hf
  split at hf
  · rename_i hk
    injection hf with hf
    subst hf
    cases hK : K t with
    | none => exact absurd hK ((hm t).1 hk)
    | some r =>
      obtain ⟨h1, h2, b, hb, e1, e2, hw⟩ := (hD.exact hl).2 t r.1 r.2 hK
      refine ⟨fun e => h1 e.symm, r.2, h2, b, hb, e1, ?_, ?_⟩
      · rw [e2]; unfold wasV; rw [hK]
      · show Wk l (wasV K t) t _
        unfold wasV
        rw [hK]
        exact hw
  · cases hf
theorem routes_none {l : List S31} (hl : Pos l) {a t : Int} {rs : List S63} (h : RoutesOf l a rs) (hf : findR rs t = none) (hne : a ≠ t) (d : Int) : ¬ Wk l a t d := by
  obtain ⟨n, K, D, hD, ks, hs, hm, rfl⟩ := h
  rw [findR_map] at hf
  split at hf
  · cases hf
  · rename_i hk
    intro hw
    rcases (hD.exact hl).1 t d hw with e | ⟨via, e, h2, _⟩
    · exact hne e.symm
    · exact hk ((hm t).2 (by rw [h2]; simp))
/-- What a way by hops has, so far. -/
structure CF (l : List S31) (t a : Int) (h : List Int) (b : Int) : Prop where
  head : h.head? = some a
  last : h.getLast? = some b
  node : ∀ x ∈ h, 1 ≤ x ∧ x ≤ 64
  arcs : ∀ p ∈ steps h, ∃ y ∈ l, y.f0 = p.1 ∧ y.f1 = p.2
  nodup : h.Nodup
  reach : ∀ x ∈ h, ∀ c, Least l b t c → ∃ d, Least l x t d ∧ c ≤ d
  go : (∃ d, Wk l a t d) → ∃ d, Wk l b t d
  some_ : 1 < h.length → ∃ d, Wk l b t d
theorem least_exists {l : List S31} (hl : Pos l) {u v d : Int} (h : Wk l u v d) : ∃ c, Least l u v c := by
  have hd := h.nonneg hl
  have : ∀ n : Nat, ∀ d : Int, d = n → Wk l u v d → ∃ c, Least l u v c := by
    intro n
    induction n using Nat.strongRecOn with
    | _ n ih =>
      intro d e hw
      by_cases hm : ∃ d', Wk l u v d' ∧ d' < d
      · obtain ⟨d', hw', hlt⟩ := hm
        have := hw'.nonneg hl
        exact ih d'.toNat (by omega) d' (by omega) hw'
      · exact ⟨d, hw, fun d' hw' => by
          by_cases h1 : d' < d
          · exact absurd ⟨d', hw', h1⟩ hm
          · omega⟩
  exact this d.toNat d (by omega) h
theorem Least.inj {l : List S31} {u v c d : Int} (h : Least l u v c) (k : Least l u v d) : c = d := by
  have := h.2 d k.1
  have := k.2 c h.1
  omega
theorem steps_snoc {h : List Int} {b c : Int} (hb : h.getLast? = some b) : ∀ p ∈ steps (h ++ [c]), p ∈ steps h ∨ p = (b, c) := by
  induction h with
  | nil => simp at hb
  | cons x h ih =>
    cases h with
    | nil =>
      simp at hb
      subst hb
      intro p hp
      simp [steps] at hp
      exact .inr hp
    | cons y h =>
      intro p hp
      have hb' : (y :: h).getLast? = some b := by simpa [List.getLast?_cons_cons] using hb
      have e : steps (x :: y :: h ++ [c]) = (x, y) :: steps (y :: h ++ [c]) := by simp [steps]
      rw [e] at hp
      have e2 : steps (x :: y :: h) = (x, y) :: steps (y :: h) := by simp [steps]
      rw [e2]
      rcases List.mem_cons.1 hp with rfl | hp
      · exact .inl (by simp)
      · rcases ih hb' p hp with h1 | h1
        · exact .inl (by simp [h1])
        · exact .inr h1
theorem Chain.facts {l : List S31} (hok : ArcsOk l) {t a b : Int} {h : List Int} (ha : 1 ≤ a ∧ a ≤ 64) (k : Chain l t a h b) : CF l t a h b := by
  induction k with
  | start =>
    refine ⟨rfl, rfl, fun x hx => by simp at hx; subst hx; exact ha, fun p hp => by simp [steps] at hp, by simp, fun x hx c hc => ?_, id, fun h => by simp at h⟩
    simp at hx
    subst hx
    exact ⟨c, hc, Int.le_refl _⟩
  | step k h1 h2 h3 ih =>
    rename_i h b c
    obtain ⟨rs, x, hr, hf, rfl⟩ := h3
    obtain ⟨hne, cb, hl, y, hy, e1, e2, hw⟩ := routes_some hok.pos hr hf
    have hcost := (hok.1 y hy).2.2.2.1
    have hdesc : ∀ d, Least l x.f1 t d → d < cb := fun d hd => by
      have := hd.2 _ hw
      omega
    obtain ⟨cx, hcx⟩ := least_exists hok.pos hw
    have hnot : x.f1 ∉ h := fun hm => by
      obtain ⟨d, hd, hle⟩ := ih.reach x.f1 hm cb hl
      have := hdesc d hd
      omega
    have hbh : b ∈ h := List.mem_of_getLast? ih.last
    refine ⟨?_, by simp, fun z hz => ?_, fun p hp => ?_, ?_, fun z hz d hd => ?_, fun _ => ⟨_, hw⟩, fun _ => ⟨_, hw⟩⟩
    · have := ih.head
      cases h with
      | nil => simp at this
      | cons z h => simpa using this
    · rcases List.mem_append.1 hz with hz | hz
      · exact ih.node z hz
      · simp at hz
        subst hz
        have := (hok.1 y hy).2.1
        rw [e2] at this
        exact this
    · rcases steps_snoc ih.last p hp with hp | rfl
      · exact ih.arcs p hp
      · exact ⟨y, hy, e1, e2⟩
    · rw [List.nodup_append]
      exact ⟨ih.nodup, by simp, fun u hu v hv => by simp at hv; subst hv; exact fun e => hnot (e ▸ hu)⟩
    · rcases List.mem_append.1 hz with hz | hz
      · obtain ⟨d2, hd2, hle⟩ := ih.reach z hz cb hl
        exact ⟨d2, hd2, by have := hdesc d hd; omega⟩
      · simp at hz
        subst hz
        exact ⟨d, hd, Int.le_refl _⟩
theorem walk_of_steps {l : List S31} : ∀ {h : List Int} {a b : Int}, h.head? = some a → h.getLast? = some b → (∀ p ∈ steps h, ∃ y ∈ l, y.f0 = p.1 ∧ y.f1 = p.2) → ∃ d, Wk l a b d
  | [], a, b, h1, _, _ => by simp at h1
  | [x], a, b, h1, h2, _ => by
    simp at h1 h2
    subst h1; subst h2
    exact ⟨0, Wk.nil⟩
  | x :: y :: h, a, b, h1, h2, h3 => by
    simp at h1
    subst h1
    have e : steps (x :: y :: h) = (x, y) :: steps (y :: h) := by simp [steps]
    rw [e] at h3
    obtain ⟨z, hz, e1, e2⟩ := h3 (x, y) (by simp)
    obtain ⟨d, hd⟩ := walk_of_steps (h := y :: h) (a := y) (b := b) rfl (by simpa [List.getLast?_cons_cons] using h2) (fun p hp => h3 p (by simp [hp]))
    have := Wk.cons hz (by rw [e2]; exact hd)
    rw [e1] at this
    exact ⟨_, this⟩
theorem nodup64 {h : List Int} (hn : h.Nodup) (hx : ∀ x ∈ h, 1 ≤ x ∧ x ≤ 64) : h.length ≤ 64 := by
  have := nodup_len (m := (List.range 64).map (fun i => Int.ofNat (i + 1))) hn (fun x hm => by
    have := hx x hm
    rw [List.mem_map]
    exact ⟨(x - 1).toNat, by rw [List.mem_range]; omega, by show (((x - 1).toNat + 1 : Nat) : Int) = x; omega⟩)
  simpa using this
theorem nodeB_iff (n : Int) : nodeB n = true ↔ 1 ≤ n ∧ n ≤ 64 := by simp [nodeB]
theorem HopsOf.facts {l : List S31} (hok : ArcsOk l) {a t : Int} {h : List Int} {ok : Bool} (k : HopsOf l a t h ok) :
    (ok = true → (1 ≤ a ∧ a ≤ 64) ∧ (1 ≤ t ∧ t ≤ 64) ∧ CF l t a h t ∧ h.length ≤ 64 ∧ ∃ d, Wk l a t d) ∧ (ok = false → h = [] ∧ ((1 ≤ a ∧ a ≤ 64) → (1 ≤ t ∧ t ≤ 64) → ∀ d, ¬ Wk l a t d)) := by
  unfold HopsOf at k
  split at k
  · rename_i hn
    have ha := (nodeB_iff a).1 hn.1
    have ht := (nodeB_iff t).1 hn.2
    rcases k with ⟨rfl, b, hc, hb⟩ | ⟨rfl, rfl, h', b, hc, hb, rs, hr, hf⟩
    · refine ⟨fun _ => ?_, fun h => by cases h⟩
      have hf := hc.facts hok ha
      have hlen := nodup64 hf.nodup hf.node
      obtain rfl : b = t := by omega
      refine ⟨ha, ht, hf, hlen, ?_⟩
      by_cases h1 : a = b
      · exact ⟨0, h1 ▸ Wk.nil⟩
      · exact walk_of_steps hf.head hf.last hf.arcs
    · refine ⟨fun h => by (cases h), fun _ => ⟨rfl, fun _ _ d hw => ?_⟩⟩
      have hfc := hc.facts hok ha
      obtain ⟨d2, hw2⟩ := hfc.go ⟨d, hw⟩
      exact routes_none hok.pos hr hf hb d2 hw2
  · rename_i hn
    obtain ⟨rfl, rfl⟩ := k
    exact ⟨fun h => by (cases h), fun _ => ⟨rfl, fun h1 h2 => absurd ⟨(nodeB_iff a).2 h1, (nodeB_iff t).2 h2⟩ hn⟩⟩
theorem WayOf.small {l : List S31} (hok : ArcsOk l) (d : S35) (h : List Int) (ok : Bool) (k : WayOf l d h ok) : h.length ≤ 65 ∧ ∀ x ∈ h, 1 ≤ x ∧ x ≤ 64 := by
  unfold WayOf at k
  split at k
  · have hf := k.facts hok
    cases ok with
    | true =>
      obtain ⟨_, _, h1, h2, _⟩ := hf.1 rfl
      exact ⟨by omega, h1.node⟩
    | false =>
      obtain ⟨rfl, _⟩ := hf.2 rfl
      exact ⟨by simp, fun x hx => by cases hx⟩
  · obtain ⟨_, rfl⟩ := k
    exact ⟨by simp, fun x hx => by cases hx⟩
end Go.Proofs.Ytinkhlfmjfahpaa.PLoadKeeps

namespace Go.Proofs.Ytinkhlfmjfahpaa.PLoadKeeps
set_option linter.unusedVariables false
set_option linter.unusedSimpArgs false

theorem bump_nodup {E : PE} (p : Int × Int) (v : Int) (hn : (E.map (·.1)).Nodup) : ((bump E p v).map (·.1)).Nodup := by
  unfold bump
  split
  · have hk : (E.map (fun e => if e.1 = p then (p, v) else e)).map (·.1) = E.map (·.1) := by
      rw [List.map_map]
      refine List.map_congr_left fun e he => ?_
      simp only [Function.comp]
      split
      · rename_i h; rw [h]
      · rfl
    rw [hk]
    exact hn
  · rename_i hc
    rw [List.map_append, List.nodup_append]
    refine ⟨hn, by simp, fun a ha b hb => ?_⟩
    simp at hb
    subst hb
    rintro rfl
    exact hc (by rw [List.contains_iff_mem]; exact ha)
def sumG (g : Int × Int → Int) (E : PE) : Int := (E.map (fun e => g e.1 * e.2)).sum
theorem walkE_sum (g : Int × Int → Int) (a : Int) : ∀ (ps : List (Int × Int)) (E : PE), (E.map (·.1)).Nodup → ((walkE E ps a).map (·.1)).Nodup ∧ sumG g (walkE E ps a) = sumG g E + (ps.map g).sum * a
  | [], E, hn => ⟨hn, by simp [walkE]⟩
  | p :: ps, E, hn => by
    have h1 := bump_nodup p (pget E p + a) hn
    obtain ⟨h2, h3⟩ := walkE_sum g a ps (bump E p (pget E p + a)) h1
    refine ⟨h2, ?_⟩
    have h4 := bump_sum g E p a hn
    show sumG g (walkE (bump E p (pget E p + a)) ps a) = _
    rw [h3]
    unfold sumG at h4 ⊢
    rw [h4, List.map_cons, List.sum_cons, Int.add_mul]
    omega
def one (a b : Int) : Int := if a = b then 1 else 0
def net (n : Int) (p : Int × Int) : Int := one p.2 n - one p.1 n
theorem net_steps (n : Int) : ∀ (h : List Int) (a b : Int), h.head? = some a → h.getLast? = some b → ((steps h).map (net n)).sum = one b n - one a n
  | [], a, b, h1, _ => by simp at h1
  | [x], a, b, h1, h2 => by
    simp at h1 h2
    subst h1; subst h2
    simp [steps]
  | x :: y :: h, a, b, h1, h2 => by
    simp at h1
    subst h1
    have e : steps (x :: y :: h) = (x, y) :: steps (y :: h) := by simp [steps]
    rw [e, List.map_cons, List.sum_cons, net_steps n (y :: h) y b rfl (by simpa [List.getLast?_cons_cons] using h2)]
    unfold net
    simp only
    omega
/-- A demand that has a way. -/
def Goes (l : List S31) (d : S35) : Prop := (1 ≤ d.f2 ∧ d.f2 ≤ 1073741824) ∧ (1 ≤ d.f0 ∧ d.f0 ≤ 64) ∧ (1 ≤ d.f1 ∧ d.f1 ≤ 64) ∧ ∃ w, Wk l d.f0 d.f1 w
theorem WayOf.goes {l : List S31} (hok : ArcsOk l) {d : S35} {h : List Int} {ok : Bool} (k : WayOf l d h ok) : (Goes l d ∧ ok = true ∧ CF l d.f1 d.f0 h d.f1) ∨ (¬ Goes l d ∧ ok = false ∧ h = []) := by
  unfold WayOf at k
  split at k
  · rename_i hg
    have hf := k.facts hok
    cases ok with
    | true =>
      obtain ⟨h1, h2, h3, _, h4⟩ := hf.1 rfl
      exact .inl ⟨⟨hg, h1, h2, h4⟩, rfl, h3⟩
    | false =>
      obtain ⟨rfl, h1⟩ := hf.2 rfl
      exact .inr ⟨fun ⟨_, a, b, w, hw⟩ => h1 a b w hw, rfl, rfl⟩
  · rename_i hg
    obtain ⟨rfl, rfl⟩ := k
    exact .inr ⟨fun h => hg h.1, rfl, rfl⟩
open Classical in
/-- What a demand adds at a node. -/
noncomputable def adds (l : List S31) (n : Int) (d : S35) : Int := if Goes l d then (one d.f1 n - one d.f0 n) * d.f2 else 0
theorem Loaded.balance {l : List S31} (hok : ArcsOk l) (n : Int) {ds : List S35} {E : PE} (k : Loaded l ds E) : (E.map (·.1)).Nodup ∧ sumG (net n) E = (ds.map (adds l n)).sum := by
  induction k with
  | nil => exact ⟨by simp, by simp [sumG]⟩
  | step k w ih =>
    rename_i ds E d h ok
    obtain ⟨h1, h2⟩ := walkE_sum (net n) d.f2 (steps h) E ih.1
    refine ⟨h1, ?_⟩
    rw [h2, ih.2, List.map_append, List.sum_append]
    simp only [List.map_cons, List.map_nil, List.sum_cons, List.sum_nil, Int.add_zero]
    congr 1
    rcases w.goes hok with ⟨hg, _, hc⟩ | ⟨hg, _, rfl⟩
    · unfold adds
      rw [if_pos hg, net_steps n h _ _ hc.head hc.last]
    · unfold adds
      rw [if_neg hg]
      simp [steps]
end Go.Proofs.Ytinkhlfmjfahpaa.PLoadKeeps
