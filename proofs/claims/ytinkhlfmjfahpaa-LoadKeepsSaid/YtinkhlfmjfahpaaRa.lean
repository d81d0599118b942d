/- What the routes' walk goes by: the arcs by their ends; the least ways' steps; a map's keys. -/
import Derived.Test.YtinkhlfmjfahpaaCe
import Derived.Test.YtinkhlfmjfahpaaCc
import Derived.Test.YtinkhlfmjfahpaaShelf
namespace Go.Proofs.Ytinkhlfmjfahpaa.PLoadKeeps
open Go.RowKit Go.MapKept Go.Proofs.YtinkhlfmjfahpaaW.PrintWords Go.Proofs.YtinkhlfmjfahpaaW.PrintLast Go.Proofs.YtinkhlfmjfahpaaW.PrintMore
set_option linter.unusedVariables false
set_option linter.unusedSimpArgs false

/-- The arcs from a node. -/
def outs (l : List S31) (n : Int) : List S31 := l.filter (fun a => decide (a.f0 = n))
def fv (f : Int → Option Value) (k : Int) : Value := (f k).getD (.slice none 0 0)
/-- The map of arcs by their first ends. -/
structure FromOf (w : World) (base : Nat) (f : Int → Option Value) (l : List S31) : Prop where
  row : ∀ k, FRow enc31 3 31 w base (fv f k) (outs l k)
  apart : ∀ j k b, j ≠ k → (fv f j).ownBlock = some b → (fv f k).ownBlock ≠ some b
theorem FromOf.nil (w : World) (base : Nat) : FromOf w base (fun _ => none) [] := ⟨fun k => FRow.nil _ _, fun j k b _ h => by simp [fv, Value.ownBlock] at h⟩
theorem FromOf.below {w w1 : World} {base : Nat} {f : Int → Option Value} {l : List S31} (h : FromOf w base f l) (hb : Below w.heap.size w w1) : FromOf w1 base f l := ⟨fun k => (h.row k).below hb, h.apart⟩
theorem outs_app (l : List S31) (a : S31) (k : Int) : outs (l ++ [a]) k = if a.f0 = k then outs l k ++ [a] else outs l k := by
  unfold outs
  rw [List.filter_append]
  by_cases h : a.f0 = k
  · simp [h]
  · simp [h]
theorem fv_put (f : Int → Option Value) (j k : Int) (v : Value) : fv (put f j v) k = if k = j then v else fv f k := by
  unfold fv put
  split <;> simp
theorem FromOf.step {w w1 w2 : World} {base b : Nat} {f : Int → Option Value} {l : List S31} (h : FromOf w base f l) (a : S31) {v1 : Value} (hv : FRow enc31 3 31 w1 base v1 (outs l a.f0 ++ [a])) (hg : w.grownBy w1 (fv f a.f0).ownBlock)
    (hat : v1.ownBlock = (fv f a.f0).ownBlock ∨ v1.ownBlock = some w.heap.size) (hc : Chg (fun j => j = b) w1 w2) (hm : ∃ g, IMap w1 b g) : FromOf w2 base (put f a.f0 v1) (l ++ [a]) := by
  obtain ⟨g, hm⟩ := hm
  have hn : ∀ {v : Value} {xs : List S31}, FRow enc31 3 31 w1 base v xs → FRow enc31 3 31 w2 base v xs := fun hr => hr.chg hc (fun k hk e => by
    obtain ⟨cells, hcc⟩ := hr.typed hk
    exact hm.ne_cells hcc e.symm)
  have hfre : ∀ k, (fv f k).ownBlock ≠ some w.heap.size := fun k e => by have := (h.row k).lt e; omega
  refine ⟨fun k => ?_, fun j k c hjk hj hk => ?_⟩
  · rw [fv_put, outs_app]
    by_cases e : k = a.f0
    · subst e; rw [if_pos rfl, if_pos rfl]; exact hn hv
    · rw [if_neg e, if_neg (fun e' => e e'.symm)]
      refine hn ((h.row k).move fun c hc => hg.block c ((h.row k).lt hc) (fun e' => ?_))
      exact h.apart k a.f0 c e hc e'.symm
  · rw [fv_put] at hj hk
    split at hj
    · rename_i e; subst e
      rw [if_neg (fun e => hjk e.symm)] at hk
      rcases hat with e | e
      · rw [e] at hj; exact h.apart _ _ c hjk hj hk
      · rw [e] at hj; rw [hj] at e; exact hfre k (hk.trans hj.symm)
    · split at hk
      · rename_i e; subst e
        rcases hat with e | e
        · rw [e] at hk; exact h.apart _ _ c hjk hj hk
        · rw [e] at hk; exact hfre j (hj.trans hk.symm)
      · exact h.apart _ _ c hjk hj hk

/-! ### the least ways' steps -/
def setD (D : Int → Bool) (n : Int) : Int → Bool := fun j => if j = n then true else D j
theorem encD_set (D : Int → Bool) (n : Int) : encD (setD D n) = put (encD D) n (.bool true) := by
  funext j
  unfold encD setD put
  by_cases h : j = n <;> simp [h]
inductive Dij (l : List S31) (root : Int) : Nat → Known → (Int → Bool) → List S94 → Prop
  | start : Dij l root 0 (fun _ => none) (fun _ => false) (hput [] ⟨0, root⟩)
  | skip {t : Nat} {K : Known} {D : Int → Bool} {xs : List S94} (h : Dij l root t K D xs) (h0 : 0 < xs.length) (hd : D (sp xs 0).f1 = true) : Dij l root (t + 1) K D (htake xs)
  | settle {t : Nat} {K : Known} {D : Int → Bool} {xs : List S94} (h : Dij l root t K D xs) (h0 : 0 < xs.length) (hd : D (sp xs 0).f1 = false) :
      Dij l root (t + 1) (spreadS root (sp xs 0).f1 (setD D (sp xs 0).f1) (outs l (sp xs 0).f1) (K, htake xs)).1 (setD D (sp xs 0).f1) (spreadS root (sp xs 0).f1 (setD D (sp xs 0).f1) (outs l (sp xs 0).f1) (K, htake xs)).2

theorem htake_len (l : List S94) (h : 0 < l.length) : (htake l).length + 1 = l.length := by
  have hs : ∀ k (l : List S94) i, (siftDown k l i).length = l.length := by
    intro k
    induction k with
    | zero => intro l i; rfl
    | succ k ih =>
      intro l i
      unfold siftDown
      split
      · rfl
      · rw [ih]; simp [swp]
  unfold htake
  rw [hs]
  simp
  omega
theorem spread_len (root n : Int) (D : Int → Bool) (arcs : List S31) (K : Known) (xs : List S94) : (spreadS root n D arcs (K, xs)).2.length ≤ xs.length + arcs.length := by
  unfold spreadS
  generalize wasV (K, xs).1 n = av
  generalize wasC (K, xs).1 n = ac
  induction arcs generalizing K xs with
  | nil => simp
  | cons a arcs ih =>
    rw [List.foldl_cons]
    have h1 := stepA_len root n D av ac (K, xs) a
    generalize stepA root n D av ac (K, xs) a = s at h1 ⊢
    have := ih s.1 s.2
    simp only [List.length_cons]
    simp only at h1
    have e : (s.1, s.2) = s := rfl
    rw [e] at this
    omega
/-- Known costs lie between 0 and c. -/
def CostIn (c : Int) (K : Known) : Prop := ∀ k r, K k = some r → 0 ≤ r.2 ∧ r.2 ≤ c
theorem CostIn.was {c : Int} {K : Known} (h : CostIn c K) (h0 : 0 ≤ c) (n : Int) : 0 ≤ wasC K n ∧ wasC K n ≤ c := by
  unfold wasC
  split
  · omega
  · rename_i r hr; exact h n r hr
theorem better_cost {c : Int} {K : Known} {xs : List S94} {t via k : Int} (h : CostIn c K) (h1 : 0 ≤ k) (h2 : k ≤ c) : CostIn c (betterS K xs t via k).1 := by
  have hs : CostIn c (setK K t (via, k)) := fun j r hr => by
    unfold setK at hr
    split at hr
    · injection hr with hr; subst hr; exact ⟨h1, h2⟩
    · exact h j r hr
  unfold betterS
  split
  · exact hs
  · split
    · exact hs
    · split
      · exact h
      · exact hs
theorem spread_cost {c : Int} (root n : Int) (D : Int → Bool) (arcs : List S31) (K : Known) (xs : List S94) (ha : ∀ a ∈ arcs, 1 ≤ a.f2 ∧ a.f2 ≤ 1073741824) (h : CostIn c K) (h0 : 0 ≤ c) : CostIn (c + 1073741824) (spreadS root n D arcs (K, xs)).1 := by
  unfold spreadS
  have hw : 0 ≤ wasC (K, xs).1 n ∧ wasC (K, xs).1 n ≤ c := h.was h0 n
  generalize wasV (K, xs).1 n = av
  generalize wasC (K, xs).1 n = ac at hw ⊢
  have h' : CostIn (c + 1073741824) K := fun k r hr => by have := h k r hr; omega
  clear h
  induction arcs generalizing K xs with
  | nil => exact h'
  | cons a arcs ih =>
    rw [List.foldl_cons]
    have h1 : CostIn (c + 1073741824) (stepA root n D av ac (K, xs) a).1 := by
      unfold stepA
      split
      · exact h'
      · split
        · exact h'
        · have := ha a (by simp)
          exact better_cost h' (by omega) (by omega)
    exact ih (stepA root n D av ac (K, xs) a).1 (stepA root n D av ac (K, xs) a).2 (fun b hb => ha b (by simp [hb])) h1
theorem filter_less (l : List S31) (D : Int → Bool) (n : Int) (h : D n = false) : (l.filter (fun a => !setD D n a.f0)).length + (outs l n).length = (l.filter (fun a => !D a.f0)).length := by
  induction l with
  | nil => rfl
  | cons a l ih =>
    unfold outs at ih ⊢
    simp only [List.filter_cons]
    by_cases e : a.f0 = n
    · have e1 : setD D n a.f0 = true := by unfold setD; rw [if_pos e]
      have e2 : D a.f0 = false := by rw [e]; exact h
      simp [e1, e2]
      rw [if_pos e]
      simp
      omega
    · have e1 : setD D n a.f0 = D a.f0 := by unfold setD; rw [if_neg e]
      simp only [e1, decide_eq_true_eq]
      rw [if_neg e]
      split
      · simp only [List.length_cons]; omega
      · exact ih
theorem Dij.bound {l : List S31} {root : Int} {t : Nat} {K : Known} {D : Int → Bool} {xs : List S94} (h : Dij l root t K D xs) : t + xs.length + (l.filter (fun a => !D a.f0)).length ≤ 1 + l.length := by
  induction h with
  | start =>
    have : (l.filter (fun a => !false)).length = l.length := by simp
    rw [this, hput_len]; simp
  | skip h h0 hd ih => have := htake_len _ h0; omega
  | @settle t K D xs h h0 hd ih =>
    have h1 := htake_len _ h0
    have h2 := spread_len root (sp xs 0).f1 (setD D (sp xs 0).f1) (outs l (sp xs 0).f1) K (htake xs)
    have h3 := filter_less l D _ hd
    omega
theorem Dij.cost {l : List S31} {root : Int} {t : Nat} {K : Known} {D : Int → Bool} {xs : List S94} (h : Dij l root t K D xs) (ha : ∀ a ∈ l, 1 ≤ a.f2 ∧ a.f2 ≤ 1073741824) : CostIn (1073741824 * (t : Int)) K := by
  induction h with
  | start => intro k r hr; cases hr
  | skip h h0 hd ih => intro k r hr; have := ih k r hr; omega
  | @settle t K D xs h h0 hd ih =>
    have := spread_cost root (sp xs 0).f1 (setD D (sp xs 0).f1) (outs l (sp xs 0).f1) K (htake xs) (fun a ha' => ha a (List.mem_filter.1 ha').1) ih (by omega)
    have e : (1073741824 * ((t + 1 : Nat) : Int)) = 1073741824 * (t : Int) + 1073741824 := by omega
    rw [e]
    exact this

theorem better_keys {p : Int → Prop} {K : Known} {xs : List S94} {t via k : Int} (h : ∀ j, K j ≠ none → p j) (ht : p t) : ∀ j, (betterS K xs t via k).1 j ≠ none → p j := by
  have hs : ∀ j, setK K t (via, k) j ≠ none → p j := fun j hj => by
    unfold setK at hj
    split at hj
    · rename_i e; rw [e]; exact ht
    · exact h j hj
  unfold betterS
  split
  · exact hs
  · split
    · exact hs
    · split
      · exact h
      · exact hs
theorem spread_keys {p : Int → Prop} (root n : Int) (D : Int → Bool) (arcs : List S31) (K : Known) (xs : List S94) (h : ∀ j, K j ≠ none → p j) (ha : ∀ a ∈ arcs, p a.f1) : ∀ j, (spreadS root n D arcs (K, xs)).1 j ≠ none → p j := by
  unfold spreadS
  generalize wasV (K, xs).1 n = av
  generalize wasC (K, xs).1 n = ac
  induction arcs generalizing K xs with
  | nil => exact h
  | cons a arcs ih =>
    rw [List.foldl_cons]
    refine ih (stepA root n D av ac (K, xs) a).1 (stepA root n D av ac (K, xs) a).2 ?_ (fun b hb => ha b (by simp [hb]))
    unfold stepA
    split
    · exact h
    · split
      · exact h
      · exact better_keys h (ha a (by simp))
theorem Dij.keys {l : List S31} {root : Int} {t : Nat} {K : Known} {D : Int → Bool} {xs : List S94} (h : Dij l root t K D xs) : ∀ k, K k ≠ none → ∃ a ∈ l, a.f1 = k := by
  induction h with
  | start => intro k hk; exact absurd rfl hk
  | skip h h0 hd ih => exact ih
  | @settle t K D xs h h0 hd ih => exact spread_keys _ _ _ _ _ _ ih (fun a ha => ⟨a, (List.mem_filter.1 ha).1, rfl⟩)

/-! ### a map's keys -/
theorem nodup_len {l m : List Int} (hn : l.Nodup) (hs : ∀ x ∈ l, x ∈ m) : l.length ≤ m.length := by
  induction l generalizing m with
  | nil => simp
  | cons x l ih =>
    rw [List.nodup_cons] at hn
    have hx := hs x (by simp)
    have := ih (m := m.erase x) hn.2 (fun y hy => by
      have hne : y ≠ x := fun e => hn.1 (e ▸ hy)
      exact (List.mem_erase_of_ne hne).2 (hs y (by simp [hy])))
    rw [List.length_erase_of_mem hx] at this
    have : 0 < m.length := List.length_pos_of_mem hx
    simp only [List.length_cons]
    omega
def nodes64 : List Int := (List.range 65).map Int.ofNat
theorem mem_nodes64 {x : Int} (h0 : 0 ≤ x) (h1 : x ≤ 64) : x ∈ nodes64 := by
  unfold nodes64
  rw [List.mem_map]
  exact ⟨x.toNat, by rw [List.mem_range]; omega, by show ((x.toNat : Nat) : Int) = x; omega⟩
theorem IMap.own {w : World} {b : Nat} {f : Int → Option Value} (h : IMap w b f) (hk : ∀ k, f k ≠ none → 0 ≤ k ∧ k ≤ 64) :
    ∃ D0 : DataW Unit, w.ownsMap Try.prog 3 (fun _ => some (.nil, [])) b 65 D0 ∧ (intKeys D0).Nodup ∧ (∀ k, k ∈ intKeys D0 ↔ f k ≠ none) ∧ Maps.size D0 ≤ 65 := by
  obtain ⟨es, clock, hb, hS, hK, hf⟩ := h
  have hin : ∀ x ∈ es.toList, ∃ k, x.key = .int .i64 k ∧ 0 ≤ k ∧ k ≤ 64 := fun x hx => by
    obtain ⟨k, e⟩ := hK x hx
    have hn : f k ≠ none := by rw [(hf k x.val).2 ⟨x, hx, e, rfl⟩]; simp
    exact ⟨k, e, hk k hn⟩
  have hrd : ∀ x ∈ es.toList, ∃ k, x.key = .int .i64 k ∧ Go.WideElems.rd (H := Unit) Try.prog 3 (fun _ => some (.nil, [])) x = some (.int .i64 k, .nil) := fun x hx => by
    obtain ⟨k, e, h0, h1⟩ := hin x hx
    refine ⟨k, e, ?_⟩
    have hwf : (Lit.int .i64 k).wf = true := by simp [Lit.wf, IntKind.min, IntKind.max, IntKind.bits, IntKind.signed]; omega
    have hko : keyOf Try.prog 3 x.key = some (.int .i64 k) := by
      rw [e]
      simp [keyOf, Try.underlying3, mapKey, hwf]
    simp [Go.WideElems.rd, hko]
  let key : MapEntry → Int := fun x => match x.key with | .int _ k => k | _ => 0
  have hkn : (es.toList.map key).Nodup := by
    refine List.pairwise_map.2 ((List.pairwise_map.1 hS.2.2).imp_of_mem fun {p q} hp hq hne e => hne ?_)
    obtain ⟨a, ha⟩ := hK p hp
    obtain ⟨c, hc⟩ := hK q hq
    simp only [key, ha, hc] at e
    rw [ha, hc, e]
  have hsz : es.size ≤ 65 := by
    have h1 := nodup_len (m := nodes64) hkn (fun x hx => by
      rw [List.mem_map] at hx
      obtain ⟨y, hy, rfl⟩ := hx
      obtain ⟨k, e, h0, h1⟩ := hin y hy
      simp only [key, e]
      exact mem_nodes64 h0 h1)
    simp [nodes64] at h1
    exact h1
  have hmap : es.toList.map (Go.WideElems.rg (H := Unit) Try.prog 3 (fun _ => some (.nil, []))) = es.toList.map (fun x => (Lit.int .i64 (key x), DataW.nil)) := List.map_congr_left fun x hx => by
    obtain ⟨k, e, h1⟩ := hrd x hx
    simp [Go.WideElems.rg, h1, key, e]
  have hperm := Go.WideShapes.sorted_perm (H := Unit) (es.toList.map (fun x => (Lit.int .i64 (key x), DataW.nil)))
  have hik : (intKeys (DataW.map ((es.toList.map (fun x => (Lit.int .i64 (key x), (DataW.nil : DataW Unit)))).foldr DataW.insert []))).Perm (es.toList.map key) := by
    show (List.map (fun p : Lit × DataW Unit => Go.intOf p.1) _).Perm _
    refine (hperm.map _).trans ?_
    rw [List.map_map]
    exact List.Perm.refl _
  refine ⟨_, ⟨es, clock, hb, ⟨by simp only [maxLen]; omega, hS, fun x hx => ?_⟩, hsz, rfl⟩, ?_, ?_, ?_⟩
  · obtain ⟨k, _, h1⟩ := hrd x hx; exact ⟨_, h1⟩
  · rw [hmap]; exact hik.nodup_iff.2 hkn
  · intro k
    rw [hmap, hik.mem_iff, List.mem_map]
    constructor
    · rintro ⟨x, hx, rfl⟩
      obtain ⟨k, e⟩ := hK x hx
      have : key x = k := by simp only [key, e]
      rw [this, (hf k x.val).2 ⟨x, hx, e, rfl⟩]
      simp
    · intro hn
      cases hfk : f k with
      | none => exact absurd hfk hn
      | some v =>
        obtain ⟨e, he, hek, _⟩ := (hf k v).1 hfk
        exact ⟨e, he, by simp only [key, hek]⟩
  · show (List.foldr DataW.insert [] _).length ≤ 65
    rw [(Go.WideShapes.sorted_perm _).length_eq]
    simpa using hsz
end Go.Proofs.Ytinkhlfmjfahpaa.PLoadKeeps
