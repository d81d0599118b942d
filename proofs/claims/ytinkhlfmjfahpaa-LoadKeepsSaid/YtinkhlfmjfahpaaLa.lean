/- Maps keyed by pairs of whole numbers. -/
import Derived.Test.YtinkhlfmjfahpaaRd
import Derived.WideKeyArr
import Derived.WideKeyEntry
import Derived.Maps.Keyed
namespace Go.Proofs.Ytinkhlfmjfahpaa.PLoadKeeps
open Go.RowKit Go.MapKept Go.Proofs.YtinkhlfmjfahpaaW.PrintWords Go.Proofs.YtinkhlfmjfahpaaW.PrintLast Go.Proofs.YtinkhlfmjfahpaaW.PrintMore
set_option linter.unusedVariables false
set_option linter.unusedSimpArgs false

theorem arr49 : Go.WideMaps.ArrKey Try.prog 49 3 2 := ⟨Try.underlying49, by kernel_rfl, by kernel_rfl, by kernel_rfl⟩
theorem law49 : Go.WideMaps.KeyLaw Try.prog 49 := arr49.law
/-- A pair as a key. -/
def pk (p : Int × Int) : Value := .agg #[.int .i64 p.1, .int .i64 p.2]
def Small (p : Int × Int) : Prop := (1 ≤ p.1 ∧ p.1 ≤ 64) ∧ (1 ≤ p.2 ∧ p.2 ≤ 64)
theorem keyType49 : Try.prog.keyType 49 = true := by kernel_rfl
theorem formed49 (p : Int × Int) : (pk p).formed Try.prog 49 = true := by
  have h : Try.prog.cellsOf 49 = 2 := by kernel_rfl
  simp [pk, Value.formed, Try.underlying49, h]
theorem pk_key (p : Int × Int) (h : Small p) : ∃ kl, keyOf Try.prog 49 (pk p) = some kl := by
  have w1 : (Lit.int .i64 p.1).wf = true := by obtain ⟨⟨h1, h2⟩, _⟩ := h; simp [Lit.wf, IntKind.min, IntKind.max, IntKind.bits, IntKind.signed]; omega
  have w2 : (Lit.int .i64 p.2).wf = true := by obtain ⟨_, h1, h2⟩ := h; simp [Lit.wf, IntKind.min, IntKind.max, IntKind.bits, IntKind.signed]; omega
  have hs : ∃ n, Try.prog.types.size + 1 = n + 2 := ⟨Try.prog.types.size - 1, by have : 0 < Try.prog.types.size := of_decide_eq_true (by kernel_rfl); omega⟩
  obtain ⟨n, hn⟩ := hs
  have hc3 : Try.prog.cellsOf 3 = 1 := arr49.one
  refine ⟨.string (keyBytes [.int .i64 p.1, .int .i64 p.2]), ?_⟩
  unfold keyOf
  rw [Try.underlying49]
  simp only [keyType49, formed49, Bool.and_self, if_true]
  rw [hn]
  simp [pk, Program.keyLits, Try.underlying49, Try.underlying3, hc3, w1, w2, List.range_succ, Value.cells]
  exact arr49.size.symm
theorem pk_inj {p q : Int × Int} (h : pk p = pk q) : p = q := by
  unfold pk at h
  injection h with h
  have := congrArg Array.toList h
  simp at this
  exact Prod.ext this.1 this.2

abbrev PE := List ((Int × Int) × Int)
/-- Block b is a map from pairs to numbers: its entries in their order. -/
def PMap (w : World) (b : Nat) (E : PE) : Prop :=
  ∃ es clock, w.heap[b]? = some (.map es clock) ∧ Stamped es clock ∧ es.toList.map (fun x => (x.key, x.val)) = E.map (fun e => (pk e.1, .int .i64 e.2)) ∧ ∀ e ∈ E, Small e.1
def pget (E : PE) (p : Int × Int) : Int := match E.find? (fun e => decide (e.1 = p)) with | some e => e.2 | none => 0
def bump (E : PE) (p : Int × Int) (v : Int) : PE := if (E.map (·.1)).contains p then E.map (fun e => if e.1 = p then (p, v) else e) else E ++ [(p, v)]

theorem PMap.lt {w : World} {b : Nat} {E : PE} (h : PMap w b E) : b < w.heap.size := by
  obtain ⟨es, clock, hb, _⟩ := h
  exact blk_lt hb
theorem PMap.move {w w1 : World} {b : Nat} {E : PE} (h : PMap w b E) (hb : w1.heap[b]? = w.heap[b]?) : PMap w1 b E := by
  obtain ⟨es, clock, h1, h2⟩ := h
  exact ⟨es, clock, hb.trans h1, h2⟩
theorem PMap.below {w w1 : World} {b : Nat} {E : PE} (h : PMap w b E) (hb : Below w.heap.size w w1) : PMap w1 b E := h.move (hb.block b h.lt)
theorem PMap.made (w : World) : PMap (w.alloc (.map #[] 0)) w.heap.size [] := ⟨#[], 0, heap_alloc_new _ _, stamped_empty 0, rfl, by simp⟩
theorem PMap.ne_cells {w : World} {b p : Nat} {E : PE} {cs : Array Value} {t : TypeId} (h : PMap w b E) (hp : w.heap[p]? = some (.cells cs t (0, 0))) : b ≠ p := by
  obtain ⟨es, clock, h1, _⟩ := h
  rintro rfl
  rw [hp] at h1
  cases h1
theorem PMap.nodup {w : World} {b : Nat} {E : PE} (h : PMap w b E) : (E.map (·.1)).Nodup := by
  obtain ⟨es, clock, hb, hS, hE, _⟩ := h
  have h1 : es.toList.map (·.key) = E.map (fun e => pk e.1) := by
    have := congrArg (List.map Prod.fst) hE
    rw [List.map_map, List.map_map] at this
    exact this
  have h2 := hS.2.2
  rw [h1] at h2
  refine List.pairwise_map.2 ((List.pairwise_map.1 h2).imp fun hne e => hne (by rw [e]))
/-- What a bump does to any sum over the entries. -/
theorem bump_sum (g : Int × Int → Int) (E : PE) (p : Int × Int) (d : Int) (hn : (E.map (·.1)).Nodup) : ((bump E p (pget E p + d)).map (fun e => g e.1 * e.2)).sum = (E.map (fun e => g e.1 * e.2)).sum + g p * d := by
  unfold bump
  by_cases hc : (E.map (·.1)).contains p = true
  · rw [if_pos hc]
    induction E with
    | nil => simp at hc
    | cons e E ih =>
      simp only [List.map_cons, List.nodup_cons] at hn
      by_cases he : e.1 = p
      · have hno : ∀ x ∈ E, x.1 ≠ p := fun x hx e1 => hn.1 (by rw [he, ← e1]; exact List.mem_map_of_mem hx)
        have hg : pget (e :: E) p = e.2 := by simp [pget, List.find?_cons, he]
        have hmap : E.map (fun x => if x.1 = p then (p, pget (e :: E) p + d) else x) = E := by
          conv => rhs; rw [← List.map_id E]
          exact List.map_congr_left fun x hx => by rw [if_neg (hno x hx)]; rfl
        rw [List.map_cons, hmap, if_pos he, hg]
        simp only [List.map_cons, List.sum_cons, he]
        rw [Int.mul_add]
        omega
      · have hg : pget (e :: E) p = pget E p := by simp [pget, List.find?_cons, he]
        have hc' : (E.map (·.1)).contains p = true := by
          rw [List.map_cons, List.contains_cons] at hc
          simpa [show (p == e.1) = false by simpa using fun h => he h.symm] using hc
        have := ih hn.2 hc'
        rw [hg, List.map_cons, if_neg he]
        simp only [List.map_cons, List.sum_cons]
        rw [this]
        omega
  · rw [if_neg hc]
    have hg : pget E p = 0 := by
      unfold pget
      rw [List.find?_eq_none.2 (fun x hx => by
        simp only [decide_eq_true_eq]
        intro e
        exact hc (by rw [List.contains_iff_mem]; exact List.mem_map.2 ⟨x, hx, e⟩))]
    rw [hg]
    simp
theorem bump_keys (E : PE) (p : Int × Int) (v : Int) (q : Int × Int) : q ∈ (bump E p v).map (·.1) ↔ q = p ∨ q ∈ E.map (·.1) := by
  unfold bump
  split
  · rename_i hc
    have hk : (E.map (fun e => if e.1 = p then (p, v) else e)).map (·.1) = E.map (·.1) := by
      rw [List.map_map]
      refine List.map_congr_left fun e he => ?_
      simp only [Function.comp]
      split
      · rename_i h; rw [h]
      · rfl
    rw [hk]
    rw [List.contains_iff_mem] at hc
    constructor
    · exact .inr
    · rintro (rfl | h); exact hc; exact h
  · simp only [List.map_append, List.map_cons, List.map_nil, List.mem_append, List.mem_singleton]
    constructor
    · rintro (h | h); exact .inr h; exact .inl h
    · rintro (h | h); exact .inr h; exact .inl h

theorem pget_mem {E : PE} (hn : (E.map (·.1)).Nodup) {x : (Int × Int) × Int} (hx : x ∈ E) : pget E x.1 = x.2 := by
  induction E with
  | nil => cases hx
  | cons e E ih =>
    simp only [List.map_cons, List.nodup_cons] at hn
    rcases List.mem_cons.1 hx with rfl | hx
    · simp [pget, List.find?_cons]
    · have hne : e.1 ≠ x.1 := fun h => hn.1 (by rw [h]; exact List.mem_map_of_mem hx)
      rw [← ih hn.2 hx]
      simp [pget, List.find?_cons, hne]

theorem PMap.find {w : World} {E : PE} {es : Array MapEntry} (hE : es.toList.map (fun x => (x.key, x.val)) = E.map (fun e => (pk e.1, .int .i64 e.2))) (hk : ∀ e ∈ E, Small e.1) (hn : (E.map (·.1)).Nodup) (p : Int × Int) (hp : Small p) :
    ((Instr.findKey 49 (pk p) es.toList).run Try.prog w = .ok none w ∧ pget E p = 0 ∧ (∀ x ∈ es.toList, x.key ≠ pk p) ∧ (E.map (·.1)).contains p = false) ∨
    ∃ j e, (Instr.findKey 49 (pk p) es.toList).run Try.prog w = .ok (some (j, e.val)) w ∧ es.toList[j]? = some e ∧ e.key = pk p ∧ e.val = .int .i64 (pget E p) ∧ (E.map (·.1)).contains p = true ∧ E[j]? = some (p, pget E p) := by
  obtain ⟨kl, hkl⟩ := pk_key p hp
  have hall : ∀ e ∈ es.toList, ∃ l, keyOf Try.prog 49 e.key = some l := fun x hx => by
    have h1 : (x.key, x.val) ∈ E.map (fun e => (pk e.1, Value.int .i64 e.2)) := hE ▸ List.mem_map_of_mem (f := fun x : MapEntry => (x.key, x.val)) hx
    obtain ⟨e, he, h2⟩ := List.mem_map.1 h1
    injection h2 with h2 _
    rw [← h2]
    exact pk_key _ (hk e he)
  rcases law49.find w hkl es.toList hall with ⟨h1, h2⟩ | ⟨j, e, h1, h2, h3⟩
  · have hno : ∀ x ∈ E, x.1 ≠ p := fun x hx e1 => by
      have h4 : (pk x.1, Value.int .i64 x.2) ∈ es.toList.map (fun x => (x.key, x.val)) := hE ▸ List.mem_map_of_mem (f := fun e : (Int × Int) × Int => (pk e.1, Value.int .i64 e.2)) hx
      obtain ⟨y, hy, h5⟩ := List.mem_map.1 h4
      injection h5 with h5 _
      exact h2 y hy (h5.trans (by rw [e1]))
    refine .inl ⟨h1, ?_, h2, ?_⟩
    · unfold pget
      rw [List.find?_eq_none.2 (fun x hx => by simpa using hno x hx)]
    · rw [Bool.eq_false_iff]
      intro hc
      rw [List.contains_iff_mem] at hc
      obtain ⟨x, hx, e1⟩ := List.mem_map.1 hc
      exact hno x hx e1
  · have hj : (es.toList.map (fun x => (x.key, x.val)))[j]? = some (e.key, e.val) := by rw [List.getElem?_map, h2]; rfl
    rw [hE, List.getElem?_map] at hj
    cases hx : E[j]? with
    | none => rw [hx] at hj; simp at hj
    | some x =>
      rw [hx] at hj
      simp only [Option.map_some, Option.some.injEq, Prod.mk.injEq] at hj
      obtain ⟨hj1, hj2⟩ := hj
      have hxp : x.1 = p := pk_inj (hj1.trans h3)
      have hxm := List.mem_of_getElem? hx
      refine .inr ⟨j, e, h1, h2, h3, ?_, ?_, by rw [← hxp, pget_mem hn hxm]; exact hx⟩
      · rw [← hxp, pget_mem hn hxm]; exact hj2.symm
      · rw [List.contains_iff_mem]
        exact List.mem_map.2 ⟨x, hxm, hxp⟩

theorem zero3 : ∀ w, (zeroValue 3).run Try.prog w = .ok (.int .i64 0) w := fun w => by kernel_rfl
theorem PMap.lookup {w : World} {b : Nat} {E : PE} (h : PMap w b E) (p : Int × Int) (hp : Small p) : (Instr.lookup 46 (.map (some b)) (pk p) false).run Try.prog w = .ok (.int .i64 (pget E p)) w := by
  have hn := h.nodup
  obtain ⟨es, clock, hb, hS, hE, hk⟩ := h
  obtain ⟨kl, hkl⟩ := pk_key p hp
  have hck := fun e => law49.check w e hkl
  unfold Instr.lookup
  rcases PMap.find (w := w) hE hk hn p hp with ⟨h1, h2, _⟩ | ⟨j, e, h1, _, _, h2, _⟩
  · simp [run_underlying Try.underlying46, Go.MapKept.run_getObj_map hb, Result.andThen, hck, h1, h2, zero3]
  · simp [run_underlying Try.underlying46, Go.MapKept.run_getObj_map hb, Result.andThen, hck, h1, h2]
theorem PMap.set {w : World} {b : Nat} {o : Obj} {E : PE} {es : Array MapEntry} {clock : Nat} (hb : w.heap[b]? = some o) (hS : Stamped es clock) (hE : es.toList.map (fun x => (x.key, x.val)) = E.map (fun e => (pk e.1, .int .i64 e.2))) (hk : ∀ e ∈ E, Small e.1) : PMap (Go.ChangeMaps.setBlock w b (.map es clock)) b E :=
  ⟨es, clock, (heap_set hb).1, hS, hE, hk⟩
theorem PMap.entry {w : World} {b : Nat} {E : PE} (h : PMap w b E) (p : Int × Int) (hp : Small p) : ∃ st es1 clock1, (Instr.mapEntry 46 (.map (some b)) (pk p)).run Try.prog w = .ok (.tuple #[.int .i64 (pget E p), .int .i64 st]) (Go.ChangeMaps.setBlock w b (.map es1 clock1)) ∧
    (Instr.lookup 46 (.map (some b)) (pk p) false).run Try.prog (Go.ChangeMaps.setBlock w b (.map es1 clock1)) = .ok (.int .i64 (pget E p)) (Go.ChangeMaps.setBlock w b (.map es1 clock1)) ∧
    ∀ w2 v, w2.heap[b]? = some (.map es1 clock1) → ∃ es2 clock2, (Instr.entryStore 46 (.map (some b)) (.int .i64 st) (.int .i64 v)).run Try.prog w2 = .ok () (Go.ChangeMaps.setBlock w2 b (.map es2 clock2)) ∧ PMap (Go.ChangeMaps.setBlock w2 b (.map es2 clock2)) b (bump E p v) := by
  have hn := h.nodup
  obtain ⟨es, clock, hb, hS, hE, hk⟩ := h
  obtain ⟨kl, hkl⟩ := pk_key p hp
  have hck := law49.check w false hkl
  rcases PMap.find (w := w) hE hk hn p hp with ⟨h1, h2, h3, h4⟩ | ⟨j, e0, h1, h2, h3, h4, h5, h6⟩
  · have hE1 : ∀ v : Int, (es.push ⟨pk p, .int .i64 v, clock⟩).toList.map (fun x => (x.key, x.val)) = (E ++ [(p, v)]).map (fun e => (pk e.1, .int .i64 e.2)) := fun v => by
      simp [hE]
    have hk1 : ∀ v : Int, ∀ e ∈ E ++ [(p, v)], Small e.1 := fun v e he => by
      rcases List.mem_append.1 he with he | he
      · exact hk e he
      · simp at he; subst he; exact hp
    have hbp : ∀ v : Int, bump E p v = E ++ [(p, v)] := fun v => by unfold bump; rw [h4]; rfl
    have hP1 := PMap.set (o := .map es clock) (E := E ++ [(p, 0)]) hb (stamped_push (val := .int .i64 0) hS h3) (hE1 0) (hk1 0)
    refine ⟨clock, es.push ⟨pk p, .int .i64 0, clock⟩, clock + 1, ?_, ?_, fun w2 v hw2 => ⟨es.push ⟨pk p, .int .i64 v, clock⟩, clock + 1, ?_, ?_⟩⟩
    · simp [Instr.mapEntry, run_underlying Try.underlying46, MapKept.run_getObj_map hb, hck, h1, h2, zero3, MapKept.run_setObj_map _ hb, Result.andThen, Go.ChangeMaps.setBlock, goInt]
    · have := hP1.lookup p hp
      rw [this]
      have hg : pget (E ++ [(p, 0)]) p = 0 := by
        have := pget_mem hP1.nodup (x := (p, 0)) (by simp)
        exact this
      rw [hg, h2]
    · have hidx : (es.push ⟨pk p, .int .i64 0, clock⟩).findIdx? (fun e => ((e.born : Nat) : Int) == ((clock : Nat) : Int)) = some es.size := by
        rw [Go.WideElems.findIdx_arr]
        have := Go.WideElems.findIdx_born (l := (es.push ⟨pk p, .int .i64 0, clock⟩).toList) (j := es.size) (e0 := ⟨pk p, .int .i64 0, clock⟩) ((stamped_push (val := .int .i64 0) hS h3).2.1) (by simp)
        exact this
      have hmod : (es.push ⟨pk p, .int .i64 0, clock⟩).modify es.size (fun e => { e with val := .int .i64 v }) = es.push ⟨pk p, .int .i64 v, clock⟩ := by
        apply Array.ext'
        rw [Array.toList_modify, Array.toList_push, Array.toList_push, ← Array.length_toList, Go.WideElems.modify_last]
      simp [Instr.entryStore, MapKept.run_getObj_map hw2, asInt, asIntOf, hidx, hmod, MapKept.run_setObj_map _ hw2, Result.andThen, Go.ChangeMaps.setBlock]
    · rw [hbp]
      exact PMap.set hw2 (stamped_push hS h3) (hE1 v) (hk1 v)
  · have hj : es[j]? = some e0 := by simpa using h2
    have hsame : es.modify j (fun e => { e with key := pk p }) = es := by
      apply Array.ext'
      rw [Array.toList_modify, Go.ChangeMaps.modify_eq_set _ _ _ _ h2]
      have : ({ e0 with key := pk p } : MapEntry) = e0 := by rw [← h3]
      rw [this]
      exact Go.WideElems.set_self _ _ _ h2
    refine ⟨e0.born, es, clock, ?_, ?_, fun w2 v hw2 => ⟨es.modify j (fun e => { e with val := .int .i64 v }), clock, ?_, ?_⟩⟩
    · simp [Instr.mapEntry, run_underlying Try.underlying46, MapKept.run_getObj_map hb, hck, h1, hj, h3, h4, law49.stays w hkl, hsame, MapKept.run_setObj_map _ hb, Result.andThen, Go.ChangeMaps.setBlock, goInt]
    · exact (PMap.set (o := .map es clock) (E := E) hb hS hE hk).lookup p hp
    · have hidx : es.findIdx? (fun e => ((e.born : Nat) : Int) == ((e0.born : Nat) : Int)) = some j := by
        rw [Go.WideElems.findIdx_arr]
        exact Go.WideElems.findIdx_born hS.2.1 h2
      simp [Instr.entryStore, MapKept.run_getObj_map hw2, asInt, asIntOf, hidx, MapKept.run_setObj_map _ hw2, Result.andThen, Go.ChangeMaps.setBlock]
    · have hbp : bump E p v = E.map (fun e => if e.1 = p then (p, v) else e) := by unfold bump; rw [if_pos h5]
      rw [hbp]
      refine PMap.set hw2 (stamped_modify hS j _ (fun _ _ => rfl) (fun _ _ _ => rfl)) ?_ ?_
      · apply List.ext_getElem?
        intro i
        rw [List.getElem?_map, List.getElem?_map, List.getElem?_map, Array.getElem?_toList, Array.getElem?_modify]
        have hi : (es.toList.map (fun x => (x.key, x.val)))[i]? = (E.map (fun e => (pk e.1, Value.int .i64 e.2)))[i]? := by rw [hE]
        rw [List.getElem?_map, List.getElem?_map, Array.getElem?_toList] at hi
        by_cases hij : j = i
        · subst hij
          rw [if_pos rfl, hj, h6]
          simp [h3]
        · rw [if_neg hij, hi]
          cases hx : E[i]? with
          | none => rfl
          | some x =>
            have hxp : x.1 ≠ p := fun e1 => hij (by
              have hn' := List.pairwise_iff_getElem.1 (List.pairwise_map.1 hn)
              obtain ⟨l1, q1⟩ := List.getElem?_eq_some_iff.1 h6
              obtain ⟨l2, q2⟩ := List.getElem?_eq_some_iff.1 hx
              rcases Nat.lt_trichotomy j i with hlt | heq | hgt
              · have := hn' j i l1 l2 hlt; rw [q1, q2] at this; exact absurd e1.symm this
              · exact heq
              · have := hn' i j l2 l1 hgt; rw [q1, q2] at this; exact absurd e1 this)
            simp [hxp]
      · intro e he
        obtain ⟨x, hx, rfl⟩ := List.mem_map.1 he
        split
        · exact hp
        · exact hk x hx
end Go.Proofs.Ytinkhlfmjfahpaa.PLoadKeeps
