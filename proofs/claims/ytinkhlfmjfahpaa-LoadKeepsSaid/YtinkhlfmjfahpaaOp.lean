/- How what came in is read: structs, slices of them, nested. -/
import Derived.Test.YtinkhlfmjfahpaaPLoadKeepsx0
import Derived.Deep.Slices
namespace Go.Proofs.Ytinkhlfmjfahpaa.PLoadKeeps
open Go.RowKit Go.Proofs.YtinkhlfmjfahpaaW.PrintWords Go.Proofs.YtinkhlfmjfahpaaW.PrintLast Go.Proofs.YtinkhlfmjfahpaaW.PrintMore
set_option linter.unusedVariables false
set_option linter.unusedSimpArgs false

/-- Whatever reads by a type reads as one of d's, and meets G. -/
def Opens {α : Type} (P : Program) (t : TypeId) (d : Kd α) (G : α → Prop) : Prop :=
  ∀ (H : Type) (enc : TypeId × Value → H) (w : World) (base : Nat) (spare : Nat → Bool) (held : Bool) (fuel : Nat) (cs : List Value) (x : DataW H × List MemPlace), DataW.trod enc P w base spare held fuel t cs = some x → ∃ y, d.K w y cs ∧ G y
theorem opens_int {P : Program} {t : TypeId} {k : IntKind} (ht : P.underlying t = some (.int k)) : Opens P t (Kd.int k) (fun n => (Lit.int k n).wf = true) := fun H enc w base spare held fuel cs x h => by
  obtain ⟨n, rfl, _, hw⟩ := DataW.trod_int ht h
  exact ⟨n, rfl, hw⟩
theorem opens_slice {α : Type} {P : Program} {t e : TypeId} {d : Kd α} {G : α → Prop} (ht : P.underlying t = some (.slice e)) (hc : P.cellsOf e = d.sz) (h : Opens P e d G) : Opens P t (Kd.slice e d) (fun ys => ∀ y ∈ ys, G y) := fun H enc w base spare held fuel cs x hx => by
  rcases Go.Deep.open_slice ht hx with ⟨rfl, _⟩ | ⟨a, len, cap, m, n, D, Pl, rfl, hb, hl, hm, hmm, _, he⟩
  · exact ⟨[], ⟨none, 0, rfl, by simp, ⟨rfl, by simp, fun h => absurd h (Nat.lt_irrefl _)⟩⟩, fun y hy => by cases hy⟩
  · have hlm : len ≤ m := by rw [hmm]; split <;> omega
    have each : ∀ i : Fin len, ∃ y : α, G y ∧ ∃ c, c.length = d.sz ∧ d.K w y c ∧ ∀ j u, c[j]? = some u → w.cell? (a.add (i.1 * d.sz + j)) = some u := fun i => by
      obtain ⟨cs', h1, h2⟩ := he i.1 (Nat.lt_of_lt_of_le i.2 hlm)
      obtain ⟨_, hlen, hcell⟩ := World.cells?_some h1
      obtain ⟨y, hK, hG⟩ := h H enc w base spare held n cs' _ h2
      rw [hc] at hlen hcell
      refine ⟨y, hG, cs', hlen, hK, fun j u hj => ?_⟩
      have hjl := (List.getElem?_eq_some_iff.1 hj).1
      have := hcell j (by omega)
      rw [Go.Deep.add_add, hj] at this
      exact this
    obtain ⟨f, hf⟩ := Classical.skolem.1 each
    have hlf : (List.ofFn f).length = len := List.length_ofFn
    refine ⟨List.ofFn f, ⟨some a, cap, by rw [hlf], by rw [hlf]; exact hl, ⟨rfl, by rw [hlf]; unfold maxLen at hm; omega, fun _ => ⟨a, rfl, fun j p hj => ?_⟩⟩⟩, fun y hy => ?_⟩
    · obtain ⟨hjl, rfl⟩ := List.getElem?_eq_some_iff.1 hj
      rw [List.getElem_ofFn]
      exact (hf ⟨j, by omega⟩).2
    · obtain ⟨i, hi, rfl⟩ := List.mem_iff_getElem.1 hy
      rw [List.getElem_ofFn]
      exact (hf _).1
/-- The like for some fields of a struct, from a place on. -/
def OpensF {α : Type} (P : Program) (fs : List Field) (off : Nat) (d : Kd α) (G : α → Prop) : Prop :=
  ∀ (H : Type) (enc : TypeId × Value → H) (w : World) (base : Nat) (spare : Nat → Bool) (held : Bool) (n : Nat) (cs : List Value), (∀ f ∈ fs, ∃ x, DataW.trod enc P w base spare held n f.type ((cs.drop f.offset).take (P.cellsOf f.type)) = some x) → ∃ y, d.K w y ((cs.drop off).take d.sz) ∧ G y
theorem opensF_one {α : Type} {P : Program} {f : Field} {off : Nat} {d : Kd α} {G : α → Prop} (h : Opens P f.type d G) (ho : f.offset = off) (hc : P.cellsOf f.type = d.sz) : OpensF P [f] off d G := fun H enc w base spare held n cs hx => by
  obtain ⟨x, hx⟩ := hx f (by simp)
  rw [ho, hc] at hx
  exact h H enc w base spare held n _ x hx
theorem opensF_cons {α β : Type} {P : Program} {f : Field} {fs : List Field} {off : Nat} {a : Kd α} {b : Kd β} {G : α → Prop} {G2 : β → Prop} (h : Opens P f.type a G) (ho : f.offset = off) (hc : P.cellsOf f.type = a.sz) (hr : OpensF P fs (off + a.sz) b G2) :
    OpensF P (f :: fs) off (Kd.pair a b) (fun p => G p.1 ∧ G2 p.2) := fun H enc w base spare held n cs hx => by
  obtain ⟨x, hx0⟩ := hx f (by simp)
  rw [ho, hc] at hx0
  obtain ⟨y, hy, hG⟩ := h H enc w base spare held n _ x hx0
  obtain ⟨z, hz, hG2⟩ := hr H enc w base spare held n cs (fun g hg => hx g (by simp [hg]))
  refine ⟨(y, z), ⟨_, _, ?_, hy, hz⟩, hG, hG2⟩
  show (cs.drop off).take (a.sz + b.sz) = _
  rw [List.take_add, List.drop_drop]
theorem opens_struct {α : Type} {P : Program} {t : TypeId} {fs : Array Field} {d : Kd α} {G : α → Prop} (ht : P.underlying t = some (.struct fs)) (hc : P.cellsOf t = d.sz) (h : OpensF P fs.toList 0 d G) : Opens P t d G := fun H enc w base spare held fuel cs x hx => by
  obtain ⟨xs, n, _, _, hlen, hxl, hf⟩ := DataW.trod_struct ht hx
  obtain ⟨y, hy, hG⟩ := h H enc w base spare held n cs (fun f hf2 => by
    obtain ⟨i, hi, rfl⟩ := List.mem_iff_getElem.1 hf2
    have := hf i fs.toList[i] (by rw [Array.getElem?_eq_getElem (by simpa using hi)]; simp)
    rw [List.getElem?_eq_getElem (by rw [hxl]; simpa using hi)] at this
    exact ⟨_, this⟩)
  refine ⟨y, ?_, hG⟩
  rw [List.drop_zero, List.take_of_length_le (by omega)] at hy
  exact hy
theorem opens_iso {α β : Type} {P : Program} {t : TypeId} {d : Kd α} {G : α → Prop} (h : Opens P t d G) (f : β → α) (g : α → β) (hfg : ∀ x, f (g x) = x) : Opens P t (Kd.iso d f) (fun y => G (f y)) := fun H enc w base spare held fuel cs x hx => by
  obtain ⟨y, hy, hG⟩ := h H enc w base spare held fuel cs x hx
  refine ⟨g y, ?_, by show G (f (g y)); rw [hfg]; exact hG⟩
  show d.K w (f (g y)) cs
  rw [hfg]
  exact hy
theorem Opens.imp {α : Type} {P : Program} {t : TypeId} {d : Kd α} {G G2 : α → Prop} (h : Opens P t d G) (hi : ∀ x, G x → G2 x) : Opens P t d G2 := fun H enc w base spare held fuel cs x hx => by
  obtain ⟨y, hy, hG⟩ := h H enc w base spare held fuel cs x hx
  exact ⟨y, hy, hi y hG⟩
end Go.Proofs.Ytinkhlfmjfahpaa.PLoadKeeps
