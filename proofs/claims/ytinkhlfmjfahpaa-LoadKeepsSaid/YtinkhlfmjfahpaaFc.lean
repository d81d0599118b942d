/- The reference's distances: rounds over all arcs. -/
import Derived.Test.YtinkhlfmjfahpaaCi
import Derived.Great.Walk
import Derived.Great.BuildSlice
import Derived.Laws.Rows
import Derived.Deep.QuietTactic
import Derived.BigQuiet
namespace Go.Proofs.Ytinkhlfmjfahpaa.PLoadKeeps
open Go.RowKit Go.MapKept Go.Proofs.YtinkhlfmjfahpaaW.PrintWords Go.Proofs.YtinkhlfmjfahpaaW.PrintLast Go.Proofs.YtinkhlfmjfahpaaW.PrintMore
set_option linter.unusedVariables false
set_option linter.unusedSimpArgs false

/-- Distances: by nodes, and which are reached. -/
structure Dst where
  c : Nat → Int
  r : Nat → Bool
def Dst.zero : Dst := ⟨fun _ => 0, fun _ => false⟩
def DCells (cs : Array Value) (d : Dst) : Prop := cs.size = 130 ∧ ∀ i, i < 65 → cs[i]? = some (.int .u64 (d.c i)) ∧ cs[65 + i]? = some (.bool (d.r i))
def DBlk (w : World) (g : Nat) (d : Dst) : Prop := ∃ cs, w.heap[g]? = some (.cells cs 113 (0, 0)) ∧ DCells cs d
def Z113 : Array Value := (List.replicate 65 (Value.int .u64 0) ++ List.replicate 65 (Value.bool false)).toArray
theorem Z113_cells : DCells Z113 Dst.zero := by
  refine ⟨by simp [Z113], fun i hi => ?_⟩
  have h1 : (List.replicate 65 (Value.int .u64 0) ++ List.replicate 65 (Value.bool false))[i]? = some (.int .u64 0) := by
    rw [List.getElem?_append_left (by simpa using hi), List.getElem?_replicate, if_pos hi]
  have h2 : (List.replicate 65 (Value.int .u64 0) ++ List.replicate 65 (Value.bool false))[65 + i]? = some (.bool false) := by
    rw [List.getElem?_append_right (by simp), List.getElem?_replicate, if_pos (by simpa using hi)]
  exact ⟨by unfold Z113; rw [List.getElem?_toArray]; exact h1, by unfold Z113; rw [List.getElem?_toArray]; exact h2⟩
theorem DCells.one {cs : Array Value} {d : Dst} (h : DCells cs d) : cs.all (·.oneCell') = true := by
  rw [Array.all_eq_true]
  intro i hi
  by_cases h1 : i < 65
  · have := (h.2 i h1).1
    rw [Array.getElem?_eq_getElem hi] at this
    injection this with this
    rw [this]
    rfl
  · have h2 := (h.2 (i - 65) (by have := h.1; omega)).2
    rw [show 65 + (i - 65) = i by omega, Array.getElem?_eq_getElem hi] at h2
    injection h2 with h2
    rw [h2]
    rfl
theorem info113 : (Try.prog.info? 113).map (·.size) = some 130 := by kernel_rfl
theorem DBlk.lt {w : World} {g : Nat} {d : Dst} (h : DBlk w g d) : g < w.heap.size := by
  obtain ⟨cs, h1, _⟩ := h
  exact blk_lt h1
theorem DBlk.move {w w1 : World} {g : Nat} {d : Dst} (h : DBlk w g d) (hb : w1.heap[g]? = w.heap[g]?) : DBlk w1 g d := by
  obtain ⟨cs, h1, h2⟩ := h
  exact ⟨cs, hb.trans h1, h2⟩
theorem DBlk.below {w w1 : World} {g : Nat} {d : Dst} (h : DBlk w g d) (hb : Below w.heap.size w w1) : DBlk w1 g d := h.move (hb.block g h.lt)
theorem DBlk.cell {w : World} {g : Nat} {d : Dst} (h : DBlk w g d) (i : Nat) (hi : i < 65) : w.cell? ⟨g, i, none⟩ = some (.int .u64 (d.c i)) ∧ w.cell? ⟨g, 65 + i, none⟩ = some (.bool (d.r i)) ∧ w.frozen? ⟨g, i, none⟩ = false ∧ w.frozen? ⟨g, 65 + i, none⟩ = false := by
  obtain ⟨cs, h1, h2⟩ := h
  exact ⟨(blk_cell h1 i).trans (h2.2 i hi).1, (blk_cell h1 (65 + i)).trans (h2.2 i hi).2, blk_frozen h1 i, blk_frozen h1 (65 + i)⟩
theorem DBlk.setC {w : World} {g : Nat} {d : Dst} (h : DBlk w g d) (i : Nat) (hi : i < 65) (v : Int) : DBlk (w.setCell ⟨g, i, none⟩ (.int .u64 v)) g ⟨fun j => if j = i then v else d.c j, d.r⟩ := by
  obtain ⟨cs, h1, h2⟩ := h
  refine ⟨_, blk_set h1 i _, by simpa using h2.1, fun j hj => ⟨?_, ?_⟩⟩
  · rw [Array.getElem?_setIfInBounds]
    by_cases e : i = j
    · rw [if_pos e, if_pos (by rw [h2.1]; omega)]; simp [e]
    · rw [if_neg e]; simp [(h2.2 j hj).1, Ne.symm e]
  · rw [Array.getElem?_setIfInBounds, if_neg (by omega)]
    exact (h2.2 j hj).2
theorem DBlk.setR {w : World} {g : Nat} {d : Dst} (h : DBlk w g d) (i : Nat) (hi : i < 65) (v : Bool) : DBlk (w.setCell ⟨g, 65 + i, none⟩ (.bool v)) g ⟨d.c, fun j => if j = i then v else d.r j⟩ := by
  obtain ⟨cs, h1, h2⟩ := h
  refine ⟨_, blk_set h1 (65 + i) _, by simpa using h2.1, fun j hj => ⟨?_, ?_⟩⟩
  · rw [Array.getElem?_setIfInBounds, if_neg (by omega)]
    exact (h2.2 j hj).1
  · rw [Array.getElem?_setIfInBounds]
    by_cases e : i = j
    · subst e; rw [if_pos rfl, if_pos (by rw [h2.1]; omega)]; simp
    · rw [if_neg (by omega)]; simp [(h2.2 j hj).2, Ne.symm e]
theorem alloc113 (t : Tmp) (o : Oper) (a : Act) (w : World) (ho : o.op = .alloc 113) : (execOp a.eval o).run Try.prog w = .ok (.value (.pointer (some ⟨w.heap.size, 0, none⟩))) (w.alloc (.cells Z113 113)) := by
  unfold execOp
  rw [ho]
  kernel_rfl
theorem build113 (o : Oper) (a : Act) (w : World) (ho : o.op = .build 113 #[]) : (execOp a.eval o).run Try.prog w = .ok (.value (.agg Z113)) w := by
  unfold execOp
  rw [ho]
  kernel_rfl

def relax (s : Dst × Bool) (a : S31) : Dst × Bool :=
  let k := s.1.c a.f0.toNat + a.f2
  if s.1.r a.f0.toNat = true ∧ (s.1.r a.f1.toNat = false ∨ k < s.1.c a.f1.toNat) then (⟨fun i => if i = a.f1.toNat then k else s.1.c i, fun i => if i = a.f1.toNat then true else s.1.r i⟩, true) else s
def rnd (l : List S31) (d : Dst) : Dst × Bool := l.foldl relax (d, false)
def start (root : Int) : Dst := ⟨fun _ => 0, fun i => if i = root.toNat then true else false⟩
inductive BF (l : List S31) (root : Int) : Nat → Dst → Prop
  | start : BF l root 0 (start root)
  | next {k : Nat} {d : Dst} (h : BF l root k d) (ht : (rnd l d).2 = true) : BF l root (k + 1) (rnd l d).1
def BFEnd (l : List S31) (root : Int) (d : Dst) : Prop := ∃ k d0, BF l root k d0 ∧ (((rnd l d0).2 = false ∧ d = (rnd l d0).1) ∨ (k = 65 ∧ d = d0))
def FromPost (w : World) (l : List S31) (root : Int) (e : Ending) (w' : World) : Prop := ∃ cs d, e = .returned (.agg cs) ∧ DCells cs d ∧ BFEnd l root d ∧ Below w.heap.size w w'

def CB (c : Int) (d : Dst) : Prop := ∀ i, 0 ≤ d.c i ∧ d.c i ≤ c
theorem CB.relax {c : Int} {s : Dst × Bool} {a : S31} (h : CB c s.1) (h0 : 0 ≤ a.f2) (h1 : a.f2 ≤ 1073741824) : CB (c + 1073741824) (relax s a).1 := by
  unfold PLoadKeeps.relax
  simp only
  split
  · intro i
    simp only
    split
    · have := h a.f0.toNat; omega
    · have := h i; omega
  · intro i
    have := h i
    omega
theorem ref22_Add.same (a b : Int) (w : World) (h0 : 0 ≤ a) (h1 : a ≤ 1152921504606846976) (h2 : 0 ≤ b) (h3 : b ≤ 1152921504606846976) : Calls Try.prog 60 #[.int .u64 a, .int .u64 b] w fun e w' => e = .returned (.int .u64 (a + b)) ∧ w' = w := by
  have m1 : Int.tmod a 4294967296 = a % 4294967296 := Int.tmod_eq_emod_of_nonneg h0
  have m2 : Int.tmod b 4294967296 = b % 4294967296 := Int.tmod_eq_emod_of_nonneg h2
  have q1 : Int.tdiv a 4294967296 = a / 4294967296 := Int.tdiv_eq_ediv_of_nonneg h0
  have q2 : Int.tdiv b 4294967296 = b / 4294967296 := Int.tdiv_eq_ediv_of_nonneg h2
  obtain ⟨am, ham⟩ : ∃ x, x = a % 4294967296 := ⟨_, rfl⟩
  obtain ⟨bm, hbm⟩ : ∃ x, x = b % 4294967296 := ⟨_, rfl⟩
  obtain ⟨aq, haq⟩ : ∃ x, x = a / 4294967296 := ⟨_, rfl⟩
  obtain ⟨bq, hbq⟩ : ∃ x, x = b / 4294967296 := ⟨_, rfl⟩
  have e1 : a = 4294967296 * aq + am := by omega
  have e2 : b = 4294967296 * bq + bm := by omega
  rw [← ham] at m1; rw [← hbm] at m2; rw [← haq] at q1; rw [← hbq] at q2
  have b1 : 0 ≤ am ∧ am < 4294967296 := by omega
  have b2 : 0 ≤ bm ∧ bm < 4294967296 := by omega
  have b3 : 0 ≤ aq ∧ aq ≤ 268435456 := by omega
  have b4 : 0 ≤ bq ∧ bq ≤ 268435456 := by omega
  have w1 : IntKind.u64.wrap am = am := by unfold IntKind.wrap; simp [IntKind.bits, IntKind.signed]; omega
  have w2 : IntKind.u64.wrap bm = bm := by unfold IntKind.wrap; simp [IntKind.bits, IntKind.signed]; omega
  have w3 : IntKind.u64.wrap aq = aq := by unfold IntKind.wrap; simp [IntKind.bits, IntKind.signed]; omega
  have w4 : IntKind.u64.wrap bq = bq := by unfold IntKind.wrap; simp [IntKind.bits, IntKind.signed]; omega
  have w5 : IntKind.u64.wrap (am + bm) = am + bm := by unfold IntKind.wrap; simp [IntKind.bits, IntKind.signed]; omega
  have w6 : IntKind.u64.wrap (aq + bq) = aq + bq := by unfold IntKind.wrap; simp [IntKind.bits, IntKind.signed]; omega
  have q3 : Int.tdiv (am + bm) 4294967296 = (am + bm) / 4294967296 := Int.tdiv_eq_ediv_of_nonneg (by omega)
  have m3 : Int.tmod (am + bm) 4294967296 = (am + bm) % 4294967296 := Int.tmod_eq_emod_of_nonneg (by omega)
  obtain ⟨cq, hcq⟩ : ∃ x, x = (am + bm) / 4294967296 := ⟨_, rfl⟩
  obtain ⟨cm, hcm⟩ : ∃ x, x = (am + bm) % 4294967296 := ⟨_, rfl⟩
  rw [← hcq] at q3; rw [← hcm] at m3
  have b5 : 0 ≤ cq ∧ cq ≤ 1 := by omega
  have b6 : 0 ≤ cm ∧ cm < 4294967296 := by omega
  have e3 : am + bm = 4294967296 * cq + cm := by omega
  have w7 : IntKind.u64.wrap cq = cq := by unfold IntKind.wrap; simp [IntKind.bits, IntKind.signed]; omega
  have w8 : IntKind.u64.wrap (aq + bq + cq) = aq + bq + cq := by unfold IntKind.wrap; simp [IntKind.bits, IntKind.signed]; omega
  have w9 : IntKind.u64.wrap ((aq + bq + cq) * 4294967296) = (aq + bq + cq) * 4294967296 := by unfold IntKind.wrap; simp [IntKind.bits, IntKind.signed]; omega
  have w10 : IntKind.u64.wrap cm = cm := by unfold IntKind.wrap; simp [IntKind.bits, IntKind.signed]; omega
  have w11 : IntKind.u64.wrap ((aq + bq + cq) * 4294967296 + cm) = (aq + bq + cq) * 4294967296 + cm := by unfold IntKind.wrap; simp [IntKind.bits, IntKind.signed]; omega
  have d1 : decide (aq + bq + cq ≥ 4294967296) = false := by simp; omega
  have d2 : decide (4294967296 ≤ aq + bq + cq) = false := by simp; omega
  have hs : a + b = (aq + bq + cq) * 4294967296 + cm := by omega
  have HS := Aside0.mk hs
  rw [hs]
  clear hs e1 e2 e3 ham hbm haq hbq hcq hcm b1 b2 b3 b4 b5 b6 h0 h1 h2 h3
  go_enter Try.func60, Try.ntmps60
  go_wp2
  go_ret
  exact ⟨rfl, rfl⟩

end Go.Proofs.Ytinkhlfmjfahpaa.PLoadKeeps
