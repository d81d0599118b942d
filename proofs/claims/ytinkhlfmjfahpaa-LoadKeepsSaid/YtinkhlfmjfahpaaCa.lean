/- Words of this claim's own proofs: what a call may have changed; rows of structs laid flat; maps keyed by whole numbers. Words of this claim's own proofs: maps keyed by whole numbers, as functions. -/
import Derived.Test.YtinkhlfmjfahpaaPLoadKeepsx0
import Derived.Maps.AppendAt
import Derived.MapKept
import Derived.Maps.Own
import Derived.Maps.OwnOps
namespace Go.Proofs.Ytinkhlfmjfahpaa.PLoadKeeps
open Go.RowKit Go.Proofs.YtinkhlfmjfahpaaW.PrintWords Go.Proofs.YtinkhlfmjfahpaaW.PrintLast Go.Proofs.YtinkhlfmjfahpaaW.PrintMore
set_option linter.unusedVariables false

/-! ### frames -/
/-- All that may have changed of the blocks of w are those in S. -/
structure Chg (S : Nat → Prop) (w w' : World) : Prop where
  os : w'.os = w.os
  tape : w'.tape = w.tape
  output : w'.output = w.output
  size : w.heap.size ≤ w'.heap.size
  block : ∀ k, k < w.heap.size → ¬ S k → w'.heap[k]? = w.heap[k]?

theorem Chg.refl (S : Nat → Prop) (w : World) : Chg S w w := ⟨rfl, rfl, rfl, Nat.le_refl _, fun _ _ _ => rfl⟩
theorem Chg.trans {S S1 : Nat → Prop} {a b c : World} (h : Chg S a b) (k : Chg S1 b c) (hS : ∀ k, k < a.heap.size → S1 k → S k) : Chg S a c :=
  ⟨k.os.trans h.os, k.tape.trans h.tape, k.output.trans h.output, Nat.le_trans h.size k.size, fun i hi hn => (k.block i (Nat.lt_of_lt_of_le hi h.size) (fun hs => hn (hS i hi hs))).trans (h.block i hi hn)⟩
theorem Chg.mono {S S1 : Nat → Prop} {a b : World} (h : Chg S a b) (hS : ∀ k, k < a.heap.size → S k → S1 k) : Chg S1 a b :=
  ⟨h.os, h.tape, h.output, h.size, fun i hi hn => h.block i hi (fun hs => hn (hS i hi hs))⟩
theorem Chg.of_below {w w' : World} (h : Below w.heap.size w w') (S : Nat → Prop) : Chg S w w' := ⟨h.os, h.tape, h.output, h.size, fun k hk _ => h.block k hk⟩
theorem Chg.of_grown {w w' : World} {row : Option Nat} (h : w.grownBy w' row) : Chg (fun k => row = some k) w w' := ⟨h.os, h.tape, h.output, h.size, fun k hk hn => h.block k hk (fun e => hn e.symm)⟩
theorem Chg.below {S : Nat → Prop} {B : Nat} {w w' : World} (h : Chg S w w') (hB : B ≤ w.heap.size) (hS : ∀ k, S k → B ≤ k) : Below B w w' :=
  ⟨h.os, h.tape, h.output, h.size, fun k hk => h.block k (Nat.lt_of_lt_of_le hk hB) (fun hs => by have := hS k hs; omega)⟩
theorem Chg.setCell {S : Nat → Prop} (w : World) (p : Addr) (u : Value) (hp : S p.block) : Chg S w (w.setCell p u) :=
  ⟨rfl, rfl, rfl, by simp [World.setCell], fun k _ hn => Below.heap_setCell _ _ _ _ (fun e => hn (e ▸ hp))⟩
theorem Chg.alloc (S : Nat → Prop) (w : World) (o : Obj) : Chg S w (w.alloc o) := ⟨rfl, rfl, rfl, by simp, fun k hk _ => Below.heap_alloc _ _ _ hk⟩
theorem Chg.drew (S : Nat → Prop) (w : World) : Chg S w w.drew := ⟨rfl, rfl, rfl, Nat.le_refl _, fun _ _ _ => rfl⟩
theorem Chg.drewN (S : Nat → Prop) (w : World) (n : Nat) : Chg S w (w.drewN n) := ⟨rfl, rfl, rfl, Nat.le_refl _, fun _ _ _ => rfl⟩
theorem Chg.blk {S : Nat → Prop} {w w' : World} (h : Chg S w w') {k : Nat} {o : Obj} (hk : w.heap[k]? = some o) (hn : ¬ S k) : w'.heap[k]? = some o := (h.block k (blk_lt hk) hn).trans hk
theorem Chg.C {α : Type} {d : Kd α} {S : Nat → Prop} {B : Nat} {w0 w w' : World} {A : Option Addr} {n : Nat} {xs : List α} (hc : d.C w0 A n xs) (h0 : Below w0.heap.size w0 w) (h : Chg S w w') (hS : ∀ k, S k → w0.heap.size ≤ k) : d.C w' A n xs :=
  Kd.C_below hc (h0.trans (h.below h0.size hS))

/-! ### rows of structs whose cells are plain -/
section
variable {α : Type} (enc : α → List Value) (m : Nat)

/-- How a struct's cells are laid. -/
structure Lays : Prop where
  len : ∀ x, (enc x).length = m
  one : ∀ x, ∀ u ∈ enc x, u.oneCell' = true

variable {enc m}
theorem flat_length (h : Lays enc m) (xs : List α) : (xs.flatMap enc).length = xs.length * m := by
  induction xs with
  | nil => simp
  | cons x xs ih => simp [ih, h.len, Nat.add_mul, Nat.add_comm]
theorem flat_drop (h : Lays enc m) : ∀ (i : Nat) (xs : List α), (xs.flatMap enc).drop (i * m) = (xs.drop i).flatMap enc
  | 0, xs => by simp
  | i + 1, [] => by simp
  | i + 1, x :: xs => by
    rw [List.flatMap_cons, List.drop_succ_cons, ← flat_drop h i xs, show (i + 1) * m = (enc x).length + i * m by rw [h.len]; rw [Nat.add_mul]; omega, List.drop_append]
    simp
theorem flat_take (h : Lays enc m) : ∀ (i : Nat) (xs : List α), (xs.flatMap enc).take (i * m) = (xs.take i).flatMap enc
  | 0, xs => by simp
  | i + 1, [] => by simp
  | i + 1, x :: xs => by
    rw [List.flatMap_cons, List.take_succ_cons, List.flatMap_cons, ← flat_take h i xs, show (i + 1) * m = (enc x).length + i * m by rw [h.len]; rw [Nat.add_mul]; omega, List.take_append]
    rw [List.take_of_length_le (by omega)]
    simp
theorem flat_get (h : Lays enc m) (xs : List α) (z : α) (i j : Nat) (hi : i < xs.length) (hj : j < m) : (xs.flatMap enc)[i * m + j]? = (enc (xs.getD i z))[j]? := by
  have h1 := flat_drop h i xs
  have h2 : (xs.flatMap enc)[i * m + j]? = ((xs.flatMap enc).drop (i * m))[j]? := by rw [List.getElem?_drop]
  rw [h2, h1, List.drop_eq_getElem_cons hi, List.flatMap_cons, List.getElem?_append_left (by rw [h.len]; exact hj)]
  simp [List.getD, List.getElem?_eq_getElem hi]
theorem flat_set (h : Lays enc m) (xs : List α) (i : Nat) (x : α) (hi : i < xs.length) : (xs.set i x).flatMap enc = (xs.flatMap enc).take (i * m) ++ (enc x ++ (xs.flatMap enc).drop (i * m + m)) := by
  rw [flat_take h, show i * m + m = (i + 1) * m by rw [Nat.add_mul]; omega, flat_drop h, List.set_eq_take_append_cons_drop, if_pos hi, List.flatMap_append, List.flatMap_cons]

/-- A row of such structs, of the call's own. -/
def FRow (enc : α → List Value) (m : Nat) (e : TypeId) (w : World) (base : Nat) (v : Value) (xs : List α) : Prop := w.ownsRow base e m v xs.length (xs.flatMap enc)

variable {e : TypeId} {w w1 : World} {base : Nat} {v : Value} {xs : List α}
theorem FRow.nil (w : World) (base : Nat) : FRow enc m e w base (.slice none 0 0) [] := own_nil w base e m
theorem FRow.move (h : FRow enc m e w base v xs) (hm : ∀ k, v.ownBlock = some k → w1.heap[k]? = w.heap[k]?) : FRow enc m e w1 base v xs := own_move h hm
theorem FRow.below (h : FRow enc m e w base v xs) (hb : Below w.heap.size w w1) : FRow enc m e w1 base v xs := pw_own_below h hb
theorem FRow.lt (h : FRow enc m e w base v xs) {k : Nat} (hk : v.ownBlock = some k) : k < w.heap.size := own_lt h k hk
theorem FRow.ge (h : FRow enc m e w base v xs) {k : Nat} (hk : v.ownBlock = some k) : base ≤ k := own_base h k hk
theorem FRow.chg {S : Nat → Prop} (h : FRow enc m e w base v xs) (hc : Chg S w w1) (hn : ∀ k, v.ownBlock = some k → ¬ S k) : FRow enc m e w1 base v xs := h.move fun k hk => hc.block k (h.lt hk) (hn k hk)
theorem FRow.typed (h : FRow enc m e w base v xs) {k : Nat} (hk : v.ownBlock = some k) : ∃ cells, w.heap[k]? = some (.cells cells e (0, 0)) := own_typed h k hk
theorem FRow.ne_block (h : FRow enc m e w base v xs) {p t : Nat} {cs : Array Value} (hp : w.heap[p]? = some (.cells cs t (0, 0))) (ht : e ≠ t) : v.ownBlock ≠ some p := by
  intro hk
  obtain ⟨cells, hc⟩ := h.typed hk
  rw [hp] at hc
  injection hc with hc
  injection hc with _ hc
  exact ht hc.symm
theorem FRow.form (h : FRow enc m e w base v xs) (h0 : 0 < xs.length) : ∃ g cap, v = .slice (some ⟨g, 0, none⟩) xs.length cap ∧ xs.length ≤ cap := by
  rcases h.2 with ⟨_, h2⟩ | ⟨g, cap, cur, hv, _, _, hc, _⟩
  · omega
  · exact ⟨g, cap, hv, hc⟩
theorem FRow.slice (h : FRow enc m e w base v xs) : ∃ A cap, v = .slice A xs.length cap ∧ xs.length ≤ cap := by
  rcases h.2 with ⟨h1, h2⟩ | ⟨g, cap, cur, hv, _, _, hc, _⟩
  · exact ⟨none, 0, by rw [h1, h2], by omega⟩
  · exact ⟨_, cap, hv, hc⟩
theorem FRow.max (h : FRow enc m e w base v xs) : xs.length ≤ 9223372036854775807 := by
  rcases h.2 with ⟨h1, h2⟩ | ⟨g, cap, cur, hv, _, _, hc, hm, _⟩
  · omega
  · unfold maxLen at hm; omega
theorem FRow.cell {g cap : Nat} (hL : Lays enc m) (h : FRow enc m e w base (.slice (some ⟨g, 0, none⟩) xs.length cap) xs) (z : α) (i j : Nat) (hi : i < xs.length) (hj : j < m) :
    w.cell? ⟨g, i * m + j, none⟩ = (enc (xs.getD i z))[j]? ∧ w.frozen? ⟨g, i * m + j, none⟩ = false := by
  rcases h.2 with ⟨h1, h2⟩ | ⟨g', cap', cur, hv, _, hh, hc, hm, hs, ht⟩
  · cases h1
  · injection hv with ha _ hcap
    injection ha with ha
    injection ha with hg
    subst hg; subst hcap
    have hlt : i * m + j < xs.length * m := by
      have : (i + 1) * m ≤ xs.length * m := Nat.mul_le_mul_right m hi
      rw [Nat.add_mul] at this; omega
    refine ⟨?_, blk_frozen hh _⟩
    rw [blk_cell hh, ← flat_get hL xs z i j hi hj, ← ht, List.getElem?_take, if_pos hlt, Array.getElem?_toList]
theorem setCells_arr {g : Nat} {e : TypeId} : ∀ (vs : List Value) (o : Nat) (w : World) (cur : Array Value), w.heap[g]? = some (.cells cur e (0, 0)) → o + vs.length ≤ cur.size →
    ∃ cur', (w.setCells g o vs).heap[g]? = some (.cells cur' e (0, 0)) ∧ cur'.size = cur.size ∧ cur'.toList = cur.toList.take o ++ (vs ++ cur.toList.drop (o + vs.length))
  | [], o, w, cur, h, hs => ⟨cur, h, rfl, by simp⟩
  | v :: vs, o, w, cur, h, hs => by
    simp only [List.length_cons] at hs
    obtain ⟨cur', h1, h2, h3⟩ := setCells_arr vs (o + 1) (w.setCell ⟨g, o, none⟩ v) (cur.setIfInBounds o v) (blk_set h o v) (by simp; omega)
    refine ⟨cur', h1, by simpa using h2, ?_⟩
    rw [h3, Array.toList_setIfInBounds, List.take_set, List.drop_set_of_lt (by omega)]
    have ho : o < cur.toList.length := by simp; omega
    rw [List.take_succ_eq_append_getElem ho, List.set_append_right _ _ (by simp; omega), show o - (cur.toList.take o).length = 0 by simp; omega]
    simp [Nat.add_assoc, Nat.add_comm 1]
theorem FRow.set {g cap : Nat} (hL : Lays enc m) (h : FRow enc m e w base (.slice (some ⟨g, 0, none⟩) xs.length cap) xs) (i : Nat) (x : α) (hi : i < xs.length) :
    FRow enc m e (w.setCells g (i * m) (enc x)) base (.slice (some ⟨g, 0, none⟩) xs.length cap) (xs.set i x) := by
  rcases h.2 with ⟨h1, h2⟩ | ⟨g', cap', cur, hv, hb, hh, hc, hm, hs, ht⟩
  · cases h1
  · injection hv with ha _ hcap
    injection ha with ha
    injection ha with hg
    subst hg; subst hcap
    have hlt : i * m + m ≤ xs.length * m := by
      have : (i + 1) * m ≤ xs.length * m := Nat.mul_le_mul_right m hi
      rw [Nat.add_mul] at this; omega
    have hcm : xs.length * m ≤ cap * m := Nat.mul_le_mul_right m hc
    obtain ⟨cur', h1, h2, h3⟩ := setCells_arr (enc x) (i * m) w cur hh (by rw [hL.len, hs]; omega)
    refine ⟨by rw [flat_length hL], .inr ⟨g, cap, cur', by rw [List.length_set], hb, h1, by rw [List.length_set]; exact hc, hm, by rw [h2, hs], ?_⟩⟩
    rw [List.length_set, h3, flat_set hL xs i x hi, ← ht, hL.len]
    have hlen : cur.toList.length = cap * m := by simp [hs]
    rw [List.take_append, List.take_append, List.length_take, hlen, hL.len]
    rw [List.take_of_length_le (by rw [List.length_take, hlen]; omega), List.take_of_length_le (l := enc x) (by rw [hL.len]; omega)]
    congr 1
    · rw [List.take_take, Nat.min_eq_left (by omega)]
    · congr 1
      rw [List.drop_take]
      congr 1
      omega
theorem setCells_chg {S : Nat → Prop} {g : Nat} (hg : S g) : ∀ (vs : List Value) (o : Nat) (w : World), Chg S w (w.setCells g o vs)
  | [], _, w => Chg.refl S w
  | v :: vs, o, w => (Chg.setCell (S := S) w ⟨g, o, none⟩ v hg).trans (setCells_chg hg vs (o + 1) _) (fun _ _ h => h)
theorem FRow.take {A : Option Addr} {c n : Nat} (hL : Lays enc m) (h : FRow enc m e w base (.slice A xs.length c) xs) (hn : n ≤ xs.length) : FRow enc m e w base (.slice A n c) (xs.take n) := by
  have := own_take h hn
  unfold FRow
  rw [List.length_take, Nat.min_eq_left hn, ← flat_take hL]
  exact this
theorem FRow.C {A : Option Addr} {c : Nat} {d : Kd α} (hd : d.sz = m) (hK : ∀ w x, d.K w x (enc x)) (hL : Lays enc m) (h : FRow enc m e w base (.slice A xs.length c) xs) : d.C w A xs.length xs := by
  have hr : Reps (d.K w) m xs (xs.flatMap enc) := by
    refine ⟨flat_length hL xs, fun j p hj => ?_⟩
    obtain ⟨hl, rfl⟩ := List.getElem?_eq_some_iff.1 hj
    rw [flat_drop hL, List.drop_eq_getElem_cons hl, List.flatMap_cons, List.take_append_of_le_length (by rw [hL.len]; exact Nat.le_refl _), List.take_of_length_le (by rw [hL.len]; exact Nat.le_refl _)]
    exact hK w _
  obtain ⟨A', c', he, hl, hC⟩ := OwnRow.reads (R := d.K w) (size := m) (ps := xs) ⟨_, h, hr⟩
  injection he with ha
  subst ha
  show ReadsRow (d.K w) d.sz w A xs.length xs
  rw [hd]
  exact hC
end
/-! ### an append of one struct, as a step of a region and in a list -/
section
variable {P : Program} {ops : Array Oper} {o : Oper} {a : Act} {Q : Exit → Act → World → Prop} {K : Act → World → Prop} {rest : List Oper}
theorem step_append_flat {α : Type} {enc : α → List Value} {size : Nat} (hL : Lays enc size) {W : World} (base : Nat) (hw : Region.wanted o (yielded ops a.tmps) = true) (s x : Operand) (t e : TypeId) (z : Value) (bytes : Nat)
    (ho : o.op = .call { callee := .builtin .append, args := #[s, x], argTypes := #[t, t] })
    (ht : P.underlying t = some (.slice e)) (hinfo : (P.info? e).map (fun i => (i.zero, i.size, i.bytes)) = some (some z, size, bytes)) (hz : z.cells.size = size) (hs0 : 0 < size) (hb0 : 0 < bytes)
    (v : Value) (xs : List α) (y : α) (g : Nat) (hs : a.eval s = v) (hx : a.eval x = .slice (some ⟨g, 0, none⟩) 1 1) (hg : W.heap[g]? = some (.cells (enc y).toArray e (0, 0)))
    (HO : FRow enc size e W base v xs) (hbase : base ≤ W.heap.size) (hl : (xs.length + 1) * bytes ≤ 140737488355328)
    (h : ∀ v1 w1, FRow enc size e w1 base v1 (xs ++ [y]) → W.grownBy w1 v.ownBlock → (v1.ownBlock = v.ownBlock ∨ v1.ownBlock = some W.heap.size) → K (a.put o.dst v1) w1) :
    if Region.wanted o (yielded ops a.tmps) = true then Oper.wp P o a W K Q else K (a.put o.dst undef) W := by
  obtain ⟨i0, hi, hzz⟩ := Option.map_eq_some_iff.1 hinfo
  simp only [Prod.mk.injEq] at hzz
  obtain ⟨hz0, hz1, hz2⟩ := hzz
  have hlen : xs.length + 1 ≤ 140737488355328 := Nat.le_trans (Nat.le_mul_of_pos_right _ hb0) hl
  rw [if_pos hw]
  obtain ⟨v1, w1, hr, hown, hgr, _, hat⟩ := run_append_own_at (P := P) W base t o.type e i0 z size bytes ht hi hz0 hz1 hz2 hz hs0 v xs.length (xs.flatMap enc) HO ⟨g, 0, none⟩ 1 1 (enc y) (by rw [hL.len]; simp)
    (by simpa using World.news_of_block (cs := (enc y).toArray) (t := e) (fr := (0, 0)) hg) (hL.one y) (by simp only [maxLen]; omega) hl hbase
  unfold Oper.wp execOp
  simp only [ho, resolve, invoke, builtin, Sem.run_bind, Sem.run_pure, Result.andThen_ok, List.map_toArray, List.map_cons, List.map_nil, hs, hx, hr]
  exact h v1 w1 (by unfold FRow; rw [List.length_append, List.flatMap_append]; simpa using hown) hgr hat
theorem wpList_append_flat {α : Type} {enc : α → List Value} {size : Nat} (hL : Lays enc size) {W : World} (base : Nat) (hgd : o.guard = none) (s x : Operand) (t e : TypeId) (z : Value) (bytes : Nat)
    (ho : o.op = .call { callee := .builtin .append, args := #[s, x], argTypes := #[t, t] })
    (ht : P.underlying t = some (.slice e)) (hinfo : (P.info? e).map (fun i => (i.zero, i.size, i.bytes)) = some (some z, size, bytes)) (hz : z.cells.size = size) (hs0 : 0 < size) (hb0 : 0 < bytes)
    (v : Value) (xs : List α) (y : α) (g : Nat) (hs : a.eval s = v) (hx : a.eval x = .slice (some ⟨g, 0, none⟩) 1 1) (hg : W.heap[g]? = some (.cells (enc y).toArray e (0, 0)))
    (HO : FRow enc size e W base v xs) (hbase : base ≤ W.heap.size) (hl : (xs.length + 1) * bytes ≤ 140737488355328)
    (h : ∀ v1 w1, FRow enc size e w1 base v1 (xs ++ [y]) → W.grownBy w1 v.ownBlock → (v1.ownBlock = v.ownBlock ∨ v1.ownBlock = some W.heap.size) → wpList P ops Q rest (a.put o.dst v1) w1) :
    wpList P ops Q (o :: rest) a W := by
  refine wpList_plain hgd fun K hK => ?_
  have hw : Region.wanted o (yielded ops a.tmps) = true := by simp [Region.wanted, hgd]
  have := step_append_flat (P := P) (ops := ops) (Q := Q) (K := K) hL base hw s x t e z bytes ho ht hinfo hz hs0 hb0 v xs y g hs hx hg HO hbase hl (fun v1 w1 h1 h2 h3 => hK _ _ (h v1 w1 h1 h2 h3))
  rwa [if_pos hw] at this
end
end Go.Proofs.Ytinkhlfmjfahpaa.PLoadKeeps

namespace Go.Proofs.Ytinkhlfmjfahpaa.PLoadKeeps
open Go.RowKit Go.MapKept Go.Proofs.YtinkhlfmjfahpaaW.PrintWords Go.Proofs.YtinkhlfmjfahpaaW.PrintLast Go.Proofs.YtinkhlfmjfahpaaW.PrintMore
set_option linter.unusedVariables false
set_option linter.unusedSimpArgs false

/-- Block b is a map whose keys are whole numbers: f says what it has. -/
def IMap (w : World) (b : Nat) (f : Int → Option Value) : Prop :=
  ∃ es clock, w.heap[b]? = some (.map es clock) ∧ Stamped es clock ∧ (∀ x ∈ es.toList, ∃ k, x.key = .int .i64 k) ∧ ∀ k v, f k = some v ↔ ∃ e ∈ es.toList, e.key = .int .i64 k ∧ e.val = v

theorem IMap.lt {w : World} {b : Nat} {f : Int → Option Value} (h : IMap w b f) : b < w.heap.size := by
  obtain ⟨es, clock, hb, _⟩ := h
  exact blk_lt hb
theorem IMap.move {w w1 : World} {b : Nat} {f : Int → Option Value} (h : IMap w b f) (hb : w1.heap[b]? = w.heap[b]?) : IMap w1 b f := by
  obtain ⟨es, clock, h1, h2⟩ := h
  exact ⟨es, clock, hb.trans h1, h2⟩
theorem IMap.below {w w1 : World} {b : Nat} {f : Int → Option Value} (h : IMap w b f) (hb : Below w.heap.size w w1) : IMap w1 b f := h.move (hb.block b h.lt)
theorem IMap.chg {S : Nat → Prop} {w w1 : World} {b : Nat} {f : Int → Option Value} (h : IMap w b f) (hc : Chg S w w1) (hn : ¬ S b) : IMap w1 b f := h.move (hc.block b h.lt hn)
theorem IMap.made (w : World) : IMap (w.alloc (.map #[] 0)) w.heap.size (fun _ => none) :=
  ⟨#[], 0, heap_alloc_new _ _, stamped_empty 0, by simp, by simp⟩
theorem IMap.ne_cells {w : World} {b p : Nat} {f : Int → Option Value} {cs : Array Value} {t : TypeId} (h : IMap w b f) (hp : w.heap[p]? = some (.cells cs t (0, 0))) : b ≠ p := by
  obtain ⟨es, clock, h1, _⟩ := h
  rintro rfl
  rw [hp] at h1
  cases h1

/-- The entry that a look-up finds. -/
theorem IMap.find {w : World} {b : Nat} {f : Int → Option Value} {es : Array MapEntry} {clock : Nat} (hS : Stamped es clock) (hK : ∀ x ∈ es.toList, ∃ k, x.key = .int .i64 k)
    (hf : ∀ k v, f k = some v ↔ ∃ e ∈ es.toList, e.key = .int .i64 k ∧ e.val = v) (k : Int) :
    (Instr.findNow (.int .i64) (.int .i64 k) es.toList 0 = some none ∧ f k = none ∧ ∀ x ∈ es.toList, x.key ≠ .int .i64 k) ∨
    ∃ j e, Instr.findNow (.int .i64) (.int .i64 k) es.toList 0 = some (some (j, e.val)) ∧ es.toList[j]? = some e ∧ e.key = .int .i64 k ∧ f k = some e.val := by
  rcases findNow_spec (d := .int .i64) (k := .int .i64 k) rfl es.toList 0 (fun x hx => by obtain ⟨q, hq⟩ := hK x hx; rw [hq]; rfl) with ⟨h1, h2⟩ | ⟨j, e, h1, h2, h3⟩
  · refine .inl ⟨h1, ?_, h2⟩
    cases hk : f k with
    | none => rfl
    | some v =>
      obtain ⟨e, he, hek, _⟩ := (hf k v).1 hk
      exact absurd hek (h2 e he)
  · exact .inr ⟨j, e, by simpa using h1, h2, h3, (hf k e.val).2 ⟨e, List.mem_of_getElem? h2, h3, rfl⟩⟩

section
variable {P : Program} {T K E : TypeId}
theorem IMap.lookup {w : World} {b : Nat} {f : Int → Option Value} (h : IMap w b f) (hT : P.underlying T = some (.map K E)) (hKt : P.underlying K = some (.int .i64)) (z : Value) (hz : ∀ w, (zeroValue E).run P w = .ok z w) (k : Int) (ok : Bool) :
    (Instr.lookup T (.map (some b)) (.int .i64 k) ok).run P w = .ok (if ok then .tuple #[(f k).getD z, .bool (f k).isSome] else (f k).getD z) w := by
  obtain ⟨es, clock, hb, hS, hK, hf⟩ := h
  have hck : ∀ e, (Instr.checkKey e 10000 K (.int .i64 k)).run P w = .ok () w := fun e => Go.MapKept.run_checkKey (P := P) (w := w) (kt := K) (d := .int .i64) (k := .int .i64 k) hKt rfl e 9999
  unfold Instr.lookup
  rcases IMap.find (w := w) (b := b) hS hK hf k with ⟨h1, h2, _⟩ | ⟨j, e, h1, _, _, h2⟩
  · have hfk := Go.MapKept.run_findKey (P := P) (w := w) (kt := K) (d := .int .i64) hKt h1
    cases ok <;> simp [run_underlying hT, Go.MapKept.run_getObj_map hb, Result.andThen, hck, hfk, hz, h2]
  · have hfk := Go.MapKept.run_findKey (P := P) (w := w) (kt := K) (d := .int .i64) hKt h1
    cases ok <;> simp [run_underlying hT, Go.MapKept.run_getObj_map hb, Result.andThen, hck, hfk, hz, h2]

/-- What a map has behind a store. -/
def put (f : Int → Option Value) (k : Int) (v : Value) : Int → Option Value := fun j => if j = k then some v else f j

theorem IMap.update {w : World} {b : Nat} {f : Int → Option Value} (h : IMap w b f) (hT : P.underlying T = some (.map K E)) (hKt : P.underlying K = some (.int .i64)) (k : Int) (v : Value) :
    ∃ o, (Instr.mapUpdate T (.map (some b)) (.int .i64 k) v).run P w = .ok () { w with heap := w.heap.setIfInBounds b o } ∧ IMap { w with heap := w.heap.setIfInBounds b o } b (put f k v) ∧ Chg (fun j => j = b) w { w with heap := w.heap.setIfInBounds b o } := by
  obtain ⟨es, clock, hb, hS, hK, hf⟩ := h
  have hck : ∀ e, (Instr.checkKey e 10000 K (.int .i64 k)).run P w = .ok () w := fun e => Go.MapKept.run_checkKey (P := P) (w := w) (kt := K) (d := .int .i64) (k := .int .i64 k) hKt rfl e 9999
  have hchg : ∀ o, Chg (fun j => j = b) w { w with heap := w.heap.setIfInBounds b o } := fun o =>
    ⟨rfl, rfl, rfl, by simp, fun j _ hn => (heap_set (o' := o) hb).2 j hn⟩
  rcases IMap.find (w := w) (b := b) hS hK hf k with ⟨h1, h2, h3⟩ | ⟨j, e, h1, hj, hek, h2⟩
  · have hfk := Go.MapKept.run_findKey (P := P) (w := w) (kt := K) (d := .int .i64) hKt h1
    refine ⟨.map (es.push { key := .int .i64 k, val := v, born := clock }) (clock + 1), ?_, ⟨_, _, (heap_set hb).1, stamped_push hS h3, ?_, ?_⟩, hchg _⟩
    · unfold Instr.mapUpdate
      simp [run_underlying hT, Go.MapKept.run_getObj_map hb, Result.andThen, hck, hfk, Go.MapKept.run_setObj_map _ hb]
    · intro x hx
      simp only [Array.toList_push, List.mem_append, List.mem_singleton] at hx
      rcases hx with hx | rfl
      · exact hK x hx
      · exact ⟨k, rfl⟩
    · intro k' v'
      simp only [Array.toList_push, List.mem_append, List.mem_singleton, put]
      by_cases hk : k' = k
      · subst hk
        rw [if_pos rfl]
        constructor
        · intro he; exact ⟨_, .inr rfl, rfl, by simpa using he⟩
        · rintro ⟨x, hx | rfl, hxk, rfl⟩
          · exact absurd hxk (h3 x hx)
          · rfl
      · rw [if_neg hk, hf]
        constructor
        · rintro ⟨x, hx, h4, h5⟩; exact ⟨x, .inl hx, h4, h5⟩
        · rintro ⟨x, hx | rfl, h4, h5⟩
          · exact ⟨x, hx, h4, h5⟩
          · exact absurd (by injection h4 with _ h4; exact h4.symm) hk
  · have hfk := Go.MapKept.run_findKey (P := P) (w := w) (kt := K) (d := .int .i64) hKt h1
    have hje : es[j]? = some e := by rw [← Array.getElem?_toList]; exact hj
    have hst := Go.MapKept.run_keyThatStays (P := P) (w := w) (d := .int .i64) (k := .int .i64 k) rfl
    have hmod : ∀ x, x ∈ (es.modify j fun e => { e with key := .int .i64 k, val := v }).toList → (x = { e with key := .int .i64 k, val := v }) ∨ (x ∈ es.toList ∧ x.key ≠ .int .i64 k) := by
      intro x hx
      obtain ⟨i, hi⟩ := List.mem_iff_getElem?.1 hx
      rw [Array.getElem?_toList, Array.getElem?_modify] at hi
      by_cases hij : j = i
      · subst hij
        rw [if_pos rfl, hje] at hi
        exact .inl (by simpa using hi.symm)
      · rw [if_neg hij] at hi
        refine .inr ⟨List.mem_of_getElem? (by rw [Array.getElem?_toList]; exact hi), fun hk => hij ?_⟩
        have hn := hS.2.2
        have hp := List.pairwise_iff_getElem.1 hn
        have hi' := (Array.getElem?_eq_some_iff.1 hi).1
        have hj' := (Array.getElem?_eq_some_iff.1 hje).1
        have g1 : es[i] = x := (Array.getElem?_eq_some_iff.1 hi).2
        have g2 : es[j] = e := (Array.getElem?_eq_some_iff.1 hje).2
        rcases Nat.lt_trichotomy i j with hlt | heq | hgt
        · have := hp i j (by simpa using hi') (by simpa using hj') hlt
          simp [g1, g2, hk, hek] at this
        · exact heq.symm
        · have := hp j i (by simpa using hj') (by simpa using hi') hgt
          simp [g1, g2, hk, hek] at this
    refine ⟨.map (es.modify j fun e => { e with key := .int .i64 k, val := v }) clock, ?_, ⟨_, _, (heap_set hb).1, stamped_modify hS j _ (fun _ _ => rfl) (fun x _ hx => ?_), ?_, ?_⟩, hchg _⟩
    · unfold Instr.mapUpdate
      simp [run_underlying hT, Go.MapKept.run_getObj_map hb, Result.andThen, hck, hfk, Go.MapKept.run_setObj_map _ hb, hje, hek, hst]
    · rw [hje] at hx; injection hx with hx; subst hx; exact hek.symm
    · intro x hx
      rcases hmod x hx with rfl | ⟨hx, _⟩
      · exact ⟨k, rfl⟩
      · exact hK x hx
    · intro k' v'
      simp only [put]
      have hnew : ({ e with key := .int .i64 k, val := v } : MapEntry) ∈ (es.modify j fun e => { e with key := .int .i64 k, val := v }).toList := by
        refine List.mem_of_getElem? (i := j) ?_
        rw [Array.getElem?_toList, Array.getElem?_modify, if_pos rfl, hje]
        rfl
      by_cases hk : k' = k
      · subst hk
        rw [if_pos rfl]
        constructor
        · intro he; exact ⟨_, hnew, rfl, by simpa using he⟩
        · rintro ⟨x, hx, hxk, rfl⟩
          rcases hmod x hx with rfl | ⟨_, h6⟩
          · rfl
          · exact absurd hxk h6
      · rw [if_neg hk, hf]
        constructor
        · rintro ⟨x, hx, h4, h5⟩
          refine ⟨x, ?_, h4, h5⟩
          obtain ⟨i, hi⟩ := List.mem_iff_getElem?.1 hx
          refine List.mem_of_getElem? (i := i) ?_
          rw [Array.getElem?_toList, Array.getElem?_modify]
          by_cases hij : j = i
          · subst hij
            rw [hj] at hi; injection hi with hi; subst hi
            rw [hek] at h4
            exact absurd (by injection h4 with _ h4; exact h4.symm) hk
          · rw [if_neg hij, ← Array.getElem?_toList]; exact hi
        · rintro ⟨x, hx, h4, h5⟩
          rcases hmod x hx with rfl | ⟨h6, _⟩
          · exact absurd (by injection h4 with _ h4; exact h4.symm) hk
          · exact ⟨x, h6, h4, h5⟩
theorem IMap.store {w : World} {b : Nat} {f : Int → Option Value} (h : IMap w b f) (hT : P.underlying T = some (.map K E)) (hKt : P.underlying K = some (.int .i64)) (k : Int) (v : Value) :
    ∃ w', (Instr.mapUpdate T (.map (some b)) (.int .i64 k) v).run P w = .ok () w' ∧ IMap w' b (put f k v) ∧ Chg (fun j => j = b) w w' := by
  obtain ⟨o, h1, h2, h3⟩ := h.update hT hKt k v
  exact ⟨_, h1, h2, h3⟩
end
end Go.Proofs.Ytinkhlfmjfahpaa.PLoadKeeps
