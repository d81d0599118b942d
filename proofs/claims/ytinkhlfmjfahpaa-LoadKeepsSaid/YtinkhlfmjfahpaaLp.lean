/- A range over a map that is keyed by pairs. -/
import Derived.Test.YtinkhlfmjfahpaaLw
import Derived.Maps.RangeRun
namespace Go.Proofs.Ytinkhlfmjfahpaa.PLoadKeeps
open Go.RowKit Go.MapKept Go.Proofs.YtinkhlfmjfahpaaW.PrintWords Go.Proofs.YtinkhlfmjfahpaaW.PrintLast Go.Proofs.YtinkhlfmjfahpaaW.PrintMore
set_option linter.unusedVariables false
set_option linter.unusedSimpArgs false

def mkArc (e : (Int × Int) × Int) : S31 := ⟨e.1.1, e.1.2, e.2⟩
def arcV (kv : Value × Value) : S31 :=
  match kv with
  | (.agg cs, .int _ n) => match cs.toList with
    | [.int _ a, .int _ b] => ⟨a, b, n⟩
    | _ => z31
  | _ => z31
def arcE (x : MapEntry) : S31 := arcV (x.key, x.val)
/-- A range under way: what has come, and how many entries are left. -/
def PRng (w : World) (mb r : Nat) (E : PE) (out : List S31) (cnt : Nat) : Prop :=
  ∃ (es : Array MapEntry) (clock : Nat) (seen : Array Nat) (acc : List MapEntry), w.heap[mb]? = some (.map es clock) ∧ Stamped es clock ∧ es.toList.map (fun x => (x.key, x.val)) = E.map (fun e => (pk e.1, .int .i64 e.2)) ∧
    w.heap[r]? = some (.mapIter (some mb) clock seen clock) ∧ (leftOf es seen).size = cnt ∧ acc.Perm (es.toList.filter (fun x => seen.contains x.born)) ∧ out = acc.map arcE
theorem PRng.move {w w1 : World} {mb r : Nat} {E : PE} {out : List S31} {cnt : Nat} (h : PRng w mb r E out cnt) (h1 : w1.heap[mb]? = w.heap[mb]?) (h2 : w1.heap[r]? = w.heap[r]?) : PRng w1 mb r E out cnt := by
  obtain ⟨es, clock, seen, acc, a1, a2, a3, a4, a5⟩ := h
  exact ⟨es, clock, seen, acc, h1.trans a1, a2, a3, h2.trans a4, a5⟩
theorem PRng.ltm {w : World} {mb r : Nat} {E : PE} {out : List S31} {cnt : Nat} (h : PRng w mb r E out cnt) : mb < w.heap.size ∧ r < w.heap.size := by
  obtain ⟨es, clock, seen, acc, a1, a2, a3, a4, a5⟩ := h
  exact ⟨blk_lt a1, blk_lt a4⟩
theorem PRng.below {w w1 : World} {mb r : Nat} {E : PE} {out : List S31} {cnt : Nat} (h : PRng w mb r E out cnt) (hb : Below w.heap.size w w1) : PRng w1 mb r E out cnt := h.move (hb.block _ h.ltm.1) (hb.block _ h.ltm.2)
theorem PRng.ne_cells {w : World} {mb r p : Nat} {E : PE} {out : List S31} {cnt : Nat} {cs : Array Value} {t : TypeId} (h : PRng w mb r E out cnt) (hp : w.heap[p]? = some (.cells cs t (0, 0))) : mb ≠ p ∧ r ≠ p := by
  obtain ⟨es, clock, seen, acc, a1, a2, a3, a4, a5⟩ := h
  constructor
  · rintro rfl; rw [hp] at a1; cases a1
  · rintro rfl; rw [hp] at a4; cases a4
theorem PMap.range {w : World} {mb : Nat} {E : PE} (h : PMap w mb E) : ∃ w' n, (Instr.range 46 (.map (some mb))).run Try.prog w = .ok (.pointer (some ⟨w.heap.size, 0, none⟩)) w' ∧ PRng w' mb w.heap.size E [] n ∧ Below w.heap.size w w' ∧ n ≤ E.length := by
  have hlt := h.lt
  obtain ⟨es, clock, hb, hS, hE, hk⟩ := h
  have hl : es.size = E.length := by have := congrArg List.length hE; simpa using this
  refine ⟨_, (leftOf es #[]).size, run_range_map w 46 49 3 mb es clock Try.underlying46 hb, ⟨es, clock, #[], [], blk_alloc hb _, hS, hE, heap_alloc_new _ _, rfl, by simp, rfl⟩, below_alloc (Below.refl _ _) _, ?_⟩
  rw [← hl]
  exact Array.size_filter_le
theorem bump_len (E : PE) (p : Int × Int) (v : Int) : (bump E p v).length ≤ E.length + 1 := by
  unfold bump
  split <;> simp
theorem arcE_mem {es : Array MapEntry} {E : PE} (hE : es.toList.map (fun x => (x.key, x.val)) = E.map (fun e => (pk e.1, Value.int .i64 e.2))) {x : MapEntry} (hx : x ∈ es.toList) : ∃ e ∈ E, x.key = pk e.1 ∧ x.val = .int .i64 e.2 ∧ arcE x = mkArc e := by
  have h1 : (x.key, x.val) ∈ E.map (fun e => (pk e.1, Value.int .i64 e.2)) := hE ▸ List.mem_map_of_mem (f := fun x : MapEntry => (x.key, x.val)) hx
  obtain ⟨e, he, h2⟩ := List.mem_map.1 h1
  injection h2 with h2 h3
  refine ⟨e, he, h2.symm, h3.symm, ?_⟩
  unfold arcE
  rw [← h2, ← h3]
  rfl
theorem PRng.next {w : World} {mb r : Nat} {E : PE} {out : List S31} {cnt : Nat} (h : PRng w mb r E out cnt) :
    ((∀ ty, (Instr.next (.pointer (some ⟨r, 0, none⟩)) false ty).run Try.prog w = .ok (.tuple #[.bool false]) w) ∧ out.Perm (E.map mkArc)) ∨
    ∃ e ∈ E, ∃ w' cnt', (∀ ty, (Instr.next (.pointer (some ⟨r, 0, none⟩)) false ty).run Try.prog w = .ok (.tuple #[.bool true, .agg #[.int .i64 e.1.1, .int .i64 e.1.2], .int .i64 e.2]) w') ∧ PRng w' mb r E (out ++ [mkArc e]) cnt' ∧ cnt' < cnt ∧ Chg (fun i => i = r) w w' ∧
      (Instr.entry (.pointer (some ⟨r, 0, none⟩))).run Try.prog w' = .ok (.tuple #[.agg #[.int .i64 e.1.1, .int .i64 e.1.2], .int .i64 e.2]) w' := by
  obtain ⟨es, clock, seen, acc, hb, hS, hE, hr, rfl, hacc, rfl⟩ := h
  rcases run_next_at (P := Try.prog) w 0 r mb clock clock seen es clock hr hb hS.1 (Nat.le_refl _) with ⟨h0, hrun⟩ | ⟨e, he, w1, hal, hrun⟩
  · refine .inl ⟨fun ty => hrun, ?_⟩
    have hall := all_seen es seen h0
    have hf : es.toList.filter (fun x => seen.contains x.born) = es.toList := List.filter_eq_self.2 hall
    rw [hf] at hacc
    refine (hacc.map arcE).trans ?_
    have e1 : es.toList.map arcE = (es.toList.map (fun x => (x.key, x.val))).map arcV := by rw [List.map_map]; rfl
    rw [e1, hE, List.map_map]
    exact List.Perm.refl _
  · obtain ⟨hem, hes⟩ := mem_left he
    obtain ⟨x, hx, hk, hv, ha⟩ := arcE_mem hE hem
    have hr1 : w1.heap[r]? = some (.mapIter (some mb) clock seen clock) := by rcases hal with rfl | rfl <;> exact hr
    have hb1 : w1.heap[mb]? = some (.map es clock) := by rcases hal with rfl | rfl <;> exact hb
    have hne : mb ≠ r := by rintro rfl; rw [hb] at hr; cases hr
    have hset := heap_set (o' := .mapIter (some mb) clock (seen.push e.born) clock) hr1
    have hb' : (Go.ChangeMaps.setBlock w1 r (.mapIter (some mb) clock (seen.push e.born) clock)).heap[mb]? = some (.map es clock) := (hset.2 mb hne).trans hb1
    have hst := (stamped_iff es clock).1 hS
    refine .inr ⟨x, hx, Go.ChangeMaps.setBlock w1 r (.mapIter (some mb) clock (seen.push e.born) clock), (leftOf es (seen.push e.born)).size, fun ty => ?_, ⟨es, clock, seen.push e.born, acc ++ [e], hb', hS, hE, hset.1, rfl, ?_, by rw [List.map_append, ← ha]; rfl⟩, left_shrinks es seen e he, ?_, ?_⟩
    · have := hrun
      rw [hk, hv] at this
      exact this
    · have hnd : es.toList.Nodup := List.Pairwise.imp (fun {a b} h1 h2 => h1 (by rw [h2])) hst.2.2
      have h1 : (es.toList.filter (fun x => (seen.push e.born).contains x.born)).Perm (e :: es.toList.filter (fun x => seen.contains x.born)) := by
        refine (List.perm_ext_iff_of_nodup (hnd.filter _) (List.nodup_cons.2 ⟨?_, hnd.filter _⟩)).2 fun y => ?_
        · rw [List.mem_filter]
          rintro ⟨_, h2⟩
          rw [hes] at h2
          cases h2
        · rw [List.mem_cons, List.mem_filter, List.mem_filter, contains_push, Bool.or_eq_true]
          constructor
          · rintro ⟨h2, h3 | h3⟩
            · exact .inr ⟨h2, h3⟩
            · exact .inl (born_inj hst.2.1 h2 hem (by simpa using h3))
          · rintro (rfl | ⟨h2, h3⟩)
            · exact ⟨hem, .inr (by simp)⟩
            · exact ⟨h2, .inl h3⟩
      exact (List.perm_append_singleton e acc).trans ((hacc.cons e).trans h1.symm)
    · have hc : ∀ W : World, W.heap[r]? = some (.mapIter (some mb) clock seen clock) → Chg (fun i => i = r) W (Go.ChangeMaps.setBlock W r (.mapIter (some mb) clock (seen.push e.born) clock)) := fun W hW =>
        ⟨rfl, rfl, rfl, by simp [Go.ChangeMaps.setBlock], fun i _ hi => (heap_set hW).2 i hi⟩
      rcases hal with rfl | rfl
      · exact hc _ hr1
      · exact (Chg.drew _ w).trans (hc _ hr1) (fun _ _ h => h)
    · have := run_entry_at (P := Try.prog) _ r mb clock seen es clock e hset.1 hb' hem hst.2.1
      rw [hk, hv] at this
      exact this
end Go.Proofs.Ytinkhlfmjfahpaa.PLoadKeeps
