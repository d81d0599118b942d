/- Contracts of the heap's functions. Contracts of the heap's functions that write. The heap's Take and New. The heap's Take of nothing, and New. -/
import Derived.Test.YtinkhlfmjfahpaaPa
import Derived.Test.YtinkhlfmjfahpaaCa
import Derived.BigRegion
import Derived.Handy
import Derived.Outline
import Derived.StillTailTactics
import Derived.Deep.DeepFit
import Derived.Deep.RegionLaw
import Derived.Deep.DeepCutAuto
import Derived.Deep.AppendLies
namespace Go.Proofs.Ytinkhlfmjfahpaa.PLoadKeeps
open Go.RowKit Go.Proofs.YtinkhlfmjfahpaaW.PrintWords Go.Proofs.YtinkhlfmjfahpaaW.PrintLast Go.Proofs.YtinkhlfmjfahpaaW.PrintMore
set_option linter.unusedVariables false
set_option linter.unusedSimpArgs false

/-- One cell behind a pointer. -/
def Ptr1 (w : World) (p : Nat) (t : TypeId) (v : Value) : Prop := w.heap[p]? = some (.cells #[v] t (0, 0))

def enc94 (x : S94) : List Value := [.int .u64 x.f0, .int .i64 x.f1]
theorem lays94 : Lays enc94 2 := ⟨fun _ => rfl, fun x u hu => by simp [enc94] at hu; rcases hu with rfl | rfl <;> rfl⟩
/-- A spot of a list. -/
def sp (xs : List S94) (i : Nat) : S94 := xs.getD i z94
abbrev Spots (w : World) (base : Nat) (v : Value) (xs : List S94) : Prop := FRow enc94 2 94 w base v xs

theorem spot_at {w : World} {base g c : Nat} {xs : List S94} (h : Spots w base (.slice (some ⟨g, 0, none⟩) xs.length c) xs) (i : Nat) (hi : i < xs.length) :
    w.cell? ⟨g, i * 2, none⟩ = some (.int .u64 (sp xs i).f0) ∧ w.cell? ⟨g, i * 2 + 1, none⟩ = some (.int .i64 (sp xs i).f1) ∧ w.frozen? ⟨g, i * 2, none⟩ = false ∧ w.frozen? ⟨g, i * 2 + 1, none⟩ = false :=
  ⟨(h.cell lays94 z94 i 0 hi (by omega)).1, (h.cell lays94 z94 i 1 hi (by omega)).1, (h.cell lays94 z94 i 0 hi (by omega)).2, (h.cell lays94 z94 i 1 hi (by omega)).2⟩

/-- Len of a heap. -/
theorem heap_Len.calls (w : World) (p : Nat) (A : Option Addr) (n c : Nat) (hp : Ptr1 w p 122 (.slice A n c)) (hn : n ≤ 9223372036854775807) :
    Calls Try.prog 77 #[.pointer (some ⟨p, 0, none⟩)] w fun e w' => e = .returned (.int .i64 n) ∧ w = w' := by
  have hc : w.cell? ⟨p, 0, none⟩ = some (.slice A n c) := (blk_cell hp 0).trans rfl
  go_enter Try.func77, Try.ntmps77
  go_wp2
  go_ret
  exact ⟨rfl, rfl⟩

theorem heap_First.calls (w : World) (base p g : Nat) (c : Nat) (xs : List S94) (hp : Ptr1 w p 122 (.slice (some ⟨g, 0, none⟩) xs.length c)) (hr : Spots w base (.slice (some ⟨g, 0, none⟩) xs.length c) xs) (h0 : 0 < xs.length) :
    Calls Try.prog 68 #[.pointer (some ⟨p, 0, none⟩)] w fun e w' => e = .returned (.tuple #[.agg #[.int .u64 (sp xs 0).f0, .int .i64 (sp xs 0).f1], .bool true]) ∧ Below w.heap.size w w' := by
  have hm := hr.max
  have hc : w.cell? ⟨p, 0, none⟩ = some (.slice (some ⟨g, 0, none⟩) xs.length c) := (blk_cell hp 0).trans rfl
  obtain ⟨h1, h2, _, _⟩ := spot_at hr 0 h0
  have hl : p < w.heap.size := blk_lt hp
  have hg : g < w.heap.size := World.block_lt_of_cell? w _ h1
  have hb : ((xs.length : Int) == 0) = false := by rw [beq_eq_false_iff_ne]; omega
  have hi : (0 : Int) < xs.length := by omega
  simp only [Nat.zero_mul, Nat.zero_add] at h1 h2
  clear h0
  go_enter Try.func68, Try.ntmps68
  go_wp2_with (go_at_call 77; refine (heap_Len.calls _ p _ _ _ (by exact blk_alloc hp _) hm).mono ?_; rintro e w' ⟨rfl, rfl⟩)
  refine bodyPost_ret (v := .tuple #[.agg #[.int .u64 (sp xs 0).f0, .int .i64 (sp xs 0).f1], .bool true]) (by simp [results, Try.results68, go_sem]) rfl ⟨rfl, ?_⟩
  go_grown

theorem heap_First.none (w : World) (p : Nat) (A : Option Addr) (c : Nat) (hp : Ptr1 w p 122 (.slice A 0 c)) :
    Calls Try.prog 68 #[.pointer (some ⟨p, 0, none⟩)] w fun e w' => e = .returned (.tuple #[.agg #[.int .u64 0, .int .i64 0], .bool false]) ∧ Below w.heap.size w w' := by
  have hl : p < w.heap.size := blk_lt hp
  go_enter Try.func68, Try.ntmps68
  go_wp2_with (go_at_call 77; refine (heap_Len.calls _ p _ _ _ (by exact blk_alloc hp _) (by omega)).mono ?_; rintro e w' ⟨rfl, rfl⟩)
  refine bodyPost_ret (v := .tuple #[.agg #[.int .u64 0, .int .i64 0], .bool false]) (by simp [results, Try.results68, go_sem]) rfl ⟨rfl, ?_⟩
  go_grown

theorem ret_int {k : IntKind} {a b : Int} (h : a = b) : Ending.returned (.int k a) = .returned (.int k b) := by rw [h]
def sless (a b : S94) : Bool := if a.f0 = b.f0 then decide (a.f1 < b.f1) else decide (a.f0 < b.f0)
theorem sless_f (a b : S94) : cost_Less.f a.f0 a.f1 b.f0 b.f1 = some (sless a b) := by unfold cost_Less.f sless; split <;> rfl

/-- The place of the least one of spot i and those below it, j of which were looked at. -/
def lst (l : List S94) (i : Nat) : Nat → Nat
  | 0 => i
  | j + 1 => if 2 * i + 1 + j < l.length ∧ sless (sp l (2 * i + 1 + j)) (sp l (lst l i j)) = true then 2 * i + 1 + j else lst l i j
theorem lst_lt (l : List S94) (i : Nat) (h : i < l.length) : ∀ j, lst l i j < l.length
  | 0 => h
  | j + 1 => by
    unfold lst
    split
    · omega
    · exact lst_lt l i h j
theorem lst_end (l : List S94) (i j : Nat) (h : l.length ≤ 2 * i + 1 + j) : ∀ k, lst l i (j + k) = lst l i j
  | 0 => rfl
  | k + 1 => by
    have ih := lst_end l i j h k
    show lst l i (j + k + 1) = _
    rw [lst, if_neg (by omega), ih]

set_option maxHeartbeats 800000 in
set_option maxRecDepth 100000 in
theorem heap_least.calls (w : World) (base p g : Nat) (c i : Nat) (xs : List S94) (hp : Ptr1 w p 122 (.slice (some ⟨g, 0, none⟩) xs.length c)) (hr : Spots w base (.slice (some ⟨g, 0, none⟩) xs.length c) xs) (hi : i < xs.length ∨ xs.length = 0) (hin : i ≤ 1000000) (hn : xs.length ≤ 1000000) :
    Calls Try.prog 69 #[.pointer (some ⟨p, 0, none⟩), .int .i64 i] w fun e w' => e = .returned (.int .i64 (lst xs i 2)) ∧ Below w.heap.size w w' := by
  have hl : p < w.heap.size := blk_lt hp
  have hg : g < w.heap.size := hr.lt rfl
  go_enter Try.func69, Try.ntmps69
  go_wp2
  go_loopw [5, 6] (fun v k wr => ∃ j kk m : Nat, Aside0 (kk = 2 * i + 1 + j ∧ m = lst xs i j ∧ j ≤ 2) ∧ v = .int .i64 m ∧ k = .int .i64 kk ∧ Below w.heap.size w wr) (fun _ k _ => 2 * i + 3 - (intOf k).toNat)
  case atStart => exact ⟨0, 2 * i + 1, i, ⟨rfl, rfl, by omega⟩, rfl, by go_num, Below.refl _ _⟩
  case round =>
    obtain ⟨j, kk, m, hH, rfl, rfl, hb⟩ := hrel
    have hpw : Ptr1 wr p 122 (.slice (some ⟨g, 0, none⟩) xs.length c) := (hb.block p hl).trans hp
    have hrw := hr.below hb
    have hc : wr.cell? ⟨p, 0, none⟩ = some (.slice (some ⟨g, 0, none⟩) xs.length c) := (blk_cell hpw 0).trans rfl
    by_cases hj2 : j < 2
    · have hk2 : (kk : Int) ≤ 2 * (i : Int) + 2 := by have := hH.out.1; omega
      by_cases hk : kk < xs.length
      · have hlt : m < xs.length := by rw [hH.out.2.1]; exact lst_lt xs i (by omega) j
        obtain ⟨h1, h2, _, _⟩ := spot_at hrw kk hk
        obtain ⟨h3, h4, _, _⟩ := spot_at hrw m hlt
        go_wp2
        go_still_tail 14, (by kernel_rfl)
        change wpList _ _ _ _ _ wr.drew
        have hbd : Below w.heap.size w wr.drew := hb.drew
        clear hc hrw hpw h1 h2 h3 h4
        generalize wr.drew = w2 at hbd ⊢
        have hl2 : w.heap.size ≤ w2.heap.size := hbd.size
        go_wp2_with (go_at_call 76; refine (cost_Less.calls _ _ _ _ _ _ (sless_f _ _)).mono ?_; rintro e w' ⟨rfl, hb3⟩)
        · have ht : sless (sp xs kk) (sp xs m) = true := by assumption
          refine ⟨⟨j + 1, kk + 1, kk, ⟨by have := hH.out.1; omega, ?_, by omega⟩, rfl, by go_num, hbd.trans (hb3.mono hl2)⟩, by simp [intOf]; omega⟩
          rw [lst, ← hH.out.1, ← hH.out.2.1, if_pos ⟨hk, ht⟩]
        · have ht : sless (sp xs kk) (sp xs m) = false := by assumption
          refine ⟨⟨j + 1, kk + 1, m, ⟨by have := hH.out.1; omega, ?_, by omega⟩, rfl, by go_num, hbd.trans (hb3.mono hl2)⟩, by simp [intOf]; omega⟩
          rw [lst, ← hH.out.1, ← hH.out.2.1, if_neg (by rw [ht]; simp)]
      · have hk3 : ¬ ((kk : Int) < xs.length) := by omega
        go_wp2
        go_ret
        have := lst_end xs i j (by have := hH.out.1; omega) (2 - j)
        rw [show j + (2 - j) = 2 by omega, ← hH.out.2.1] at this
        exact ⟨ret_int (by rw [this]), hb⟩
    · have hk2 : ¬ ((kk : Int) ≤ 2 * (i : Int) + 2) := by have := hH.out.1; have := hH.out.2.2; omega
      go_wp2
      go_ret
      have e : m = lst xs i 2 := by rw [hH.out.2.1, show j = 2 by have := hH.out.2.2; omega]
      exact ⟨ret_int (by rw [e]), hb⟩

end Go.Proofs.Ytinkhlfmjfahpaa.PLoadKeeps

namespace Go.Proofs.Ytinkhlfmjfahpaa.PLoadKeeps
open Go.RowKit Go.Proofs.YtinkhlfmjfahpaaW.PrintWords Go.Proofs.YtinkhlfmjfahpaaW.PrintLast Go.Proofs.YtinkhlfmjfahpaaW.PrintMore
set_option linter.unusedVariables false
set_option linter.unusedSimpArgs false

theorem info94 : (Try.prog.info? 94).map (fun i => (i.zero, i.size, i.bytes)) = some (some (.agg #[.int .u64 0, .int .i64 0]), 2, 16) := by kernel_rfl

def swp (l : List S94) (i j : Nat) : List S94 := (l.set i (sp l j)).set j (sp l i)
/-- A spot goes up, till the one at half its place is not behind it. -/
def siftUp : Nat → List S94 → Nat → List S94
  | 0, l, _ => l
  | _ + 1, l, 0 => l
  | k + 1, l, i + 1 => if sless (sp l (i + 1)) (sp l (i / 2)) = true then siftUp k (swp l (i + 1) (i / 2)) (i / 2) else l
def hput (l : List S94) (s : S94) : List S94 := siftUp (l.length + 1) (l ++ [s]) l.length

theorem two_new (w : World) (o o' : Obj) : ((w.alloc o).alloc o').drew.heap[w.heap.size + 1]? = some o' := by
  have h := heap_alloc_new (w.alloc o) o'
  rw [show (w.alloc o).heap.size = w.heap.size + 1 by simp] at h
  exact h
theorem FRow.n {α : Type} {enc : α → List Value} {m : Nat} {e : TypeId} {w : World} {base : Nat} {A : Option Addr} {n c : Nat} {xs : List α} (h : FRow enc m e w base (.slice A n c) xs) : n = xs.length := by
  obtain ⟨A', c', he, _⟩ := h.slice
  injection he
theorem spot_at' {w : World} {base g n c : Nat} {xs : List S94} (h : Spots w base (.slice (some ⟨g, 0, none⟩) n c) xs) (i : Nat) (hi : i < n) :
    w.cell? ⟨g, i * 2, none⟩ = some (.int .u64 (sp xs i).f0) ∧ w.cell? ⟨g, i * 2 + 1, none⟩ = some (.int .i64 (sp xs i).f1) ∧ w.frozen? ⟨g, i * 2, none⟩ = false ∧ w.frozen? ⟨g, i * 2 + 1, none⟩ = false := by
  obtain rfl := h.n
  exact spot_at h i hi
structure Heaped (w w' : World) (base p : Nat) (v : Value) (xs : List S94) (v' : Value) : Prop where
  ptr : Ptr1 w' p 122 v'
  row : Spots w' base v' xs
  chg : Chg (fun k => k = p ∨ v.ownBlock = some k) w w'
  at_ : v'.ownBlock = v.ownBlock ∨ ∃ b, v'.ownBlock = some b ∧ w.heap.size ≤ b

theorem Heaped.swap {w wc : World} {base p g N c : Nat} {v : Value} {l : List S94} (h : Heaped w wc base p v l (.slice (some ⟨g, 0, none⟩) N c)) (i j : Nat) (hi : i < N) (hj : j < N) :
    Heaped w ((wc.setCells g (i * 2) (enc94 (sp l j))).setCells g (j * 2) (enc94 (sp l i))).drew base p v (swp l i j) (.slice (some ⟨g, 0, none⟩) N c) := by
  obtain rfl := h.row.n
  have r1 := FRow.set lays94 h.row i (sp l j) hi
  have r2 := FRow.set (xs := l.set i (sp l j)) lays94 (by rw [List.length_set]; exact r1) j (sp l i) (by rw [List.length_set]; exact hj)
  rw [List.length_set] at r2
  have hne := h.row.ne_block h.ptr (by decide)
  have hpg : p ≠ g := fun e => hne (by rw [e]; rfl)
  have c1 : Chg (fun k => k = g) wc ((wc.setCells g (i * 2) (enc94 (sp l j))).setCells g (j * 2) (enc94 (sp l i))) := (setCells_chg (S := fun k => k = g) rfl _ _ _).trans (setCells_chg (S := fun k => k = g) rfl _ _ _) (fun _ _ h => h)
  refine ⟨c1.blk h.ptr hpg, r2, ?_, h.at_⟩
  refine (h.chg.trans (c1.trans (Chg.drew (fun k => k = g) _) (fun _ _ h => h)) (fun k hk e => ?_))
  rcases h.at_ with h' | ⟨b, h', hb⟩
  · exact .inr (by rw [e]; exact h'.symm.trans rfl)
  · have : g = b := by simpa [Value.ownBlock] using h'
    omega

set_option maxHeartbeats 1600000 in
set_option maxRecDepth 100000 in
theorem heap_Put.calls (w : World) (base p : Nat) (v : Value) (xs : List S94) (s : S94) (hp : Ptr1 w p 122 v) (hr : Spots w base v xs) (hbase : base ≤ w.heap.size) (hn : xs.length ≤ 1000000) :
    Calls Try.prog 67 #[.pointer (some ⟨p, 0, none⟩), .agg #[.int .u64 s.f0, .int .i64 s.f1]] w fun e w' => e = .returned (.tuple #[]) ∧ ∃ v', Heaped w w' base p v (hput xs s) v' := by
  have hl : p < w.heap.size := blk_lt hp
  obtain ⟨A, c, rfl, hc⟩ := hr.slice
  have hcell : w.cell? ⟨p, 0, none⟩ = some (.slice A xs.length c) := (blk_cell hp 0).trans rfl
  have hfro : w.frozen? ⟨p, 0, none⟩ = false := blk_frozen hp 0
  have HR := Aside0.mk hr
  have HC := Aside0.mk hc
  clear hc hr
  go_enter Try.func67, Try.ntmps67
  go_upto_region 2 with fail
  go_cut [4] (fun s4 wx => ∃ v1, Heaped w wx base p (.slice A xs.length c) (xs ++ [s]) v1)
  case first =>
    go_region_law (refine step_append_flat lays94 base rfl (.tmp 12) (.tmp 14) 120 94 (.agg #[.int .u64 0, .int .i64 0]) 16 rfl Try.underlying120 info94 rfl (by decide) (by decide) (.slice A xs.length c) xs s (w.heap.size + 1) rfl rfl (two_new w _ _) (FRow.below HR.out (by go_grown)) (by simp; omega) (by omega) ?_; intro v1 w1 hv1 hgr hat; obtain ⟨g1, c1, rfl, _⟩ := hv1.form (by simp); clear hcell hfro; have hp1 : Ptr1 w1 p 122 (.slice A xs.length c) := (hgr.block p (by simp; omega) (fun e => FRow.ne_block HR.out hp (by decide) e.symm)).trans (blk_drew (blk_alloc (blk_alloc hp _) _)); have hcell : w1.cell? ⟨p, 0, none⟩ = some (.slice A xs.length c) := (blk_cell hp1 0).trans rfl; have hfro : w1.frozen? ⟨p, 0, none⟩ = false := blk_frozen hp1 0)
    all_goals
      go_wp2_with fail
      go_meet
      case rel =>
        rw [List.length_append, List.length_singleton] at hv1
        have hne := hv1.ne_block hp1 (by decide)
        have hgl : g1 < w1.heap.size := hv1.lt rfl
        refine ⟨_, ⟨blk_set hp1 0 _, hv1.move (fun k hk => Below.heap_setCell _ _ _ _ (fun e => hne (hk.trans (congrArg some e)))), ?_, ?_⟩⟩
        · have a1 : Chg (fun k => k = p ∨ (Value.slice A xs.length c).ownBlock = some k) w ((w.alloc (.cells #[.int .u64 s.f0, .int .i64 s.f1] 94)).alloc (.cells #[.int .u64 s.f0, .int .i64 s.f1] 94)).drew := ((Chg.alloc _ w _).trans (Chg.alloc _ _ _) (fun _ _ h => h)).trans (Chg.drew _ _) (fun _ _ h => h)
          exact a1.trans (((Chg.of_grown hgr).mono (fun _ _ h => Or.inr h)).trans (Chg.setCell (S := fun k => k = p) w1 ⟨p, 0, none⟩ _ rfl) (fun _ _ h => Or.inl h)) (fun _ _ h => h)
        · rcases hat with h | h
          · exact .inl h
          · exact .inr ⟨_, h, by simp; omega⟩
  case rest =>
    obtain ⟨v1, h1⟩ := hcut
    have h2 : Ptr1 wc p 122 v1 := h1.ptr
    obtain ⟨g, c1, rfl, hc1⟩ := h1.row.form (by simp)
    have hcell : wc.cell? ⟨p, 0, none⟩ = some (.slice (some ⟨g, 0, none⟩) (xs ++ [s]).length c1) := (blk_cell h2 0).trans rfl
    rw [List.length_append, List.length_singleton] at hcell
    rw [List.length_append, List.length_singleton] at h1
    have H1 := Aside0.mk h1
    clear h1 h2
    go_wp2
    clear hcell
    generalize hN : xs.length + 1 = N at H1 ⊢
    have HN := Aside0.mk hN
    clear hN
    go_loopw [4] (fun v wr => ∃ (i f : Nat) (l : List S94), Aside0 (i < f ∧ siftUp f l i = hput xs s ∧ l.length = N ∧ i < N ∧ N ≤ 1000001) ∧ v = .int .i64 i ∧ Aside0 (Heaped w wr base p (.slice A xs.length c) l (.slice (some ⟨g, 0, none⟩) N c1))) (fun v _ => (intOf v).toNat)
    case atStart => exact ⟨xs.length, xs.length + 1, xs ++ [s], ⟨by omega, rfl, by rw [← HN.out]; simp, by rw [← HN.out]; omega, by rw [← HN.out]; omega⟩, rfl, H1⟩
    case round =>
      obtain ⟨i, f, l, hH, rfl, hW⟩ := hrel
      have hpw : Ptr1 wr p 122 (.slice (some ⟨g, 0, none⟩) N c1) := hW.out.ptr
      have hcell : wr.cell? ⟨p, 0, none⟩ = some (.slice (some ⟨g, 0, none⟩) N c1) := (blk_cell hpw 0).trans rfl
      by_cases hi0 : i = 0
      · subst hi0
        go_wp2
        go_end0
        refine ⟨rfl, .slice (some ⟨g, 0, none⟩) N c1, ?_⟩
        have := hH.out
        obtain ⟨f, rfl⟩ : ∃ f', f = f' + 1 := ⟨f - 1, by omega⟩
        rw [siftUp] at this
        rw [← this.2.1]
        exact hW.out
      · have hi1 : (0 : Int) < i := by omega
        have hib : (i : Int) ≤ 1000001 := by have := hH.out.2.2.2; omega
        obtain ⟨u, hu⟩ : ∃ u : Nat, Aside0 (u = (i - 1) / 2 ∧ u < i) := ⟨(i - 1) / 2, ⟨rfl, by omega⟩⟩
        have hil : i < N := hH.out.2.2.2.1
        have hul : u < N := by have := hu.out; omega
        have hrw := hW.out.row
        obtain ⟨h1, h2, f1, f2⟩ := spot_at' hrw i hil
        obtain ⟨h3, h4, f3, f4⟩ := spot_at' hrw u hul
        clear hi0
        go_upto_region 6 with fail
        rw [show ((i : Int) - 1) / 2 = (u : Int) by have := hu.out; omega]
        go_cut [43, 44] (fun s43 s44 wx => s43 = .bool (sless (sp l i) (sp l u)) ∧ s44 = .bool (!sless (sp l i) (sp l u)) ∧ Below wr.heap.size wr wx)
        case first =>
          go_still_tail 14, (by kernel_rfl)
          change wpList _ _ _ _ _ wr.drew
          have hbd : Below wr.heap.size wr wr.drew := (Below.refl _ _).drew
          clear hcell hrw hpw h1 h2 h3 h4 f1 f2 f3 f4 hW
          generalize wr.drew = w2 at hbd ⊢
          have hl2 : wr.heap.size ≤ w2.heap.size := hbd.size
          go_wp2_with (go_at_call 76; refine (cost_Less.calls _ _ _ _ _ _ (sless_f _ _)).mono ?_; rintro e w' ⟨rfl, hb3⟩)
          go_meet
          case rel => exact ⟨rfl, rfl, hbd.trans (hb3.mono hl2)⟩
        case rest =>
          obtain ⟨rfl, rfl, hb⟩ := hcut
          have hpc : Ptr1 wc p 122 (.slice (some ⟨g, 0, none⟩) N c1) := (hb.block p (blk_lt hpw)).trans hpw
          have hrc := hrw.below hb
          have hWc : Heaped w wc base p (.slice A xs.length c) l (.slice (some ⟨g, 0, none⟩) N c1) := ⟨hpc, hrc, hW.out.chg.trans (Chg.of_below hb _) (fun _ _ h => h), hW.out.at_⟩
          clear hcell h1 h2 h3 h4 f1 f2 f3 f4 hpw hrw hW
          obtain ⟨f, rfl⟩ : ∃ f', f = f' + 1 := ⟨f - 1, by have := hH.out; omega⟩
          have hR : Aside0 ((if sless (sp l i) (sp l u) = true then siftUp f (swp l i u) u else l) = hput xs s) := by
            have h := hH.out.2.1
            obtain ⟨j, hj⟩ : ∃ j, i = j + 1 := ⟨i - 1, by omega⟩
            have hu' := hu.out.1
            rw [hj] at h hu' ⊢
            rw [siftUp] at h
            rw [hu', show (j + 1 - 1) / 2 = j / 2 by simp]
            exact ⟨h⟩
          cases hs : sless (sp l i) (sp l u) with
          | false =>
            rw [hs] at hR
            have HWc := Aside0.mk hWc
            clear hWc hpc hrc hs
            go_wp2
            exact bodyPost_ret (v := .tuple #[]) (by simp [results, Try.results67, go_sem]) rfl ⟨rfl, .slice (some ⟨g, 0, none⟩) N c1, by have := hR.out; simp at this; rw [← this]; exact HWc.out⟩
          | true =>
            rw [hs] at hR
            have hcell : wc.cell? ⟨p, 0, none⟩ = some (.slice (some ⟨g, 0, none⟩) N c1) := (blk_cell hpc 0).trans rfl
            obtain ⟨h1, h2, f1, f2⟩ := spot_at' hrc i hil
            obtain ⟨h3, h4, f3, f4⟩ := spot_at' hrc u hul
            have HWc := Aside0.mk hWc
            clear hWc hpc hrc hs
            have n1 : ¬ u = i := by have := hu.out; omega
            have n2 : ¬ i = u := by have := hu.out; omega
            have n3 : ¬ u * 2 = i * 2 + 1 := by omega
            have n4 : ¬ u * 2 + 1 = i * 2 := by omega
            go_upto_region 7 with fail
            go_region
            go_wp2
            refine ⟨⟨u, f, swp l i u, ⟨by have := hu.out; have := hH.out; omega, by have := hR.out; simpa using this, by simp [swp]; exact hH.out.2.2.1, hul, hH.out.2.2.2.2⟩, rfl, ⟨HWc.out.swap i u hil hul⟩⟩, by have := hu.out; simp [intOf]; omega⟩

end Go.Proofs.Ytinkhlfmjfahpaa.PLoadKeeps

namespace Go.Proofs.Ytinkhlfmjfahpaa.PLoadKeeps
open Go.RowKit Go.Proofs.YtinkhlfmjfahpaaW.PrintWords Go.Proofs.YtinkhlfmjfahpaaW.PrintLast Go.Proofs.YtinkhlfmjfahpaaW.PrintMore
set_option linter.unusedVariables false
set_option linter.unusedSimpArgs false

/-- A spot goes down, till none below it is ahead. -/
def siftDown : Nat → List S94 → Nat → List S94
  | 0, l, _ => l
  | k + 1, l, i => if lst l i 2 = i then l else siftDown k (swp l i (lst l i 2)) (lst l i 2)
def htake (l : List S94) : List S94 := siftDown l.length ((l.set 0 (sp l (l.length - 1))).take (l.length - 1)) 0

theorem lst_ge (l : List S94) (i : Nat) : lst l i 2 = i ∨ (i < lst l i 2 ∧ lst l i 2 < l.length) := by
  have h : ∀ j, lst l i j = i ∨ (i < lst l i j ∧ lst l i j < l.length) := by
    intro j
    induction j with
    | zero => exact .inl rfl
    | succ j ih =>
      unfold lst
      split
      · exact .inr ⟨by omega, by omega⟩
      · exact ih
  exact h 2

/-- One struct of two numbers behind a pointer. -/
def Ptr2 (w : World) (p : Nat) (a b : Int) : Prop := w.heap[p]? = some (.cells #[.int .u64 a, .int .i64 b] 94 (0, 0))

theorem Heaped.set1 {w wc : World} {base p g N c : Nat} {v : Value} {l : List S94} (h : Heaped w wc base p v l (.slice (some ⟨g, 0, none⟩) N c)) (i : Nat) (x : S94) (hi : i < N) :
    Heaped w (wc.setCells g (i * 2) (enc94 x)).drew base p v (l.set i x) (.slice (some ⟨g, 0, none⟩) N c) ∧ Chg (fun k => k = g) wc (wc.setCells g (i * 2) (enc94 x)).drew := by
  obtain rfl := h.row.n
  have r1 := FRow.set lays94 h.row i x hi
  have hne := h.row.ne_block h.ptr (by decide)
  have hpg : p ≠ g := fun e => hne (by rw [e]; rfl)
  have c1 : Chg (fun k => k = g) wc (wc.setCells g (i * 2) (enc94 x)).drew := (setCells_chg (S := fun k => k = g) rfl _ _ _).trans (Chg.drew (fun k => k = g) _) (fun _ _ h => h)
  refine ⟨⟨c1.blk h.ptr hpg, r1, ?_, h.at_⟩, c1⟩
  refine h.chg.trans c1 (fun k hk e => ?_)
  rcases h.at_ with h' | ⟨b, h', hb⟩
  · exact .inr (by rw [e]; exact h'.symm.trans rfl)
  · have : g = b := by simpa [Value.ownBlock] using h'
    omega
theorem Heaped.cut {w wc : World} {base p g N c M : Nat} {v : Value} {l : List S94} (h : Heaped w wc base p v l (.slice (some ⟨g, 0, none⟩) N c)) (hM : M < N) :
    Heaped w (wc.setCell ⟨p, 0, none⟩ (.slice (some ⟨g, 0, none⟩) M c)) base p v (l.take M) (.slice (some ⟨g, 0, none⟩) M c) := by
  obtain rfl := h.row.n
  have r1 := FRow.take (n := M) lays94 h.row (by omega)
  have hne := h.row.ne_block h.ptr (by decide)
  have c1 : Chg (fun k => k = p) wc (wc.setCell ⟨p, 0, none⟩ (.slice (some ⟨g, 0, none⟩) M c)) := Chg.setCell (S := fun k => k = p) _ _ _ rfl
  refine ⟨blk_set h.ptr 0 _, r1.move (fun k hk => Below.heap_setCell _ _ _ _ (fun e => hne (hk.trans (congrArg some e)))), h.chg.trans c1 (fun k _ e => .inl e), h.at_⟩
theorem Heaped.far {w wc w' : World} {base p : Nat} {v v1 : Value} {l : List S94} {S : Nat → Prop} (h : Heaped w wc base p v l v1) (hc : Chg S wc w') (hp : ¬ S p) (hv : ∀ k, v1.ownBlock = some k → ¬ S k) (hS : ∀ k, S k → w.heap.size ≤ k) : Heaped w w' base p v l v1 :=
  ⟨hc.blk h.ptr hp, h.row.chg hc hv, h.chg.trans hc (fun k hk hs => absurd (hS k hs) (by omega)), h.at_⟩
theorem Heaped.refl {w : World} {base p : Nat} {v : Value} {l : List S94} (hp : Ptr1 w p 122 v) (hr : Spots w base v l) : Heaped w w base p v l v := ⟨hp, hr, Chg.refl _ _, .inl rfl⟩
theorem Heaped.below {w wc w' : World} {base p : Nat} {v v1 : Value} {l : List S94} (h : Heaped w wc base p v l v1) (hb : Below wc.heap.size wc w') : Heaped w w' base p v l v1 :=
  ⟨(hb.block p (blk_lt h.ptr)).trans h.ptr, h.row.below hb, h.chg.trans (Chg.of_below hb _) (fun _ _ h => h), h.at_⟩

set_option maxHeartbeats 1600000 in
set_option maxRecDepth 100000 in
theorem heap_Take.calls (w : World) (base p : Nat) (v : Value) (xs : List S94) (hp : Ptr1 w p 122 v) (hr : Spots w base v xs) (hbase : base ≤ w.heap.size) (hn : xs.length ≤ 1000000) (h0 : 0 < xs.length) :
    Calls Try.prog 50 #[.pointer (some ⟨p, 0, none⟩)] w fun e w' => e = .returned (.tuple #[.agg #[.int .u64 (sp xs 0).f0, .int .i64 (sp xs 0).f1], .bool true]) ∧ ∃ v', Heaped w w' base p v (htake xs) v' := by
  have hl : p < w.heap.size := blk_lt hp
  obtain ⟨g, c, rfl, hc⟩ := hr.form h0
  have hgl : g < w.heap.size := hr.lt rfl
  generalize hN : xs.length = N at hp hr
  have HN := Aside0.mk hN
  have hNi : (0 : Int) < N := by omega
  have hNm : (N : Int) ≤ 1000000 := by omega
  clear hN hc
  have HR := Aside0.mk hr
  clear hr
  go_enter Try.func50, Try.ntmps50
  go_upto_region 5 with (go_at_call 68; refine (heap_First.calls _ base p g c xs (by rw [HN.out]; exact blk_alloc hp _) (by rw [HN.out]; exact HR.out.below (by go_grown)) h0).mono ?_; rintro e w1 ⟨rfl, hb1⟩; have hbw : Below w.heap.size w w1 := ((Below.refl _ _).alloc (Nat.le_refl _) _).trans (hb1.mono (by simp)); have hz1 : w.heap.size + 1 ≤ w1.heap.size := (by have := hb1.size; simpa using this); have hp1 : Ptr1 w1 p 122 (.slice (some ⟨g, 0, none⟩) N c) := (hbw.block p hl).trans hp; have hl1 : p < w1.heap.size := (by omega); have hcell : w1.cell? ⟨p, 0, none⟩ = some (.slice (some ⟨g, 0, none⟩) N c) := (blk_cell hp1 0).trans rfl; have hf1 : w1.frozen? ⟨p, 0, none⟩ = false := blk_frozen hp1 0; have hres : w1.heap[w.heap.size]? = some (.cells #[.int .u64 0, .int .i64 0] 94 (0, 0)) := (hb1.block _ (by simp)).trans (heap_alloc_new _ _))
  go_cut [2, 4, 5, 6] (fun s2 s4 s5 s6 wx => ∃ b2 b4 : Nat, s2 = .pointer (some ⟨b2, 0, none⟩) ∧ s4 = .pointer (some ⟨b4, 0, none⟩) ∧ s5 = .bool true ∧ s6 = .int .i64 ((N : Int) - 1) ∧ Aside0 (Ptr2 wx b2 0 0 ∧ Ptr2 wx b4 (sp xs 0).f0 (sp xs 0).f1 ∧ b2 < b4 ∧ w.heap.size ≤ b2 ∧ Heaped w wx base p (.slice (some ⟨g, 0, none⟩) N c) (xs.set 0 (sp xs (N - 1))) (.slice (some ⟨g, 0, none⟩) N c)))
  case first =>
    have hb2 : Below w.heap.size w (w1.alloc (.cells #[.int .u64 (sp xs 0).f0, .int .i64 (sp xs 0).f1] 94)) := hbw.alloc hbw.size _
    have hH : Heaped w (w1.alloc (.cells #[.int .u64 (sp xs 0).f0, .int .i64 (sp xs 0).f1] 94)) base p (.slice (some ⟨g, 0, none⟩) N c) xs (.slice (some ⟨g, 0, none⟩) N c) := (Heaped.refl hp HR.out).below hb2
    have hq2 : Ptr2 (w1.alloc (.cells #[.int .u64 (sp xs 0).f0, .int .i64 (sp xs 0).f1] 94)) w.heap.size 0 0 := blk_alloc hres _
    have hq4 : Ptr2 (w1.alloc (.cells #[.int .u64 (sp xs 0).f0, .int .i64 (sp xs 0).f1] 94)) w1.heap.size (sp xs 0).f0 (sp xs 0).f1 := heap_alloc_new _ _
    clear hcell hf1 hres hp1 hb1 hbw hb2
    generalize w1.alloc (.cells #[.int .u64 (sp xs 0).f0, .int .i64 (sp xs 0).f1] 94) = w2 at hH hq2 hq4 ⊢
    generalize w1.heap.size = b4 at hq4 hz1 ⊢
    obtain ⟨M, hM⟩ : ∃ M, Aside0 (N = M + 1) := ⟨N - 1, ⟨by omega⟩⟩
    rw [show (N : Int) - 1 = (M : Int) by have := hM.out; omega]
    have hMN : M < N := by have := hM.out; omega
    have hMi : (M : Int) < N := by omega
    have hcell : w2.cell? ⟨p, 0, none⟩ = some (.slice (some ⟨g, 0, none⟩) N c) := (blk_cell hH.ptr 0).trans rfl
    obtain ⟨h1, h2, f1, f2⟩ := spot_at' hH.row M hMN
    obtain ⟨h3, h4, f3, f4⟩ := spot_at' hH.row 0 (by omega)
    simp only [Nat.zero_mul, Nat.zero_add] at h3 h4 f3 f4
    have HH := Aside0.mk hH
    have Hq := Aside0.mk (And.intro hq2 hq4)
    clear hH hq2 hq4
    go_region
    all_goals
      go_wp2_with fail
      go_meet
      case rel =>
        obtain ⟨r1, r2⟩ := HH.out.set1 0 (sp xs M) (by omega)
        refine ⟨w.heap.size, b4, rfl, rfl, rfl, ?_, ⟨r2.blk Hq.out.1 (by omega), r2.blk Hq.out.2 (by omega), by omega, Nat.le_refl _, ?_⟩⟩
        · rw [show (N : Int) - 1 = (M : Int) by have := hM.out; omega]
        · rw [show N - 1 = M by have := hM.out; omega]
          exact r1
  case rest =>
    obtain ⟨b2, b4, rfl, rfl, rfl, rfl, hW⟩ := hcut
    obtain ⟨M, hM⟩ : ∃ M, Aside0 (N = M + 1) := ⟨N - 1, ⟨by omega⟩⟩
    rw [show (N : Int) - 1 = (M : Int) by have := hM.out; omega]
    have hMN : M < N := by have := hM.out; omega
    have hMi : (M : Int) ≤ c := by
      obtain ⟨_, _, he, hc⟩ := HR.out.slice
      have h1 := HN.out
      injection he with _ _ e3
      subst e3
      omega
    have hpc := hW.out.2.2.2.2.ptr
    have hcell : wc.cell? ⟨p, 0, none⟩ = some (.slice (some ⟨g, 0, none⟩) N c) := (blk_cell hpc 0).trans rfl
    have hfro : wc.frozen? ⟨p, 0, none⟩ = false := blk_frozen hpc 0
    go_wp2
    have hHM : Heaped w (wc.setCell ⟨p, 0, none⟩ (.slice (some ⟨g, 0, none⟩) M c)) base p (.slice (some ⟨g, 0, none⟩) N c) ((xs.set 0 (sp xs (N - 1))).take M) (.slice (some ⟨g, 0, none⟩) M c) := hW.out.2.2.2.2.cut hMN
    have HQ2 : w.heap.size ≤ b2 := hW.out.2.2.2.1
    have hb24 : b2 ≠ p ∧ b4 ≠ p ∧ b2 ≠ g ∧ b4 ≠ g ∧ b2 ≠ b4 := by have := hW.out.2.2.1; have := hW.out.2.2.2.1; omega
    have hq2 : Ptr2 (wc.setCell ⟨p, 0, none⟩ (.slice (some ⟨g, 0, none⟩) M c)) b2 0 0 := blk_far hW.out.1 hb24.1 _
    have hq4 : Ptr2 (wc.setCell ⟨p, 0, none⟩ (.slice (some ⟨g, 0, none⟩) M c)) b4 (sp xs 0).f0 (sp xs 0).f1 := blk_far hW.out.2.1 hb24.2.1 _
    clear hcell hfro hpc hW
    generalize wc.setCell ⟨p, 0, none⟩ (.slice (some ⟨g, 0, none⟩) M c) = w2 at hHM hq2 hq4 ⊢
    have HHM := Aside0.mk (And.intro hHM (And.intro hq2 hq4))
    have HB := Aside0.mk hb24
    clear hHM hq2 hq4 hb24
    go_loopw [7] (fun v wr => ∃ (i f : Nat) (l : List S94), Aside0 (M - i < f ∧ siftDown f l i = htake xs ∧ l.length = M ∧ (i < M ∨ M = 0 ∧ i = 0)) ∧ v = .int .i64 i ∧ Aside0 (Heaped w wr base p (.slice (some ⟨g, 0, none⟩) N c) l (.slice (some ⟨g, 0, none⟩) M c) ∧ Ptr2 wr b2 0 0 ∧ Ptr2 wr b4 (sp xs 0).f0 (sp xs 0).f1)) (fun v _ => M - (intOf v).toNat)
    case atStart =>
      refine ⟨0, N, (xs.set 0 (sp xs (N - 1))).take M, ⟨by have := hM.out; omega, ?_, ?_, by omega⟩, rfl, HHM⟩
      · unfold htake
        rw [HN.out, show N - 1 = M by have := hM.out; omega]
      · rw [List.length_take, List.length_set, HN.out]; omega
    case round =>
      obtain ⟨i, f, l, hH, rfl, hW⟩ := hrel
      have hpw : Ptr1 wr p 122 (.slice (some ⟨g, 0, none⟩) M c) := hW.out.1.ptr
      have hM1 : M ≤ 1000000 := by omega
      have hi1 : i ≤ 1000000 := by have := hH.out.2.2.2; omega
      have hlM : l.length = M := hH.out.2.2.1
      go_upto_region 9 with (go_at_call 69; refine (heap_least.calls _ base p g c i l (by rw [hlM]; exact hpw) (by rw [hlM]; exact hW.out.1.row) (by have := hH.out.2.2; omega) hi1 (by omega)).mono ?_; rintro e w1 ⟨rfl, hb1⟩)
      have hW1 : Heaped w w1 base p (.slice (some ⟨g, 0, none⟩) N c) l (.slice (some ⟨g, 0, none⟩) M c) := hW.out.1.below hb1
      have hq2 : Ptr2 w1 b2 0 0 := (hb1.block b2 (blk_lt hW.out.2.1)).trans hW.out.2.1
      have hq4 : Ptr2 w1 b4 (sp xs 0).f0 (sp xs 0).f1 := (hb1.block b4 (blk_lt hW.out.2.2)).trans hW.out.2.2
      have hge := lst_ge l i
      obtain ⟨f, rfl⟩ : ∃ f', f = f' + 1 := ⟨f - 1, by have := hH.out; omega⟩
      have hstep : Aside0 ((if lst l i 2 = i then l else siftDown f (swp l i (lst l i 2)) (lst l i 2)) = htake xs) := ⟨by have := hH.out.2.1; rwa [siftDown] at this⟩
      rw [hlM] at hge
      have HL := Aside0.mk hlM
      clear hlM hW hpw
      generalize lst l i 2 = kk at hge hstep ⊢
      by_cases hk : kk = i
      · subst hk
        have d2 : w1.cell? ⟨b2, 0, none⟩ = some (.int .u64 0) := (blk_cell hq2 0).trans rfl
        have d3 : w1.cell? ⟨b2, 1, none⟩ = some (.int .i64 0) := (blk_cell hq2 1).trans rfl
        have e2 : w1.frozen? ⟨b2, 0, none⟩ = false := blk_frozen hq2 0
        have e3 : w1.frozen? ⟨b2, 1, none⟩ = false := blk_frozen hq2 1
        have d4 : w1.cell? ⟨b4, 0, none⟩ = some (.int .u64 (sp xs 0).f0) := (blk_cell hq4 0).trans rfl
        have d5 : w1.cell? ⟨b4, 1, none⟩ = some (.int .i64 (sp xs 0).f1) := (blk_cell hq4 1).trans rfl
        have HW1 := Aside0.mk hW1
        clear hW1 hq2 hq4 hge
        go_wp2
        refine bodyPost_ret (v := .tuple #[.agg #[.int .u64 (sp xs 0).f0, .int .i64 (sp xs 0).f1], .bool true]) (by simp [results, Try.results50, go_sem, d2, d3]) rfl ⟨rfl, .slice (some ⟨g, 0, none⟩) M c, ?_⟩
        have h := hstep.out
        simp only [if_true] at h
        rw [← h]
        refine HW1.out.far (S := fun k => k = b2) ((Chg.setCell (S := fun k => k = b2) _ _ _ rfl).trans (Chg.setCell (S := fun k => k = b2) _ _ _ rfl) (fun _ _ h => h)) (fun e => HB.out.1 e.symm) (fun k hk e => HB.out.2.2.1 ?_) (fun k e => ?_)
        · have : g = k := by simpa [Value.ownBlock] using hk
          omega
        · rw [e]; exact HQ2
      · have hkk : i < kk ∧ kk < M := by omega
        have hkb : ((kk : Int) == i) = false := by rw [beq_eq_false_iff_ne]; omega
        have n1 : ¬ kk = i := hk
        have n2 : ¬ i = kk := fun e => hk e.symm
        have n3 : ¬ kk * 2 = i * 2 + 1 := by omega
        have n4 : ¬ kk * 2 + 1 = i * 2 := by omega
        have hiM : i < M := by omega
        have hcell : w1.cell? ⟨p, 0, none⟩ = some (.slice (some ⟨g, 0, none⟩) M c) := (blk_cell hW1.ptr 0).trans rfl
        obtain ⟨h1, h2, f1, f2⟩ := spot_at' hW1.row i hiM
        obtain ⟨h3, h4, f3, f4⟩ := spot_at' hW1.row kk hkk.2
        have HW1 := Aside0.mk (And.intro hW1 (And.intro hq2 hq4))
        clear hW1 hq2 hq4 hge
        go_upto_region 11 with fail
        go_region
        go_wp2
        have hsw := HW1.out.1.swap i kk hiM hkk.2
        have hc1 : Chg (fun k => k = g) w1 ((w1.setCells g (i * 2) (enc94 (sp l kk))).setCells g (kk * 2) (enc94 (sp l i))).drew := ((setCells_chg (S := fun k => k = g) rfl _ _ _).trans (setCells_chg (S := fun k => k = g) rfl _ _ _) (fun _ _ h => h)).trans (Chg.drew _ _) (fun _ _ h => h)
        have hst := hstep.out
        rw [if_neg hk] at hst
        refine ⟨⟨kk, f, swp l i kk, ⟨by have := hH.out.1; omega, hst, by simp [swp]; exact HL.out, .inl hkk.2⟩, rfl, ⟨hsw, hc1.blk HW1.out.2.1 HB.out.2.2.1, hc1.blk HW1.out.2.2 HB.out.2.2.2.1⟩⟩, by simp [intOf]; omega⟩

end Go.Proofs.Ytinkhlfmjfahpaa.PLoadKeeps

namespace Go.Proofs.Ytinkhlfmjfahpaa.PLoadKeeps
open Go.RowKit Go.Proofs.YtinkhlfmjfahpaaW.PrintWords Go.Proofs.YtinkhlfmjfahpaaW.PrintLast Go.Proofs.YtinkhlfmjfahpaaW.PrintMore
set_option linter.unusedVariables false
set_option linter.unusedSimpArgs false

set_option maxHeartbeats 800000 in
set_option maxRecDepth 100000 in
theorem heap_Take.nothing (w : World) (p : Nat) (A : Option Addr) (c : Nat) (hp : Ptr1 w p 122 (.slice A 0 c)) :
    Calls Try.prog 50 #[.pointer (some ⟨p, 0, none⟩)] w fun e w' => e = .returned (.tuple #[.agg #[.int .u64 0, .int .i64 0], .bool false]) ∧ Below w.heap.size w w' := by
  have hl : p < w.heap.size := blk_lt hp
  go_enter Try.func50, Try.ntmps50
  go_wp2_with (go_at_call 68; refine (heap_First.none _ p A c (by exact blk_alloc hp _)).mono ?_; rintro e w1 ⟨rfl, hb1⟩; have hbw : Below w.heap.size w w1 := ((Below.refl _ _).alloc (Nat.le_refl _) _).trans (hb1.mono (by simp)); have hz1 : w.heap.size + 1 ≤ w1.heap.size := (by have := hb1.size; simpa using this); have hres : w1.heap[w.heap.size]? = some (.cells #[.int .u64 0, .int .i64 0] 94 (0, 0)) := (hb1.block _ (by simp)).trans (heap_alloc_new _ _); have d2 : w1.cell? ⟨w.heap.size, 0, none⟩ = some (.int .u64 0) := (blk_cell hres 0).trans rfl; have d3 : w1.cell? ⟨w.heap.size, 1, none⟩ = some (.int .i64 0) := (blk_cell hres 1).trans rfl; have e2 : w1.frozen? ⟨w.heap.size, 0, none⟩ = false := blk_frozen hres 0; have e3 : w1.frozen? ⟨w.heap.size, 1, none⟩ = false := blk_frozen hres 1; have hl2 : w.heap.size < w1.heap.size := (by omega))
  refine bodyPost_ret (v := .tuple #[.agg #[.int .u64 0, .int .i64 0], .bool false]) (by simp [results, Try.results50, go_sem, d2, d3, hl2]) rfl ⟨rfl, ?_⟩
  go_grown

structure NewHeap (w w' : World) (p : Nat) (v : Value) (xs : List S94) : Prop where
  ge : w.heap.size ≤ p
  ptr : Ptr1 w' p 122 v
  row : Spots w' w.heap.size v xs
  below : Below w.heap.size w w'

def NewPost (w : World) (s : S94) (e : Ending) (w' : World) : Prop := ∃ p v, e = .returned (.pointer (some ⟨p, 0, none⟩)) ∧ NewHeap w w' p v (hput [] s)

set_option maxHeartbeats 800000 in
set_option maxRecDepth 100000 in
theorem heap_New.calls (w : World) (g : Nat) (s : S94) (hg : Ptr2 w g s.f0 s.f1) :
    Calls Try.prog 49 #[.slice (some ⟨g, 0, none⟩) 1 1] w (NewPost w s) := by
  have hl : g < w.heap.size := blk_lt hg
  have d2 : w.cell? ⟨g, 0, none⟩ = some (.int .u64 s.f0) := (blk_cell hg 0).trans rfl
  have d3 : w.cell? ⟨g, 1, none⟩ = some (.int .i64 s.f1) := (blk_cell hg 1).trans rfl
  go_enter Try.func49, Try.ntmps49
  go_wp2
  go_loopw [10] (fun k wr => ∃ (j : Nat) (v : Value) (xs : List S94), Aside0 (NewHeap w wr w.heap.size v xs ∧ xs = (if j = 0 then [] else hput [] s) ∧ j ≤ 1) ∧ k = .int .i64 j) (fun k _ => 2 - (intOf k).toNat)
  case atStart => exact ⟨0, .slice none 0 0, [], ⟨⟨Nat.le_refl _, heap_alloc_new _ _, FRow.nil _ _, (Below.refl _ _).alloc (Nat.le_refl _) _⟩, rfl, by omega⟩, rfl⟩
  case round =>
    obtain ⟨j, v, xs, hH, rfl⟩ := hrel
    have hj : (j : Int) ≤ 1 := by have := hH.out.2.2; omega
    have hbw := hH.out.1.below
    have hlr : g < wr.heap.size := by have := hbw.size; omega
    have d2 : wr.cell? ⟨g, 0, none⟩ = some (.int .u64 s.f0) := (hbw.cell (p := ⟨g, 0, none⟩) hl).trans ((blk_cell hg 0).trans rfl)
    have d3 : wr.cell? ⟨g, 1, none⟩ = some (.int .i64 s.f1) := (hbw.cell (p := ⟨g, 1, none⟩) hl).trans ((blk_cell hg 1).trans rfl)
    by_cases h1 : j = 1
    · subst h1
      go_wp2
      go_ret
      exact ⟨_, v, rfl, by have h := hH.out.2.1; simp at h; rw [← h]; exact hH.out.1⟩
    · obtain rfl : j = 0 := by omega
      obtain rfl : xs = [] := by have h := hH.out.2.1; simpa using h
      clear h1
      go_wp2_with (go_at_call 67; refine (heap_Put.calls _ w.heap.size w.heap.size v [] s (blk_alloc hH.out.1.ptr _) (hH.out.1.row.below (by go_grown)) (by have := hbw.size; simp; omega) (by simp)).mono ?_; rintro e w1 ⟨rfl, v', hp'⟩)
      refine ⟨⟨1, v', hput [] s, ⟨⟨Nat.le_refl _, hp'.ptr, hp'.row, ?_⟩, rfl, by omega⟩, by go_num⟩, by simp [intOf]⟩
      have hc := hp'.chg.below (B := w.heap.size) (by have := hbw.size; simp; omega) (fun k hk => by rcases hk with rfl | hk; exact Nat.le_refl _; exact hH.out.1.row.ge hk)
      exact (hbw.alloc hbw.size _).trans hc

end Go.Proofs.Ytinkhlfmjfahpaa.PLoadKeeps
