/- The walk's better. The walk's spread. -/
import Derived.Test.YtinkhlfmjfahpaaCb
import Derived.Test.YtinkhlfmjfahpaaCa
import Derived.Deep.QuietTactic
import Derived.BigQuiet
namespace Go.Proofs.Ytinkhlfmjfahpaa.PLoadKeeps
open Go.RowKit Go.Proofs.YtinkhlfmjfahpaaW.PrintWords Go.Proofs.YtinkhlfmjfahpaaW.PrintLast Go.Proofs.YtinkhlfmjfahpaaW.PrintMore
set_option linter.unusedVariables false
set_option linter.unusedSimpArgs false

abbrev Known := Int → Option (Int × Int)
def encR (k : Int) (r : Int × Int) : Value := .agg #[.int .i64 k, .int .i64 r.1, .int .u64 r.2]
def encK (K : Known) : Int → Option Value := fun k => (K k).map (encR k)
def encD (D : Int → Bool) : Int → Option Value := fun k => if D k then some (.bool true) else none
def setK (K : Known) (k : Int) (r : Int × Int) : Known := fun j => if j = k then some r else K j
theorem encK_set (K : Known) (k : Int) (r : Int × Int) : encK (setK K k r) = put (encK K) k (encR k r) := by
  funext j
  unfold encK setK put
  by_cases h : j = k
  · subst h; simp
  · simp [h]

/-- A walk's state in memory: from block B on. -/
structure WalkW (B : Nat) (W : World) (pw : Nat) (root : Int) (kb db ph : Nat) (K : Known) (D : Int → Bool) (v : Value) (xs : List S94) : Prop where
  blk : W.heap[pw]? = some (.cells #[.int .i64 root, .map (some kb), .map (some db), .pointer (some ⟨ph, 0, none⟩)] 96 (0, 0))
  known : IMap W kb (encK K)
  done : IMap W db (encD D)
  hp : Ptr1 W ph 122 v
  row : Spots W B v xs
  ne : kb ≠ db
  ge : B ≤ pw ∧ B ≤ kb ∧ B ≤ db ∧ B ≤ ph
  lt : B ≤ W.heap.size

/-- What a route does to what is known, and to the heap. -/
def betterS (K : Known) (xs : List S94) (t via c : Int) : Known × List S94 :=
  match K t with
  | none => (setK K t (via, c), hput xs ⟨c, t⟩)
  | some r => if c < r.2 then (setK K t (via, c), hput xs ⟨c, t⟩) else if r.2 < c ∨ r.1 ≤ via then (K, xs) else (setK K t (via, c), xs)

theorem WalkW.below {B : Nat} {W W' : World} {pw : Nat} {root : Int} {kb db ph : Nat} {K : Known} {D : Int → Bool} {v : Value} {xs : List S94} (h : WalkW B W pw root kb db ph K D v xs) (hb : Below W.heap.size W W') : WalkW B W' pw root kb db ph K D v xs :=
  ⟨(hb.block _ (blk_lt h.blk)).trans h.blk, h.known.below hb, h.done.below hb, (hb.block _ (blk_lt h.hp)).trans h.hp, h.row.below hb, h.ne, h.ge, Nat.le_trans h.lt hb.size⟩

def wasT (K : Known) (t : Int) : Int := match K t with | none => 0 | some _ => t
def wasV (K : Known) (t : Int) : Int := match K t with | none => 0 | some r => r.1
def wasC (K : Known) (t : Int) : Int := match K t with | none => 0 | some r => r.2
def wasB (K : Known) (t : Int) : Bool := match K t with | none => false | some _ => true
theorem encK_was (K : Known) (t : Int) (ok : Bool) : (if ok then Value.tuple #[(encK K t).getD (.agg #[.int .i64 0, .int .i64 0, .int .u64 0]), .bool (encK K t).isSome] else (encK K t).getD (.agg #[.int .i64 0, .int .i64 0, .int .u64 0])) = if ok then Value.tuple #[.agg #[.int .i64 (wasT K t), .int .i64 (wasV K t), .int .u64 (wasC K t)], .bool (wasB K t)] else .agg #[.int .i64 (wasT K t), .int .i64 (wasV K t), .int .u64 (wasC K t)] := by
  unfold encK wasT wasV wasC wasB
  cases K t <;> rfl
/-- What a walk's call may have changed. -/
structure WF (kb db ph : Nat) (v : Value) (W w' : World) (v' : Value) : Prop where
  chg : Chg (fun k => k = kb ∨ k = db ∨ k = ph ∨ v.ownBlock = some k) W w'
  at_ : v'.ownBlock = v.ownBlock ∨ ∃ b, v'.ownBlock = some b ∧ W.heap.size ≤ b
theorem WF.of_below {kb db ph : Nat} {v : Value} {W w' : World} (h : Below W.heap.size W w') : WF kb db ph v W w' v := ⟨Chg.of_below h _, .inl rfl⟩
theorem WF.trans {kb db ph : Nat} {v v1 v2 : Value} {W w1 w2 : World} (h : WF kb db ph v W w1 v1) (k : WF kb db ph v1 w1 w2 v2) : WF kb db ph v W w2 v2 := by
  refine ⟨h.chg.trans k.chg (fun j hj hs => ?_), ?_⟩
  · rcases hs with hs | hs | hs | hs
    · exact .inl hs
    · exact .inr (.inl hs)
    · exact .inr (.inr (.inl hs))
    · rcases h.at_ with e | ⟨b, e, hb⟩
      · exact .inr (.inr (.inr (e ▸ hs)))
      · rw [hs] at e; injection e with e; omega
  · rcases k.at_ with e | ⟨b, e, hb⟩
    · rw [e]; exact h.at_
    · exact .inr ⟨b, e, Nat.le_trans h.chg.size hb⟩
theorem WF.below {kb db ph : Nat} {v v1 : Value} {W w1 : World} (h : WF kb db ph v W w1 v1) {B : Nat} (hB : B ≤ W.heap.size) (hg : B ≤ kb ∧ B ≤ db ∧ B ≤ ph) (hv : ∀ k, v.ownBlock = some k → B ≤ k) : Below B W w1 :=
  h.chg.below hB (fun k hs => by rcases hs with rfl | rfl | rfl | hs; exact hg.1; exact hg.2.1; exact hg.2.2; exact hv k hs)
def BPost (B : Nat) (W : World) (pw : Nat) (root : Int) (kb db ph : Nat) (K : Known) (D : Int → Bool) (v : Value) (xs : List S94) (w' : World) : Prop := ∃ v', WalkW B w' pw root kb db ph K D v' xs ∧ WF kb db ph v W w' v'

theorem under63 : Try.prog.underlying 63 = Try.prog.underlying 62 := by kernel_rfl

theorem betterS_put {K : Known} {xs : List S94} {t via c : Int} (h : wasB K t = false ∨ c < wasC K t) : betterS K xs t via c = (setK K t (via, c), hput xs ⟨c, t⟩) := by
  unfold betterS
  unfold wasB wasC at h
  cases hk : K t with
  | none => rfl
  | some r => simp only [hk] at h ⊢; rw [if_pos (by simpa using h)]
theorem betterS_stay {K : Known} {xs : List S94} {t via c : Int} (h : wasB K t = true) (h1 : wasC K t ≤ c) (h2 : wasC K t < c ∨ wasV K t ≤ via) : betterS K xs t via c = (K, xs) := by
  unfold betterS
  unfold wasB at h
  unfold wasC at h1 h2
  unfold wasV at h2
  cases hk : K t with
  | none => simp [hk] at h
  | some r => simp only [hk] at h1 h2 ⊢; rw [if_neg (by omega), if_pos h2]
theorem betterS_turn {K : Known} {xs : List S94} {t via c : Int} (h : wasB K t = true) (h1 : wasC K t ≤ c) (h2 : c ≤ wasC K t) (h3 : via < wasV K t) : betterS K xs t via c = (setK K t (via, c), xs) := by
  unfold betterS
  unfold wasB at h
  unfold wasC at h1 h2
  unfold wasV at h3
  cases hk : K t with
  | none => simp [hk] at h
  | some r => simp only [hk] at h1 h2 h3 ⊢; rw [if_neg (by omega), if_neg (by omega)]
theorem WalkW.heaped {B : Nat} {W W' : World} {pw : Nat} {root : Int} {kb db ph : Nat} {K : Known} {D : Int → Bool} {v v' : Value} {xs xs' : List S94} (h : WalkW B W pw root kb db ph K D v xs) (hp : Heaped W W' B ph v xs' v') : WalkW B W' pw root kb db ph K D v' xs' ∧ WF kb db ph v W W' v' := by
  have hv : ∀ k, v.ownBlock = some k → k < W.heap.size ∧ B ≤ k := fun k hk => ⟨h.row.lt hk, h.row.ge hk⟩
  have n1 : ∀ {k : Nat} {cs : Array Value} {t : TypeId}, W.heap[k]? = some (.cells cs t (0, 0)) → t ≠ 122 → t ≠ 94 → ¬ (k = ph ∨ v.ownBlock = some k) := by
    intro k cs t hk h1 h2 hor
    rcases hor with rfl | hor
    · exact blk_ne hk h.hp h1 rfl
    · obtain ⟨cells, hc⟩ := h.row.typed hor
      exact blk_ne hk hc h2 rfl
  have n2 : ∀ {k : Nat} {f : Int → Option Value}, IMap W k f → ¬ (k = ph ∨ v.ownBlock = some k) := by
    intro k f hk hor
    rcases hor with rfl | hor
    · exact hk.ne_cells h.hp rfl
    · obtain ⟨cells, hc⟩ := h.row.typed hor
      exact hk.ne_cells hc rfl
  refine ⟨⟨hp.chg.blk h.blk (n1 h.blk (by decide) (by decide)), h.known.chg hp.chg (n2 h.known), h.done.chg hp.chg (n2 h.done), hp.ptr, hp.row, h.ne, h.ge, Nat.le_trans h.lt hp.chg.size⟩, ?_⟩
  exact ⟨hp.chg.mono (fun k _ hk => by rcases hk with hk | hk; exact .inr (.inr (.inl hk)); exact .inr (.inr (.inr hk))), hp.at_⟩
theorem WalkW.knows {B : Nat} {W W' : World} {pw : Nat} {root : Int} {kb db ph : Nat} {K K' : Known} {D : Int → Bool} {v : Value} {xs : List S94} (h : WalkW B W pw root kb db ph K D v xs) (hm : IMap W' kb (encK K')) (hc : Chg (fun j => j = kb) W W') : WalkW B W' pw root kb db ph K' D v xs ∧ WF kb db ph v W W' v := by
  have hv : ∀ k, v.ownBlock = some k → ¬ k = kb := fun k hk e => by
    obtain ⟨cells, hcc⟩ := h.row.typed hk
    exact h.known.ne_cells hcc e.symm
  exact ⟨⟨hc.blk h.blk (fun e => h.known.ne_cells h.blk e.symm), hm, h.done.chg hc (fun e => h.ne e.symm), hc.blk h.hp (fun e => h.known.ne_cells h.hp e.symm), h.row.chg hc hv, h.ne, h.ge, Nat.le_trans h.lt hc.size⟩, ⟨hc.mono (fun k _ hk => .inl hk), .inl rfl⟩⟩

set_option maxHeartbeats 1600000 in
set_option maxRecDepth 100000 in
theorem spf_better.calls (B : Nat) (W : World) (pw : Nat) (root : Int) (kb db ph : Nat) (K : Known) (D : Int → Bool) (v : Value) (xs : List S94) (t via c : Int) (hW : WalkW B W pw root kb db ph K D v xs) (hn : xs.length ≤ 1000000) :
    Calls Try.prog 70 #[.pointer (some ⟨pw, 0, none⟩), .agg #[.int .i64 t, .int .i64 via, .int .u64 c]] W fun e w' => e = .returned (.tuple #[]) ∧ BPost B W pw root kb db ph (betterS K xs t via c).1 D v (betterS K xs t via c).2 w' := by
  have hl : pw < W.heap.size := blk_lt hW.blk
  have hk1 : W.cell? ⟨pw, 1, none⟩ = some (.map (some kb)) := (blk_cell hW.blk 1).trans rfl
  have hk3 : W.cell? ⟨pw, 3, none⟩ = some (.pointer (some ⟨ph, 0, none⟩)) := (blk_cell hW.blk 3).trans rfl
  have hz63 : ∀ w, (zeroValue 63).run Try.prog w = .ok (.agg #[.int .i64 0, .int .i64 0, .int .u64 0]) w := fun w => by kernel_rfl
  have HW := Aside0.mk hW
  clear hW
  go_enter Try.func70, Try.ntmps70
  go_upto_region 1 with fail
  go_cut [4, 5] (fun s4 s5 wx => ∃ b4 : Nat, s4 = .pointer (some ⟨b4, 0, none⟩) ∧ s5 = .bool (wasB K t) ∧ W.heap.size < b4 ∧ wx.heap[b4]? = some (.cells #[.int .i64 (wasT K t), .int .i64 (wasV K t), .int .u64 (wasC K t)] 63 (0, 0)) ∧ wx.heap[W.heap.size]? = some (.cells #[.int .i64 t, .int .i64 via, .int .u64 c] 63 (0, 0)) ∧ Below W.heap.size W wx)
  case first =>
    have hlk1 := (HW.out.known.below (w1 := (W.alloc (.cells #[.int .i64 t, .int .i64 via, .int .u64 c] 63)).drew) (by go_grown)).lookup Try.underlying89 Try.underlying3 _ hz63 t true
    have hlk2 := (HW.out.known.below (w1 := ((W.alloc (.cells #[.int .i64 t, .int .i64 via, .int .u64 c] 63)).alloc (.cells #[.int .i64 0, .int .i64 0, .int .u64 0] 63)).drew) (by go_grown)).lookup Try.underlying89 Try.underlying3 _ hz63 t true
    rw [encK_was] at hlk1 hlk2
    simp only [if_true] at hlk1 hlk2
    go_region
    all_goals
      go_wp2_with fail
      go_meet
      case rel =>
        refine ⟨W.heap.size + 1, rfl, rfl, by omega, two_new W _ _, blk_drew (blk_alloc (heap_alloc_new _ _) _), ?_⟩
        go_grown
  case rest =>
    obtain ⟨b4, rfl, rfl, hb4, hw4, hw3, hb⟩ := hcut
    have hWc := HW.out.below hb
    have hn3 : W.heap.size ≠ pw ∧ W.heap.size ≠ ph ∧ b4 ≠ pw ∧ b4 ≠ ph := by have := blk_lt HW.out.hp; have := blk_lt HW.out.blk; omega
    have x0 : wc.cell? ⟨W.heap.size, 0, none⟩ = some (.int .i64 t) := (blk_cell hw3 0).trans rfl
    have x1 : wc.cell? ⟨W.heap.size, 1, none⟩ = some (.int .i64 via) := (blk_cell hw3 1).trans rfl
    have x2 : wc.cell? ⟨W.heap.size, 2, none⟩ = some (.int .u64 c) := (blk_cell hw3 2).trans rfl
    have y1 : wc.cell? ⟨b4, 1, none⟩ = some (.int .i64 (wasV K t)) := (blk_cell hw4 1).trans rfl
    have y2 : wc.cell? ⟨b4, 2, none⟩ = some (.int .u64 (wasC K t)) := (blk_cell hw4 2).trans rfl
    clear hk1 hk3
    have hk1 : wc.cell? ⟨pw, 1, none⟩ = some (.map (some kb)) := (blk_cell hWc.blk 1).trans rfl
    have hk3 : wc.cell? ⟨pw, 3, none⟩ = some (.pointer (some ⟨ph, 0, none⟩)) := (blk_cell hWc.blk 3).trans rfl
    have HWc := Aside0.mk hWc
    have HB := Aside0.mk hb
    have H3 := Aside0.mk (And.intro hw3 hb4)
    clear hWc hb hw3 hw4 hb4
    have HL := Aside0.mk HW.out.lt
    have HZ := Aside0.mk HB.out.size
    have HWF := Aside0.mk (WF.of_below (kb := kb) (db := db) (ph := ph) (v := v) HB.out)
    generalize hb3 : W.heap.size = b3 at *
    clear hb3
    obtain ⟨w2, rfl⟩ : ∃ w2, w2 = wc := ⟨_, rfl⟩
    go_upto_block 0 with fail
    go_cut [5, 16, 36] (fun s5 s16 s36 wx => ∃ v' xs', Aside0 (WalkW B wx pw root kb db ph K D v' xs' ∧ WF kb db ph v W wx v' ∧ betterS K xs t via c = (setK K t (via, c), xs') ∧ wx.heap[b3]? = some (.cells #[.int .i64 t, .int .i64 via, .int .u64 c] 63 (0, 0))))
    case first =>
      go_upto_region 3 with fail
      · have hbt := betterS_put (K := K) (xs := xs) (t := t) (via := via) (c := c) (by first | (left; simpa using ‹¬ wasB K t = true›) | (right; assumption))
        go_still_tail 9, (by kernel_rfl)
        change wpList _ _ _ _ _ w2.drew
        have hbd : Below w2.heap.size w2 w2.drew := (Below.refl _ _).drew
        clear hk1 hk3 x0 x1 x2 y1 y2
        have hW2 := HWc.out.below hbd
        have hb2 := HWF.out.trans (WF.of_below hbd)
        have h63 : w2.drew.heap[b3]? = some (.cells #[.int .i64 t, .int .i64 via, .int .u64 c] 63 (0, 0)) := H3.out.1
        generalize w2.drew = w4 at hbd hW2 hb2 h63 ⊢
        go_wp2_with (go_at_call 67; refine (heap_Put.calls w4 B ph v xs ⟨c, t⟩ hW2.hp hW2.row hW2.lt hn).mono ?_; rintro e w' ⟨rfl, v', hp'⟩)
        go_meet
        case rel =>
          obtain ⟨q1, q2⟩ := hW2.heaped hp'
          exact ⟨v', hput xs ⟨c, t⟩, ⟨q1, hb2.trans q2, hbt, hp'.chg.blk h63 (by
            rintro (h | h)
            · exact blk_ne h63 (h ▸ hW2.hp) (by decide) rfl
            · obtain ⟨cells, hc⟩ := hW2.row.typed h
              exact blk_ne h63 hc (by decide) rfl)⟩⟩
      · have hbt := betterS_stay (K := K) (xs := xs) (t := t) (via := via) (c := c) (by assumption) (by assumption) (by first | assumption | (left; assumption))
        exact bodyPost_ret (v := .tuple #[]) (by simp [results, Try.results70, go_sem]) rfl ⟨rfl, v, by rw [hbt]; exact ⟨HWc.out, HWF.out⟩⟩
      · have hbt := betterS_turn (K := K) (xs := xs) (t := t) (via := via) (c := c) (by assumption) (by assumption) (by assumption) (‹c ≤ wasC K t ∧ via < wasV K t›.2)
        go_meet
        case rel => exact ⟨v, xs, ⟨HWc.out, HWF.out, hbt, H3.out.1⟩⟩
      · have hbt := betterS_stay (K := K) (xs := xs) (t := t) (via := via) (c := c) (by assumption) (by assumption) (by first | assumption | (left; assumption))
        exact bodyPost_ret (v := .tuple #[]) (by simp [results, Try.results70, go_sem]) rfl ⟨rfl, v, by rw [hbt]; exact ⟨HWc.out, HWF.out⟩⟩
      · have hbt := betterS_put (K := K) (xs := xs) (t := t) (via := via) (c := c) (by first | (left; simpa using ‹¬ wasB K t = true›) | (right; assumption))
        go_still_tail 9, (by kernel_rfl)
        change wpList _ _ _ _ _ w2.drew
        have hbd : Below w2.heap.size w2 w2.drew := (Below.refl _ _).drew
        clear hk1 hk3 x0 x1 x2 y1 y2
        have hW2 := HWc.out.below hbd
        have hb2 := HWF.out.trans (WF.of_below hbd)
        have h63 : w2.drew.heap[b3]? = some (.cells #[.int .i64 t, .int .i64 via, .int .u64 c] 63 (0, 0)) := H3.out.1
        generalize w2.drew = w4 at hbd hW2 hb2 h63 ⊢
        go_wp2_with (go_at_call 67; refine (heap_Put.calls w4 B ph v xs ⟨c, t⟩ hW2.hp hW2.row hW2.lt hn).mono ?_; rintro e w' ⟨rfl, v', hp'⟩)
        go_meet
        case rel =>
          obtain ⟨q1, q2⟩ := hW2.heaped hp'
          exact ⟨v', hput xs ⟨c, t⟩, ⟨q1, hb2.trans q2, hbt, hp'.chg.blk h63 (by
            rintro (h | h)
            · exact blk_ne h63 (h ▸ hW2.hp) (by decide) rfl
            · obtain ⟨cells, hc⟩ := hW2.row.typed h
              exact blk_ne h63 hc (by decide) rfl)⟩⟩
    case rest =>
      obtain ⟨v', xs', hS⟩ := hcut
      clear hk1 hk3 x0 x1 x2 y1 y2
      have h96 := hS.out.1.blk
      have h63 := hS.out.2.2.2
      have hk1 : wc.cell? ⟨pw, 1, none⟩ = some (.map (some kb)) := (blk_cell h96 1).trans rfl
      have x0 : wc.cell? ⟨b3, 0, none⟩ = some (.int .i64 t) := (blk_cell h63 0).trans rfl
      have x1 : wc.cell? ⟨b3, 1, none⟩ = some (.int .i64 via) := (blk_cell h63 1).trans rfl
      have x2 : wc.cell? ⟨b3, 2, none⟩ = some (.int .u64 c) := (blk_cell h63 2).trans rfl
      clear h96 h63
      go_wp2
      go_still_tail 7, (by kernel_rfl)
      change wpList _ _ _ _ _ wc.drew
      have hbd : Below wc.heap.size wc wc.drew := (Below.refl _ _).drew
      clear hk1 x0 x1 x2
      have hW2 := hS.out.1.below hbd
      have hb2 := hS.out.2.1.trans (WF.of_below hbd)
      generalize wc.drew = w4 at hbd hW2 hb2 ⊢
      obtain ⟨w5, hrun, hm, hc⟩ := hW2.known.store (P := Try.prog) Try.underlying89 Try.underlying3 t (encR t (via, c))
      rw [← encK_set] at hm
      obtain ⟨q1, q2⟩ := hW2.knows hm hc
      unfold encR at hrun
      have HQ := Aside0.mk (And.intro q1 (hb2.trans q2))
      clear q1 q2 hm hc hW2 hb2 hbd
      go_wp2
      go_end0
      exact ⟨rfl, v', by rw [hS.out.2.2.1]; exact HQ.out⟩

end Go.Proofs.Ytinkhlfmjfahpaa.PLoadKeeps

namespace Go.Proofs.Ytinkhlfmjfahpaa.PLoadKeeps
open Go.RowKit Go.Proofs.YtinkhlfmjfahpaaW.PrintWords Go.Proofs.YtinkhlfmjfahpaaW.PrintLast Go.Proofs.YtinkhlfmjfahpaaW.PrintMore
set_option linter.unusedVariables false
set_option linter.unusedSimpArgs false

/-- What an arc from a settled node does. -/
def stepA (root n : Int) (D : Int → Bool) (av ac : Int) (s : Known × List S94) (a : S31) : Known × List S94 :=
  if a.f1 = root then s else if D a.f1 = true then s else betterS s.1 s.2 a.f1 (if n = root then a.f1 else av) (ac + a.f2)
def spreadS (root n : Int) (D : Int → Bool) (arcs : List S31) (s : Known × List S94) : Known × List S94 := arcs.foldl (stepA root n D (wasV s.1 n) (wasC s.1 n)) s

theorem WalkW.keep {B : Nat} {W W' : World} {pw : Nat} {root : Int} {kb db ph : Nat} {K : Known} {D : Int → Bool} {v v' : Value} {xs : List S94} (h : WalkW B W pw root kb db ph K D v xs) (hf : WF kb db ph v W W' v') {k : Nat} {cs : Array Value} {t : TypeId} (hk : W.heap[k]? = some (.cells cs t (0, 0))) (h1 : t ≠ 122) (h2 : t ≠ 94) : W'.heap[k]? = some (.cells cs t (0, 0)) := by
  refine hf.chg.blk hk ?_
  rintro (rfl | rfl | rfl | hor)
  · exact h.known.ne_cells hk rfl
  · exact h.done.ne_cells hk rfl
  · exact blk_ne hk h.hp h1 rfl
  · obtain ⟨cells, hc⟩ := h.row.typed hor
    exact blk_ne hk hc h2 rfl
theorem WalkW.wbelow {B : Nat} {W W' : World} {pw : Nat} {root : Int} {kb db ph : Nat} {K : Known} {D : Int → Bool} {v v' : Value} {xs : List S94} (h : WalkW B W pw root kb db ph K D v xs) (hf : WF kb db ph v W W' v') : Below B W W' :=
  hf.below h.lt ⟨h.ge.2.1, h.ge.2.2.1, h.ge.2.2.2⟩ (fun k hk => h.row.ge hk)
/-- An arc of a list. -/
def ar (l : List S31) (i : Nat) : S31 := l.getD i z31

theorem encD_was (D : Int → Bool) (t : Int) : (encD D t).getD (.bool false) = .bool (D t) := by
  unfold encD
  cases D t <;> rfl
theorem hput_len (l : List S94) (s : S94) : (hput l s).length = l.length + 1 := by
  have h : ∀ k (l : List S94) i, (siftUp k l i).length = l.length := by
    intro k
    induction k with
    | zero => intro l i; rfl
    | succ k ih =>
      intro l i
      cases i with
      | zero => rfl
      | succ i =>
        unfold siftUp
        split
        · rw [ih]; simp [swp]
        · rfl
  unfold hput
  rw [h]; simp
theorem betterS_len (K : Known) (xs : List S94) (t via c : Int) : (betterS K xs t via c).2.length ≤ xs.length + 1 := by
  unfold betterS
  split
  · simp [hput_len]
  · split
    · simp [hput_len]
    · split <;> simp
theorem stepA_len (root n : Int) (D : Int → Bool) (av ac : Int) (s : Known × List S94) (a : S31) : (stepA root n D av ac s a).2.length ≤ s.2.length + 1 := by
  unfold stepA
  split
  · omega
  · split
    · omega
    · exact betterS_len ..
theorem add_small (a b : Int) (h0 : 0 ≤ a) (h1 : a ≤ 1125899906842624) (h2 : 0 ≤ b) (h3 : b ≤ 1073741824) : cost_Add.f a b = some (a + b) := by
  unfold cost_Add.f cost_Far.f
  simp only [Option.bind_some]
  rw [if_neg (by unfold IntKind.wrap; simp [IntKind.bits, IntKind.signed]; omega)]
  congr 1
  unfold IntKind.wrap; simp [IntKind.bits, IntKind.signed]; omega

def SPost (B : Nat) (W : World) (pw : Nat) (root : Int) (kb db ph : Nat) (s : Known × List S94) (D : Int → Bool) (v : Value) (e : Ending) (w' : World) : Prop := e = .returned (.tuple #[]) ∧ BPost B W pw root kb db ph s.1 D v s.2 w'

theorem cost_Far.same (w : World) : Calls Try.prog 78 #[] w fun e w' => e = .returned (.int .u64 18446744073709551615) ∧ w = w' := by
  go_enter Try.func78, Try.ntmps78
  go_wp2
  go_ret
  exact ⟨rfl, rfl⟩
theorem wrapFar (b : Int) (h2 : 0 ≤ b) (h3 : b ≤ 1073741824) : IntKind.u64.wrap (18446744073709551615 - b) = 18446744073709551615 - b := by
  unfold IntKind.wrap; simp [IntKind.bits, IntKind.signed]; omega
theorem wrapU (b : Int) (h2 : 0 ≤ b) (h3 : b ≤ 1073741824) : IntKind.u64.wrap b = b := by
  unfold IntKind.wrap; simp [IntKind.bits, IntKind.signed]; omega
theorem cost_Add.same (a b : Int) (w : World) (h0 : 0 ≤ a) (h1 : a ≤ 1125899906842624) (h2 : 0 ≤ b) (h3 : b ≤ 1073741824) : Calls Try.prog 71 #[.int .u64 a, .int .u64 b] w fun e w' => e = .returned (.int .u64 (a + b)) ∧ w' = w := by
  go_enter Try.func71, Try.ntmps71
  go_wp2_with (go_at_call 78; refine (cost_Far.same _).mono ?_; rintro e w' ⟨rfl, rfl⟩)
  go_ret
  exact ⟨rfl, rfl⟩
/-- After k arcs. -/
structure SpR (B : Nat) (pw : Nat) (root : Int) (kb db ph : Nat) (D : Int → Bool) (W : World) (v : Value) (arcs : List S31) (K : Known) (xs : List S94) (n av ac at0 : Int) (k : Nat) (K' : Known) (xs' : List S94) (v' : Value) (wr : World) : Prop where
  walk : WalkW B wr pw root kb db ph K' D v' xs'
  fold : (K', xs') = (arcs.take k).foldl (stepA root n D av ac) (K, xs)
  wf : WF kb db ph v W wr v'
  at_ : wr.heap[W.heap.size]? = some (.cells #[.int .i64 at0, .int .i64 av, .int .u64 ac] 63 (0, 0))
  le : k ≤ arcs.length
  len : xs'.length ≤ xs.length + k
theorem SpR.step {B : Nat} {pw : Nat} {root : Int} {kb db ph : Nat} {D : Int → Bool} {W : World} {v : Value} {arcs : List S31} {K : Known} {xs : List S94} {n av ac at0 : Int} {k : Nat} {K' K2 : Known} {xs' xs2 : List S94} {v' v2 : Value} {wr w2 : World}
    (h : SpR B pw root kb db ph D W v arcs K xs n av ac at0 k K' xs' v' wr) (hk : k < arcs.length) (hs : stepA root n D av ac (K', xs') (ar arcs k) = (K2, xs2)) (hw : WalkW B w2 pw root kb db ph K2 D v2 xs2) (hf : WF kb db ph v' wr w2 v2) :
    SpR B pw root kb db ph D W v arcs K xs n av ac at0 (k + 1) K2 xs2 v2 w2 := by
  refine ⟨hw, ?_, h.wf.trans hf, h.walk.keep hf h.at_ (by decide) (by decide), hk, ?_⟩
  · rw [List.take_succ_eq_append_getElem hk, List.foldl_append, ← h.fold]
    simp only [List.foldl_cons, List.foldl_nil]
    rw [← hs]
    unfold ar
    rw [List.getD_eq_getElem?_getD, List.getElem?_eq_getElem hk]
    rfl
  · have := stepA_len root n D av ac (K', xs') (ar arcs k)
    rw [hs] at this
    have := h.len
    simp at *
    omega

set_option maxHeartbeats 3200000 in
set_option maxRecDepth 100000 in
theorem spf_spread.calls (B : Nat) (w0 W : World) (pw : Nat) (root : Int) (kb db ph : Nat) (K : Known) (D : Int → Bool) (v : Value) (xs : List S94) (A : Option Addr) (cp : Nat) (arcs : List S31) (n : Int)
    (hW : WalkW B W pw root kb db ph K D v xs) (hA : Kd.C k31 w0 A arcs.length arcs) (hcp : arcs.length ≤ cp) (hB0 : w0.heap.size ≤ B) (hb0 : Below w0.heap.size w0 W)
    (hn : xs.length + arcs.length ≤ 1000000) (hac : ∀ a ∈ arcs, 1 ≤ a.f2 ∧ a.f2 ≤ 1073741824) (hc0 : 0 ≤ wasC K n ∧ wasC K n ≤ 1125899906842624) :
    Calls Try.prog 51 #[.pointer (some ⟨pw, 0, none⟩), .slice A arcs.length cp, .int .i64 n] W (SPost B W pw root kb db ph (spreadS root n D arcs (K, xs)) D v) := by
  have hl : pw < W.heap.size := blk_lt hW.blk
  have hk1 : W.cell? ⟨pw, 1, none⟩ = some (.map (some kb)) := (blk_cell hW.blk 1).trans rfl
  have hz63 : ∀ w, (zeroValue 63).run Try.prog w = .ok (.agg #[.int .i64 0, .int .i64 0, .int .u64 0]) w := fun w => by kernel_rfl
  have hz4 : ∀ w, (zeroValue 4).run Try.prog w = .ok (.bool false) w := fun w => by kernel_rfl
  have hlk := hW.known.lookup Try.underlying89 Try.underlying3 _ hz63 n false
  rw [encK_was] at hlk
  simp only [Bool.false_eq_true, if_false] at hlk
  have HW := Aside0.mk hW
  have HA := Aside0.mk hA
  have HAC := Aside0.mk hac
  have HB0 := Aside0.mk (And.intro hB0 hb0)
  clear hW hA hac hB0 hb0
  go_enter Try.func51, Try.ntmps51
  go_wp2
  generalize hav : wasV K n = av at *
  generalize hacc : wasC K n = ac at *
  generalize hat' : wasT K n = at0 at *
  have HE := Aside0.mk (And.intro hav hacc)
  clear hav hacc hat' hlk
  have hW1 : WalkW B (W.alloc (.cells #[.int .i64 at0, .int .i64 av, .int .u64 ac] 63)) pw root kb db ph K D v xs := HW.out.below (below_alloc (Below.refl _ _) _)
  have HW1 := Aside0.mk hW1
  clear hW1
  go_loopw [18] (fun i wr => ∃ (k : Nat) (K' : Known) (xs' : List S94) (v' : Value), Aside0 (SpR B pw root kb db ph D W v arcs K xs n av ac at0 k K' xs' v' wr) ∧ i = .int .i64 k) (fun i _ => arcs.length - (intOf i).toNat)
  case atStart => exact ⟨0, K, xs, v, ⟨HW1.out, by simp, WF.of_below (below_alloc (Below.refl _ _) _), heap_alloc_new _ _, by omega, by omega⟩, rfl⟩
  case round =>
    obtain ⟨k, K', xs', v', hH, rfl⟩ := hrel
    have hwb : Below B W wr := HW.out.wbelow hH.out.wf
    have hrA := Kd.C_below HA.out (HB0.out.2.trans (hwb.mono HB0.out.1))
    have hkm : (k : Int) ≤ 1000000 := by have := hH.out.le; omega
    by_cases hk : k < arcs.length
    · obtain ⟨ad, rfl, h0, h1, h2⟩ := at_T31 hrA (k : Int) (by omega) (by omega)
      obtain ⟨a, ha⟩ : ∃ a, Aside0 (a = ar arcs k) := ⟨_, ⟨rfl⟩⟩
      rw [show rd_T31 arcs (k : Int) = a from ha.out.symm] at h0 h1 h2
      simp only [Int.toNat_natCast] at h0 h1 h2
      have ham : 1 ≤ a.f2 ∧ a.f2 ≤ 1073741824 := HAC.out a (by rw [ha.out]; unfold ar; rw [List.getD_eq_getElem?_getD, List.getElem?_eq_getElem hk]; exact List.getElem_mem _)
      have hWr := hH.out.walk
      have hlr : pw < wr.heap.size := blk_lt hWr.blk
      have hp0 : wr.cell? ⟨pw, 0, none⟩ = some (.int .i64 root) := (blk_cell hWr.blk 0).trans rfl
      have hp2 : wr.cell? ⟨pw, 2, none⟩ = some (.map (some db)) := (blk_cell hWr.blk 2).trans rfl
      clear hk1
      have hHW := Aside0.mk hWr
      clear hWr
      go_upto_region 4 with fail
      generalize hX : wr.alloc (.cells #[.int .i64 a.f0, .int .i64 a.f1, .int .i64 a.f2] 31) = X
      have hbX : Below wr.heap.size wr X := by rw [← hX]; exact below_alloc (Below.refl _ _) _
      have ha31 : X.heap[wr.heap.size]? = some (.cells #[.int .i64 a.f0, .int .i64 a.f1, .int .i64 a.f2] 31 (0, 0)) := by rw [← hX]; exact heap_alloc_new _ _
      clear hX h0 h1 h2 hp0 hp2
      have hWX := hHW.out.below hbX
      have hlr2 : pw < X.heap.size := blk_lt hWX.blk
      have hp0 : X.cell? ⟨pw, 0, none⟩ = some (.int .i64 root) := (blk_cell hWX.blk 0).trans rfl
      have hp2 : X.cell? ⟨pw, 2, none⟩ = some (.map (some db)) := (blk_cell hWX.blk 2).trans rfl
      have q1 : X.cell? ⟨wr.heap.size, 1, none⟩ = some (.int .i64 a.f1) := (blk_cell ha31 1).trans rfl
      have q2 : X.cell? ⟨wr.heap.size, 2, none⟩ = some (.int .i64 a.f2) := (blk_cell ha31 2).trans rfl
      have hlq := fun nq => (hWX.done.below (pw_below_drewN (Below.refl _ _) nq)).lookup (P := Try.prog) Try.underlying90 Try.underlying3 _ hz4 a.f1 false
      simp only [Bool.false_eq_true, if_false, encD_was] at hlq
      have HWX := Aside0.mk hWX
      have HA31 := Aside0.mk ha31
      clear hWX ha31
      have HbX := Aside0.mk hbX
      clear hbX
      generalize hba : wr.heap.size = ba at *
      have HBA := Aside0.mk hba
      clear hba
      by_cases hr : a.f1 = root
      · have hbe : (a.f1 == root) = true := by rw [beq_iff_eq]; exact hr
        go_quiet (fail)
        go_wp2
        have hb2 : Below wr.heap.size wr (X.drewN nq) := by rw [HBA.out]; exact pw_below_drewN HbX.out nq
        have hst : stepA root n D av ac (K', xs') (ar arcs k) = (K', xs') := by unfold stepA; rw [← ha.out, if_pos hr]
        exact ⟨⟨k + 1, K', xs', v', ⟨hH.out.step hk hst (HWX.out.below (pw_below_drewN (Below.refl _ _) nq)) (WF.of_below hb2)⟩, by go_num⟩, by simp [intOf]; omega⟩
      · have hbe : (a.f1 == root) = false := by rw [beq_eq_false_iff_ne]; exact hr
        go_quiet (fail)
        have hb2 : Below wr.heap.size wr (X.drewN nq) := by rw [HBA.out]; exact pw_below_drewN HbX.out nq
        have hW2 := HWX.out.below (pw_below_drewN (Below.refl _ _) nq)
        have ha31 : (X.drewN nq).heap[ba]? = some (.cells #[.int .i64 a.f0, .int .i64 a.f1, .int .i64 a.f2] 31 (0, 0)) := HA31.out
        have hat : (X.drewN nq).heap[W.heap.size]? = some (.cells #[.int .i64 at0, .int .i64 av, .int .u64 ac] 63 (0, 0)) := (hb2.block _ (blk_lt hH.out.at_)).trans hH.out.at_
        clear hp0 hp2 q1 q2 hlq hlr2 HWX HbX HA31
        generalize X.drewN nq = w2 at hb2 hW2 ha31 hat ⊢
        cases hD : D a.f1 with
        | true =>
          go_wp2
          have hst : stepA root n D av ac (K', xs') (ar arcs k) = (K', xs') := by unfold stepA; rw [← ha.out, if_neg hr, if_pos hD]
          exact ⟨⟨k + 1, K', xs', v', ⟨hH.out.step hk hst hW2 (WF.of_below hb2)⟩, by go_num⟩, by simp [intOf]; omega⟩
        | false =>
          have hlr2 : pw < w2.heap.size := blk_lt hW2.blk
          have hp0 : w2.cell? ⟨pw, 0, none⟩ = some (.int .i64 root) := (blk_cell hW2.blk 0).trans rfl
          have q1 : w2.cell? ⟨ba, 1, none⟩ = some (.int .i64 a.f1) := (blk_cell ha31 1).trans rfl
          have q2 : w2.cell? ⟨ba, 2, none⟩ = some (.int .i64 a.f2) := (blk_cell ha31 2).trans rfl
          have y1 : w2.cell? ⟨W.heap.size, 1, none⟩ = some (.int .i64 av) := (blk_cell hat 1).trans rfl
          have y2 : w2.cell? ⟨W.heap.size, 2, none⟩ = some (.int .u64 ac) := (blk_cell hat 2).trans rfl
          have HW2 := Aside0.mk hW2
          clear hW2
          go_upto_region 8 with fail
          all_goals
            have hwr := wrapU a.f2 (by omega) ham.2
            refine wp_region_still_tail 11 (by kernel_rfl) (by kernel_rfl) ?_
            simp only [List.take_succ_cons, List.take_zero, List.drop_succ_cons, List.drop_zero]
            repeat still_step
            still_call (cost_Add.same ac a.f2 _ hc0.1 hc0.2 (by omega) ham.2)
            repeat still_step
            refine wpStill_nil ?_
            change wpList _ _ _ _ _ w2.drew
            have hbd : Below w2.heap.size w2 w2.drew := (Below.refl _ _).drew
            have hW3 := HW2.out.below hbd
            clear hp0 q1 q2 y1 y2 hlr2 hwr
            generalize w2.drew = w3 at hbd hW3 ⊢
            have hlen : xs'.length ≤ 1000000 := by have := hH.out.len; have := hH.out.le; omega
            go_wp2_with (go_at_call 70; refine (spf_better.calls B w3 pw root kb db ph K' D v' xs' _ _ _ hW3 hlen).mono ?_; rintro e w' ⟨rfl, v2, hW4, hf4⟩)
            refine ⟨⟨k + 1, _, _, v2, ⟨hH.out.step hk ?_ hW4 ((WF.of_below hb2).trans ((WF.of_below hbd).trans hf4))⟩, by go_num⟩, by simp [intOf]; omega⟩
            unfold stepA
            rw [← ha.out, if_neg hr, if_neg (by rw [hD]; simp)]
            first
              | rw [if_pos (by simpa using ‹(n == root) = true›)]
              | rw [if_neg (by simpa using ‹(n == root) = false›)]
    · have hk2 : ¬ ((k : Int) < arcs.length) := by omega
      go_wp2
      go_end0
      refine ⟨rfl, v', ?_, hH.out.wf⟩
      have hf := hH.out.fold
      rw [List.take_of_length_le (by omega)] at hf
      have e : spreadS root n D arcs (K, xs) = (K', xs') := by
        unfold spreadS
        rw [hf, HE.out.1, HE.out.2]
      rw [e]
      exact hH.out.walk

end Go.Proofs.Ytinkhlfmjfahpaa.PLoadKeeps
