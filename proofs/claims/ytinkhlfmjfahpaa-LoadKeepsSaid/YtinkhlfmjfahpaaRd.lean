/- route.Hops. -/
import Derived.Test.YtinkhlfmjfahpaaRb
namespace Go.Proofs.Ytinkhlfmjfahpaa.PLoadKeeps
open Go.RowKit Go.MapKept Go.Proofs.YtinkhlfmjfahpaaW.PrintWords Go.Proofs.YtinkhlfmjfahpaaW.PrintLast Go.Proofs.YtinkhlfmjfahpaaW.PrintMore
set_option linter.unusedVariables false
set_option linter.unusedSimpArgs false

def Next (l : List S31) (a t via : Int) : Prop := ∃ rs x, RoutesOf l a rs ∧ findR rs t = some x ∧ x.f1 = via
def NoNext (l : List S31) (a t : Int) : Prop := ∃ rs, RoutesOf l a rs ∧ findR rs t = none
/-- A way hop by hop, so far. -/
inductive Chain (l : List S31) (t : Int) (a : Int) : List Int → Int → Prop
  | start : Chain l t a [a] a
  | step {h : List Int} {b c : Int} (k : Chain l t a h b) (h1 : b ≠ t) (h2 : h.length ≤ 64) (h3 : Next l b t c) : Chain l t a (h ++ [c]) c
theorem Chain.len {l : List S31} {t a b : Int} {h : List Int} (k : Chain l t a h b) : 1 ≤ h.length ∧ h.length ≤ 65 := by
  induction k with
  | start => simp
  | step k h1 h2 h3 ih => simp; omega
def nodeB (n : Int) : Bool := decide (1 ≤ n ∧ n ≤ 64)
/-- What a way by hops is. -/
def HopsOf (l : List S31) (a t : Int) (h : List Int) (ok : Bool) : Prop :=
  if nodeB a = true ∧ nodeB t = true then
    (ok = true ∧ ∃ b, Chain l t a h b ∧ (b = t ∨ 64 < h.length)) ∨ (ok = false ∧ h = [] ∧ ∃ h' b, Chain l t a h' b ∧ b ≠ t ∧ NoNext l b t)
  else ok = false ∧ h = []
def HPost (w : World) (l : List S31) (a t : Int) (e : Ending) (w' : World) : Prop := ∃ v h ok, e = .returned (.tuple #[v, .bool ok]) ∧ FRow enc3 1 3 w' w.heap.size v h ∧ Below w.heap.size w w' ∧ HopsOf l a t h ok

theorem route_node.same (n : Int) (w : World) : Calls Try.prog 29 #[.int .i64 n] w fun e w' => e = .returned (.bool (nodeB n)) ∧ w' = w := by
  by_cases h1 : 1 ≤ n
  · by_cases h2 : n ≤ 64
    · have d1 : decide (1 ≤ n) = true := by simpa using h1
      have d2 : decide (n ≤ 64) = true := by simpa using h2
      go_enter Try.func29, Try.ntmps29
      go_wp2
      go_ret
      exact ⟨by simp [nodeB, h1, h2], rfl⟩
    · have d1 : decide (1 ≤ n) = true := by simpa using h1
      have d2 : decide (n ≤ 64) = false := by simpa using h2
      go_enter Try.func29, Try.ntmps29
      go_wp2
      go_ret
      exact ⟨by simp [nodeB, h1]; omega, rfl⟩
  · have d1 : decide (1 ≤ n) = false := by simpa using h1
    go_enter Try.func29, Try.ntmps29
    go_wp2
    go_ret
    exact ⟨by simp [nodeB]; omega, rfl⟩

theorem FRow.one {α : Type} {enc : α → List Value} {m : Nat} {e : TypeId} (hL : Lays enc m) (w : World) (x : α) : FRow enc m e (w.alloc (.cells (enc x).toArray e)) w.heap.size (.slice (some ⟨w.heap.size, 0, none⟩) 1 1) [x] := by
  refine ⟨by simp [hL.len], .inr ⟨w.heap.size, 1, (enc x).toArray, rfl, Nat.le_refl _, heap_alloc_new _ _, Nat.le_refl _, by simp [maxLen], by simp [hL.len], ?_⟩⟩
  simp [hL.len]
  rw [List.take_of_length_le (by rw [hL.len]; omega)]

set_option maxHeartbeats 3200000 in
set_option maxRecDepth 100000 in
theorem route_Hops.calls (k0 : Nat) (db : List S39) (A : Option Addr) (c : Nat) (a t : Int) (w : World) (hA : Kd.C k39 w A db.length db) (hcp : db.length ≤ c) (hok : DbOk db) (hn : db.length ≤ 1000) (hck : lsdb_Check.f k0 db = some 0)
    (har : ArcsOk (arcsOf db)) (hln : (arcsOf db).length ≤ 100000) :
    Calls Try.prog 22 #[.slice A db.length c, .int .i64 a, .int .i64 t] w (HPost w (arcsOf db) a t) := by
  have HA := Aside0.mk hA
  have HO := Aside0.mk (And.intro hok (And.intro hck (And.intro har hln)))
  clear hA hok hck har hln
  obtain ⟨na, hna⟩ : ∃ b, Aside0 (nodeB a = b) := ⟨_, ⟨rfl⟩⟩
  obtain ⟨nt, hnt⟩ : ∃ b, Aside0 (nodeB t = b) := ⟨_, ⟨rfl⟩⟩
  have hcA : ∀ w, Calls Try.prog 29 #[.int .i64 a] w fun e w' => e = .returned (.bool na) ∧ w' = w := fun w => hna.out ▸ route_node.same a w
  have hcT : ∀ w, Calls Try.prog 29 #[.int .i64 t] w fun e w' => e = .returned (.bool nt) ∧ w' = w := fun w => hnt.out ▸ route_node.same t w
  have HC := Aside0.mk (And.intro hcA hcT)
  clear hcA hcT
  cases na with
  | false =>
    go_enter Try.func22, Try.ntmps22
    go_wp2_with (first
      | (go_at_call 13; refine (lsdb_Check.calls k0 A c db 0 _ HA.out hcp HO.out.2.1).mono ?_; rintro e w1 ⟨rfl, hb1⟩)
      | (go_at_call 29; refine (HC.out.1 _).mono ?_; rintro e w' ⟨rfl, rfl⟩))
    refine bodyPost_ret (v := .tuple #[.slice none 0 0, .bool false]) (by simp [results, Try.results22, go_sem]) rfl ⟨.slice none 0 0, [], false, rfl, FRow.nil _ _, hb1, ?_⟩
    unfold HopsOf
    rw [if_neg (by rw [hna.out]; simp)]
    exact ⟨rfl, rfl⟩
  | true =>
    cases nt with
    | false =>
      go_enter Try.func22, Try.ntmps22
      go_wp2_with (first
        | (go_at_call 13; refine (lsdb_Check.calls k0 A c db 0 _ HA.out hcp HO.out.2.1).mono ?_; rintro e w1 ⟨rfl, hb1⟩)
        | (go_at_call 29; refine (HC.out.1 _).mono ?_; rintro e w' ⟨rfl, rfl⟩)
        | (go_at_call 29; refine (HC.out.2 _).mono ?_; rintro e w' ⟨rfl, rfl⟩))
      refine bodyPost_ret (v := .tuple #[.slice none 0 0, .bool false]) (by simp [results, Try.results22, go_sem]) rfl ⟨.slice none 0 0, [], false, rfl, FRow.nil _ _, hb1, ?_⟩
      unfold HopsOf
      rw [if_neg (by rw [hnt.out]; simp)]
      exact ⟨rfl, rfl⟩
    | true =>
      go_enter Try.func22, Try.ntmps22
      go_wp2_with (first
        | (go_at_call 13; refine (lsdb_Check.calls k0 A c db 0 _ HA.out hcp HO.out.2.1).mono ?_; rintro e w1 ⟨rfl, hb1⟩)
        | (go_at_call 29; refine (HC.out.1 _).mono ?_; rintro e w' ⟨rfl, rfl⟩)
        | (go_at_call 29; refine (HC.out.2 _).mono ?_; rintro e w' ⟨rfl, rfl⟩)
        | (go_at_call 30; refine (graph_Arcs.calls k0 db A c _ (Kd.C_below HA.out hb1) hcp HO.out.1 hn HO.out.2.1).mono ?_; rintro e w2 ⟨va, rfl, hrow, hb2⟩; obtain ⟨Aa, ca, rfl, hca⟩ := hrow.slice))
      have hbw : Below w.heap.size w w2 := hb1.trans (hb2.mono hb1.size)
      have hC31 : Kd.C k31 w2 Aa (arcsOf db).length (arcsOf db) := hrow.C rfl (fun w x => k31_mk w x) lays31
      have HS := Aside0.mk (And.intro hbw (And.intro hC31 (And.intro HO.out.2.2.1 HO.out.2.2.2)))
      clear hb1 hb2 hrow hbw hC31 HO
      generalize arcsOf db = l at *
      have hI : Below w2.heap.size w2 (w2.alloc (.cells #[.int .i64 a] 3)) ∧ FRow enc3 1 3 (w2.alloc (.cells #[.int .i64 a] 3)) w2.heap.size (.slice (some ⟨w2.heap.size, 0, none⟩) 1 1) [a] := ⟨below_alloc (Below.refl _ _) _, FRow.one lays3 w2 a⟩
      have HI := Aside0.mk hI
      clear hI
      generalize w2.alloc (.cells #[.int .i64 a] 3) = w3 at HI ⊢
      generalize hg2 : w2.heap.size = g2 at HI ⊢
      have HG2 := Aside0.mk hg2
      clear hg2
      go_loopg [1, 9] 65 (fun gk s1 s9 wr => ∃ (b : Int) (v : Value) (h : List Int), Aside0 (Chain l t a h b ∧ Below g2 w2 wr ∧ FRow enc3 1 3 wr g2 v h ∧ h.length + gk = 66) ∧ s1 = .int .i64 b ∧ v = s9)
      case atStart => exact ⟨a, _, [a], ⟨.start, HI.out.1, HI.out.2, rfl⟩, rfl, rfl⟩
      case round =>
        obtain ⟨b, v, h, hR, rfl, rfl⟩ := hrel
        obtain ⟨A9, c9, rfl, hc9⟩ := hR.out.2.2.1.slice
        have hlen : (h.length : Int) ≤ 65 := by have := hR.out.1.len; omega
        have hmax := hR.out.2.2.1.max
        by_cases hbt : b = t
        · have hbe : (b != t) = false := by rw [bne_eq_false_iff_eq]; exact hbt
          have hbf := Aside0.mk hbt
          clear hbt
          go_wp2
          refine bodyPost_ret (v := .tuple #[.slice A9 h.length c9, .bool true]) (by simp [results, Try.results22, go_sem]) rfl ⟨_, h, true, rfl, ownsRow_base_a hR.out.2.2.1 (HG2.out ▸ HS.out.1.size), HS.out.1.trans ((HG2.out ▸ hR.out.2.1 : Below w2.heap.size w2 wr).mono HS.out.1.size), ?_⟩
          unfold HopsOf
          rw [if_pos ⟨hna.out, hnt.out⟩]
          exact .inl ⟨rfl, b, hR.out.1, .inl hbf.out⟩
        · have hbe : (b != t) = true := by rw [bne_iff_ne]; exact hbt
          have HBT := Aside0.mk hbt
          clear hbt
          by_cases h64 : (h.length : Int) ≤ 64
          · have hd : decide ((h.length : Int) ≤ 64) = true := by simpa using h64
            go_upto_region 7 with (first
              | (go_at_call 32; refine (spf_Routes.calls l Aa ca b _ (Kd.C_below HS.out.2.1 (HG2.out ▸ hR.out.2.1)) hca HS.out.2.2.1 HS.out.2.2.2).mono ?_; rintro e w4 ⟨v4, rs, rfl, hr4, hb4, hrs⟩; obtain ⟨A4, c4, rfl, hc4⟩ := hr4.slice)
              | (go_at_call 31; refine (route_Find.calls rs A4 c4 t _ (hr4.C rfl (fun w x => k63_mk w x) lays63) hc4).mono ?_; rintro e w5 ⟨rfl, hb5⟩))
            have hb45 : Below wr.heap.size wr w5 := hb4.trans (hb5.mono hb4.size)
            cases hF : findR rs t with
            | none =>
              have HF := Aside0.mk hF
              simp only [hF, Option.getD_none, Option.isSome_none, z63]
              clear hF
              go_wp2
              refine bodyPost_ret (v := .tuple #[.slice none 0 0, .bool false]) (by simp [results, Try.results22, go_sem]) rfl ⟨.slice none 0 0, [], false, rfl, FRow.nil _ _, ?_, ?_⟩
              · exact (HS.out.1.trans ((HG2.out ▸ hR.out.2.1 : Below w2.heap.size w2 wr).mono HS.out.1.size)).trans ((hb45.alloc hb45.size _).mono (Nat.le_trans HS.out.1.size (HG2.out ▸ hR.out.2.1 : Below w2.heap.size w2 wr).size))
              · unfold HopsOf
                rw [if_pos ⟨hna.out, hnt.out⟩]
                exact .inr ⟨rfl, rfl, h, b, hR.out.1, HBT.out, rs, hrs, HF.out⟩
            | some x =>
              have HF := Aside0.mk hF
              simp only [hF, Option.getD_some, Option.isSome_some]
              clear hF
              have hb46 : Below wr.heap.size wr (w5.alloc (.cells #[.int .i64 x.f0, .int .i64 x.f1, .int .u64 x.f2] 63)) := hb45.alloc hb45.size _
              have h63 : (w5.alloc (.cells #[.int .i64 x.f0, .int .i64 x.f1, .int .u64 x.f2] 63)).heap[w5.heap.size]? = some (.cells #[.int .i64 x.f0, .int .i64 x.f1, .int .u64 x.f2] 63 (0, 0)) := heap_alloc_new _ _
              have hgl : g2 ≤ wr.heap.size := hR.out.2.1.size |> fun h => HG2.out ▸ h
              have H6 := Aside0.mk (And.intro hb46 hgl)
              clear hb45 hb4 hb5 hr4 hb46 hgl
              generalize w5.alloc (.cells #[.int .i64 x.f0, .int .i64 x.f1, .int .u64 x.f2] 63) = w6 at H6 h63 ⊢
              generalize w5.heap.size = g6 at h63 ⊢
              have x1 : w6.cell? ⟨g6, 1, none⟩ = some (.int .i64 x.f1) := (blk_cell h63 1).trans rfl
              have hl6 : g6 < w6.heap.size := blk_lt h63
              clear h63
              go_wp2_with (at_builtin; refine wpList_append_flat lays3 g2 rfl (.tmp 49) (.tmp 51) 32 3 (.int .i64 0) 8 rfl Try.underlying32 info3 rfl (by decide) (by decide) (.slice A9 h.length c9) h x.f1 w6.heap.size rfl rfl (heap_alloc_new _ _) (FRow.below (FRow.below hR.out.2.2.1 H6.out.1) (below_alloc (Below.refl _ _) _)) (by have := H6.out.1.size; have := H6.out.2; simp; omega) (by omega) ?_; intro v7 w7 hv7 hg7 hat7)
              have hb7 : Below g2 w2 w7 := ((hR.out.2.1.trans (H6.out.1.mono H6.out.2)).alloc (Nat.le_trans H6.out.2 H6.out.1.size) _).grown hg7 (by have := H6.out.1.size; have := H6.out.2; simp; omega) (fun k hk => hR.out.2.2.1.ge hk)
              go_roundg (gk - 1)
              case measure => have := hR.out.2.2.2; omega
              case rel => exact ⟨x.f1, v7, h ++ [x.f1], ⟨.step hR.out.1 HBT.out (by omega) ⟨rs, x, hrs, HF.out, rfl⟩, hb7, hv7, by have := hR.out.2.2.2; simp; omega⟩, rfl, rfl⟩
          · have hd : decide ((h.length : Int) ≤ 64) = false := by simpa using h64
            go_wp2
            refine bodyPost_ret (v := .tuple #[.slice A9 h.length c9, .bool true]) (by simp [results, Try.results22, go_sem]) rfl ⟨_, h, true, rfl, ownsRow_base_a hR.out.2.2.1 (HG2.out ▸ HS.out.1.size), HS.out.1.trans ((HG2.out ▸ hR.out.2.1 : Below w2.heap.size w2 wr).mono HS.out.1.size), ?_⟩
            unfold HopsOf
            rw [if_pos ⟨hna.out, hnt.out⟩]
            exact .inl ⟨rfl, b, hR.out.1, .inr (by omega)⟩
end Go.Proofs.Ytinkhlfmjfahpaa.PLoadKeeps
