/- The theorem of loads: whatever the input, it returns true; the input reads as it did. -/
import Derived.Test.YtinkhlfmjfahpaaRows
import Derived.Test.YtinkhlfmjfahpaaFk
import Derived.Test.YtinkhlfmjfahpaaOp
import Derived.WalkKit
import Derived.ProofKit
import Derived.OpenShut
import Derived.ShutString
import Derived.ChangeOld
import Derived.Below
import Derived.SizedLaws
namespace Go.Proofs.Ytinkhlfmjfahpaa.loadKeeps
open Go.ChangeShapes Go.WideShapes Go.ChangeAt Go.RowKit
open Go.ChangeMaps (open_string shut_string)
open Go.Proofs.Ytinkhlfmjfahpaa.PLoadKeeps Go.Proofs.YtinkhlfmjfahpaaW.PrintWords
set_option linter.unusedVariables false
theorem own : ownKnob Try.prog.godebug = none := by kernel_rfl
theorem laidOut : laidOutB Try.prog = true := by kernel_rfl
theorem opens56 : Opens Try.prog 56 k56 (fun _ => True) :=
  ((opens_iso (opens_struct Try.underlying56 (by kernel_rfl) (opensF_cons (opens_int Try.underlying3) rfl (by kernel_rfl) (opensF_one (opens_int Try.underlying3) rfl (by kernel_rfl)))) (fun x : S56 => (x.f0, x.f1)) (fun p => ⟨p.1, p.2⟩) (fun _ => rfl))).imp fun _ _ => trivial
theorem opens39 : Opens Try.prog 39 k39 (fun _ => True) :=
  ((opens_iso (opens_struct Try.underlying39 (by kernel_rfl) (opensF_cons (opens_int Try.underlying3) rfl (by kernel_rfl) (opensF_cons (opens_int Try.underlying3) rfl (by kernel_rfl) (opensF_one (opens_slice Try.underlying37 (by kernel_rfl) opens56) rfl (by kernel_rfl))))) (fun x : S39 => (x.f0, x.f1, x.f2)) (fun p => ⟨p.1, p.2.1, p.2.2⟩) (fun _ => rfl))).imp fun _ _ => trivial
theorem opens35 : Opens Try.prog 35 k35 (fun _ => True) :=
  ((opens_iso (opens_struct Try.underlying35 (by kernel_rfl) (opensF_cons (opens_int Try.underlying3) rfl (by kernel_rfl) (opensF_cons (opens_int Try.underlying3) rfl (by kernel_rfl) (opensF_one (opens_int Try.underlying3) rfl (by kernel_rfl))))) (fun x : S35 => (x.f0, x.f1, x.f2)) (fun p => ⟨p.1, p.2.1, p.2.2⟩) (fun _ => rfl))).imp fun _ _ => trivial
theorem opens22 : Opens Try.prog 22 (Kd.slice 39 k39) (fun _ => True) := (opens_slice Try.underlying22 (by kernel_rfl) opens39).imp fun _ _ => trivial
theorem opens23 : Opens Try.prog 23 (Kd.slice 35 k35) (fun _ => True) := (opens_slice Try.underlying23 (by kernel_rfl) opens35).imp fun _ _ => trivial
set_option maxRecDepth 100000 in
theorem lifted (os : Os) (started : os.Started) (H : Type) (enc : TypeId × Value → H) :
    ReturnsInHanded {} Try.checked os 3 .any (Rows.loadKeepsSpec.pre6 enc Try.prog Try.f3 Rows.loadKeepsRow.domain false) (Rows.loadKeepsSpec.post enc Try.prog Try.f3 false true false false) := by
  refine returnsInHanded_of_change_sized (C := Try.checked) own started (by kernel_rfl) Try.func3
    (ChangeSpec.witness6 (enc := enc) (C := Try.checked) false ⟨#[], #[.slice none 0 0, .slice none 0 0], []⟩ 8 (by kernel_rfl) (by kernel_rfl) (by kernel_rfl) (by kernel_rfl)) ?_
  intro W base args ds gs before hval0 hW hcnd hsz0 _
  have hval : ∀ (j : Nat) t v, Try.f3.params[j]? = some t → args[j]? = some v → Value.okWide Try.prog W .any base t v := hval0
  have hW' := hW
  obtain ⟨p, q, hA0, hV, rfl, hfz, hnd⟩ := hW
  have hA : DataW.TrodAll enc Try.prog W 0 (fun _ => true) true Try.f3.params.toList args.toList ds p := hA0
  rw [Try.params3] at hA hval
  obtain ⟨v0, vs0, d0, ds0, p0, q0, hargs, rfl, rfl, h0, r0⟩ := trodAll_cons hA
  obtain ⟨v1, vs1, d1, ds1, p1, q1, rfl, rfl, rfl, h1, r1⟩ := trodAll_cons r0
  obtain ⟨rfl, rfl, rfl⟩ := trodAll_nil r1
  obtain rfl : args = #[v0, v1] := by cases args; simp_all
  obtain ⟨rfl, rfl⟩ := trodVars_none hV
  obtain ⟨a0, len0, cap0, rfl⟩ := okWide_slice Try.underlying22 (hval 0 22 v0 rfl rfl)
  obtain ⟨a1, len1, cap1, rfl⟩ := okWide_slice Try.underlying23 (hval 1 23 v1 rfl rfl)
  have k0 := h0
  have k1 := h1
  have lt0 : ∀ x ∈ p0, x.block < W.heap.size := by obtain ⟨m, hm⟩ := k0; exact DataW.trod_lt m _ _ _ hm
  have lt1 : ∀ x ∈ p1, x.block < W.heap.size := by obtain ⟨m, hm⟩ := k1; exact DataW.trod_lt m _ _ _ hm
  obtain ⟨f0, hf0⟩ := h0
  obtain ⟨f1, hf1⟩ := h1
  obtain ⟨db, ⟨A0, c0, e0, hc0, hC0⟩, _⟩ := opens22 H enc W 0 _ _ f0 _ _ hf0
  obtain ⟨dm, ⟨A1, c1, e1, hc1, hC1⟩, _⟩ := opens23 H enc W 0 _ _ f1 _ _ hf1
  have e0' : Value.slice a0 len0 cap0 = .slice A0 db.length c0 := by simpa [Value.cells] using e0
  have e1' : Value.slice a1 len1 cap1 = .slice A1 dm.length c1 := by simpa [Value.cells] using e1
  rw [e0'] at k0 hW'
  rw [e1'] at k1 hW'
  rw [e0', e1']
  clear hA0 hval0 hsz0 hval hcnd hf0 hf1 e0 e1 e0' e1'
  refine (LoadKeeps.walk db A0 c0 dm A1 c1 W hC0 hc0 hC1 hc1).mono fun e W' ⟨he, bel⟩ => ?_
  subst he
  exact ⟨_, rfl, _, _, _, [], _, [], hW', trodAll_mk1 (shut_bool Try.underlying4 _), (trodAll_cons_mk (Below.trod laidOut (by kernel_rfl) (of_decide_eq_true (by kernel_rfl)) k0 bel lt0) (trodAll_cons_mk (Below.trod laidOut (by kernel_rfl) (of_decide_eq_true (by kernel_rfl)) k1 bel lt1) trodAll_mk0)), rfl, bel.frame _, fun h => by cases h⟩
theorem over : Rows.loadKeepsRow.holds Try.pinned (OpenSpec.ofChange Rows.loadKeepsSpec) :=
  OpenClaim.holds_of_wide 3 Try.f3 rfl rfl rfl rfl rfl rfl rfl ⟨rfl, rfl, rfl, rfl, rfl⟩ rfl rfl rfl rfl rfl (by kernel_rfl) Try.func3 (by kernel_rfl)
    (of_decide_eq_true (by kernel_rfl)) (by unfold Func.isWrapper; first | (rw [if_pos (by decide +kernel)]; kernel_rfl) | (rw [if_neg (by decide +kernel)]; exact ⟨rfl, rfl⟩))
    (fun os started H enc _ => lifted os started H enc)
theorem proved : Rows.LoadKeepsSaid := over
#print axioms proved
end Go.Proofs.Ytinkhlfmjfahpaa.loadKeeps
namespace Go.Proofs.Ytinkhlfmjfahpaa
/-- The row, under a short name, for the claim. -/
theorem LoadKeeps_holds : Rows.LoadKeepsSaid := loadKeeps.proved
end Go.Proofs.Ytinkhlfmjfahpaa
