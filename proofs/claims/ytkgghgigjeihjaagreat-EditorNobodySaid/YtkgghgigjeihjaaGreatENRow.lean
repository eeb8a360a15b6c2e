/- The row 'styluslaw26.EditorNobody': for every operation and every name the law returns true, and its arguments read as before. No conditions. -/
import Derived.Test.YtkgghgigjeihjaaGreatRows
import Derived.Test.YtkgghgigjeihjaaGreatEN
import Derived.Test.YtkgghgigjeihjaaGreatS23
import Derived.ProofKit
import Derived.OpenShut
import Derived.ChangeOld
import Derived.Below
import Derived.SizedLaws
import Derived.ChangeSlices
import Derived.ChangeMaps5
import Derived.Lib.SmallJoins
import Derived.Carry
import Derived.ChangeSame
namespace Go.Proofs.YtkgghgigjeihjaaGreat.EdRow
open Go.ChangeShapes Go.WideShapes Go.Deep Go.ChangeAt Go.RowKit Go.Lib Go.Joins Go.ChangeMaps
open Go.Proofs.YtkgghgigjeihjaaGreat.Sim
set_option linter.unusedVariables false
set_option linter.unusedSimpArgs false

set_option maxRecDepth 100000 in
theorem lifted (os : Os) (started : os.Started) (H : Type) (enc : TypeId × Value → H) :
    ReturnsInHanded {} Tryz.checked os 5 .any (Rows.editorNobodySpec.pre6 enc Tryz.prog Tryz.f5 Rows.editorNobodyRow.domain false) (Rows.editorNobodySpec.post enc Tryz.prog Tryz.f5 false true false false) := by
  refine returnsInHanded_of_change_sized (C := Tryz.checked) own started (by kernel_rfl) Tryz.func5
    (ChangeSpec.witness6 (enc := enc) (C := Tryz.checked) false ⟨#[], #[.agg #[.int .i64 0, .int .i64 0, .int .i64 0, .string ⟨#[]⟩], .string ⟨#[]⟩], []⟩ 8 (by kernel_rfl) (by kernel_rfl) (by kernel_rfl) (by kernel_rfl)) ?_
  intro W base args ds gs before hval0 hW hcnd hsz0 _
  have hval : ∀ (j : Nat) t v, Tryz.f5.params[j]? = some t → args[j]? = some v → Value.okWide Tryz.prog W .any base t v := hval0
  have hW' := hW
  obtain ⟨p, q, hA0, hV, rfl, hfz, hnd⟩ := hW
  have hA : DataW.TrodAll enc Tryz.prog W 0 (fun _ => true) true Tryz.f5.params.toList args.toList ds p := hA0
  rw [Tryz.params5] at hA hval
  obtain ⟨v0, vs0, d0, ds0, p0, q0, hargs, rfl, rfl, h0, r0⟩ := trodAll_cons hA
  obtain ⟨v1, vs1, d1, ds1, p1, q1, rfl, rfl, rfl, h1, r1⟩ := trodAll_cons r0
  obtain ⟨rfl, rfl, rfl⟩ := trodAll_nil r1
  obtain rfl : args = #[v0, v1] := by cases args; simp_all
  obtain ⟨rfl, rfl⟩ := trodVars_none hV
  have k0 := h0
  have k1 := h1
  have lt0 : ∀ x ∈ p0, x.block < W.heap.size := by obtain ⟨m, hm⟩ := k0; exact DataW.trod_lt m _ _ _ hm
  have lt1 : ∀ x ∈ p1, x.block < W.heap.size := by obtain ⟨m, hm⟩ := k1; exact DataW.trod_lt m _ _ _ hm
  obtain ⟨x0, x1, x2, x3, y0, y1, y2, y3, n, rfl, _, _, t0, t1, t2, t3⟩ := open_agg4 Tryz.underlying36 (by kernel_rfl) (by kernel_rfl) (hval 0 36 v0 rfl rfl) h0
  obtain ⟨i0, e0, _⟩ := DataW.trod_int Tryz.underlying3 t0
  obtain ⟨i1, e1, _⟩ := DataW.trod_int Tryz.underlying3 t1
  obtain ⟨i2, e2, _⟩ := DataW.trod_int Tryz.underlying3 t2
  obtain ⟨s3, e3, _⟩ := DataW.trod_string Tryz.underlying9 t3
  simp only [List.cons.injEq, and_true] at e0 e1 e2 e3
  subst e0 e1 e2 e3
  obtain ⟨s, rfl, _⟩ := open_string Tryz.underlying9 (hval 1 9 v1 rfl rfl) h1
  obtain ⟨Hn, hrun⟩ := Ed.of_isT (Ed.nobody i0 i1 i2 s3.data.toList s.data.toList)
  have hlr : LR (CS.start W) [.agg [.int .i64 i0, .int .i64 i1, .int .i64 i2, .str s3.data.toList], .str s.data.toList] [.agg #[.int .i64 i0, .int .i64 i1, .int .i64 i2, .string s3], .string s] :=
    LR.cons (VR.agg' (LR.cons (.pv _ _ (.int _ _)) (LR.cons (.pv _ _ (.int _ _)) (LR.cons (.pv _ _ (.int _ _)) (LR.cons (.pv _ _ (.str _ _ rfl)) LR.nil))))) (LR.cons (.pv _ _ (.str _ _ rfl)) LR.nil)
  refine (law_true Ed.c1_ok Ed.c1_prims hrun W _ hlr).mono fun e W' ⟨he, bel⟩ => ?_
  subst he
  exact ⟨_, rfl, _, _, _, [], _, [], hW', trodAll_mk1 (shut_bool (by kernel_rfl) _), (trodAll_cons_mk (Below.trod laidOut (by kernel_rfl) (of_decide_eq_true (by kernel_rfl)) k0 bel lt0) (trodAll_cons_mk (Below.trod laidOut (by kernel_rfl) (of_decide_eq_true (by kernel_rfl)) k1 bel lt1) trodAll_mk0)), rfl, bel.frame _, fun h => by cases h⟩

theorem named : Tryz.prog.funcNamed Rows.editorNobodyRow.func = some 5 := by kernel_rfl
theorem x9 : (Rows.editorNobodyRow.inPlace == Tryz.prog.inPlace 5) = true := by kernel_rfl
theorem x10 : (Rows.editorNobodyRow.unfollowed == Tryz.prog.unfollowed 5) = true := by kernel_rfl
theorem x11 : (Rows.editorNobodyRow.recurses == Tryz.prog.recurses 5) = true := by kernel_rfl
theorem x12 : (Rows.editorNobodyRow.named == Tryz.prog.varsNamed 5) = true := by kernel_rfl
theorem facts : joinedFacts Tryz.prog 5 Tryz.f5 Rows.editorNobodySpec Rows.editorNobodyRow = true :=
  facts_mk (by kernel_rfl) laidOut pf2 (by kernel_rfl) (by kernel_rfl) (by kernel_rfl) pf6 (by kernel_rfl) pf8 x9 x10 x11 x12 (by kernel_rfl) (by kernel_rfl) (by kernel_rfl) (by kernel_rfl) (by kernel_rfl) (by kernel_rfl) (by kernel_rfl) (by kernel_rfl) (by kernel_rfl) pf22 (by kernel_rfl) pf24 pf25 pf26 (by kernel_rfl) (by kernel_rfl) (by kernel_rfl) (by kernel_rfl) (by kernel_rfl)

theorem over : Rows.editorNobodyRow.holds Tryz.pinned (OpenSpec.ofChange Rows.editorNobodySpec) :=
  OpenClaim.holds_of_wide 5 Tryz.f5 rfl rfl rfl rfl rfl rfl rfl ⟨rfl, rfl, rfl, rfl, rfl⟩ rfl rfl rfl rfl rfl named Tryz.func5 facts
    (of_decide_eq_true (by kernel_rfl)) (by unfold Func.isWrapper; first | (rw [if_pos (by decide +kernel)]; kernel_rfl) | (rw [if_neg (by decide +kernel)]; exact ⟨rfl, rfl⟩))
    (fun os started H enc _ => lifted os started H enc)
end Go.Proofs.YtkgghgigjeihjaaGreat.EdRow
namespace Go.Proofs.YtkgghgigjeihjaaGreat
/-- The row 'styluslaw26.EditorNobody'. -/
theorem editorNobody_holds : Rows.EditorNobodySaid := EdRow.over
#print axioms editorNobody_holds
end Go.Proofs.YtkgghgigjeihjaaGreat
