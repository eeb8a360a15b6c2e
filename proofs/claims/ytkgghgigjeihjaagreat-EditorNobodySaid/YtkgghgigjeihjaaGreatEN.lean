/- EditorNobody, run by the interpreter. -/
import Derived.Test.YtkgghgigjeihjaaGreatS21
import Derived.Test.YtkgghgigjeihjaaGreatProg
import Derived.KernelRfl
namespace Go.Proofs.YtkgghgigjeihjaaGreat.Ed
open Go.Proofs.YtkgghgigjeihjaaGreat.Sim
set_option linter.unusedVariables false
noncomputable def c0 : Ctx := { ctxOf Tryz.prog with quiet := fun _ => false, prim := fun _ => none }
noncomputable def cq : Ctx := { ctxOf Tryz.prog with quiet := fun _ => true, prim := fun _ => none }
theorem mixed : Tryz.prog.follows .mixedOrders = true := by kernel_rfl
theorem c0_ok : c0.Ok Tryz.prog := ctxOf_ok _ mixed _ _
theorem cq_ok : cq.Ok Tryz.prog := ctxOf_ok _ mixed _ _
noncomputable def c1 : Ctx := { ctxOf Tryz.prog with quiet := fun _ => false, prim := fun f => if f = 110 ∨ f = 111 ∨ f = 208 then some (cloneP c0 f) else none }
theorem c1_ok : c1.Ok Tryz.prog := ctxOf_ok _ mixed _ _
theorem n110 : evF cq 50 110 [.nils] H0 = some (.lst [] 0 true, H0) := by kernel_rfl
theorem m110 : evF cq 50 110 [.nnl [] 0 false] H0 = some (.lst [] 0 true, H0) := by kernel_rfl
theorem n111 : evF cq 50 111 [.nils] H0 = some (.lst [] 0 true, H0) := by kernel_rfl
theorem m111 : evF cq 50 111 [.nnl [] 0 false] H0 = some (.lst [] 0 true, H0) := by kernel_rfl
theorem n208 : evF cq 50 208 [.nils] H0 = some (.lst [] 0 true, H0) := by kernel_rfl
theorem m208 : evF cq 50 208 [.nnl [] 0 false] H0 = some (.lst [] 0 true, H0) := by kernel_rfl
theorem c1_prims : ∀ f p, c1.prim f = some p → PrimOK Tryz.prog f p := by
  intro f p h
  simp only [c1] at h
  split at h
  · rename_i hf
    cases h
    rcases hf with rfl | rfl | rfl
    · exact cloneP_ok c0_ok (fun _ => rfl) cq_ok (fun _ => rfl) ⟨_, Tryz.func110, by decide, rfl⟩ n110 m110
    · exact cloneP_ok c0_ok (fun _ => rfl) cq_ok (fun _ => rfl) ⟨_, Tryz.func111, by decide, rfl⟩ n111 m111
    · exact cloneP_ok c0_ok (fun _ => rfl) cq_ok (fun _ => rfl) ⟨_, Tryz.func208, by decide, rfl⟩ n208 m208
  · cases h
def isT : Option (AV × AH) → Bool
  | some (.bool b, _) => b
  | _ => false
theorem of_isT {r : Option (AV × AH)} (h : isT r = true) : ∃ H, r = some (.bool true, H) := by
  unfold isT at h
  split at h
  · rename_i b H; subst h; exact ⟨H, rfl⟩
  · cases h
set_option maxRecDepth 100000 in
theorem nobody (k a n : Int) (s nm : List UInt8) : isT (evF c1 3000 5 [.agg [.int .i64 k, .int .i64 a, .int .i64 n, .str s], .str nm] H0) = true := by kernel_rfl
end Go.Proofs.YtkgghgigjeihjaaGreat.Ed
