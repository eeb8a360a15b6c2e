/- Words of this session's own beside the print's: cells behind a store of two cells. -/
import Derived.Below
import Derived.Test.YthlhcclgngncbaaWLast
import Derived.Laws.IdiomCopy
import Derived.Laws.World
namespace Go.Proofs.YthlhcclgngncbaaW.PrintMore
open Go Go.RowKit

theorem strip2_0 {w : World} {b o q : Nat} {v0 v1 : Value} {r : Option Value} (h : (w.setCells b o [v0, v1]).cell? ⟨b, q, none⟩ = r) (hne : q ≠ o + 1) :
    (w.setCell ⟨b, o, none⟩ v0).cell? ⟨b, q, none⟩ = r := by
  simp only [World.setCells] at h
  rw [World.cell?_setCell_other] at h
  · exact h
  · intro e
    injection e with _ e2 _
    exact hne e2.symm

theorem strip2_1 {w : World} {b o q : Nat} {v0 v1 : Value} {r : Option Value} (h : (w.setCells b o [v0, v1]).cell? ⟨b, q, none⟩ = r) :
    ((w.setCell ⟨b, o, none⟩ v0).setCell ⟨b, o + 1, none⟩ v1).cell? ⟨b, q, none⟩ = r := h

theorem strip2_f {w : World} {b o : Nat} {vs : List Value} {a : Addr} {r : Bool} (h : (w.setCells b o vs).frozen? a = r) : w.frozen? a = r := by
  rw [World.frozen?_setCells] at h
  exact h

/-- A call of a parameter that holds a known function, in a region that draws. -/
theorem goesT_ {P : Program} {ops : Array Oper} {Q : Exit → Act → World → Prop} {oi : Oper} {N : Option Tmp} {a : Act} {w : World} {K : Act → World → Prop} {f : FuncId} {fn : Func} {t : Tmp} {as : Array Operand} {ts : Array TypeId} (hf : P.funcs[f]? = some fn) (hname : (fn.name == "runtime.NumGoroutine") = false) (hb : fn.body.isSome = true) (args : Array Value)
    (hw : Region.wanted oi (yielded ops a.tmps) = true) (hN : oi.dst = N) (hop : oi.op = .call { callee := .value (.tmp t), args := as, argTypes := ts }) (hfv : a.eval (.tmp t) = .func (.func f) #[] #[]) (hargs : as.map a.eval = args)
    (h : Calls P f args w fun e w' => ∃ v, e = .returned v ∧ K (a.put N v) w') : if Region.wanted oi (yielded ops a.tmps) = true then Oper.wp P oi a w K Q else K (a.put N undef) w := by
  refine Go.Proofs.YthlhcclgngncbaaW.PrintLast.call_ f args hw hN ?_ h
  have he := Go.Proofs.YthlhcclgngncbaaW.PrintLast.enters_ hf hname hb args w
  unfold execOp
  simp [hop, resolve, Deferred.ofValue, invoke, hfv, hargs, he]

end Go.Proofs.YthlhcclgngncbaaW.PrintMore
