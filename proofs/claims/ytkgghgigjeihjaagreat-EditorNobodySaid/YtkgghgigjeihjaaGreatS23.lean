/- The closed facts of the program that every row asks: once a seat. -/
import Derived.Test.YtkgghgigjeihjaaGreatRows
import Derived.Test.YtkgghgigjeihjaaGreatS22
namespace Go.Proofs.YtkgghgigjeihjaaGreat.Sim

theorem own : ownKnob Tryz.prog.godebug = none := by kernel_rfl
theorem laidOut : laidOutB Tryz.prog = true := by kernel_rfl
theorem pf2 : mapsRowed Tryz.prog = true := by kernel_rfl
theorem pf6 : (Tryz.prog.stops == []) = true := by kernel_rfl
theorem pf8 : (Tryz.prog.stopKnobs == []) = true := by kernel_rfl
theorem pf22 : (true == Tryz.prog.plainKeys) = true := by kernel_rfl
theorem pf24 : Tryz.prog.stopsHeard = true := by kernel_rfl
theorem pf25 : Tryz.prog.mayEnter = true := by kernel_rfl
theorem pf26 : (false == Tryz.prog.liftsFinal) = true := by kernel_rfl
theorem mixed : Tryz.prog.follows .mixedOrders = true := by kernel_rfl
end Go.Proofs.YtkgghgigjeihjaaGreat.Sim
