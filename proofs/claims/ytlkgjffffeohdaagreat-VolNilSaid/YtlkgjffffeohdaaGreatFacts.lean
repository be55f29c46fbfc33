/- Closed facts of the program, each by itself. -/
import Derived.Test.YtlkgjffffeohdaaGreatRows
import Derived.JoinedOf
import Derived.KernelRfl
set_option linter.all false
namespace Go.Proofs.YtlkgjffffeohdaaGreat
open Go

theorem and_t {a b : Bool} (ha : a = true) (hb : b = true) : (a && b) = true := by rw [ha, hb]; rfl
theorem pf2 : laidOutB Tryz.pinned.checked.prog = true := by kernel_rfl
theorem pf3 : mapsRowed Tryz.pinned.checked.prog = true := by kernel_rfl
theorem pf6 : (Tryz.pinned.checked.prog.stops == []) = true := by kernel_rfl
theorem pf7 : (Tryz.pinned.checked.prog.stopKnobs == []) = true := by kernel_rfl
theorem pf13 : Tryz.pinned.checked.prog.plainKeys = true := by kernel_rfl
theorem pf14 : Tryz.pinned.checked.prog.stopsHeard = true := by kernel_rfl
theorem pf15 : Tryz.pinned.checked.prog.mayEnter = true := by kernel_rfl
theorem pf16 : Tryz.pinned.checked.prog.liftsFinal = false := by kernel_rfl
end Go.Proofs.YtlkgjffffeohdaaGreat
