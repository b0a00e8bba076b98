/- What is asked of the program, closed. -/
import Derived.Test.YtffgakphodjbjaaGreatDoorRotTop2
import Derived.Test.YtffgakphodjbjaaGreatDoorProg
namespace Go.Abs
set_option maxRecDepth 100000
theorem progOk : ProgOk Proofs.Tryz.prog 8 :=
  ⟨by kernel_rfl, by kernel_rfl, by kernel_rfl, by kernel_rfl, by kernel_rfl, by kernel_rfl⟩
theorem runNo (l : List FuncId) (hl : ∀ g, g ∈ l → SaysTrue Proofs.Tryz.prog g) : RunOk (envOf Proofs.Tryz.prog 8 (orcOf l noOrc)) 8 :=
  runOk_sel progOk (orcOf_framed fun _ _ h => by cases h) (orcOf_ok hl fun _ _ h => by cases h)
end Go.Abs
