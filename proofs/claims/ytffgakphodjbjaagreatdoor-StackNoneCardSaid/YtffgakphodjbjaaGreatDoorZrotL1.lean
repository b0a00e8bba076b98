/- The first layer's Begun tells true. -/
import Derived.Test.YtffgakphodjbjaaGreatDoorZrotProg
namespace Go.Abs
set_option maxRecDepth 100000
theorem says41 : SaysTrue Proofs.Tryz.prog 41 := saysTrue_of (runNo [] fun _ h => by cases h) 1000 60 (by kernel_rfl)
end Go.Abs
