/- A layer's Begun tells true. -/
import Derived.Test.YtffgakphodjbjaaGreatDoorZrotL1
namespace Go.Abs
set_option maxRecDepth 100000
theorem says244 : SaysTrue Proofs.Tryz.prog 244 := saysTrue_of (runNo [41] fun g h => by simp at h; subst h; exact says41) 1000 60 (by kernel_rfl)
end Go.Abs
