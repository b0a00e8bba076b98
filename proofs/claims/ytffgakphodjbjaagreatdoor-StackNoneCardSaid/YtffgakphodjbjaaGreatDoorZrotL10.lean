/- A layer's Begun tells true. -/
import Derived.Test.YtffgakphodjbjaaGreatDoorZrotL7
namespace Go.Abs
set_option maxRecDepth 100000
theorem says59 : SaysTrue Proofs.Tryz.prog 59 := saysTrue_of (runNo [148] fun g h => by simp at h; subst h; exact says148) 1000 60 (by kernel_rfl)
end Go.Abs
