/- A layer's Begun tells true. -/
import Derived.Test.YtffgakphodjbjaaGreatDoorZrotL4
namespace Go.Abs
set_option maxRecDepth 100000
theorem says148 : SaysTrue Proofs.Tryz.prog 148 := saysTrue_of (runNo [244] fun g h => by simp at h; subst h; exact says244) 1000 60 (by kernel_rfl)
end Go.Abs
