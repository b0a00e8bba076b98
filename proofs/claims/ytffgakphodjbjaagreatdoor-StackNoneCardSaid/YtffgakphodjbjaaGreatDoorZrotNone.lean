/- The closed law of nothing taken: what its call does. -/
import Derived.Test.YtffgakphodjbjaaGreatDoorZrotEnv
namespace Go.Abs
open Go.RowKit
set_option maxRecDepth 100000
theorem none_runs : (fun m : Int => isTrue (krun envS 1000 60 9 [] (startN 8 3 m))) = fun _ => true := by kernel_rfl
theorem none_says (m : Int) (w : World) (hm : w.cell? ⟨3, 0, none⟩ = some (.int .i64 m)) : Calls Proofs.Tryz.prog 9 #[] w fun e w' => e = .returned (.bool true) ∧ Below w.heap.size w w' :=
  says_at runS 1000 60 (by decide) (by decide) (congrFun none_runs m) w hm
end Go.Abs
