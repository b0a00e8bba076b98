/- The program's environment with the lower layers' Begun and two of the library's functions told. -/
import Derived.Test.YtffgakphodjbjaaGreatDoorRotLib
import Derived.Test.YtffgakphodjbjaaGreatDoorZrotL10
import Derived.Test.YtffgakphodjbjaaGreatDoorZrotL14
import Derived.Test.YtffgakphodjbjaaGreatDoorZrotShelfP
namespace Go.Abs
set_option maxRecDepth 100000
theorem joinSays : JoinSays Proofs.Tryz.prog 76 := ⟨Proofs.Tryz.strings_Join_none, Proofs.Tryz.strings_Join⟩
theorem replSays : ReplSays Proofs.Tryz.prog 98 3 := Proofs.Tryz.strings_ReplaceAll
noncomputable def envS : Env := envOf Proofs.Tryz.prog 8 (orcOf [59, 60] (libOrc 76 98 3))
theorem runS : RunOk envS 8 :=
  runOk_sel progOk (orcOf_framed fun g h e => libOrc_framed g h e) (orcOf_ok (fun g h => by simp at h; rcases h with rfl | rfl; exact says59; exact says60) fun g h e => libOrc_ok (by decide) joinSays replSays g h e)
end Go.Abs
