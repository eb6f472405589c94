/- AuditSequence: the closed answers are as the document fixes them (one computation by the kernel). -/
import Derived.Test.YtgikapdeekepiaaGreatDoorAsA
import Derived.Test.YtgikapdeekepiaaGreatDoorEvU
namespace Go.Proofs.YtgikapdeekepiaaGreatDoor
open Go
set_option maxRecDepth 100000

theorem awake_run : isTrue (evCall Tryz.prog V0 200 4 [] AH.empty) = true := by kernel_rfl

theorem awake_fn : Fn Tryz.prog 4 [] fun y => y = .bool true := fn_of_run v0_ok rfl awake_run

end Go.Proofs.YtgikapdeekepiaaGreatDoor
