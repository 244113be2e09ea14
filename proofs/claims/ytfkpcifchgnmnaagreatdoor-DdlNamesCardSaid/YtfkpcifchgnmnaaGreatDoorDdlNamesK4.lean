/-
  What is proved here: calls 24 to 25 that the run of covenantlaw29.DdlNames is cut into come to what is told of them. Conditions: none.
-/
import Derived.Test.YtfkpcifchgnmnaaGreatDoorDdlNamesO
import Derived.Test.YtfkpcifchgnmnaaGreatDoorProg
set_option maxRecDepth 1000000
namespace Go.Proofs.YtfkpcifchgnmnaaGreatDoor.ddlNames
theorem k24 : Ev.memoB Tryz.prog [146, 194, 212, 101, 103, 1048728] [] m24 = true := by kernel_rfl
theorem k25 : Ev.memoB Tryz.prog [146, 194, 212, 101, 103, 1048728] [] m25 = true := by kernel_rfl
end Go.Proofs.YtfkpcifchgnmnaaGreatDoor.ddlNames
