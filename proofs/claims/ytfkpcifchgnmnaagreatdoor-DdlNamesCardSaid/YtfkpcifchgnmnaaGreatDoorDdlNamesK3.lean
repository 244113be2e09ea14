/-
  What is proved here: calls 18 to 23 that the run of covenantlaw29.DdlNames is cut into come to what is told of them. Conditions: none.
-/
import Derived.Test.YtfkpcifchgnmnaaGreatDoorDdlNamesO
import Derived.Test.YtfkpcifchgnmnaaGreatDoorProg
set_option maxRecDepth 1000000
namespace Go.Proofs.YtfkpcifchgnmnaaGreatDoor.ddlNames
theorem k18 : Ev.memoB Tryz.prog [146, 194, 212, 101, 103, 1048728] [] m18 = true := by kernel_rfl
theorem k19 : Ev.memoB Tryz.prog [146, 194, 212, 101, 103, 1048728] [] m19 = true := by kernel_rfl
theorem k20 : Ev.memoB Tryz.prog [146, 194, 212, 101, 103, 1048728] [] m20 = true := by kernel_rfl
theorem k21 : Ev.memoB Tryz.prog [146, 194, 212, 101, 103, 1048728] [] m21 = true := by kernel_rfl
theorem k22 : Ev.memoB Tryz.prog [146, 194, 212, 101, 103, 1048728] [] m22 = true := by kernel_rfl
theorem k23 : Ev.memoB Tryz.prog [146, 194, 212, 101, 103, 1048728] [] m23 = true := by kernel_rfl
end Go.Proofs.YtfkpcifchgnmnaaGreatDoor.ddlNames
