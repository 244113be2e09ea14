/-
  What is proved here: calls 0 to 5 that the run of covenantlaw29.DdlNames is cut into come to what is told of them. Conditions: none.
-/
import Derived.Test.YtfkpcifchgnmnaaGreatDoorDdlNamesO
import Derived.Test.YtfkpcifchgnmnaaGreatDoorProg
set_option maxRecDepth 1000000
namespace Go.Proofs.YtfkpcifchgnmnaaGreatDoor.ddlNames
theorem k0 : Ev.memoB Tryz.prog [146, 194, 212, 101, 103, 1048728] [] m0 = true := by kernel_rfl
theorem k1 : Ev.memoB Tryz.prog [146, 194, 212, 101, 103, 1048728] [] m1 = true := by kernel_rfl
theorem k2 : Ev.memoB Tryz.prog [146, 194, 212, 101, 103, 1048728] [] m2 = true := by kernel_rfl
theorem k3 : Ev.memoB Tryz.prog [146, 194, 212, 101, 103, 1048728] [] m3 = true := by kernel_rfl
theorem k4 : Ev.memoB Tryz.prog [146, 194, 212, 101, 103, 1048728] [] m4 = true := by kernel_rfl
theorem k5 : Ev.memoB Tryz.prog [146, 194, 212, 101, 103, 1048728] [] m5 = true := by kernel_rfl
end Go.Proofs.YtfkpcifchgnmnaaGreatDoor.ddlNames
