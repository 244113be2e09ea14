/-
  What is proved here: calls 6 to 11 that the run of covenantlaw29.DdlNames is cut into come to what is told of them. Conditions: none.
-/
import Derived.Test.YtfkpcifchgnmnaaGreatDoorDdlNamesO
import Derived.Test.YtfkpcifchgnmnaaGreatDoorProg
set_option maxRecDepth 1000000
namespace Go.Proofs.YtfkpcifchgnmnaaGreatDoor.ddlNames
theorem k6 : Ev.memoB Tryz.prog [146, 194, 212, 101, 103, 1048728] [] m6 = true := by kernel_rfl
theorem k7 : Ev.memoB Tryz.prog [146, 194, 212, 101, 103, 1048728] [] m7 = true := by kernel_rfl
theorem k8 : Ev.memoB Tryz.prog [146, 194, 212, 101, 103, 1048728] [] m8 = true := by kernel_rfl
theorem k9 : Ev.memoB Tryz.prog [146, 194, 212, 101, 103, 1048728] [] m9 = true := by kernel_rfl
theorem k10 : Ev.memoB Tryz.prog [146, 194, 212, 101, 103, 1048728] [] m10 = true := by kernel_rfl
theorem k11 : Ev.memoB Tryz.prog [146, 194, 212, 101, 103, 1048728] [] m11 = true := by kernel_rfl
end Go.Proofs.YtfkpcifchgnmnaaGreatDoor.ddlNames
