/-
  What is proved here: calls 12 to 17 that the run of covenantlaw29.DdlNames is cut into come to what is told of them. Conditions: none.
-/
import Derived.Test.YtfkpcifchgnmnaaGreatDoorDdlNamesO
import Derived.Test.YtfkpcifchgnmnaaGreatDoorProg
set_option maxRecDepth 1000000
namespace Go.Proofs.YtfkpcifchgnmnaaGreatDoor.ddlNames
theorem k12 : Ev.memoB Tryz.prog [146, 194, 212, 101, 103, 1048728] [] m12 = true := by kernel_rfl
theorem k13 : Ev.memoB Tryz.prog [146, 194, 212, 101, 103, 1048728] [] m13 = true := by kernel_rfl
theorem k14 : Ev.memoB Tryz.prog [146, 194, 212, 101, 103, 1048728] [] m14 = true := by kernel_rfl
theorem k15 : Ev.memoB Tryz.prog [146, 194, 212, 101, 103, 1048728] [] m15 = true := by kernel_rfl
theorem k16 : Ev.memoB Tryz.prog [146, 194, 212, 101, 103, 1048728] [] m16 = true := by kernel_rfl
theorem k17 : Ev.memoB Tryz.prog [146, 194, 212, 101, 103, 1048728] [] m17 = true := by kernel_rfl
end Go.Proofs.YtfkpcifchgnmnaaGreatDoor.ddlNames
