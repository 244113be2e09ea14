/-
  What is proved here: closed facts for the statement covenantlaw29.DdlNames: what the evaluator answers, and the computed cells of its row. Conditions: none.
-/
import Derived.Test.YtfkpcifchgnmnaaGreatDoorCards
import Derived.Test.YtfkpcifchgnmnaaGreatDoorTie
import Derived.Test.YtfkpcifchgnmnaaGreatDoorEvE
import Derived.WalkKit
import Derived.ProofKit
import Derived.OpenShut
import Derived.LaidMore
import Derived.Lay
import Derived.JoinedOf
import Derived.SevenTiedAt
import Derived.Stop.Joined
set_option linter.unusedVariables false
set_option linter.unusedSimpArgs false
namespace Go.Proofs.YtfkpcifchgnmnaaGreatDoor.ddlNames
open Go.ChangeShapes Go.WideShapes Go.ChangeAt Go.RowKit
set_option maxRecDepth 1000000

theorem own : ownKnob Tryz.prog.godebug = none := by kernel_rfl
theorem size1 : Nat.ble Tryz.prog.types.size 65536 = true := by kernel_rfl
theorem size2 : Nat.ble Tryz.prog.funcs.size 65536 = true := by kernel_rfl
theorem mixed : Tryz.prog.follows .mixedOrders = true := by kernel_rfl
theorem sane : Ev.Sane Tryz.prog := Ev.sane_of_check Tryz.codeOk size1 size2 mixed
theorem noInit : Tryz.prog.inits.idxOf? 3 = none := by kernel_rfl
theorem c1 : Rows.ddlNamesRow.wf (OpenSpec.ofChange Rows.ddlNamesSpec) = true := by kernel_rfl
theorem c2 : laidOutB Tryz.prog = true := by kernel_rfl
theorem c3 : mapsRowed Tryz.prog = true := by kernel_rfl
theorem c4 : Tryz.f3.params.all (Tryz.prog.readableRec ·) = true := by kernel_rfl
theorem c5 : namedTie Tryz.prog Rows.ddlNamesRow.named Rows.ddlNamesSpec.vars = true := by kernel_rfl
theorem c6 : (Rows.ddlNamesRow.stops == []) = true := by kernel_rfl
theorem c7 : (Tryz.prog.stops == []) = true := by kernel_rfl
theorem c8 : (Rows.ddlNamesRow.knobs == []) = true := by kernel_rfl
theorem c9 : (Tryz.prog.stopKnobs == []) = true := by kernel_rfl
theorem place : Ev.placeFast Tryz.prog (Ev.closureFast Tryz.prog 3) = Rows.ddlNamesRow.inPlace := by kernel_rfl
theorem c10 : (Rows.ddlNamesRow.inPlace == Tryz.prog.inPlace 3) = true := by rw [← Ev.inPlace_fast size2 3, place]; exact beq_self_eq_true _
theorem unfollowed : Tryz.prog.unfollowed 3 = true := Ev.unfollowed_fast size2 (by kernel_rfl)
theorem c11 : (Rows.ddlNamesRow.unfollowed == Tryz.prog.unfollowed 3) = true := by rw [unfollowed]; rfl
theorem c12 : (Rows.ddlNamesRow.recurses == Tryz.prog.recurses 3) = true := by rw [Ev.recurses_fast unfollowed]; rfl
theorem names : (((Ev.namedFast Tryz.prog (Ev.closureFast Tryz.prog 3)).eraseDups.filterMap fun g => (Tryz.prog.globals[g]?).map (·.name)) ++ Ev.entryFast Tryz.prog (Ev.closureFast Tryz.prog 3)).eraseDups = Rows.ddlNamesRow.named := by kernel_rfl
theorem c13 : (Rows.ddlNamesRow.named == Tryz.prog.varsNamed 3) = true := by rw [← Ev.varsNamed_fast size2 3, names]; exact beq_self_eq_true _
theorem c14 : (Rows.ddlNamesRow.maps == (Tryz.f3.params.toList ++ Rows.ddlNamesSpec.plain.varTypes Tryz.prog).any (Tryz.prog.mapsRec ·)) = true := by kernel_rfl
theorem c15 : (Rows.ddlNamesRow.ifaces == (Tryz.f3.params.toList ++ Rows.ddlNamesSpec.plain.varTypes Tryz.prog).any (Tryz.prog.ifacesRec ·)) = true := by kernel_rfl
theorem c16 : (Rows.ddlNamesRow.mapsOut == Tryz.prog.mapsAmong Tryz.f3.resultTypes.toList) = true := by kernel_rfl
theorem c17 : (Rows.ddlNamesRow.loops == (Tryz.f3.params.toList ++ Rows.ddlNamesSpec.plain.varTypes Tryz.prog).any (Tryz.prog.loopsFrom ·)) = true := by kernel_rfl
theorem c18 : (Rows.ddlNamesRow.wideKeys == (Tryz.f3.params.toList ++ Rows.ddlNamesSpec.plain.varTypes Tryz.prog ++ Tryz.f3.resultTypes.toList).any (Tryz.prog.wideKeysFrom ·)) = true := by kernel_rfl
theorem c19 : Rows.ddlNamesSpec.vars.all (Tryz.prog.varReadable ·) = true := by kernel_rfl
theorem c20 : Tryz.f3.resultTypes.all (fun t => Tryz.prog.readableRec t && decide (t < Tryz.prog.types.size)) = true := by kernel_rfl
theorem c21 : (Rows.ddlNamesRow.ifacesOut == Tryz.f3.resultTypes.toList.any (Tryz.prog.ifacesRec ·)) = true := by kernel_rfl
theorem c22 : (Rows.ddlNamesRow.loopsOut == Tryz.f3.resultTypes.toList.any (Tryz.prog.loopsFrom ·)) = true := by kernel_rfl
theorem c23 : (Rows.ddlNamesRow.plainKeys == Tryz.prog.plainKeys) = true := by kernel_rfl
theorem c24 : Rows.ddlNamesRow.shortTexts.isNone = true := by kernel_rfl
theorem c25 : Tryz.prog.stopsHeard = true := by kernel_rfl
theorem c26 : Tryz.prog.mayEnter = true := by kernel_rfl
theorem c27 : (Rows.ddlNamesRow.lifted == Tryz.prog.liftsFinal) = true := by kernel_rfl
theorem c28 : (Tryz.prog.make == some Rows.ddlNamesRow.make) = true := by kernel_rfl
theorem c29 : (Rows.ddlNamesRow.kinds == (if Rows.ddlNamesRow.domain.isEmpty then [] else Tryz.f3.params.toList.map fun t => match Tryz.prog.underlying t with | some (.int k) => some k | _ => none)) = true := by kernel_rfl
theorem c30 : (Rows.ddlNamesRow.pinned == Rows.ddlNamesRow.pinnedBy) = true := by kernel_rfl
theorem c31 : (Rows.ddlNamesRow.veiled == (Tryz.f3.params.toList ++ Rows.ddlNamesSpec.plain.varTypes Tryz.prog ++ Tryz.f3.resultTypes.toList).any (Tryz.prog.veiledRec ·)) = true := by kernel_rfl
theorem c32 : Rows.ddlNamesRow.veiledFits Tryz.prog Tryz.f3.params.toList (Tryz.f3.params.toList ++ Rows.ddlNamesSpec.plain.varTypes Tryz.prog ++ Tryz.f3.resultTypes.toList) = true := by kernel_rfl
theorem named3 : Tryz.prog.funcNamed "covenant/covenantlaw29.DdlNames" = some 3 := by kernel_rfl
theorem inst : Tryz.f3.isInstance Tryz.prog Rows.ddlNamesRow.origin Rows.ddlNamesRow.targs := of_decide_eq_true (by kernel_rfl)
theorem wrap : Tryz.f3.isWrapper Tryz.prog Rows.ddlNamesRow.wrapper Rows.ddlNamesRow.mainSum := by
  unfold Func.isWrapper
  first | (rw [if_pos (by decide +kernel)]; kernel_rfl) | (rw [if_neg (by decide +kernel)]; exact ⟨rfl, rfl⟩)
theorem looks : true = Tryz.pinned.checked.prog.looks [] := by kernel_rfl
theorem goesNone : Tryz.pinned.checked.prog.funcs.any Func.goes = false := by kernel_rfl
end Go.Proofs.YtfkpcifchgnmnaaGreatDoor.ddlNames
