/-
  What is proved here: closed facts for the statement covenantlaw28.WriteNames: what the evaluator answers, and the computed cells of its row. Conditions: none.
-/
import Derived.Test.YtifdcpclpjgkoaaGreatDoorCards
import Derived.Test.YtifdcpclpjgkoaaGreatDoorTie
import Derived.Test.YtifdcpclpjgkoaaGreatDoorEvE
import Derived.WalkKit
import Derived.ProofKit
import Derived.OpenShut
import Derived.LaidMore
import Derived.Lay
import Derived.JoinedOf
import Derived.SevenTiedAt
import Derived.Stop.Joined
set_option linter.unusedVariables false
set_option linter.unusedSimpArgs false
namespace Go.Proofs.YtifdcpclpjgkoaaGreatDoor.writeNames
open Go.ChangeShapes Go.WideShapes Go.ChangeAt Go.RowKit
set_option maxRecDepth 1000000

theorem own : ownKnob Tryz.prog.godebug = none := by kernel_rfl
theorem size1 : Nat.ble Tryz.prog.types.size 65536 = true := by kernel_rfl
theorem size2 : Nat.ble Tryz.prog.funcs.size 65536 = true := by kernel_rfl
theorem mixed : Tryz.prog.follows .mixedOrders = true := by kernel_rfl
theorem sane : Ev.Sane Tryz.prog := Ev.sane_of_check Tryz.codeOk size1 size2 mixed
theorem eval : Ev.top Tryz.prog [74, 132, 52, 149] 3 = true := by kernel_rfl
theorem kept {F : Nat → Prop} {w w' : World} (hf : ∀ b, ¬ F b) (k : Ev.Keeps F w w') : w.keptBut w' (fun _ => False) := by
  refine ⟨k.os, k.output, fun i hi => ?_⟩
  rw [k.same i hi (hf i)]
  cases w.heap[i]? with
  | none => rfl
  | some o => cases o <;> simp
theorem walk (w : World) : Calls Tryz.prog 3 #[] w fun e w' => e = .returned (.bool true) ∧ w.keptBut w' (fun _ => False) :=
  (Ev.top_sound sane eval rfl w).mono fun e w' ⟨he, hk⟩ => ⟨he, kept (fun _ h => h) hk⟩
theorem noInit : Tryz.prog.inits.idxOf? 3 = none := by kernel_rfl
theorem c1 : Rows.writeNamesRow.wf (OpenSpec.ofChange Rows.writeNamesSpec) = true := by kernel_rfl
theorem c2 : laidOutB Tryz.prog = true := by kernel_rfl
theorem c3 : mapsRowed Tryz.prog = true := by kernel_rfl
theorem c4 : Tryz.f3.params.all (Tryz.prog.readableRec ·) = true := by kernel_rfl
theorem c5 : namedTie Tryz.prog Rows.writeNamesRow.named Rows.writeNamesSpec.vars = true := by kernel_rfl
theorem c6 : (Rows.writeNamesRow.stops == []) = true := by kernel_rfl
theorem c7 : (Tryz.prog.stops == []) = true := by kernel_rfl
theorem c8 : (Rows.writeNamesRow.knobs == []) = true := by kernel_rfl
theorem c9 : (Tryz.prog.stopKnobs == []) = true := by kernel_rfl
theorem c10 : (Rows.writeNamesRow.inPlace == Tryz.prog.inPlace 3) = true := by kernel_rfl
theorem c11 : (Rows.writeNamesRow.unfollowed == Tryz.prog.unfollowed 3) = true := by kernel_rfl
theorem c12 : (Rows.writeNamesRow.recurses == Tryz.prog.recurses 3) = true := by kernel_rfl
theorem c13 : (Rows.writeNamesRow.named == Tryz.prog.varsNamed 3) = true := by kernel_rfl
theorem c14 : (Rows.writeNamesRow.maps == (Tryz.f3.params.toList ++ Rows.writeNamesSpec.plain.varTypes Tryz.prog).any (Tryz.prog.mapsRec ·)) = true := by kernel_rfl
theorem c15 : (Rows.writeNamesRow.ifaces == (Tryz.f3.params.toList ++ Rows.writeNamesSpec.plain.varTypes Tryz.prog).any (Tryz.prog.ifacesRec ·)) = true := by kernel_rfl
theorem c16 : (Rows.writeNamesRow.mapsOut == Tryz.prog.mapsAmong Tryz.f3.resultTypes.toList) = true := by kernel_rfl
theorem c17 : (Rows.writeNamesRow.loops == (Tryz.f3.params.toList ++ Rows.writeNamesSpec.plain.varTypes Tryz.prog).any (Tryz.prog.loopsFrom ·)) = true := by kernel_rfl
theorem c18 : (Rows.writeNamesRow.wideKeys == (Tryz.f3.params.toList ++ Rows.writeNamesSpec.plain.varTypes Tryz.prog ++ Tryz.f3.resultTypes.toList).any (Tryz.prog.wideKeysFrom ·)) = true := by kernel_rfl
theorem c19 : Rows.writeNamesSpec.vars.all (Tryz.prog.varReadable ·) = true := by kernel_rfl
theorem c20 : Tryz.f3.resultTypes.all (fun t => Tryz.prog.readableRec t && decide (t < Tryz.prog.types.size)) = true := by kernel_rfl
theorem c21 : (Rows.writeNamesRow.ifacesOut == Tryz.f3.resultTypes.toList.any (Tryz.prog.ifacesRec ·)) = true := by kernel_rfl
theorem c22 : (Rows.writeNamesRow.loopsOut == Tryz.f3.resultTypes.toList.any (Tryz.prog.loopsFrom ·)) = true := by kernel_rfl
theorem c23 : (Rows.writeNamesRow.plainKeys == Tryz.prog.plainKeys) = true := by kernel_rfl
theorem c24 : Rows.writeNamesRow.shortTexts.isNone = true := by kernel_rfl
theorem c25 : Tryz.prog.stopsHeard = true := by kernel_rfl
theorem c26 : Tryz.prog.mayEnter = true := by kernel_rfl
theorem c27 : (Rows.writeNamesRow.lifted == Tryz.prog.liftsFinal) = true := by kernel_rfl
theorem c28 : (Tryz.prog.make == some Rows.writeNamesRow.make) = true := by kernel_rfl
theorem c29 : (Rows.writeNamesRow.kinds == (if Rows.writeNamesRow.domain.isEmpty then [] else Tryz.f3.params.toList.map fun t => match Tryz.prog.underlying t with | some (.int k) => some k | _ => none)) = true := by kernel_rfl
theorem c30 : (Rows.writeNamesRow.pinned == Rows.writeNamesRow.pinnedBy) = true := by kernel_rfl
theorem c31 : (Rows.writeNamesRow.veiled == (Tryz.f3.params.toList ++ Rows.writeNamesSpec.plain.varTypes Tryz.prog ++ Tryz.f3.resultTypes.toList).any (Tryz.prog.veiledRec ·)) = true := by kernel_rfl
theorem c32 : Rows.writeNamesRow.veiledFits Tryz.prog Tryz.f3.params.toList (Tryz.f3.params.toList ++ Rows.writeNamesSpec.plain.varTypes Tryz.prog ++ Tryz.f3.resultTypes.toList) = true := by kernel_rfl
theorem named3 : Tryz.prog.funcNamed "covenant/covenantlaw28.WriteNames" = some 3 := by kernel_rfl
theorem inst : Tryz.f3.isInstance Tryz.prog Rows.writeNamesRow.origin Rows.writeNamesRow.targs := of_decide_eq_true (by kernel_rfl)
theorem wrap : Tryz.f3.isWrapper Tryz.prog Rows.writeNamesRow.wrapper Rows.writeNamesRow.mainSum := by
  unfold Func.isWrapper
  first | (rw [if_pos (by decide +kernel)]; kernel_rfl) | (rw [if_neg (by decide +kernel)]; exact ⟨rfl, rfl⟩)
theorem looks : true = Tryz.pinned.checked.prog.looks [] := by kernel_rfl
end Go.Proofs.YtifdcpclpjgkoaaGreatDoor.writeNames
