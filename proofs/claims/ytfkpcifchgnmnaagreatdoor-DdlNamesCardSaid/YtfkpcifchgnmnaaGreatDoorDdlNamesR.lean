/-
  What is proved here: the run of covenantlaw29.DdlNames, called anywhere, ends with true and leaves what was there as it was. Conditions: none.
-/
import Derived.Test.YtfkpcifchgnmnaaGreatDoorDdlNamesF
import Derived.Test.YtfkpcifchgnmnaaGreatDoorDdlNamesK0
import Derived.Test.YtfkpcifchgnmnaaGreatDoorDdlNamesK1
import Derived.Test.YtfkpcifchgnmnaaGreatDoorDdlNamesK2
import Derived.Test.YtfkpcifchgnmnaaGreatDoorDdlNamesK3
import Derived.Test.YtfkpcifchgnmnaaGreatDoorDdlNamesK4
set_option linter.unusedVariables false
namespace Go.Proofs.YtfkpcifchgnmnaaGreatDoor.ddlNames
set_option maxRecDepth 1000000
theorem ok0 : Ev.MemoOk Tryz.prog m0 := Ev.memo_ok sane (fun _ h => by cases h) k0
theorem ok1 : Ev.MemoOk Tryz.prog m1 := Ev.memo_ok sane (fun _ h => by cases h) k1
theorem ok2 : Ev.MemoOk Tryz.prog m2 := Ev.memo_ok sane (fun _ h => by cases h) k2
theorem ok3 : Ev.MemoOk Tryz.prog m3 := Ev.memo_ok sane (fun _ h => by cases h) k3
theorem ok4 : Ev.MemoOk Tryz.prog m4 := Ev.memo_ok sane (fun _ h => by cases h) k4
theorem ok5 : Ev.MemoOk Tryz.prog m5 := Ev.memo_ok sane (fun _ h => by cases h) k5
theorem ok6 : Ev.MemoOk Tryz.prog m6 := Ev.memo_ok sane (fun _ h => by cases h) k6
theorem ok7 : Ev.MemoOk Tryz.prog m7 := Ev.memo_ok sane (fun _ h => by cases h) k7
theorem ok8 : Ev.MemoOk Tryz.prog m8 := Ev.memo_ok sane (fun _ h => by cases h) k8
theorem ok9 : Ev.MemoOk Tryz.prog m9 := Ev.memo_ok sane (fun _ h => by cases h) k9
theorem ok10 : Ev.MemoOk Tryz.prog m10 := Ev.memo_ok sane (fun _ h => by cases h) k10
theorem ok11 : Ev.MemoOk Tryz.prog m11 := Ev.memo_ok sane (fun _ h => by cases h) k11
theorem ok12 : Ev.MemoOk Tryz.prog m12 := Ev.memo_ok sane (fun _ h => by cases h) k12
theorem ok13 : Ev.MemoOk Tryz.prog m13 := Ev.memo_ok sane (fun _ h => by cases h) k13
theorem ok14 : Ev.MemoOk Tryz.prog m14 := Ev.memo_ok sane (fun _ h => by cases h) k14
theorem ok15 : Ev.MemoOk Tryz.prog m15 := Ev.memo_ok sane (fun _ h => by cases h) k15
theorem ok16 : Ev.MemoOk Tryz.prog m16 := Ev.memo_ok sane (fun _ h => by cases h) k16
theorem ok17 : Ev.MemoOk Tryz.prog m17 := Ev.memo_ok sane (fun _ h => by cases h) k17
theorem ok18 : Ev.MemoOk Tryz.prog m18 := Ev.memo_ok sane (fun _ h => by cases h) k18
theorem ok19 : Ev.MemoOk Tryz.prog m19 := Ev.memo_ok sane (fun _ h => by cases h) k19
theorem ok20 : Ev.MemoOk Tryz.prog m20 := Ev.memo_ok sane (fun _ h => by cases h) k20
theorem ok21 : Ev.MemoOk Tryz.prog m21 := Ev.memo_ok sane (fun _ h => by cases h) k21
theorem ok22 : Ev.MemoOk Tryz.prog m22 := Ev.memo_ok sane (fun _ h => by cases h) k22
theorem ok23 : Ev.MemoOk Tryz.prog m23 := Ev.memo_ok sane (fun _ h => by cases h) k23
theorem ok24 : Ev.MemoOk Tryz.prog m24 := Ev.memo_ok sane (fun _ h => by cases h) k24
theorem ok25 : Ev.MemoOk Tryz.prog m25 := Ev.memo_ok sane (fun _ h => by cases h) k25
theorem known : ∀ m ∈ ([m0, m1, m2, m3, m4, m5, m6, m7, m8, m9, m10, m11, m12, m13, m14, m15, m16, m17, m18, m19, m20, m21, m22, m23, m24, m25] : List Ev.Memo), Ev.MemoOk Tryz.prog m := List.forall_mem_cons.2 ⟨ok0, List.forall_mem_cons.2 ⟨ok1, List.forall_mem_cons.2 ⟨ok2, List.forall_mem_cons.2 ⟨ok3, List.forall_mem_cons.2 ⟨ok4, List.forall_mem_cons.2 ⟨ok5, List.forall_mem_cons.2 ⟨ok6, List.forall_mem_cons.2 ⟨ok7, List.forall_mem_cons.2 ⟨ok8, List.forall_mem_cons.2 ⟨ok9, List.forall_mem_cons.2 ⟨ok10, List.forall_mem_cons.2 ⟨ok11, List.forall_mem_cons.2 ⟨ok12, List.forall_mem_cons.2 ⟨ok13, List.forall_mem_cons.2 ⟨ok14, List.forall_mem_cons.2 ⟨ok15, List.forall_mem_cons.2 ⟨ok16, List.forall_mem_cons.2 ⟨ok17, List.forall_mem_cons.2 ⟨ok18, List.forall_mem_cons.2 ⟨ok19, List.forall_mem_cons.2 ⟨ok20, List.forall_mem_cons.2 ⟨ok21, List.forall_mem_cons.2 ⟨ok22, List.forall_mem_cons.2 ⟨ok23, List.forall_mem_cons.2 ⟨ok24, List.forall_mem_cons.2 ⟨ok25, (fun _ h => by cases h)⟩⟩⟩⟩⟩⟩⟩⟩⟩⟩⟩⟩⟩⟩⟩⟩⟩⟩⟩⟩⟩⟩⟩⟩⟩⟩
theorem eval : Ev.topM Tryz.prog [146, 194, 212, 101, 103, 1048728] [m0, m1, m2, m3, m4, m5, m6, m7, m8, m9, m10, m11, m12, m13, m14, m15, m16, m17, m18, m19, m20, m21, m22, m23, m24, m25] 3 = true := by kernel_rfl
theorem kept {F : Nat → Prop} {w w' : World} (hf : ∀ b, ¬ F b) (k : Ev.Keeps F w w') : w.keptBut w' (fun _ => False) := by
  refine ⟨k.os, k.output, fun i hi => ?_⟩
  rw [k.same i hi (hf i)]
  cases w.heap[i]? with
  | none => rfl
  | some o => cases o <;> simp
theorem walk (w : World) : Calls Tryz.prog 3 #[] w fun e w' => e = .returned (.bool true) ∧ w.keptBut w' (fun _ => False) :=
  (Ev.topM_sound sane known eval rfl rfl w).mono fun e w' ⟨he, hk⟩ => ⟨he, kept (fun _ h => h) hk⟩
end Go.Proofs.YtfkpcifchgnmnaaGreatDoor.ddlNames
