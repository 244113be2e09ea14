/-
  What is proved here: each operation of the evaluator is the machine's, part 1. Conditions: none.
-/
import Derived.Test.YtfkpcifchgnmnaaGreatDoorEvA
import Derived.Laws.StructEq
import Derived.ChangeKeysEq
import Derived.Lib.Strings
set_option linter.unusedVariables false
set_option linter.unusedSimpArgs false
noncomputable section
namespace Go.Proofs.YtfkpcifchgnmnaaGreatDoor.Ev
variable {P : Program} {ρ : Emb} {h : H} {w : World} {e : Env} {tmps : Array Value}

def newC (k : NewK) (b : Nat) : Value := match k with
  | .ptr => .pointer (some ⟨b, 0, none⟩)
  | .slice l c => .slice (some ⟨b, 0, none⟩) l c
  | .map => .map (some b)

/-- a new object has no peer; a new slice is no longer than its row -/
def NewOk (x : AObj) (k : NewK) : Prop := (∀ cs el sz p, x = .arr cs el sz p → p = 0) ∧ ∀ l c, k = .slice l c → l ≤ c
theorem NewOk.ptr {cs : List AV} {el sz : Nat} : NewOk (.arr cs el sz 0) .ptr := ⟨fun _ _ _ _ h => by injection h with _ _ _ h; exact h.symm, fun _ _ h => by cases h⟩
theorem NewOk.slice {cs : List AV} {el sz l c : Nat} (hl : l ≤ c) : NewOk (.arr cs el sz 0) (.slice l c) := ⟨fun _ _ _ _ h => by injection h with _ _ _ h; exact h.symm, fun _ _ h => by injection h with h1 h2; omega⟩
theorem NewOk.peer {ρ : Emb} {x : AObj} {k : NewK} (h : NewOk x k) : PeerIn ρ x := fun cs el sz p hx => .inl (h.1 cs el sz p hx)
/-- memory has turned, and a value was handed back -/
def EOk (P : Program) (ρ : Emb) (h : H) (w : World) (f : Value → World → Prop) (v : AV) (h' : H) : Prop :=
  ∃ ρ' w' u, f u w' ∧ Post P ρ h w ρ' h' w' ∧ VRel ρ' v u ∧ h'.ds = h.ds

/-- what an operation comes to in the model, where it comes to something here -/
def VOk (P : Program) (ρ : Emb) (h : H) (w : World) (s : Sem Value) : R → Prop
  | .fail => True
  | .val v => ∃ u, VRel ρ v u ∧ ∀ w', s.run P w' = .ok u w'
  | .read v => WRel P ρ h w → ∃ u, VRel ρ v u ∧ s.run P w = .ok u w
  | .new x k => NewOk x k ∧ ∃ obj cap sz, (∀ w', s.run P w' = .ok (newC k w'.heap.size) { w' with heap := w'.heap.push obj }) ∧ ∀ ρ' b, Sub ρ ρ' → ORel P ρ' ⟨b, 0, cap, sz⟩ (some obj) x
  | .eff v h' => WRel P ρ h w → EOk P ρ h w (fun u w' => s.run P w = .ok u w') v h'
  | .choice v h' r => WRel P ρ h w → EOk P ρ h w (fun u w' => s.run P w = .ok u w') v h' ∨ VOk P ρ h w s r
  | .call _ _ => False
  | .callv _ _ => False
def UOk (P : Program) (ρ : Emb) (h : H) (w : World) (s : Sem Unit) : R → Prop
  | .fail => True
  | .eff v h' => WRel P ρ h w → EOk P ρ h w (fun u w' => u = Go.undef ∧ s.run P w = .ok () w') v h'
  | _ => False

theorem VOk.val {s : Sem Value} {v : AV} {u : Value} (hv : VRel ρ v u) (hs : ∀ w', s.run P w' = .ok u w') : VOk P ρ h w s (.val v) := ⟨u, hv, hs⟩
theorem VOk.pure {v : AV} {u : Value} (hv : VRel ρ v u) : VOk P ρ h w (Pure.pure u) (.val v) := ⟨u, hv, fun _ => rfl⟩
theorem VOk.read {s : Sem Value} {v : AV} (hs : WRel P ρ h w → ∃ u, VRel ρ v u ∧ s.run P w = .ok u w) : VOk P ρ h w s (.read v) := hs
theorem VOk.congr {s s' : Sem Value} {r : R} (hs : ∀ w', s.run P w' = s'.run P w') (hr : VOk P ρ h w s' r) : VOk P ρ h w s r := by
  induction r with
  | fail => trivial
  | val v => obtain ⟨u, a, b⟩ := hr; exact ⟨u, a, fun w' => (hs w').trans (b w')⟩
  | read v => intro W; obtain ⟨u, a, b⟩ := hr W; exact ⟨u, a, (hs w).trans b⟩
  | new x k => obtain ⟨ok, o, c, z, a, b⟩ := hr; exact ⟨ok, o, c, z, fun w' => (hs w').trans (a w'), b⟩
  | eff v h' => intro W; obtain ⟨ρ', w', u, a, b⟩ := hr W; exact ⟨ρ', w', u, (hs w).trans a, b⟩
  | choice v h' r ih =>
    intro W
    rcases hr W with ⟨ρ', w', u, a, b⟩ | hr
    · exact .inl ⟨ρ', w', u, (hs w).trans a, b⟩
    · exact .inr (ih hr)
  | call f a => exact hr
  | callv f a => exact hr

theorem VRel.undef : VRel ρ Ev.undef Go.undef := by
  unfold Ev.undef Go.undef; simp only [VRel]; exact ⟨#[], rfl, VRels.nil⟩

/-! small ones -/
theorem pick_sound (hE : ERel ρ e tmps) (c a b : Operand) : VOk P ρ h w (do pure (if ← asBool (ev tmps c) then ev tmps a else ev tmps b)) (xPick c a b e h) := by
  unfold xPick
  split
  · rename_i t ht
    have hc := eval_rel hE c
    rw [ht] at hc
    simp only [VRel] at hc
    rw [hc]
    cases t with
    | true => exact VOk.val (eval_rel hE a) (fun w' => by simp [asBool])
    | false => exact VOk.val (eval_rel hE b) (fun w' => by simp [asBool])
  · trivial

theorem ORel.row {P : Program} {ρ : Emb} {l : List AV} {c : Array Value} {el sz cap b peer : Nat} (hl : VRels ρ l c.toList) (h1 : ∀ u ∈ c.toList, u.oneCell' = true) (hc : cap = c.size) :
    ORel P ρ ⟨b, 0, cap, sz⟩ (some (.cells c el (0, 0))) (.arr l el sz peer) := by
  refine ⟨c, rfl, rfl, by have := hl.length; simp at this; simp only []; omega, by simp only []; omega, fun i a hi => ?_⟩
  obtain ⟨v, v1, v2⟩ := hl.get i a hi
  exact ⟨v, by simpa using v1, v2, h1 v (List.mem_of_getElem? v1)⟩

theorem zeroC_info {t : Nat} {l : List AV} (hz : zeroC P t = some l) : ∃ i v, infoT P t = some i ∧ i.zero = some v ∧ l.length = i.size ∧ (∀ ρ, VRels ρ l v.cells.toList) ∧ (∀ u ∈ v.cells.toList, u.oneCell' = true) := by
  unfold zeroC at hz
  cases h1 : zeroT P t with
  | none => simp [h1] at hz
  | some z =>
    rw [h1] at hz
    simp only at hz
    cases h2 : cells? z with
    | none => simp [h2] at hz
    | some l' =>
      rw [h2] at hz
      simp only at hz
      cases h3 : Nat.beq (llen l') (szT P t) with
      | false => rw [h3] at hz; simp at hz
      | true =>
        rw [h3] at hz
        simp only [cond_true, Option.some.injEq] at hz
        subst hz
        obtain ⟨i, v, a1, a2, a3⟩ := zeroT_info h1
        subst a3
        have h4 := nbeq.1 h3
        rw [llen_eq, szT_info a1] at h4
        exact ⟨i, v, a1, a2, h4, fun ρ => (cells?_rel (ofV_rel ρ v) h2).1, (cells?_rel (ofV_rel (fun _ => none) v) h2).2⟩

theorem alloc_sound (S : Sane P) (t : Nat) : VOk P ρ h w (Instr.alloc t true (.tuple #[])) (xAlloc P t e h) := by
  unfold xAlloc
  split
  · rename_i z hz
    obtain ⟨i, v, a1, a2, a3, a4, a5⟩ := zeroC_info hz
    refine ⟨NewOk.ptr, .cells v.cells t, v.cells.size, szT P t, fun w' => ?_, fun ρ' b _ => ORel.row (a4 ρ') a5 rfl⟩
    simp [Instr.alloc, zeroValue, typeInfo, S.info a1, a2, newVar, newRow, newC]
  · trivial
theorem box_sound (hE : ERel ρ e tmps) (t : Nat) (x : Operand) : VOk P ρ h w (Instr.box t (ev tmps x)) (xBox P t x e h) := by
  unfold xBox
  split
  · rename_i z hz
    have hx := eval_rel hE x
    refine ⟨NewOk.ptr, .cells (ev tmps x).cells t, (ev tmps x).cells.size, szT P t, fun w' => ?_, fun ρ' b s => ?_⟩
    · simp [Instr.box, newVar, newRow, newC]
    · obtain ⟨a1, a2⟩ := cells?_rel (hx.mono s) hz
      exact ORel.row a1 a2 rfl
  · trivial

/-! literals -/
theorem pairs_rel (hE : ERel ρ e tmps) (ps : Array (Nat × Operand)) : pairs e ps = ps.toList.map fun p => (p.1, eval e p.2) := by unfold pairs; rw [lmap_eq]
theorem fold_set (vs : List Value) : ∀ (off k : Nat) (cs : Array Value), off + k + vs.length ≤ cs.size →
    ((vs.zipIdx k).foldl (fun cs (p : Value × Nat) => cs.setIfInBounds (off + p.2) p.1) cs).toList = lover vs (off + k) cs.toList := by
  induction vs with
  | nil => intro off k cs hl; simp only [List.zipIdx_nil, List.foldl_nil]; rw [lover_eq [] _ _ (by simpa using hl)]; simp
  | cons v vs ih =>
    intro off k cs hl
    simp only [List.zipIdx_cons, List.foldl_cons]
    rw [ih off (k + 1) _ (by simp at hl ⊢; omega)]
    simp only [Array.toList_setIfInBounds]
    rw [lover_eq _ _ _ (by simp at hl ⊢; omega), lover_eq _ _ _ (by simp at hl ⊢; omega)]
    have := list_seg_step cs.toList (off + k) v vs (by simp at hl ⊢; omega)
    simpa [Nat.add_assoc] using this
theorem fill_sound {place : Nat → Option (Nat × Nat)} {tmps : Array Value} (hE : ERel ρ e tmps) : ∀ (ps : List (Nat × Operand)) (cs : List AV) (l : List AV) (c : Array Value),
    fill place (ps.map fun p => (p.1, eval e p.2)) cs = some l → VRels ρ cs c.toList → (∀ u ∈ c.toList, u.oneCell' = true) →
    ∃ c' : Array Value, Instr.fill place c (ps.map fun p => (p.1, ev tmps p.2)) = some c' ∧ VRels ρ l c'.toList ∧ (∀ u ∈ c'.toList, u.oneCell' = true) ∧ c'.size = c.size
  | [], cs, l, c, hf, hr, h1 => by
    change some cs = some l at hf
    injection hf with hf; subst hf
    exact ⟨c, rfl, hr, h1, rfl⟩
  | (i, x) :: ps, cs, l, c, hf, hr, h1 => by
    change (match place i, cells? (eval e x) with
      | some (off, size), some vs => Bool.rec (motive := fun _ => Option (List AV)) none (Bool.rec (motive := fun _ => Option (List AV)) none (fill place (ps.map fun p => (p.1, eval e p.2)) (lover vs off cs)) (lhas (Nat.add off size) cs)) (Nat.beq (llen vs) size)
      | _, _ => none) = some l at hf
    cases hp : place i with
    | none => rw [hp] at hf; simp at hf
    | some os =>
      obtain ⟨off, size⟩ := os
      rw [hp] at hf
      cases hc : cells? (eval e x) with
      | none => rw [hc] at hf; simp at hf
      | some vs =>
        rw [hc] at hf
        simp only at hf
        cases hb : Nat.beq (llen vs) size with
        | false => rw [hb] at hf; simp at hf
        | true =>
          rw [hb] at hf
          simp only at hf
          cases hb2 : lhas (Nat.add off size) cs with
          | false => rw [hb2] at hf; simp at hf
          | true =>
            rw [hb2] at hf
            simp only at hf
            obtain ⟨a1, a2⟩ := cells?_rel (eval_rel hE x) hc
            have e1 := nbeq.1 hb
            have e2 := (lhas_iff _ _).1 hb2
            rw [llen_eq] at e1
            have e3 := a1.length
            have e4 := hr.length
            have e2' : off + size ≤ cs.length := e2
            simp at e3 e4
            have hsz : (ev tmps x).cells.size = size := by omega
            have hfold := fold_set (ev tmps x).cells.toList off 0 c (by simp; omega)
            have hz : (ev tmps x).cells.zipIdx.foldl (init := c) (fun cs (p : Value × Nat) => cs.setIfInBounds (off + p.2) p.1) = ((ev tmps x).cells.toList.zipIdx.foldl (fun cs (p : Value × Nat) => cs.setIfInBounds (off + p.2) p.1) c) := by
              rw [← Array.foldl_toList]; simp
            have hover : VRels ρ (lover vs off cs) (((ev tmps x).cells.toList.zipIdx.foldl (fun cs (p : Value × Nat) => cs.setIfInBounds (off + p.2) p.1) c)).toList := by
              rw [hfold, Nat.add_zero, lover_eq _ _ _ (by omega), lover_eq _ _ _ (by simp; omega)]
              refine VRels.append (VRels.append (hr.take off) a1) ?_
              rw [show (ev tmps x).cells.toList.length = vs.length by simp; omega]
              exact hr.drop _
            have hsc : ∀ u ∈ (((ev tmps x).cells.toList.zipIdx.foldl (fun cs (p : Value × Nat) => cs.setIfInBounds (off + p.2) p.1) c)).toList, u.oneCell' = true := by
              rw [hfold, Nat.add_zero, lover_eq _ _ _ (by simp; omega)]
              intro u hu
              simp only [List.mem_append] at hu
              rcases hu with (hu | hu) | hu
              · exact h1 u (List.mem_of_mem_take hu)
              · exact a2 u hu
              · exact h1 u (List.mem_of_mem_drop hu)
            have hszc : (((ev tmps x).cells.toList.zipIdx.foldl (fun cs (p : Value × Nat) => cs.setIfInBounds (off + p.2) p.1) c)).size = c.size := by
              have := congrArg List.length hfold
              rw [Nat.add_zero, lover_length _ _ _ (by simp; omega)] at this
              simpa using this
            obtain ⟨c', b1, b2, b3, b4⟩ := fill_sound hE ps _ l _ hf hover hsc
            refine ⟨c', ?_, b2, b3, b4.trans hszc⟩
            simp only [List.map_cons, Instr.fill, hp]
            rw [if_neg (by simp [hsz]; omega), hz]
            exact b1
theorem build_sound (S : Sane P) (hE : ERel ρ e tmps) (t : Nat) (ps : Array (Nat × Operand)) :
    VOk P ρ h w (Instr.build t (ps.map fun p => (p.1, ev tmps p.2))) (xBuild P t ps e h) := by
  unfold xBuild
  split
  · rename_i z hz
    obtain ⟨i, v, a1, a2, a3, a4, a5⟩ := zeroC_info hz
    rw [pairs_rel hE]
    have key : ∀ place l, fill place (ps.toList.map fun p => (p.1, eval e p.2)) z = some l →
        (∀ cells, Instr.fill place v.cells (ps.map fun p => (p.1, ev tmps p.2)).toList = some cells → P.built t (ps.map fun p => (p.1, ev tmps p.2)).toList = some cells) →
        VOk P ρ h w (Instr.build t (ps.map fun p => (p.1, ev tmps p.2))) (.val (.agg l)) := by
      intro place l hf hb
      obtain ⟨c', b1, b2, b3, _⟩ := fill_sound hE ps.toList z l v.cells hf (a4 ρ) a5
      refine VOk.val (u := .agg c') (by simp only [VRel]; exact ⟨c', rfl, b2, b3⟩) (fun w' => ?_)
      exact run_build w' t _ c' (hb c' (by rw [← b1]; simp))
    split
    · rename_i fs hd
      split
      · rename_i pl hpl
        split
        · rename_i l hl
          refine key _ l hl (fun cells hcells => ?_)
          unfold placesT at hpl
          rw [hd] at hpl
          simp only at hpl
          unfold Program.built
          rw [S.info a1, S.desc hd]
          simp only [a2]
          have hm : fs.toList.mapM (fun f => (P.info? f.type).map fun i => (f.offset, i.size)) = some pl := by
            have : ∀ (l : List Field) (r : List (Nat × Nat)), l.mapM (fun f => (infoT P f.type).map fun i => (f.offset, i.size)) = some r → l.mapM (fun f => (P.info? f.type).map fun i => (f.offset, i.size)) = some r := by
              intro l
              induction l with
              | nil => intro r hr; exact hr
              | cons f l ih =>
                intro r hr
                simp only [List.mapM_cons, Option.bind_eq_bind, Option.pure_def] at hr ⊢
                cases hi : infoT P f.type with
                | none => simp [hi] at hr
                | some j =>
                  cases hr' : l.mapM (fun f => (infoT P f.type).map fun i => (f.offset, i.size)) with
                  | none => simp [hi, hr'] at hr
                  | some r' =>
                    simp [hi, hr'] at hr
                    subst hr
                    simp [S.info hi, ih r' hr']
            exact this _ _ hpl
          rw [hm]
          simp only
          have hg : (fun x : Nat => pl.toArray[x]?) = fun i => lget? i pl := by funext x; simp [lget?_eq]
          rw [hg]; exact hcells
        · trivial
      · trivial
    · rename_i n el hd
      cases hh : hasT P el with
      | false => trivial
      | true =>
        simp only [cond_true]
        split
        · rename_i l hl
          refine key _ l hl (fun cells hcells => ?_)
          obtain ⟨d, hd'⟩ := hasT_iff.1 hh
          obtain ⟨ie, hie⟩ := descT_info hd'
          unfold Program.built
          rw [S.info a1, S.desc hd]
          simp only [a2, S.info hie]
          rw [← hcells]
          unfold placeE
          rw [szT_info hie]; rfl
        · trivial
    · trivial
  · trivial

theorem range_lrep (z : Array Value) (n : Nat) (hz : 0 < z.size ∨ n = 0) : ((Array.range (n * z.size)).map (fun i => z[i % z.size]!)).toList = lrep z.toList n := by
  rw [lrep_eq]
  rcases hz with hz | hz
  · apply List.ext_getElem?
    intro j
    simp only [Array.toList_map, Array.toList_range, List.getElem?_map]
    by_cases hj : j < n * z.size
    · rw [List.getElem?_range hj]
      have hq : j / z.size < n := (Nat.div_lt_iff_lt_mul hz).2 hj
      have : (List.replicate n z.toList).flatten[j]? = z.toList[j % z.size]? := by
        clear hj
        induction n generalizing j with
        | zero => exact absurd hq (Nat.not_lt_zero _)
        | succ n ih =>
          rw [List.replicate_succ, List.flatten_cons]
          by_cases h1 : j < z.size
          · rw [List.getElem?_append_left (by simpa using h1), Nat.mod_eq_of_lt h1]
          · have hm : j % z.size = (j - z.size) % z.size := by rw [Nat.mod_eq_sub_mod (by omega)]
            rw [List.getElem?_append_right (by simp; omega), hm]
            simp only [Array.length_toList]
            refine ih (j - z.size) ?_
            rw [Nat.div_eq_sub_div hz (by omega)] at hq
            omega
      rw [this]
      have hlt : j % z.size < z.size := Nat.mod_lt _ hz
      simp [hlt]
    · rw [List.getElem?_eq_none (by simp; omega), List.getElem?_eq_none (by simp [List.length_flatten]; omega)]
      rfl
  · subst hz; simp
theorem lrep_rel {l : List AV} {vs : List Value} (hl : VRels ρ l vs) (n : Nat) : VRels ρ (lrep l n) (lrep vs n) := by
  induction n with
  | zero => exact VRels.nil
  | succ n ih =>
    change VRels ρ (lapp l (lrep l n)) (lapp vs (lrep vs n))
    rw [lapp_eq, lapp_eq]; exact hl.append ih
theorem lrep_all {vs : List Value} (h1 : ∀ u ∈ vs, u.oneCell' = true) (n : Nat) : ∀ u ∈ lrep vs n, u.oneCell' = true := by
  induction n with
  | zero => intro u hu; change u ∈ ([] : List Value) at hu; simp at hu
  | succ n ih =>
    change ∀ u ∈ lapp vs (lrep vs n), _
    rw [lapp_eq]
    intro u hu
    rcases List.mem_append.1 hu with hu | hu
    · exact h1 u hu
    · exact ih u hu
end Go.Proofs.YtfkpcifchgnmnaaGreatDoor.Ev
end

noncomputable section
namespace Go.Proofs.YtfkpcifchgnmnaaGreatDoor.Ev
variable {P : Program} {ρ : Emb} {h : H} {w : World} {e : Env} {tmps : Array Value}

theorem VRel.int_inv {k : IntKind} {n : Int} {v : Value} (hv : VRel ρ (.int k n) v) : v = .int k n := by simpa only [VRel] using hv
theorem VRel.bool_inv {b : Bool} {v : Value} (hv : VRel ρ (.bool b) v) : v = .bool b := by simpa only [VRel] using hv
theorem VRel.str_inv {s : List Nat} {v : Value} (hv : VRel ρ (.str s) v) : ∃ b : ByteArray, v = .string b ∧ b.data.toList.map UInt8.toNat = s := by simpa only [VRel] using hv
theorem VRel.ptr_inv {i o : Nat} {v : Value} (hv : VRel ρ (.ptr i o) v) : ∃ e, ρ i = some e ∧ v = .pointer (some ⟨e.block, e.off + o, none⟩) := by simpa only [VRel] using hv
theorem VRel.int {k : IntKind} {n : Int} : VRel ρ (.int k n) (.int k n) := by simp only [VRel]
theorem VRel.bool {b : Bool} : VRel ρ (.bool b) (.bool b) := by simp only [VRel]
theorem VRel.nil_tuple : VRel ρ (.tuple []) (.tuple #[]) := by simp only [VRel]; exact ⟨#[], rfl, VRels.nil⟩
theorem VRel.str {s : List Nat} {b : ByteArray} (hb : b.data.toList.map UInt8.toNat = s) : VRel ρ (.str s) (.string b) := by simp only [VRel]; exact ⟨b, rfl, hb⟩

theorem buildSlice_sound (S : Sane P) (hE : ERel ρ e tmps) (t n : Nat) (ps : Array (Nat × Operand)) :
    VOk P ρ h w (Instr.buildSlice t n (ps.map fun p => (p.1, ev tmps p.2))) (xBuildSlice P t n ps e h) := by
  unfold xBuildSlice
  split
  · rename_i el hel
    have hd := S.desc (sliceT_desc hel)
    cases hb : Nat.ble (Nat.mul n (szT P el)) 16777216 with
    | false => simp only [cond_false]; trivial
    | true =>
      simp only [cond_true]
      split
      · rename_i z hz
        obtain ⟨i, v, a1, a2, a3, a4, a5⟩ := zeroC_info hz
        rw [pairs_rel hE]
        split
        · rename_i l hl
          have hsz : szT P el = i.size := szT_info a1
          have hb' : n * i.size ≤ 16777216 := by have := nble.1 hb; rw [hsz] at this; exact this
          have hvs : v.cells.size = i.size := by have := (a4 ρ).length; simp at this; omega
          have hzero : ∀ w', (do let zero ← (if n * i.size = 0 then Pure.pure #[] else do let z ← zeroValue el; Pure.pure z.cells); Pure.pure zero : Sem (Array Value)).run P w' = .ok (if n * i.size = 0 then #[] else v.cells) w' := by
            intro w'
            split <;> simp [zeroValue, typeInfo, S.info a1, a2]
          obtain ⟨c, hc1, hc2, hc3⟩ : ∃ c : Array Value, c = (Array.range (n * i.size)).map (fun k => (if n * i.size = 0 then #[] else v.cells)[k % (if n * i.size = 0 then #[] else v.cells).size]!) ∧ VRels ρ (lrep z n) c.toList ∧ ∀ u ∈ c.toList, u.oneCell' = true := by
            refine ⟨_, rfl, ?_⟩
            by_cases h0 : n * i.size = 0
            · have hlen : lrep z n = [] := List.eq_nil_of_length_eq_zero (by rw [lrep_length, a3, h0])
              rw [hlen]
              simp only [h0, if_true]
              exact ⟨by simpa using VRels.nil, by simp⟩
            · rw [if_neg h0]
              have := range_lrep v.cells n (.inl (by rw [hvs]; exact Nat.pos_of_ne_zero fun hz => h0 (by rw [hz]; simp)))
              rw [hvs] at this
              rw [hvs, this]
              exact ⟨lrep_rel (a4 ρ) n, lrep_all a5 n⟩
          obtain ⟨c', b1, b2, b3, b4⟩ := fill_sound hE ps.toList _ l c hl hc2 hc3
          refine ⟨NewOk.slice (Nat.le_refl _), .cells c' el, c'.size, szT P el, fun w' => ?_, fun ρ' b s => ORel.row (b2.mono s) b3 rfl⟩
          have hnot : ¬ n * i.size > 16777216 := by omega
          have b1' : Instr.fill (fun k => some (k * i.size, i.size)) c (ps.toList.map fun p => (p.1, ev tmps p.2)) = some c' := by
            rw [← b1]; unfold placeE; rw [hsz]; rfl
          subst hc1
          simp only [Instr.buildSlice, Sem.run_bind, run_underlying hd, Result.andThen_ok, S.run_sizeOf ⟨i, a1⟩, hsz]
          have hlt : ¬ 16777216 < n * i.size := by omega
          by_cases h0 : n * i.size = 0
          · have hz : ∀ f : Nat → Value, Array.map f (Array.range 0) = #[] := fun f => by apply Array.ext' ; simp
            simp only [h0, if_true, hz] at b1' ⊢
            simp [b1', newRow, newC, hz]
          · simp only [h0, if_false] at b1' ⊢
            simp [hlt, zeroValue, typeInfo, S.info a1, a2, b1', newRow, newC]
        · trivial
      · trivial
  · trivial

/-! reading and writing -/
theorem cut_cases {agg : Bool} {n off : Nat} {cs : List AV} {v : AV} (hc : cut agg n off cs = some v) :
    (agg = true ∧ ∃ l, ltake? n (ldrop off cs) = some l ∧ v = .agg l) ∨ (agg = false ∧ cs[off]? = some v) := by
  cases agg with
  | false => right; exact ⟨rfl, by rw [← lget?_eq]; exact hc⟩
  | true =>
    left
    refine ⟨rfl, ?_⟩
    change Option.rec (motive := fun _ => Option AV) none (fun l => some (.agg l)) (ltake? n (ldrop off cs)) = some v at hc
    cases hl : ltake? n (ldrop off cs) with
    | none => rw [hl] at hc; simp at hc
    | some l => rw [hl] at hc; simp only [Option.some.injEq] at hc; exact ⟨l, rfl, hc.symm⟩
theorem condNone {α : Type} {b : Bool} {x : Option α} {y : α} (hc : cond b x none = some y) : b = true ∧ x = some y := by
  cases b with
  | true => exact ⟨rfl, hc⟩
  | false => simp at hc
theorem loadA_read {t : Nat} {id off : Nat} : loadA P t h id off = .fail ∨ ∃ v cs el sz p, loadA P t h id off = .read v ∧ h.get id = .arr cs el sz p ∧ hasT P t = true ∧ cut (isAggT P t) (szT P t) off cs = some v := by
  unfold loadA
  split
  · rename_i cs el sz p ho
    split
    · rename_i v hv
      obtain ⟨h1, h2⟩ := condNone hv
      exact .inr ⟨v, cs, el, sz, p, rfl, ho, h1, h2⟩
    · exact .inl rfl
  · exact .inl rfl
theorem loadVar_sound (S : Sane P) (r : WRel P ρ h w) {id off t : Nat} {ex : Ext} (he : ρ id = some ex) {v : AV} (hl : loadA P t h id off = .read v) :
    ∃ u, VRel ρ v u ∧ (loadVar t ⟨ex.block, ex.off + off, none⟩).run P w = .ok u w := by
  rcases loadA_read (P := P) (h := h) (t := t) (id := id) (off := off) with hf | ⟨v', cs, el, sz, p, h1, h2, h3, h4⟩
  · rw [hf] at hl; simp at hl
  · rw [h1] at hl
    injection hl with hl
    subst hl
    obtain ⟨d, hd⟩ := hasT_iff.1 h3
    rcases cut_cases h4 with ⟨ha, l, hl, rfl⟩ | ⟨ha, hc⟩
    · obtain ⟨vs, v1, v2, v3, v4⟩ := r.stretch he h2 hl
      refine ⟨.agg vs.toArray, by simp only [VRel]; exact ⟨vs.toArray, rfl, by simpa using v1, by simpa using v2⟩, ?_⟩
      simp only [loadVar, Sem.run_bind, S.run_isAgg hd, ha, Result.andThen_ok, if_true, S.run_sizeOf (descT_info hd), v4, Sem.run_pure]
    · obtain ⟨u, u1, u2, _⟩ := r.cell he h2 hc
      refine ⟨u, u2, ?_⟩
      simp [loadVar, Sem.run_bind, S.run_isAgg hd, ha, u1]
theorem load_sound (S : Sane P) (hE : ERel ρ e tmps) (t : Nat) (a : Operand) : VOk P ρ h w (Instr.loadAt t (ev tmps a)) (xLoad P t a e h) := by
  unfold xLoad
  split
  · rename_i id off ha
    have hp := eval_rel hE a
    rw [ha] at hp
    obtain ⟨ex, he, hv⟩ := hp.ptr_inv
    rw [hv]
    rcases loadA_read (P := P) (h := h) (t := t) (id := id) (off := off) with hf | ⟨v', _, _, _, _, h1, _⟩
    · rw [hf]; trivial
    · rw [h1]
      intro r
      obtain ⟨u, u1, u2⟩ := loadVar_sound S r he h1
      exact ⟨u, u1, by simp [Instr.loadAt, Instr.sureAddr, u2]⟩
  · trivial
theorem effO_eff {v : AV} {x : Option H} : effO v x = .fail ∨ ∃ h', x = some h' ∧ effO v x = .eff v h' := by
  cases x with
  | none => exact .inl rfl
  | some h' => exact .inr ⟨h', rfl, rfl⟩
theorem store_sound (S : Sane P) (hE : ERel ρ e tmps) (t : Nat) (a x : Operand) : UOk P ρ h w (Instr.storeAt t (ev tmps a) (ev tmps x)) (xStore P t a x e h) := by
  unfold xStore
  split
  · rename_i id off ha
    have hp := eval_rel hE a
    rw [ha] at hp
    obtain ⟨ex, he, hv⟩ := hp.ptr_inv
    rw [hv]
    unfold storeA
    split
    · rename_i vs hvs
      obtain ⟨c1, c2⟩ := cells?_rel (eval_rel hE x) hvs
      cases hb : cond (hasT P t) (Nat.beq (llen vs) (szT P t)) false with
      | false => trivial
      | true =>
        simp only
        cases h3 : hasT P t with
        | false => rw [h3] at hb; simp at hb
        | true =>
          rw [h3] at hb
          have hlen := nbeq.1 (by simpa using hb)
          obtain ⟨d, hd⟩ := hasT_iff.1 h3
          rcases effO_eff (v := Ev.undef) (x := writeA h id off vs) with hf | ⟨h', hw, hf⟩
          · rw [hf]; trivial
          · rw [hf]
            intro r
            obtain ⟨w', w1, w2, w3⟩ := write_sound r hw c1 c2 (a := ⟨ex.block, ex.off + off, none⟩) (fun _ => ⟨ex, he, rfl⟩)
            refine ⟨ρ, w', Go.undef, ⟨rfl, ?_⟩, w2, VRel.undef, w3⟩
            have hsz : (ev tmps x).cells.size = szT P t := by
              have := c1.length
              rw [llen_eq] at hlen
              simp at this; omega
            simp [Instr.storeAt, Instr.sureAddr, storeVar, S.run_sizeOf (descT_info hd), hsz, w1]
    · trivial
  · trivial
theorem part_sound (S : Sane P) {t off : Nat} {cs : List AV} {c : Array Value} (hr : VRels ρ cs c.toList) (h1 : ∀ u ∈ c.toList, u.oneCell' = true) {v : AV} {d : TypeDesc} (hd : descT P t = some d)
    (hc : cut (isAggT P t) (szT P t) off cs = some v) : ∃ u, VRel ρ v u ∧ ∀ w, (part t c off).run P w = .ok u w := by
  rcases cut_cases hc with ⟨ha, l, hl, rfl⟩ | ⟨ha, hc⟩
  · rw [ldrop_eq] at hl
    obtain ⟨l1, rfl⟩ := ltake?_some hl
    refine ⟨.agg (c.extract off (off + szT P t)), ?_, fun w => ?_⟩
    · simp only [VRel]
      refine ⟨_, rfl, ?_, ?_⟩
      · have : (c.extract off (off + szT P t)).toList = (c.toList.drop off).take (szT P t) := by simp [List.take_drop]
        rw [this]
        exact (hr.drop off).take _
      · intro u hu
        refine h1 u ?_
        simp at hu
        exact List.mem_of_mem_drop (List.mem_of_mem_take hu)
    · simp [part, S.run_isAgg hd, ha, S.run_sizeOf (descT_info hd)]
  · obtain ⟨u, u1, u2⟩ := hr.get _ _ hc
    refine ⟨u, u2, fun w => ?_⟩
    have : c[off]? = some u := by simpa using u1
    simp [part, S.run_isAgg hd, ha, this]

/-! numbers, truth values, texts -/
theorem kbeq_cond {α : Type} {k k' : IntKind} {x y : α} (hk : k = k') : cond (kbeq k k') x y = x := by rw [kbeq_iff.2 hk]; rfl
theorem bnot_eq (b : Bool) : bnot b = !b := by cases b <;> rfl
theorem bor_eq (a b : Bool) : bor a b = (a || b) := by cases a <;> rfl
theorem ibeq_eq (a b : Int) : ibeq a b = (a == b) := by rw [Bool.eq_iff_iff, ibeq_iff]; simp
theorem iblt_eq (a b : Int) : iblt a b = decide (a < b) := by rw [Bool.eq_iff_iff, iblt_iff]; simp
theorem u8_inj {x y : UInt8} (h : x.toNat = y.toNat) : x = y := UInt8.toNat_inj.1 h
theorem bytes_inj : ∀ (a b : List UInt8), a.map UInt8.toNat = b.map UInt8.toNat → a = b
  | [], [], _ => rfl
  | [], _ :: _, h => by simp at h
  | _ :: _, [], h => by simp at h
  | x :: a, y :: b, h => by simp at h; rw [u8_inj h.1, bytes_inj a b h.2]
theorem listEq_bytes (a b : List UInt8) : listEq (a.map UInt8.toNat) (b.map UInt8.toNat) = (a == b) := by
  rw [Bool.eq_iff_iff, listEq_iff]
  constructor
  · intro h; rw [bytes_inj _ _ h]; simp
  · intro h; rw [eq_of_beq h]
theorem byteLess_bytes : ∀ (a b : List UInt8), byteLess (a.map UInt8.toNat) (b.map UInt8.toNat) = Op.bytesLess a b
  | [], [] => rfl
  | [], _ :: _ => rfl
  | _ :: _, [] => rfl
  | x :: a, y :: b => by
    change cond (Nat.blt x.toNat y.toNat) true (cond (Nat.beq x.toNat y.toNat) (byteLess (a.map UInt8.toNat) (b.map UInt8.toNat)) false) = (decide (x < y) || (x == y && Op.bytesLess a b))
    rw [byteLess_bytes a b]
    have h1 : Nat.blt x.toNat y.toNat = decide (x < y) := by rw [Bool.eq_iff_iff, nblt]; simp [UInt8.lt_iff_toNat_lt]
    have h2 : Nat.beq x.toNat y.toNat = (x == y) := by
      rw [Bool.eq_iff_iff, nbeq]
      exact ⟨fun h => by rw [u8_inj h]; simp, fun h => by rw [eq_of_beq h]⟩
    rw [h1, h2]
    cases decide (x < y) <;> cases (x == y) <;> rfl
theorem un_sound (hE : ERel ρ e tmps) (op : UnOp) (t : Nat) (x : Operand) : VOk P ρ h w (Op.unary op (ev tmps x)) (xUn op t x e h) := by
  unfold xUn
  have hx := eval_rel hE x
  split
  · rename_i b hb
    rw [hb] at hx
    rw [hx.bool_inv]
    cases b <;> exact VOk.pure (u := .bool _) (by simp only [VRel]; rfl)
  · rename_i k n hb
    rw [hb] at hx
    rw [hx.int_inv]
    exact VOk.pure VRel.int
  · trivial
end Go.Proofs.YtfkpcifchgnmnaaGreatDoor.Ev
end

noncomputable section
namespace Go.Proofs.YtfkpcifchgnmnaaGreatDoor.Ev
variable {P : Program} {ρ : Emb} {h : H} {w : World} {e : Env} {tmps : Array Value}

theorem run_sameAddr_rows {a b : Addr} {ca cb : Array Value} {ea eb : TypeId} (ha : w.heap[a.block]? = some (.cells ca ea (0, 0))) (hb : w.heap[b.block]? = some (.cells cb eb (0, 0)))
    (hne : a.block ≠ b.block) : (sameAddr a b).run P w = .ok false w := by
  have h1 : (a.block == b.block) = false := by simpa using hne
  have h2 : w.frozen? a = false := by simp [World.frozen?, ha]
  have h3 : w.frozen? b = false := by simp [World.frozen?, hb]
  have h4 : w.shape? a.block = some (ea, ca.size) := by simp [World.shape?, ha]
  have h5 : w.shape? b.block = some (eb, cb.size) := by simp [World.shape?, hb]
  have h6 : ∀ o, w.frozen? ⟨a.block, o, none⟩ = false := fun o => by simp [World.frozen?, ha]
  have h7 : ∀ o, w.frozen? ⟨b.block, o, none⟩ = false := fun o => by simp [World.frozen?, hb]
  simp [sameAddr, h1, h2, h3, noView, viewAt, h4, h5, mayBeOne, stringish, h6, h7]

theorem sameP_cases {i o j q : Nat} {b : Bool} (hs : sameP h i o j q = some b) :
    (i = j ∧ b = Nat.beq o q) ∨ (i ≠ j ∧ b = false ∧ ∃ c1 e1 s1 p c2 e2 s2 p2, h.get i = .arr c1 e1 s1 p ∧ h.get j = .arr c2 e2 s2 p2 ∧ p ≠ j) := by
  unfold sameP at hs
  cases hij : Nat.beq i j with
  | true => rw [hij] at hs; simp only [cond_true, Option.some.injEq] at hs; exact .inl ⟨nbeq.1 hij, hs.symm⟩
  | false =>
    have hne : i ≠ j := fun he => by rw [nbeq.2 he] at hij; simp at hij
    rw [hij] at hs
    simp only [cond_false] at hs
    right
    split at hs
    · rename_i c1 e1 s1 p g1
      split at hs
      · rename_i c2 e2 s2 p2 g2
        cases hp : Nat.beq p j with
        | true => rw [hp] at hs; simp at hs
        | false =>
          rw [hp] at hs
          simp only [cond_false, Option.some.injEq] at hs
          exact ⟨hne, hs.symm, c1, e1, s1, p, c2, e2, s2, p2, g1, g2, fun he => by rw [nbeq.2 he] at hp; simp at hp⟩
      · simp at hs
    · simp at hs
theorem sameP_sound (r : WRel P ρ h w) {i o j q : Nat} {b : Bool} (hs : sameP h i o j q = some b) {ei ej : Ext} (hi : ρ i = some ei) (hj : ρ j = some ej) :
    (sameAddr ⟨ei.block, ei.off + o, none⟩ ⟨ej.block, ej.off + q, none⟩).run P w = .ok b w := by
  rcases sameP_cases hs with ⟨rfl, rfl⟩ | ⟨hne, rfl, c1, e1, s1, p, c2, e2, s2, p2, g1, g2, hp⟩
  · rw [hi] at hj; injection hj with hj; subst hj
    have : (({ block := ei.block, off := ei.off + o } : Addr) == { block := ei.block, off := ei.off + q }) = Nat.beq o q := by
      rw [Bool.eq_iff_iff, nbeq]
      constructor
      · intro h'
        have := eq_of_beq h'
        simp at this; exact this
      · intro h'; subst h'; simp
    simp [sameAddr, this]
  · obtain ⟨ca, a1, _⟩ := r.arr hi g1
    obtain ⟨cb, b1, _⟩ := r.arr hj g2
    refine run_sameAddr_rows a1 b1 ?_
    intro hb
    rcases r.sep i j ei ej hi hj hne hb with a | a | ⟨_, _, _, _, _, _, q1, _⟩
    · rw [g1] at a; simp at a
    · rw [g2] at a; simp at a
    · rw [g1] at q1
      injection q1 with _ _ _ q1
      exact hp q1

section leaf
variable {t : TypeId} (k : Nat) (w)
theorem eqI_pp {el : TypeId} (hu : P.underlying t = some (.pointer el)) (b : Option Addr) : (Op.equalIn (k + 1) t (.pointer none) (.pointer b)).run P w = .ok b.isNone w := by
  simp only [Op.equalIn, Sem.run_bind, run_underlying hu, Result.andThen_ok]; rfl
theorem eqI_pn {el : TypeId} (hu : P.underlying t = some (.pointer el)) (a : Addr) : (Op.equalIn (k + 1) t (.pointer (some a)) (.pointer none)).run P w = .ok false w := by
  simp only [Op.equalIn, Sem.run_bind, run_underlying hu, Result.andThen_ok]; rfl
theorem eqI_ptr {el : TypeId} (hu : P.underlying t = some (.pointer el)) (a b : Addr) {n : Nat} (hz : (sizeOf el).run P w = .ok n w) (hn : n ≠ 0) :
    (Op.equalIn (k + 1) t (.pointer (some a)) (.pointer (some b))).run P w = (sameAddr a b).run P w := by
  simp only [Op.equalIn, Sem.run_bind, run_underlying hu, Result.andThen_ok, hz, ne_eq, hn, not_false_eq_true, if_true]
theorem eqI_ni {ms : Array (String × TypeId)} (hu : P.underlying t = some (.interface ms)) (u : TypeId) (v : Value) : (Op.equalIn (k + 1) t .nilIface (.iface u v)).run P w = .ok false w := by
  simp only [Op.equalIn, Sem.run_bind, run_underlying hu, Result.andThen_ok]; rfl
theorem eqI_in {ms : Array (String × TypeId)} (hu : P.underlying t = some (.interface ms)) (u : TypeId) (v : Value) : (Op.equalIn (k + 1) t (.iface u v) .nilIface).run P w = .ok false w := by
  simp only [Op.equalIn, Sem.run_bind, run_underlying hu, Result.andThen_ok]; rfl
theorem eqI_ns {el : TypeId} (hu : P.underlying t = some (.slice el)) (l c : Nat) (b : Option Addr) (l' c' : Nat) : (Op.equalIn (k + 1) t (.slice none l c) (.slice b l' c')).run P w = .ok b.isNone w := by
  simp only [Op.equalIn, Sem.run_bind, run_underlying hu, Result.andThen_ok]; rfl
theorem eqI_sn {el : TypeId} (hu : P.underlying t = some (.slice el)) (a : Addr) (l c l' c' : Nat) : (Op.equalIn (k + 1) t (.slice (some a) l c) (.slice none l' c')).run P w = .ok false w := by
  simp only [Op.equalIn, Sem.run_bind, run_underlying hu, Result.andThen_ok]; rfl
theorem eqI_nm {x y : TypeId} (hu : P.underlying t = some (.map x y)) (b : Option Nat) : (Op.equalIn (k + 1) t (.map none) (.map b)).run P w = .ok b.isNone w := by
  simp only [Op.equalIn, Sem.run_bind, run_underlying hu, Result.andThen_ok]; rfl
theorem eqI_mn {x y : TypeId} (hu : P.underlying t = some (.map x y)) (a : Nat) : (Op.equalIn (k + 1) t (.map (some a)) (.map none)).run P w = .ok false w := by
  simp only [Op.equalIn, Sem.run_bind, run_underlying hu, Result.andThen_ok]; rfl
theorem eqI_ff {x y : Array TypeId} {z : Bool} (hu : P.underlying t = some (.func x y z)) : (Op.equalIn (k + 1) t .nilFunc .nilFunc).run P w = .ok true w := by
  simp only [Op.equalIn, Sem.run_bind, run_underlying hu, Result.andThen_ok]; rfl
theorem eqI_fn {x y : Array TypeId} {z : Bool} (hu : P.underlying t = some (.func x y z)) (f : Fn) (a b : Array Value) : (Op.equalIn (k + 1) t (.func f a b) .nilFunc).run P w = .ok false w := by
  simp only [Op.equalIn, Sem.run_bind, run_underlying hu, Result.andThen_ok]; rfl
theorem eqI_nf {x y : Array TypeId} {z : Bool} (hu : P.underlying t = some (.func x y z)) (f : Fn) (a b : Array Value) : (Op.equalIn (k + 1) t .nilFunc (.func f a b)).run P w = .ok false w := by
  simp only [Op.equalIn, Sem.run_bind, run_underlying hu, Result.andThen_ok]; rfl
end leaf

theorem nat_le_succ {n m : Nat} (h : n + 1 ≤ m) : ∃ k, m = k + 1 ∧ n ≤ k := ⟨m - 1, by omega, by omega⟩

set_option maxHeartbeats 2000000 in
theorem eqA_sound (S : Sane P) (r : WRel P ρ h w) : ∀ (n t : Nat) (x y : AV) (b : Bool), eqA P n t h x y = some b → ∀ X Y, VRel ρ x X → VRel ρ y Y → ∀ m, n ≤ m → (Op.equalIn m t X Y).run P w = .ok b w := by
  intro n
  induction n with
  | zero => intro t x y b hb; change none = some b at hb; simp at hb
  | succ n ih =>
    intro t x y b hb X Y hX hY m hm
    obtain ⟨k, rfl, hk⟩ := nat_le_succ hm
    clear hm
    unfold eqA at hb
    simp only at hb
    split at hb
    · rename_i hd
      have hu := S.desc hd
      split at hb
      · rename_i a c
        rw [hX.bool_inv, hY.bool_inv, run_equalIn_bool w k t a c hu]
        cases a <;> cases c <;> simp_all
      · simp at hb
    · rename_i q hd
      have hu := S.desc hd
      split at hb
      · rename_i k1 a k2 c
        cases hkk : kbeq k1 k2 with
        | false => rw [hkk] at hb; simp at hb
        | true =>
          rw [hkk] at hb
          have := kbeq_iff.1 hkk
          subst this
          rw [hX.int_inv, hY.int_inv, run_equalIn_int w k t k1 q a c hu]
          simp only [cond_true, Option.some.injEq] at hb
          rw [← hb, ibeq_eq]
      · simp at hb
    · rename_i hd
      have hu := S.desc hd
      split at hb
      · obtain ⟨s1, e1, f1⟩ := hX.str_inv
        obtain ⟨s2, e2, f2⟩ := hY.str_inv
        subst e1; subst e2
        rw [run_equalIn_string w k t s1 s2 hu]
        simp only [Option.some.injEq] at hb
        rw [← hb, ← f1, ← f2, listEq_bytes, ByteArray.toList_eq, ByteArray.toList_eq]
      · simp at hb
    · rename_i el hd
      have hu := S.desc hd
      split at hb
      · simp only [VRel] at hX hY
        subst hX; subst hY
        injection hb with hb; subst hb
        exact eqI_pp w k hu none
      · rename_i i o
        simp only [VRel] at hX
        obtain ⟨e2, _, rfl⟩ := hY.ptr_inv
        subst hX
        injection hb with hb; subst hb
        exact eqI_pp w k hu _
      · rename_i i o
        simp only [VRel] at hY
        obtain ⟨e2, _, rfl⟩ := hX.ptr_inv
        subst hY
        injection hb with hb; subst hb
        exact eqI_pn w k hu _
      · rename_i i o j q
        obtain ⟨e1, he1, rfl⟩ := hX.ptr_inv
        obtain ⟨e2, he2, rfl⟩ := hY.ptr_inv
        cases hz : Nat.beq (szT P el) 0 with
        | true => rw [hz] at hb; simp at hb
        | false =>
          rw [hz] at hb
          simp only [cond_false] at hb
          have hne : szT P el ≠ 0 := fun he => by rw [nbeq.2 he] at hz; simp at hz
          have := sameP_sound r hb he1 he2
          rw [eqI_ptr w k hu _ _ (S.run_sizeOf (szT_pos hne) w) hne, this]
      · simp at hb
    · rename_i ms hd
      have hu := S.desc hd
      split at hb
      · simp only [VRel] at hX hY
        obtain ⟨u, rfl, _⟩ := hY
        subst hX
        injection hb with hb; subst hb
        exact eqI_ni w k hu _ _
      · simp only [VRel] at hX hY
        obtain ⟨u, rfl, _⟩ := hX
        subst hY
        injection hb with hb; subst hb
        exact eqI_in w k hu _ _
      · simp at hb
    · rename_i el hd
      have hu := S.desc hd
      split at hb
      · simp only [VRel] at hX hY
        subst hX; subst hY
        injection hb with hb; subst hb
        exact eqI_ns w k hu _ _ none _ _
      · rename_i i o n' cap
        injection hb with hb; subst hb
        simp only [VRel] at hX
        subst hX
        cases cap with
        | none => simp only [VRel] at hY; obtain ⟨_, _, _, _, rfl, _⟩ := hY; exact eqI_ns w k hu _ _ _ _ _
        | some c => simp only [VRel] at hY; obtain ⟨_, _, _, rfl, _⟩ := hY; exact eqI_ns w k hu _ _ _ _ _
      · rename_i i o n' cap
        injection hb with hb; subst hb
        simp only [VRel] at hY
        subst hY
        cases cap with
        | none => simp only [VRel] at hX; obtain ⟨_, _, _, _, rfl, _⟩ := hX; exact eqI_sn w k hu _ _ _ _ _
        | some c => simp only [VRel] at hX; obtain ⟨_, _, _, rfl, _⟩ := hX; exact eqI_sn w k hu _ _ _ _ _
      · simp at hb
    · rename_i a1 a2 hd
      have hu := S.desc hd
      split at hb
      · simp only [VRel] at hX hY
        subst hX; subst hY
        injection hb with hb; subst hb
        exact eqI_nm w k hu none
      · simp only [VRel] at hX hY
        obtain ⟨_, _, rfl⟩ := hY
        subst hX
        injection hb with hb; subst hb
        exact eqI_nm w k hu _
      · simp only [VRel] at hX hY
        obtain ⟨_, _, rfl⟩ := hX
        subst hY
        injection hb with hb; subst hb
        exact eqI_mn w k hu _
      · simp at hb
    · rename_i a1 a2 a3 hd
      have hu := S.desc hd
      split at hb
      · simp only [VRel] at hX hY
        subst hX; subst hY
        injection hb with hb; subst hb
        exact eqI_ff w k hu
      · rename_i f _ _
        simp only [VRel] at hX
        subst hX
        injection hb with hb; subst hb
        cases f <;> simp only [VRel] at hY
        · obtain ⟨_, _, rfl, _⟩ := hY; exact eqI_nf w k hu _ _ _
        · obtain ⟨_, _, rfl⟩ := hY; exact eqI_nf w k hu _ _ _
      · rename_i f _ _
        simp only [VRel] at hY
        subst hY
        injection hb with hb; subst hb
        cases f <;> simp only [VRel] at hX
        · obtain ⟨_, _, rfl, _⟩ := hX; exact eqI_fn w k hu _ _ _
        · obtain ⟨_, _, rfl⟩ := hX; exact eqI_fn w k hu _ _ _
      · simp at hb
    · rename_i fs hd
      have hu := S.desc hd
      split at hb
      · rename_i xs ys
        simp only [VRel] at hX hY
        obtain ⟨cx, rfl, x1, x2⟩ := hX
        obtain ⟨cy, rfl, y1, y2⟩ := hY
        cases hp : P.stoodInHeld t with
        | true => rw [hp] at hb; simp at hb
        | false =>
          rw [hp] at hb
          simp only [cond_false] at hb
          have hfo : P.fieldsOf t = fs := by simp [Program.fieldsOf, hu]
          rw [run_equalIn_struct w k t cx cy (by rw [hfo]; exact hu) hp, hfo]
          generalize fs.toList = l at hb
          clear hd hu hfo
          induction l generalizing b with
          | nil => simp only [Option.some.injEq] at hb; subst hb; simp [Op.eqFields]
          | cons f l ihl =>
            simp only at hb
            cases hn : f.name == "_" with
            | true =>
              rw [hn] at hb
              simp only [cond_true] at hb
              have hn' : f.name = "_" := by simpa using hn
              simp only [Op.eqFields, hn', ne_eq, not_true_eq_false, if_false]
              exact ihl b hb
            | false =>
              rw [hn] at hb
              simp only [cond_false] at hb
              have hn' : f.name ≠ "_" := by simpa using hn
              split at hb
              · rename_i a c hca hcc
                obtain ⟨hdf, hca⟩ := condNone hca
                have hdf := hasT_iff.1 hdf
                obtain ⟨d, hdf⟩ := hdf
                obtain ⟨u1, v1, r1⟩ := part_sound S x1 x2 hdf hca
                obtain ⟨u2, v2, r2⟩ := part_sound S y1 y2 hdf hcc
                simp only [Op.eqFields, hn', ne_eq, not_false_eq_true, if_true, Sem.run_bind, r1, r2, Result.andThen_ok]
                split at hb
                · rename_i hq
                  rw [ih _ _ _ true hq u1 u2 v1 v2 k hk]
                  simpa using ihl b hb
                · rename_i hq1
                  have hqb := hb
                  cases b with
                  | true => exact (hq1 hqb).elim
                  | false =>
                    rw [ih _ _ _ false hqb u1 u2 v1 v2 k hk]
                    simp
              · simp at hb
      · simp at hb
    · rename_i q el hd
      have hu := S.desc hd
      split at hb
      · rename_i xs ys
        simp only [VRel] at hX hY
        obtain ⟨cx, rfl, x1, x2⟩ := hX
        obtain ⟨cy, rfl, y1, y2⟩ := hY
        cases hel : hasT P el with
        | false => rw [hel] at hb; simp at hb
        | true =>
          rw [hel] at hb
          simp only [cond_true] at hb
          obtain ⟨d, hdf⟩ := hasT_iff.1 hel
          obtain ⟨i, hi⟩ := descT_info hdf
          have hce : P.cellsOf el = szT P el := by simp [Program.cellsOf, S.info hi, szT_info hi]
          rw [run_equalIn_array w k cx cy hu (S.info hi), hce]
          generalize List.range q = l at hb
          induction l generalizing b with
          | nil => simp only [Option.some.injEq] at hb; subst hb; simp [Op.eqItems]
          | cons f l ihl =>
            simp only at hb
            split at hb
            · rename_i a c hca hcc
              obtain ⟨u1, v1, r1⟩ := part_sound S x1 x2 hdf hca
              obtain ⟨u2, v2, r2⟩ := part_sound S y1 y2 hdf hcc
              simp only [Op.eqItems, Sem.run_bind, show f * szT P el = Nat.mul f (szT P el) from rfl, r1, r2, Result.andThen_ok]
              split at hb
              · rename_i hq
                rw [ih _ _ _ true hq u1 u2 v1 v2 k hk]
                simpa using ihl b hb
              · rename_i hq1
                have hqb := hb
                cases b with
                | true => exact (hq1 hqb).elim
                | false =>
                  rw [ih _ _ _ false hqb u1 u2 v1 v2 k hk]
                  simp
            · simp at hb
      · simp at hb
    · simp at hb
end Go.Proofs.YtfkpcifchgnmnaaGreatDoor.Ev
end

noncomputable section
namespace Go.Proofs.YtfkpcifchgnmnaaGreatDoor.Ev
variable {P : Program} {ρ : Emb} {h : H} {w : World} {e : Env} {tmps : Array Value}

theorem intBin_ok {f : IntKind → Int → Int → AV} {F : IntKind → Int → Int → Value} {s : Sem Value} {x y : AV} {X Y : Value} (hX : VRel ρ x X) (hY : VRel ρ y Y)
    (hf : ∀ k a b, X = .int k a → Y = .int k b → VRel ρ (f k a b) (F k a b) ∧ ∀ w', s.run P w' = .ok (F k a b) w') : VOk P ρ h w s (intBin f x y) := by
  unfold intBin
  split
  · rename_i k a k' b
    cases hk : kbeq k k' with
    | false => trivial
    | true =>
      have := kbeq_iff.1 hk
      subst this
      obtain ⟨h1, h2⟩ := hf k a b hX.int_inv hY.int_inv
      exact ⟨_, h1, h2⟩
  · trivial
theorem cmpBin_ok {f : Int → Int → Bool} {g : List Nat → List Nat → Bool} {F : Int → Int → Bool} {G : ByteArray → ByteArray → Bool} {s : Sem Value} {x y : AV} {X Y : Value} (hX : VRel ρ x X) (hY : VRel ρ y Y)
    (hf : ∀ a b, f a b = F a b) (hg : ∀ a b : ByteArray, g (a.data.toList.map UInt8.toNat) (b.data.toList.map UInt8.toNat) = G a b)
    (hF : ∀ k a b, X = .int k a → Y = .int k b → ∀ w', s.run P w' = .ok (.bool (F a b)) w') (hG : ∀ a b, X = .string a → Y = .string b → ∀ w', s.run P w' = .ok (.bool (G a b)) w') :
    VOk P ρ h w s (cmpBin f g x y) := by
  unfold cmpBin
  split
  · rename_i k a k' b
    cases hk : kbeq k k' with
    | false => trivial
    | true =>
      have := kbeq_iff.1 hk
      subst this
      exact ⟨_, by rw [hf]; exact VRel.bool, hF k a b hX.int_inv hY.int_inv⟩
  · obtain ⟨a, rfl, ha⟩ := hX.str_inv
    obtain ⟨b, rfl, hb⟩ := hY.str_inv
    subst ha; subst hb
    exact ⟨_, by rw [hg]; exact VRel.bool, hG a b rfl rfl⟩
  · trivial
theorem ofBool_ok {s : Sem Value} {r : Option Bool} (hr : ∀ b, r = some b → WRel P ρ h w → s.run P w = .ok (.bool b) w) : VOk P ρ h w s (ofBool? r) := by
  cases r with
  | none => trivial
  | some b => exact fun W => ⟨_, VRel.bool, hr b rfl W⟩
theorem ofNBool_ok {s : Sem Value} {r : Option Bool} (hr : ∀ b, r = some b → WRel P ρ h w → s.run P w = .ok (.bool !b) w) : VOk P ρ h w s (ofNBool? r) := by
  cases r with
  | none => trivial
  | some b =>
    intro W
    refine ⟨.bool !b, ?_, hr b rfl W⟩
    cases b <;> exact VRel.bool

theorem binOp_eql_other (t : TypeId) (X Y : Value) (h1 : ∀ k a k' b, ¬ (X = .int k a ∧ Y = .int k' b)) (h2 : ∀ a b, ¬ (X = .string a ∧ Y = .string b)) (h3 : ∀ k a k' b, ¬ (X = .float k a ∧ Y = .float k' b))
    (h4 : ∀ k a b k' c d, ¬ (X = .complex k a b ∧ Y = .complex k' c d)) : binOp .eql t X Y = (do pure (.bool (← Op.equal t X Y))) ∧ binOp .neq t X Y = (do pure (.bool (!(← Op.equal t X Y)))) := by
  cases X <;> cases Y <;> first | exact ⟨rfl, rfl⟩ | (exact (h1 _ _ _ _ ⟨rfl, rfl⟩).elim) | (exact (h2 _ _ ⟨rfl, rfl⟩).elim) | (exact (h3 _ _ _ _ ⟨rfl, rfl⟩).elim) | (exact (h4 _ _ _ _ _ _ ⟨rfl, rfl⟩).elim)
/-- what stands for something here is no number with a point -/
theorem VRel.noFloat {x : AV} {X : Value} (hX : VRel ρ x X) (hp : x ≠ .poison) : (∀ k a, X ≠ .float k a) ∧ (∀ k a b, X ≠ .complex k a b) ∧ (∀ r, X ≠ .chan r) := by
  cases x with
  | poison => exact (hp rfl).elim
  | slice id off len cap => cases cap <;> simp only [VRel] at hX <;> (obtain ⟨_, _, _, hX⟩ := hX <;> first | (obtain ⟨rfl, _⟩ := hX; simp) | (obtain ⟨_, rfl, _⟩ := hX; simp))
  | func f a b => cases f <;> simp only [VRel] at hX <;> (obtain ⟨_, hX⟩ := hX; first | (obtain ⟨_, rfl, _⟩ := hX; simp) | (obtain ⟨_, rfl⟩ := hX; simp))
  | str s => obtain ⟨_, rfl, _⟩ := hX.str_inv; simp
  | ptr i o => obtain ⟨_, _, rfl⟩ := hX.ptr_inv; simp
  | map i => simp only [VRel] at hX; obtain ⟨_, _, rfl⟩ := hX; simp
  | iface t v => simp only [VRel] at hX; obtain ⟨_, rfl, _⟩ := hX; simp
  | agg l => simp only [VRel] at hX; obtain ⟨_, rfl, _⟩ := hX; simp
  | tuple l => simp only [VRel] at hX; obtain ⟨_, rfl, _⟩ := hX; simp
  | _ => simp only [VRel] at hX; subst hX; simp

theorem eqGuard_other (op : BinOp) (t : TypeId) (x y : Operand) (X Y : Value) (hn : ¬ (X = .nilIface ∧ Y = .nilIface)) (ha : ∀ cs ds, X = .agg cs → Y = .agg ds → P.eqGuardType P.depth t = false) :
    ∀ w', (eqGuard op t x y X Y).run P w' = .ok () w' := by
  intro w'
  unfold eqGuard
  cases op <;> try rfl
  all_goals
    (simp only [Bool.not_true, Bool.false_eq_true, if_false]
     cases X <;> cases Y <;> first
      | rfl
      | exact (hn ⟨rfl, rfl⟩).elim
      | (rename_i cs ds; simp [ha cs ds rfl rfl]))
theorem eqGuard_num (op : BinOp) (t : TypeId) (x y : Operand) (X Y : Value) (hop : op ≠ .eql ∧ op ≠ .neq) : ∀ w', (eqGuard op t x y X Y).run P w' = .ok () w' := by
  intro w'
  cases op <;> first | rfl | exact (hop.1 rfl).elim | exact (hop.2 rfl).elim

theorem eqA_poison1 (n t : Nat) (y : AV) : eqA P n t h .poison y = none := by
  cases n with
  | zero => rfl
  | succ n => unfold eqA; simp only; split <;> rfl
theorem eqA_poison2 (n t : Nat) (x : AV) : eqA P n t h x .poison = none := by
  cases n with
  | zero => rfl
  | succ n => unfold eqA; simp only; split <;> (cases x <;> rfl)
theorem VRel.of_int {x : AV} {k : IntKind} {a : Int} (hX : VRel ρ x (.int k a)) (hp : x ≠ .poison) : x = .int k a := by
  cases x with
  | poison => exact (hp rfl).elim
  | slice id off len cap => cases cap <;> simp [VRel] at hX
  | func f a b => cases f <;> simp [VRel] at hX
  | int k a => simp [VRel] at hX; obtain ⟨rfl, rfl⟩ := hX; rfl
  | _ => simp [VRel] at hX
theorem VRel.of_str {x : AV} {a : ByteArray} (hX : VRel ρ x (.string a)) (hp : x ≠ .poison) : ∃ s, x = .str s := by
  cases x with
  | poison => exact (hp rfl).elim
  | slice id off len cap => cases cap <;> simp [VRel] at hX
  | func f a b => cases f <;> simp [VRel] at hX
  | str s => exact ⟨s, rfl⟩
  | _ => simp [VRel] at hX
theorem VRel.of_nili {x : AV} (hX : VRel ρ x .nilIface) (hp : x ≠ .poison) : x = .nili := by
  cases x with
  | poison => exact (hp rfl).elim
  | slice id off len cap => cases cap <;> simp [VRel] at hX
  | func f a b => cases f <;> simp [VRel] at hX
  | nili => rfl
  | _ => simp [VRel] at hX
theorem VRel.of_agg {x : AV} {cs : Array Value} (hX : VRel ρ x (.agg cs)) (hp : x ≠ .poison) : ∃ l, x = .agg l := by
  cases x with
  | poison => exact (hp rfl).elim
  | slice id off len cap => cases cap <;> simp [VRel] at hX
  | func f a b => cases f <;> simp [VRel] at hX
  | agg l => exact ⟨l, rfl⟩
  | _ => simp [VRel] at hX
theorem isConst_iff {x : Operand} : isConst x = true ↔ ∃ v, x = .const v := by
  cases x <;> simp [isConst]
theorem eqGuard_const (op : BinOp) (t : TypeId) (x y : Operand) (hc : bor (isConst x) (isConst y) = true) : ∀ w', (eqGuard op t x y .nilIface .nilIface).run P w' = .ok () w' := by
  intro w'
  rw [bor_eq, Bool.or_eq_true] at hc
  unfold eqGuard
  rcases hc with hc | hc <;> obtain ⟨v, rfl⟩ := isConst_iff.1 hc
  · cases op <;> rfl
  · cases op <;> first | rfl | (cases x <;> rfl)

/-- the two sides are held against each other as wholes -/
theorem eq_default (S : Sane P) {t : Nat} {a b : Operand} {x y : AV} {X Y : Value} (hX : VRel ρ x X) (hY : VRel ρ y Y) (n1 : ∀ k a k' b, x = .int k a → y = .int k' b → False) (n2 : ∀ a b, x = .str a → y = .str b → False)
    (n3 : x = .nili → y = .nili → False) (hg : noGuard P t x = true) {q : Bool} (hq : eqA P 8 t h x y = some q) (r : WRel P ρ h w) :
    (do eqGuard .eql t a b X Y; binOp .eql t X Y : Sem Value).run P w = .ok (.bool q) w ∧ (do eqGuard .neq t a b X Y; binOp .neq t X Y : Sem Value).run P w = .ok (.bool !q) w := by
  have px : x ≠ .poison := fun hp => by subst hp; rw [eqA_poison1] at hq; simp at hq
  have py : y ≠ .poison := fun hp => by subst hp; rw [eqA_poison2] at hq; simp at hq
  obtain ⟨f1, f2, _⟩ := hX.noFloat px
  obtain ⟨e1, e2⟩ := binOp_eql_other t X Y (fun k a k' b ⟨u, v⟩ => by subst u; subst v; exact n1 _ _ _ _ (hX.of_int px) (hY.of_int py))
    (fun a b ⟨u, v⟩ => by subst u; subst v; obtain ⟨_, u⟩ := hX.of_str px; obtain ⟨_, v⟩ := hY.of_str py; exact n2 _ _ u v)
    (fun k a k' b ⟨u, _⟩ => f1 _ _ u) (fun k a b k' c d ⟨u, _⟩ => f2 _ _ _ u)
  have hgd : ∀ op w', (eqGuard op t a b X Y).run P w' = .ok () w' := fun op => eqGuard_other op t a b X Y (fun ⟨u, v⟩ => by subst u; subst v; exact n3 (hX.of_nili px) (hY.of_nili py)) (fun cs ds u _ => by
    subst u
    obtain ⟨l, rfl⟩ := hX.of_agg px
    unfold noGuard at hg
    simp only [bnot_eq] at hg
    simpa using hg)
  have heq := eqA_sound S r 8 t x y q hq X Y hX hY 10000 (by decide)
  refine ⟨?_, ?_⟩
  · simp only [Sem.run_bind, hgd, Result.andThen_ok, e1, Op.equal, Op.maxDepth, heq, Sem.run_pure]
  · simp only [Sem.run_bind, hgd, Result.andThen_ok, e2, Op.equal, Op.maxDepth, heq, Sem.run_pure]

theorem eqI_nn {t : TypeId} {ms : Array (String × TypeId)} (w : World) (k : Nat) (hu : P.underlying t = some (.interface ms)) : (Op.equalIn (k + 1) t .nilIface .nilIface).run P w = .ok true w := by
  simp only [Op.equalIn, Sem.run_bind, run_underlying hu, Result.andThen_ok]; rfl
theorem nilIface_equal (S : Sane P) {t : Nat} (hi : isIfaceT P t = true) (w' : World) : (Op.equal t .nilIface .nilIface).run P w' = .ok true w' := by
  unfold isIfaceT at hi
  split at hi
  · rename_i ms hd
    exact eqI_nn w' 9999 (S.desc hd)
  · simp at hi
theorem nilIface_eql (S : Sane P) {t : Nat} (hi : isIfaceT P t = true) (w' : World) : (binOp .eql t .nilIface .nilIface).run P w' = .ok (.bool true) w' := by
  have : binOp .eql t .nilIface .nilIface = (do pure (.bool (← Op.equal t .nilIface .nilIface))) := rfl
  rw [this, Sem.run_bind, nilIface_equal S hi]; rfl
theorem nilIface_neq (S : Sane P) {t : Nat} (hi : isIfaceT P t = true) (w' : World) : (binOp .neq t .nilIface .nilIface).run P w' = .ok (.bool false) w' := by
  have : binOp .neq t .nilIface .nilIface = (do pure (.bool (!(← Op.equal t .nilIface .nilIface)))) := rfl
  rw [this, Sem.run_bind, nilIface_equal S hi]; rfl

theorem not_lt_dec (a b : Int) : (!decide (b < a)) = decide (a ≤ b) := by rw [← decide_not]; exact decide_eq_decide.2 Int.not_lt
theorem bin_sound (S : Sane P) (hE : ERel ρ e tmps) (op : BinOp) (t : Nat) (x y : Operand) (t' : Nat) :
    VOk P ρ h w (do eqGuard op t x y (ev tmps x) (ev tmps y); binOp op t (ev tmps x) (ev tmps y)) (xBin P op t x y t' e h) := by
  have hX := eval_rel hE x
  have hY := eval_rel hE y
  unfold xBin
  generalize eval e x = a at hX
  generalize eval e y = b at hY
  generalize ev tmps x = X at hX
  generalize ev tmps y = Y at hY
  have gn : ∀ op, (op ≠ .eql ∧ op ≠ .neq) → ∀ w', (eqGuard op t x y X Y).run P w' = .ok () w' := fun op ho => eqGuard_num op t x y X Y ho
  unfold binA
  cases op with
  | add =>
    simp only
    split
    · obtain ⟨s1, rfl, f1⟩ := hX.str_inv
      obtain ⟨s2, rfl, f2⟩ := hY.str_inv
      cases hlt : Nat.blt (Nat.add (llen _) (llen _)) 4611686018427387904 with
      | false => trivial
      | true =>
        simp only [cond_true]
        have h1 := nblt.1 hlt
        rw [llen_eq, llen_eq, ← f1, ← f2] at h1
        have h1' : s1.size + s2.size < 4611686018427387904 := by simpa using h1
        refine ⟨.string (s1 ++ s2), ?_, fun w' => ?_⟩
        · refine VRel.str ?_
          rw [lapp_eq, ← f1, ← f2]
          simp
        · have hno : ¬ ((s1.size + s2.size : Nat) : Int) > IntKind.i64.max := by
            have : IntKind.i64.max = 9223372036854775807 := by decide
            rw [this]; omega
          simp only [Sem.run_bind, gn .add (by simp), Result.andThen_ok, binOp, Op.stringOp, if_neg hno, Sem.run_pure]
    · exact intBin_ok hX hY (F := fun k a b => .int k (k.wrap (a + b))) (fun k a b u v => by
        subst u; subst v
        refine ⟨by rw [wrapA_eq]; exact VRel.int, fun w' => ?_⟩
        simp [gn .add (by simp), binOp, Op.intArith])
  | sub => exact intBin_ok hX hY (F := fun k a b => .int k (k.wrap (a - b))) (fun k a b u v => by
        subst u; subst v
        refine ⟨by rw [wrapA_eq]; exact VRel.int, fun w' => ?_⟩
        simp [gn .sub (by simp), binOp, Op.intArith])
  | mul => exact intBin_ok hX hY (F := fun k a b => .int k (k.wrap (a * b))) (fun k a b u v => by
        subst u; subst v
        refine ⟨by rw [wrapA_eq]; exact VRel.int, fun w' => ?_⟩
        simp [gn .mul (by simp), binOp, Op.intArith])
  | quo =>
    simp only
    split
    · rename_i k a k' b
      cases hk : kbeq k k' with
      | false => trivial
      | true =>
        have := kbeq_iff.1 hk
        subst this
        cases hb : ibeq b 0 with
        | true => trivial
        | false =>
          have hb0 : b ≠ 0 := fun he => by rw [(ibeq_iff b 0).2 he] at hb; simp at hb
          simp only [cond_true, cond_false]
          have e1 := hX.int_inv
          have e2 := hY.int_inv
          subst e1; subst e2
          exact ⟨.int k (k.wrap (a.tdiv b)), by rw [wrapA_eq]; exact VRel.int, fun w' => by simp [gn .quo (by simp), binOp, Op.intDiv, hb0]⟩
    · trivial
  | rem =>
    simp only
    split
    · rename_i k a k' b
      cases hk : kbeq k k' with
      | false => trivial
      | true =>
        have := kbeq_iff.1 hk
        subst this
        cases hb : ibeq b 0 with
        | true => trivial
        | false =>
          have hb0 : b ≠ 0 := fun he => by rw [(ibeq_iff b 0).2 he] at hb; simp at hb
          simp only [cond_true, cond_false]
          have e1 := hX.int_inv
          have e2 := hY.int_inv
          subst e1; subst e2
          exact ⟨.int k (a.tmod b), VRel.int, fun w' => by simp [gn .rem (by simp), binOp, Op.intDiv, hb0]⟩
    · trivial
  | and => exact intBin_ok hX hY (F := fun k a b => .int k (k.wrap (BitVec.ofInt k.bits a &&& BitVec.ofInt k.bits b).toNat)) (fun k a b u v => by
        subst u; subst v
        exact ⟨VRel.int, fun w' => by simp [gn .and (by simp), binOp, Op.intBits]⟩)
  | or => exact intBin_ok hX hY (F := fun k a b => .int k (k.wrap (BitVec.ofInt k.bits a ||| BitVec.ofInt k.bits b).toNat)) (fun k a b u v => by
        subst u; subst v
        exact ⟨VRel.int, fun w' => by simp [gn .or (by simp), binOp, Op.intBits]⟩)
  | xor => exact intBin_ok hX hY (F := fun k a b => .int k (k.wrap (BitVec.ofInt k.bits a ^^^ BitVec.ofInt k.bits b).toNat)) (fun k a b u v => by
        subst u; subst v
        exact ⟨VRel.int, fun w' => by simp [gn .xor (by simp), binOp, Op.intBits]⟩)
  | andNot => exact intBin_ok hX hY (F := fun k a b => .int k (k.wrap (BitVec.ofInt k.bits a &&& ~~~ BitVec.ofInt k.bits b).toNat)) (fun k a b u v => by
        subst u; subst v
        exact ⟨VRel.int, fun w' => by simp [gn .andNot (by simp), binOp, Op.intBits]⟩)
  | shl =>
    simp only
    split
    · rename_i k a k' b
      have e1 := hX.int_inv
      have e2 := hY.int_inv
      subst e1; subst e2
      have hnb : ¬ ((b : Int) < 0) := by omega
      have gn' : ∀ w', (eqGuard .shl t x y (.int k a) (.int k' (b : Int))).run P w' = .ok () w' := gn .shl (by simp)
      exact ⟨.int k (k.wrap (a * 2 ^ (min b k.bits))), VRel.int, fun w' => by simp [gn', binOp, Op.shift, hnb]⟩
    · trivial
  | shr =>
    simp only
    split
    · rename_i k a k' b
      have e1 := hX.int_inv
      have e2 := hY.int_inv
      subst e1; subst e2
      have hnb : ¬ ((b : Int) < 0) := by omega
      have gn' : ∀ w', (eqGuard .shr t x y (.int k a) (.int k' (b : Int))).run P w' = .ok () w' := gn .shr (by simp)
      exact ⟨.int k (a.fdiv (2 ^ (min b k.bits))), VRel.int, fun w' => by simp [gn', binOp, Op.shift, hnb]⟩
    · trivial
  | lss =>
    simp only
    exact cmpBin_ok hX hY (F := fun a b => decide (a < b)) (G := fun a b => Op.bytesLess a.toList b.toList) iblt_eq (fun a b => by rw [byteLess_bytes, ByteArray.toList_eq, ByteArray.toList_eq])
      (fun k a b u v w' => by subst u; subst v; simp [gn .lss (by simp), binOp, Op.intCmp]) (fun a b u v w' => by subst u; subst v; simp [gn .lss (by simp), binOp, Op.stringOp])
  | leq =>
    simp only
    exact cmpBin_ok hX hY (F := fun a b => decide (a ≤ b)) (G := fun a b => Op.bytesLess a.toList b.toList || a.toList == b.toList)
      (fun a b => by rw [bnot_eq, iblt_eq]; exact not_lt_dec _ _) (fun a b => by rw [bor_eq, byteLess_bytes, listEq_bytes, ByteArray.toList_eq, ByteArray.toList_eq])
      (fun k a b u v w' => by subst u; subst v; simp [gn .leq (by simp), binOp, Op.intCmp]) (fun a b u v w' => by subst u; subst v; simp [gn .leq (by simp), binOp, Op.stringOp])
  | gtr =>
    simp only
    exact cmpBin_ok hX hY (F := fun a b => decide (a > b)) (G := fun a b => !(Op.bytesLess a.toList b.toList || a.toList == b.toList))
      (fun a b => by rw [iblt_eq]) (fun a b => by rw [bnot_eq, bor_eq, byteLess_bytes, listEq_bytes, ByteArray.toList_eq, ByteArray.toList_eq])
      (fun k a b u v w' => by subst u; subst v; simp [gn .gtr (by simp), binOp, Op.intCmp]) (fun a b u v w' => by subst u; subst v; simp [gn .gtr (by simp), binOp, Op.stringOp])
  | geq =>
    simp only
    exact cmpBin_ok hX hY (F := fun a b => decide (a ≥ b)) (G := fun a b => !(Op.bytesLess a.toList b.toList))
      (fun a b => by rw [bnot_eq, iblt_eq]; exact not_lt_dec _ _) (fun a b => by rw [bnot_eq, byteLess_bytes, ByteArray.toList_eq, ByteArray.toList_eq])
      (fun k a b u v w' => by subst u; subst v; simp [gn .geq (by simp), binOp, Op.intCmp]) (fun a b u v w' => by subst u; subst v; simp [gn .geq (by simp), binOp, Op.stringOp])
  | eql =>
    simp only
    split
    · rename_i k a k' b
      cases hk : kbeq k k' with
      | false => trivial
      | true =>
        have := kbeq_iff.1 hk
        subst this
        rw [hX.int_inv, hY.int_inv]
        exact ⟨.bool (a == b), by rw [ibeq_eq]; exact VRel.bool, fun w' => by
          simp [eqGuard_other .eql t x y (.int k a) (.int k b) (by simp) (by simp), binOp, Op.intCmp]⟩
    · obtain ⟨s1, rfl, f1⟩ := hX.str_inv
      obtain ⟨s2, rfl, f2⟩ := hY.str_inv
      subst f1; subst f2
      exact ⟨.bool (s1.toList == s2.toList), by rw [listEq_bytes, ByteArray.toList_eq, ByteArray.toList_eq]; exact VRel.bool, fun w' => by
          simp [eqGuard_other .eql t x y (.string s1) (.string s2) (by simp) (by simp), binOp, Op.stringOp]⟩
    · cases hc : cond (bor (isConst x) (isConst y)) (isIfaceT P t) false with
      | false => trivial
      | true =>
        cases hc1 : bor (isConst x) (isConst y) with
        | false => rw [hc1] at hc; simp at hc
        | true =>
          rw [hc1] at hc
          simp only [cond_true] at hc
          simp only [VRel] at hX hY
          subst hX; subst hY
          exact ⟨.bool true, VRel.bool, fun w' => by
            simp only [Sem.run_bind, eqGuard_const .eql t x y hc1, Result.andThen_ok]
            exact nilIface_eql S hc w'⟩
    · rename_i n1 n2 n3
      cases hg : noGuard P t a with
      | false => trivial
      | true => exact ofBool_ok fun q hq r => (eq_default S hX hY n1 n2 n3 hg hq r).1
  | neq =>
    simp only
    split
    · rename_i k a k' b
      cases hk : kbeq k k' with
      | false => trivial
      | true =>
        have := kbeq_iff.1 hk
        subst this
        rw [hX.int_inv, hY.int_inv]
        exact ⟨.bool (a != b), by rw [bnot_eq, ibeq_eq]; exact VRel.bool, fun w' => by
          simp [eqGuard_other .neq t x y (.int k a) (.int k b) (by simp) (by simp), binOp, Op.intCmp]⟩
    · obtain ⟨s1, rfl, f1⟩ := hX.str_inv
      obtain ⟨s2, rfl, f2⟩ := hY.str_inv
      subst f1; subst f2
      exact ⟨.bool (!(s1.toList == s2.toList)), by rw [bnot_eq, listEq_bytes, ByteArray.toList_eq, ByteArray.toList_eq]; exact VRel.bool, fun w' => by
          simp [eqGuard_other .neq t x y (.string s1) (.string s2) (by simp) (by simp), binOp, Op.stringOp]⟩
    · cases hc : cond (bor (isConst x) (isConst y)) (isIfaceT P t) false with
      | false => trivial
      | true =>
        cases hc1 : bor (isConst x) (isConst y) with
        | false => rw [hc1] at hc; simp at hc
        | true =>
          rw [hc1] at hc
          simp only [cond_true] at hc
          simp only [VRel] at hX hY
          subst hX; subst hY
          exact ⟨.bool false, VRel.bool, fun w' => by
            simp only [Sem.run_bind, eqGuard_const .neq t x y hc1, Result.andThen_ok]
            exact nilIface_neq S hc w'⟩
    · rename_i n1 n2 n3
      cases hg : noGuard P t a with
      | false => trivial
      | true => exact ofNBool_ok fun q hq r => (eq_default S hX hY n1 n2 n3 hg hq r).2
end Go.Proofs.YtfkpcifchgnmnaaGreatDoor.Ev
end

noncomputable section
namespace Go.Proofs.YtfkpcifchgnmnaaGreatDoor.Ev
variable {P : Program} {ρ : Emb} {h : H} {w : World} {e : Env} {tmps : Array Value}

/-- the model's check against nil -/
def nilCheckS (P : Program) (x : Value) : Sem Value := match x with
  | .pointer none | .nilIface | .nilFunc => runtimePanic .nilDeref
  | x => pure x
theorem nilCheck_sound (hE : ERel ρ e tmps) (x : Operand) : ∀ v, xNilCheck x e h = .val v → VRel ρ v (ev tmps x) ∧ (∀ a, ev tmps x ≠ .pointer none ∧ ev tmps x ≠ .nilIface ∧ ev tmps x ≠ .nilFunc ∧ ∀ s b, ev tmps x ≠ .func (.method s) a b) := by
  intro v hv
  have hX := eval_rel hE x
  unfold xNilCheck at hv
  split at hv
  · rename_i i o hx
    rw [hx] at hX
    injection hv with hv; subst hv
    refine ⟨hX, ?_⟩
    obtain ⟨_, _, he⟩ := hX.ptr_inv
    rw [he]; simp
  · rename_i t u hx
    rw [hx] at hX
    injection hv with hv; subst hv
    refine ⟨hX, ?_⟩
    simp only [VRel] at hX
    obtain ⟨_, he, _⟩ := hX
    rw [he]; simp
  · rename_i f a b hx
    rw [hx] at hX
    injection hv with hv; subst hv
    refine ⟨hX, ?_⟩
    cases f <;> simp only [VRel] at hX
    · obtain ⟨_, _, he, _⟩ := hX; rw [he]; simp
    · obtain ⟨_, _, he⟩ := hX; rw [he]; simp
  · rename_i i hx
    rw [hx] at hX
    injection hv with hv; subst hv
    refine ⟨hX, ?_⟩
    simp only [VRel] at hX
    obtain ⟨_, _, he⟩ := hX
    rw [he]; simp
  · rename_i hx
    rw [hx] at hX
    injection hv with hv; subst hv
    refine ⟨hX, ?_⟩
    simp only [VRel] at hX
    rw [hX]; simp
  · simp at hv
theorem xNilCheck_cases (x : Operand) (e : Env) (h : H) : xNilCheck x e h = .fail ∨ ∃ v, xNilCheck x e h = .val v := by
  unfold xNilCheck; split <;> simp

theorem conv_sound (S : Sane P) (hE : ERel ρ e tmps) (s d : Nat) (x : Operand) : VOk P ρ h w (convert s d (ev tmps x)) (xConv P s d x e h) := by
  have hX := eval_rel hE x
  unfold xConv convA
  cases hs : hasT P s with
  | false => trivial
  | true =>
    obtain ⟨ds, hds⟩ := hasT_iff.1 hs
    simp only [cond_true]
    split
    · rename_i k hd
      split
      · rename_i k' n hx
        rw [hx] at hX
        rw [hX.int_inv]
        refine ⟨.int k (k.wrap n), by rw [wrapA_eq]; exact VRel.int, fun w' => ?_⟩
        unfold convert
        simp only [Sem.run_bind, run_underlying (S.desc hds), run_underlying (S.desc hd), Result.andThen_ok]
        rfl
      · trivial
    · rename_i hd
      split
      · rename_i b hx
        rw [hx] at hX
        obtain ⟨b', hb, hb'⟩ := hX.str_inv
        rw [hb]
        refine ⟨.string b', VRel.str hb', fun w' => ?_⟩
        unfold convert
        simp only [Sem.run_bind, run_underlying (S.desc hds), run_underlying (S.desc hd), Result.andThen_ok]
        rfl
      · trivial
    · trivial
theorem mkIface_sound (S : Sane P) (hE : ERel ρ e tmps) (t : Nat) (x : Operand) : VOk P ρ h w (Instr.makeInterface t (ev tmps x)) (xMkIface P t x e h) := by
  have hX := eval_rel hE x
  unfold xMkIface
  split
  · trivial
  · rename_i d hn hd
    refine ⟨.iface t (ev tmps x), by simp only [VRel]; exact ⟨_, rfl, hX⟩, fun w' => ?_⟩
    unfold Instr.makeInterface
    simp only [Sem.run_bind, run_underlying (S.desc hd), Result.andThen_ok]
    cases d <;> first | rfl | exact (hn _ rfl).elim
  · trivial
theorem mkFunc_sound (hE : ERel ρ e tmps) (fn : Fn) (a b : Array Operand) : VOk P ρ h w (Instr.makeFunc fn (a.map (ev tmps)) (b.map (ev tmps))) (xMkFunc fn a b e h) := by
  unfold xMkFunc
  split
  · exact ⟨_, by simp only [VRel]; exact ⟨_, _, rfl, evalL_rel hE a, evalL_rel hE b⟩, fun w' => rfl⟩
  · trivial
theorem mkMap_sound (S : Sane P) (hE : ERel ρ e tmps) (t : Nat) (r : Option Operand) : VOk P ρ h w (Instr.makeMap t (r.map (ev tmps))) (xMkMap P t r e h) := by
  have hnew : VOk P ρ h w (do pure (.map (some (← newObj (.map #[] 0))))) (.new (.map [] 0) .map) :=
    ⟨⟨fun _ _ _ _ h => (nomatch h), fun _ _ h => (nomatch h)⟩, .map #[] 0, 0, 0, fun w' => rfl, fun ρ' b s => ⟨rfl, #[], rfl, by simp [MRels]⟩⟩
  unfold xMkMap
  split
  · rename_i ke hm hr
    cases r with
    | none => exact VOk.congr (fun w' => by simp [Instr.makeMap]) hnew
    | some r => change some (eval e r) = none at hr; simp at hr
  · rename_i ke k n hm hr
    cases r with
    | none => change none = some _ at hr; simp at hr
    | some r =>
      change some (eval e r) = some _ at hr
      have hX := eval_rel hE r
      injection hr with hr
      rw [hr] at hX
      obtain ⟨k', e'⟩ := ke
      have hu := S.desc (mapT_desc hm)
      exact VOk.congr (fun w' => by simp [Instr.makeMap, run_underlying hu, hX.int_inv, asInt, asIntOf]) hnew
  · trivial
theorem natOf_rel {x : AV} {X : Value} (hX : VRel ρ x X) {n : Nat} (hn : natOf x = some n) : ∃ k, X = .int k (n : Int) := by
  unfold natOf at hn
  split at hn
  · rename_i k m
    injection hn with hn; subst hn
    exact ⟨k, hX.int_inv⟩
  · simp at hn
theorem mkSlice_sound (S : Sane P) (hE : ERel ρ e tmps) (t : Nat) (l c : Operand) : VOk P ρ h w (Instr.makeSlice t (ev tmps l) (ev tmps c)) (xMkSlice P t l c e h) := by
  unfold xMkSlice
  split
  · rename_i el n m hel hl hc
    obtain ⟨kl, hl⟩ := natOf_rel (eval_rel hE l) hl
    obtain ⟨kc, hc⟩ := natOf_rel (eval_rel hE c) hc
    split
    · rename_i z hz
      obtain ⟨i, v, a1, a2, a3, a4, a5⟩ := zeroC_info hz
      cases hcd : cond (Nat.ble n m) (cond (Nat.blt m 1048576) (Nat.ble (Nat.mul (bytesT P el) m) 281474976710656) false) false with
      | false => trivial
      | true =>
        have h1 : n ≤ m := by
          cases hb : Nat.ble n m with
          | false => rw [hb] at hcd; simp at hcd
          | true => exact nble.1 hb
        have h2 : m < 1048576 := by
          rw [nble.2 h1] at hcd
          cases hb : Nat.blt m 1048576 with
          | false => rw [hb] at hcd; simp at hcd
          | true => exact nblt.1 hb
        have h3 : i.bytes * m ≤ 281474976710656 := by
          rw [nble.2 h1, nblt.2 h2] at hcd
          have := nble.1 (by simpa using hcd)
          unfold bytesT at this
          rw [a1] at this
          exact this
        have hu := S.desc (sliceT_desc hel)
        have hsz : szT P el = i.size := szT_info a1
        have hvs : v.cells.size = i.size := by have := (a4 ρ).length; simp at this; omega
        have w1 : IntKind.i64.wrap (n : Int) = n := by unfold IntKind.wrap; simp [IntKind.bits, IntKind.signed]; omega
        have w2 : IntKind.i64.wrap (m : Int) = m := by unfold IntKind.wrap; simp [IntKind.bits, IntKind.signed]; omega
        have hbm : ¬ ((i.bytes : Int) * (m : Int) > 281474976710656) := by
          have : ((i.bytes * m : Nat) : Int) ≤ 281474976710656 := by omega
          rw [Int.natCast_mul] at this
          omega
        have h4 : ¬ ((m : Int) < 0) := by omega
        have h5 : ¬ ((n : Int) < 0) := by omega
        have h6 : ¬ ((n : Int) > (m : Int)) := by omega
        obtain ⟨cc, hc1, hc2, hc3⟩ : ∃ cc : Array Value, cc = (Array.range (m * i.size)).map (fun k => (if m * i.size = 0 then #[] else v.cells)[k % (if m * i.size = 0 then #[] else v.cells).size]!) ∧ VRels ρ (lrep z m) cc.toList ∧ ∀ u ∈ cc.toList, u.oneCell' = true := by
          refine ⟨_, rfl, ?_⟩
          by_cases h0 : m * i.size = 0
          · have hlen : lrep z m = [] := List.eq_nil_of_length_eq_zero (by rw [lrep_length, a3, h0])
            rw [hlen]
            simp only [h0, if_true]
            exact ⟨by simpa using VRels.nil, by simp⟩
          · rw [if_neg h0]
            have := range_lrep v.cells m (.inl (by rw [hvs]; exact Nat.pos_of_ne_zero fun hz => h0 (by rw [hz]; simp)))
            rw [hvs] at this
            rw [hvs, this]
            exact ⟨lrep_rel (a4 ρ) m, lrep_all a5 m⟩
        simp only [cond_true]
        refine ⟨NewOk.slice h1, .cells cc el, cc.size, szT P el, fun w' => ?_, fun ρ' b s => ORel.row (hc2.mono s) hc3 rfl⟩
        subst hc1
        rw [hl, hc]
        unfold Instr.makeSlice
        simp only [Sem.run_bind, run_underlying hu, Result.andThen_ok, asInt, asIntOf, Sem.run_pure, typeInfo, run_program, S.info a1, w1, w2]
        have t1 : (decide ((m : Int) < 0) || decide ((i.bytes : Int) * (m : Int) > 2 ^ 48)) = false := by
          simp only [Bool.or_eq_false_iff, decide_eq_false_iff_not]
          exact ⟨h4, by simpa using hbm⟩
        simp only [t1, Bool.false_or, h5, h6, decide_false, Bool.or_false, Bool.false_eq_true, if_false, Sem.run_bind, run_askRoom, Result.andThen_ok, S.run_sizeOf ⟨i, a1⟩, hsz, Int.toNat_natCast, Sem.run_pure]
        by_cases h0 : m * i.size = 0
        · have hz : ∀ f : Nat → Value, Array.map f (Array.range 0) = #[] := fun f => by apply Array.ext'; simp
          simp [h0, newRow, newC, hz]
        · simp [h0, zeroValue, typeInfo, S.info a1, a2, newRow, newC]
    · trivial
  · trivial
end Go.Proofs.YtfkpcifchgnmnaaGreatDoor.Ev
end

noncomputable section
namespace Go.Proofs.YtfkpcifchgnmnaaGreatDoor.Ev
variable {P : Program} {ρ : Emb} {h : H} {w : World} {e : Env} {tmps : Array Value}

theorem run_sliceBound_nat (k : IntKind) (n y : Nat) (hn : n ≤ y) (code : BoundsCode) (w : World) : (Instr.sliceBound (.int k (n : Int)) y code).run P w = .ok n w := by
  have h1 : (0 : Int) ≤ n ∧ (n : Int) ≤ y := by omega
  simp [Instr.sliceBound, asIntOf, h1]
theorem run_sliceBounds (isSlice : Bool) (len cap : Nat) {lo hi mx : Option Value} {l hh m : Nat} (hm : (mx = none ∧ m = cap) ∨ ∃ k : IntKind, mx = some (.int k (m : Int)) ∧ m ≤ cap)
    (hhi : (hi = none ∧ mx = none ∧ hh = len) ∨ ∃ k : IntKind, hi = some (.int k (hh : Int)) ∧ hh ≤ m) (hl : (lo = none ∧ l = 0) ∨ ∃ k : IntKind, lo = some (.int k (l : Int)) ∧ l ≤ hh) (w : World) :
    (Instr.sliceBounds isSlice len cap lo hi mx).run P w = .ok (l, hh, m) w := by
  unfold Instr.sliceBounds
  rcases hm with ⟨rfl, rfl⟩ | ⟨km, rfl, hm⟩
  · rcases hhi with ⟨rfl, _, rfl⟩ | ⟨kh, rfl, hh'⟩
    · rcases hl with ⟨rfl, rfl⟩ | ⟨kl, rfl, hl'⟩
      · simp
      · simp [run_sliceBound_nat kl l _ hl']
    · rcases hl with ⟨rfl, rfl⟩ | ⟨kl, rfl, hl'⟩
      · simp [run_sliceBound_nat kh hh _ hh']
      · simp [run_sliceBound_nat kh hh _ hh', run_sliceBound_nat kl l _ hl']
  · rcases hhi with ⟨_, hc, _⟩ | ⟨kh, rfl, hh'⟩
    · simp at hc
    · rcases hl with ⟨rfl, rfl⟩ | ⟨kl, rfl, hl'⟩
      · simp [run_sliceBound_nat km m _ hm, run_sliceBound_nat kh hh _ hh']
      · simp [run_sliceBound_nat km m _ hm, run_sliceBound_nat kh hh _ hh', run_sliceBound_nat kl l _ hl']
theorem bound_cases (hE : ERel ρ e tmps) {x : Option Operand} {d y n : Nat} (hb : bound (evalO e x) d y = some n) :
    (x.map (ev tmps) = none ∧ evalO e x = none ∧ n = d) ∨ ∃ k : IntKind, x.map (ev tmps) = some (.int k (n : Int)) ∧ n ≤ y := by
  cases x with
  | none =>
    change some d = some n at hb
    injection hb with hb
    exact .inl ⟨rfl, rfl, hb.symm⟩
  | some x =>
    right
    change (match natOf (eval e x) with | some n => cond (Nat.ble n y) (some n) none | none => none) = some n at hb
    split at hb
    · rename_i m hm
      obtain ⟨h1, h2⟩ := condNone hb
      injection h2 with h2; subst h2
      obtain ⟨k, hk⟩ := natOf_rel (eval_rel hE x) hm
      exact ⟨k, by simp [hk], nble.1 h1⟩
    · simp at hb
theorem evalO_isNone (x : Option Operand) (e : Env) : Option.isNone (evalO e x) = Option.isNone x := by cases x <;> rfl

/-- a slice of a row: what 'cutSlice' says -/
theorem cutSlice_cases {ex : Bool} {sz id off len c : Nat} {lo hi mx : Option AV} : cutSlice ex sz id off len c lo hi mx = .fail ∨
    (ex = false ∧ mx = none ∧ ∃ hh l, bound hi len c = some hh ∧ bound lo 0 hh = some l ∧ cutSlice ex sz id off len c lo hi mx = .val (.slice id (off + l * sz) (hh - l) none)) ∨
    (¬ (ex = false ∧ mx = none) ∧ ¬ (mx ≠ none ∧ hi = none) ∧ ∃ m hh l, bound mx c c = some m ∧ bound hi len m = some hh ∧ bound lo 0 hh = some l ∧ cutSlice ex sz id off len c lo hi mx = .val (.slice id (off + l * sz) (hh - l) (some (m - l)))) := by
  unfold cutSlice
  cases ex with
  | false =>
    cases mx with
    | none =>
      simp only [cond_false, Option.isNone_none, cond_true]
      split
      · rename_i hh h1
        split
        · rename_i l h2
          exact .inr (.inl ⟨trivial, trivial, hh, l, h1, h2, rfl⟩)
        · exact .inl rfl
      · exact .inl rfl
    | some m' =>
      simp only [cond_false, Option.isNone_some]
      cases hi with
      | none => exact .inl rfl
      | some hi' =>
        simp only [Option.isNone_some, cond_false]
        split
        · rename_i m h0
          split
          · rename_i hh h1
            split
            · rename_i l h2
              exact .inr (.inr ⟨by simp, by simp, m, hh, l, h0, h1, h2, rfl⟩)
            · exact .inl rfl
          · exact .inl rfl
        · exact .inl rfl
  | true =>
    simp only [cond_true, cond_false]
    cases hx : cond (Option.isNone mx) false (Option.isNone hi) with
    | true => exact .inl rfl
    | false =>
      simp only [cond_false]
      split
      · rename_i m h0
        split
        · rename_i hh h1
          split
          · rename_i l h2
            refine .inr (.inr ⟨by simp, ?_, m, hh, l, h0, h1, h2, rfl⟩)
            rintro ⟨a, b⟩
            subst b
            cases mx with
            | none => exact a rfl
            | some _ => simp at hx
          · exact .inl rfl
        · exact .inl rfl
      · exact .inl rfl
theorem addr_add (b o n : Nat) : (if n = 0 then (⟨b, o, none⟩ : Addr) else ⟨b, o + n, none⟩) = ⟨b, o + n, none⟩ := by split <;> simp_all

theorem slice_sound (S : Sane P) (hE : ERel ρ e tmps) (t : Nat) (x : Operand) (lo hi mx : Option Operand) :
    VOk P ρ h w (Instr.sliceAt t (ev tmps x) (lo.map (ev tmps)) (hi.map (ev tmps)) (mx.map (ev tmps))) (xSlice P t x lo hi mx e h) := by
  have hX := eval_rel hE x
  unfold xSlice sliceA
  generalize hxa : eval e x = xa at hX
  generalize hxv : ev tmps x = xv at hX
  split
  · -- a text
    rename_i hd
    have hu := S.desc hd
    split
    · rename_i s
      obtain ⟨b, rfl, hb⟩ := hX.str_inv
      subst hb
      cases hm : Option.isNone (evalO e mx) with
      | false => simp only [cond_false]; trivial
      | true =>
        simp only [cond_true]
        rw [evalO_isNone] at hm
        have hmx : mx = none := by simpa using hm
        subst hmx
        split
        · rename_i hh hh1
          split
          · rename_i l hl1
            have hlen : llen (List.map UInt8.toNat b.data.toList) = b.size := by rw [llen_eq]; simp
            rw [hlen] at hh1
            have hr := fun w' => run_sliceBounds (P := P) false b.size b.size (lo := lo.map (ev tmps)) (hi := hi.map (ev tmps)) (mx := none) (l := l) (hh := hh) (m := b.size) (.inl ⟨rfl, rfl⟩)
              (by rcases bound_cases hE hh1 with ⟨a1, _, a3⟩ | a
                  · exact .inl ⟨a1, rfl, a3⟩
                  · exact .inr a)
              (by rcases bound_cases hE hl1 with ⟨a1, _, a3⟩ | a
                  · exact .inl ⟨a1, a3⟩
                  · exact .inr a) w'
            refine ⟨.string (b.extract l hh), ?_, fun w' => ?_⟩
            · refine VRel.str ?_
              rw [ldrop_eq, ltake_eq]
              have : (b.extract l hh).data.toList = (b.data.toList.take hh).drop l := by
                rw [Lib.extract_data]
                rw [List.drop_take]
              rw [this]
              simp [List.map_take, List.map_drop]
            · simp [Instr.sliceAt, Instr.slice, run_underlying hu, hr]
          · trivial
        · trivial
    · trivial
  · -- a slice
    rename_i el hd
    have hu := S.desc hd
    split
    · -- nil
      simp only [VRel] at hX
      subst hX
      cases hel : hasT P el with
      | false => trivial
      | true =>
      obtain ⟨del, hdel⟩ := hasT_iff.1 hel
      have hz := descT_info hdel
      simp only [cond_true]
      cases hc : cond (Option.isNone (evalO e mx)) false (Option.isNone (evalO e hi)) with
      | true => trivial
      | false =>
        simp only [cond_false]
        split
        · rename_i m hh l h0 h1 h2
          have hm := bound_cases hE h0
          have hh' := bound_cases hE h1
          have hl := bound_cases hE h2
          have m0 : m = 0 := by rcases hm with ⟨_, _, a⟩ | ⟨_, _, a⟩ <;> omega
          have hh0 : hh = 0 := by rcases hh' with ⟨_, _, a⟩ | ⟨_, _, a⟩ <;> omega
          have l0 : l = 0 := by rcases hl with ⟨_, _, a⟩ | ⟨_, _, a⟩ <;> omega
          subst m0; subst hh0; subst l0
          rw [evalO_isNone, evalO_isNone] at hc
          have hr := fun w' => run_sliceBounds (P := P) true 0 0 (lo := lo.map (ev tmps)) (hi := hi.map (ev tmps)) (mx := mx.map (ev tmps)) (l := 0) (hh := 0) (m := 0)
            (by rcases hm with ⟨a1, _, a3⟩ | a
                · exact .inl ⟨a1, rfl⟩
                · exact .inr a)
            (by rcases hh' with ⟨a1, _, a3⟩ | a
                · refine .inl ⟨a1, ?_, rfl⟩
                  cases mx with
                  | none => rfl
                  | some _ => cases hi with
                    | none => simp at hc
                    | some _ => simp at a1
                · exact .inr a)
            (by rcases hl with ⟨a1, _, a3⟩ | a
                · exact .inl ⟨a1, rfl⟩
                · exact .inr a) w'
          refine ⟨.slice none 0 0, by simp only [VRel], fun w' => ?_⟩
          simp [Instr.sliceAt, Instr.slice, run_underlying hu, hr, S.run_sizeOf hz]
        · trivial
    · -- one that is not nil
      rename_i id off len cap
      cases hz : Nat.beq (szT P el) 0 with
      | true => trivial
      | false =>
        have hz0 : szT P el ≠ 0 := fun hh => by rw [nbeq.2 hh] at hz; simp at hz
        have hsz := S.run_sizeOf (szT_pos hz0)
        simp only [cond_false]
        split
        · -- of a capacity that is known
          rename_i c
          simp only [VRel] at hX
          obtain ⟨ex, o, he, rfl, hlc, ho⟩ := hX
          rcases cutSlice_cases (ex := true) (sz := szT P el) (id := id) (off := off) (len := len) (c := c) (lo := evalO e lo) (hi := evalO e hi) (mx := evalO e mx) with hf | ⟨hf, _⟩ | ⟨_, hn, m, hh, l, h0, h1, h2, hv⟩
          · rw [hf]; trivial
          · simp at hf
          · rw [hv]
            have hm := bound_cases hE h0
            have hh' := bound_cases hE h1
            have hl := bound_cases hE h2
            have mle : m ≤ c := by rcases hm with ⟨_, _, a⟩ | ⟨_, _, a⟩ <;> omega
            have hle : hh ≤ m := by
              rcases hh' with ⟨_, a2, a⟩ | ⟨_, _, a⟩
              · rcases hm with ⟨_, b2, b⟩ | ⟨_, b1, _⟩
                · omega
                · exfalso
                  refine hn ⟨?_, a2⟩
                  cases mx <;> simp_all [evalO]
              · exact a
            have lle : l ≤ hh := by rcases hl with ⟨_, _, a⟩ | ⟨_, _, a⟩ <;> omega
            have hr := fun w' => run_sliceBounds (P := P) true len c (lo := lo.map (ev tmps)) (hi := hi.map (ev tmps)) (mx := mx.map (ev tmps)) (l := l) (hh := hh) (m := m)
              (by rcases hm with ⟨a1, _, a3⟩ | a
                  · exact .inl ⟨a1, a3⟩
                  · exact .inr a)
              (by rcases hh' with ⟨a1, a2, a3⟩ | a
                  · refine .inl ⟨a1, ?_, a3⟩
                    rcases hm with ⟨b1, _⟩ | ⟨_, b1, _⟩
                    · exact b1
                    · exfalso
                      refine hn ⟨?_, a2⟩
                      cases mx <;> simp_all [evalO]
                  · exact .inr a)
              (by rcases hl with ⟨a1, _, a3⟩ | a
                  · exact .inl ⟨a1, a3⟩
                  · exact .inr a) w'
            refine ⟨.slice (some (if m = l then ⟨ex.block, o, none⟩ else ⟨ex.block, o + l * szT P el, none⟩)) (hh - l) (m - l), ?_, fun w' => ?_⟩
            · simp only [VRel]
              by_cases hml : m = l
              · rw [if_pos hml]
                exact ⟨ex, o, he, rfl, by omega, .inl (by omega)⟩
              · rw [if_neg hml]
                refine ⟨ex, o + l * szT P el, he, rfl, by omega, .inr ?_⟩
                rcases ho with ho | ho <;> omega
            · simp only [Instr.sliceAt, Instr.slice, Sem.run_bind, run_underlying hu, Result.andThen_ok, hr, hsz, Sem.run_pure]
              by_cases hml : m = l
              · simp [hml]
              · simp [hml, add_at]
        · -- of one that is open
          simp only [VRel] at hX
          obtain ⟨ex, o, c, he, rfl, hlc, hcap, ho⟩ := hX
          split
          · rename_i cl hcl
            unfold capLow at hcl
            split at hcl
            · rename_i cs el' sz' p hg
              obtain ⟨hzz, hcl2⟩ := condNone hcl
              clear hcl
              have hzz := nbeq.1 hzz
              subst hzz
              injection hcl2 with hcl
              rw [llen_eq] at hcl
              have key : WRel P ρ h w → cl ≤ c ∧ ex.sz = szT P el := by
                intro r
                obtain ⟨cc, c1, c2, c3, c4, _⟩ := r.arr he hg
                refine ⟨?_, c2⟩
                rw [← hcl]
                rw [c2] at hcap
                show (cs.length - off) / szT P el ≤ c
                have hpos : 0 < szT P el := Nat.pos_of_ne_zero hz0
                calc (cs.length - off) / szT P el ≤ (c * szT P el) / szT P el := Nat.div_le_div_right (by omega)
                  _ = c := Nat.mul_div_cancel _ hpos
              rcases cutSlice_cases (ex := false) (sz := szT P el) (id := id) (off := off) (len := len) (c := cl) (lo := evalO e lo) (hi := evalO e hi) (mx := evalO e mx) with hf | ⟨_, hmx, hh, l, h1, h2, hv⟩ | ⟨hnn, hn, m, hh, l, h0, h1, h2, hv⟩
              · rw [hf]; trivial
              · rw [hv]
                intro r
                obtain ⟨k1, k2⟩ := key r
                have hh' := bound_cases hE h1
                have hl := bound_cases hE h2
                have hmx' : mx = none := by cases mx <;> simp_all [evalO]
                have hle : hh ≤ c := by rcases hh' with ⟨_, _, a⟩ | ⟨_, _, a⟩ <;> omega
                have lle : l ≤ hh := by rcases hl with ⟨_, _, a⟩ | ⟨_, _, a⟩ <;> omega
                have hr := fun w' => run_sliceBounds (P := P) true len c (lo := lo.map (ev tmps)) (hi := hi.map (ev tmps)) (mx := mx.map (ev tmps)) (l := l) (hh := hh) (m := c)
                  (.inl ⟨by rw [hmx']; rfl, rfl⟩)
                  (by rcases hh' with ⟨a1, a2, a3⟩ | ⟨k, a1, a2⟩
                      · exact .inl ⟨a1, by rw [hmx']; rfl, a3⟩
                      · exact .inr ⟨k, a1, hle⟩)
                  (by rcases hl with ⟨a1, _, a3⟩ | a
                      · exact .inl ⟨a1, a3⟩
                      · exact .inr a) w'
                refine ⟨.slice (some (if c = l then ⟨ex.block, o, none⟩ else ⟨ex.block, o + l * szT P el, none⟩)) (hh - l) (c - l), ?_, ?_⟩
                · simp only [VRel]
                  have hmul : l * szT P el + (c - l) * szT P el = c * szT P el := by rw [← Nat.add_mul]; congr 1; omega
                  by_cases hml : c = l
                  · rw [if_pos hml]
                    refine ⟨ex, o, c - l, he, rfl, by omega, ?_, .inl (by omega)⟩
                    rw [k2] at hcap ⊢; omega
                  · rw [if_neg hml]
                    refine ⟨ex, o + l * szT P el, c - l, he, rfl, by omega, ?_, .inr ?_⟩
                    · rw [k2] at hcap ⊢; omega
                    · rcases ho with ho | ho <;> omega
                · simp only [Instr.sliceAt, Instr.slice, Sem.run_bind, run_underlying hu, Result.andThen_ok, hr, hsz, Sem.run_pure]
                  by_cases hml : c = l
                  · simp [hml]
                  · simp [hml, add_at]
              · rw [hv]
                intro r
                obtain ⟨k1, k2⟩ := key r
                have hm := bound_cases hE h0
                have hh' := bound_cases hE h1
                have hl := bound_cases hE h2
                rcases hm with ⟨_, b2, _⟩ | ⟨km, b1, b2⟩
                · exact (hnn ⟨rfl, b2⟩).elim
                · have hle : hh ≤ m := by
                    rcases hh' with ⟨_, a2, a⟩ | ⟨_, _, a⟩
                    · exfalso
                      refine hn ⟨?_, a2⟩
                      cases mx <;> simp_all [evalO]
                    · exact a
                  have lle : l ≤ hh := by rcases hl with ⟨_, _, a⟩ | ⟨_, _, a⟩ <;> omega
                  have hr := fun w' => run_sliceBounds (P := P) true len c (lo := lo.map (ev tmps)) (hi := hi.map (ev tmps)) (mx := mx.map (ev tmps)) (l := l) (hh := hh) (m := m)
                    (.inr ⟨km, b1, by omega⟩)
                    (by rcases hh' with ⟨a1, a2, a3⟩ | a
                        · exfalso
                          refine hn ⟨?_, a2⟩
                          cases mx <;> simp_all [evalO]
                        · exact .inr a)
                    (by rcases hl with ⟨a1, _, a3⟩ | a
                        · exact .inl ⟨a1, a3⟩
                        · exact .inr a) w'
                  refine ⟨.slice (some (if m = l then ⟨ex.block, o, none⟩ else ⟨ex.block, o + l * szT P el, none⟩)) (hh - l) (m - l), ?_, ?_⟩
                  · simp only [VRel]
                    by_cases hml : m = l
                    · rw [if_pos hml]
                      exact ⟨ex, o, he, rfl, by omega, .inl (by omega)⟩
                    · rw [if_neg hml]
                      refine ⟨ex, o + l * szT P el, he, rfl, by omega, .inr ?_⟩
                      rcases ho with ho | ho <;> omega
                  · simp only [Instr.sliceAt, Instr.slice, Sem.run_bind, run_underlying hu, Result.andThen_ok, hr, hsz, Sem.run_pure]
                    by_cases hml : m = l
                    · simp [hml]
                    · simp [hml, add_at]
            · simp at hcl
          · trivial
    · trivial
  · -- a row's address
    rename_i n el hd
    have hu := S.desc hd
    split
    · rename_i id off
      obtain ⟨ex, he, rfl⟩ := hX.ptr_inv
      cases hz : Nat.beq (szT P el) 0 with
      | true => trivial
      | false =>
        have hz0 : szT P el ≠ 0 := fun hh => by rw [nbeq.2 hh] at hz; simp at hz
        have hsz := S.run_sizeOf (szT_pos hz0)
        simp only [cond_false]
        rcases cutSlice_cases (ex := true) (sz := szT P el) (id := id) (off := off) (len := n) (c := n) (lo := evalO e lo) (hi := evalO e hi) (mx := evalO e mx) with hf | ⟨hf, _⟩ | ⟨_, hn, m, hh, l, h0, h1, h2, hv⟩
        · rw [hf]; trivial
        · simp at hf
        · rw [hv]
          have hm := bound_cases hE h0
          have hh' := bound_cases hE h1
          have hl := bound_cases hE h2
          have mle : m ≤ n := by rcases hm with ⟨_, _, a⟩ | ⟨_, _, a⟩ <;> omega
          have hle : hh ≤ m := by
            rcases hh' with ⟨_, a2, a⟩ | ⟨_, _, a⟩
            · rcases hm with ⟨_, b2, b⟩ | ⟨_, b1, _⟩
              · omega
              · exfalso
                refine hn ⟨?_, a2⟩
                cases mx <;> simp_all [evalO]
            · exact a
          have lle : l ≤ hh := by rcases hl with ⟨_, _, a⟩ | ⟨_, _, a⟩ <;> omega
          have hr := fun w' => run_sliceBounds (P := P) false n n (lo := lo.map (ev tmps)) (hi := hi.map (ev tmps)) (mx := mx.map (ev tmps)) (l := l) (hh := hh) (m := m)
            (by rcases hm with ⟨a1, _, a3⟩ | a
                · exact .inl ⟨a1, a3⟩
                · exact .inr a)
            (by rcases hh' with ⟨a1, a2, a3⟩ | a
                · refine .inl ⟨a1, ?_, a3⟩
                  rcases hm with ⟨b1, _⟩ | ⟨_, b1, _⟩
                  · exact b1
                  · exfalso
                    refine hn ⟨?_, a2⟩
                    cases mx <;> simp_all [evalO]
                · exact .inr a)
            (by rcases hl with ⟨a1, _, a3⟩ | a
                · exact .inl ⟨a1, a3⟩
                · exact .inr a) w'
          refine ⟨.slice (some (if m = l then ⟨ex.block, ex.off + off, none⟩ else ⟨ex.block, ex.off + off + l * szT P el, none⟩)) (hh - l) (m - l), ?_, fun w' => ?_⟩
          · simp only [VRel]
            by_cases hml : m = l
            · rw [if_pos hml]
              exact ⟨ex, ex.off + off, he, rfl, by omega, .inl (by omega)⟩
            · rw [if_neg hml]
              exact ⟨ex, ex.off + off + l * szT P el, he, rfl, by omega, .inr (by omega)⟩
          · simp only [Instr.sliceAt, Sem.run_bind, run_underlying hu, Result.andThen_ok, hr, hsz, Sem.run_pure, Instr.sureAddr]
            by_cases hml : m = l
            · simp [hml]
            · simp [hml, add_at]
    · trivial
  · trivial
end Go.Proofs.YtfkpcifchgnmnaaGreatDoor.Ev
end

noncomputable section
namespace Go.Proofs.YtfkpcifchgnmnaaGreatDoor.Ev
variable {P : Program} {ρ : Emb} {h : H} {w : World} {e : Env} {tmps : Array Value}

theorem fieldAddr_sound (S : Sane P) (hE : ERel ρ e tmps) (t : Nat) (x : Operand) (i : Nat) : VOk P ρ h w (Instr.fieldAt t (ev tmps x) i) (xFieldAddr P t x i e h) := by
  have hX := eval_rel hE x
  unfold xFieldAddr
  split
  · rename_i o ft id off hf hx
    rw [hx] at hX
    obtain ⟨ex, he, hv⟩ := hX.ptr_inv
    obtain ⟨fs, f, h1, h2, rfl, rfl⟩ := fieldT_desc hf
    cases hz : Nat.beq (szT P f.type) 0 with
    | true => trivial
    | false =>
      have hz0 : szT P f.type ≠ 0 := fun hh => by rw [nbeq.2 hh] at hz; simp at hz
      rw [hv]
      refine ⟨.pointer (some ⟨ex.block, ex.off + off + f.offset, none⟩), by simp only [VRel]; exact ⟨ex, he, by simp [Nat.add_assoc]⟩, fun w' => ?_⟩
      simp [Instr.fieldAt, run_underlying (S.desc h1), h2, Instr.sureAddr, fieldPlace, S.run_sizeOf (szT_pos hz0), hz0, add_at]
  · trivial
theorem field_sound (S : Sane P) (hE : ERel ρ e tmps) (t : Nat) (x : Operand) (i : Nat) : VOk P ρ h w (Instr.field t (ev tmps x) i) (xField P t x i e h) := by
  have hX := eval_rel hE x
  unfold xField
  split
  · rename_i o ft cs hf hx
    rw [hx] at hX
    simp only [VRel] at hX
    obtain ⟨c, hv, c1, c2⟩ := hX
    obtain ⟨fs, f, h1, h2, rfl, rfl⟩ := fieldT_desc hf
    split
    · rename_i v hc
      obtain ⟨hh, hc⟩ := condNone hc
      obtain ⟨d, hd⟩ := hasT_iff.1 hh
      obtain ⟨u, u1, u2⟩ := part_sound S c1 c2 hd hc
      rw [hv]
      refine ⟨u, u1, fun w' => ?_⟩
      simp [Instr.field, run_underlying (S.desc h1), h2, asAgg, u2]
    · trivial
  · trivial
theorem indexAddr_sound (S : Sane P) (hE : ERel ρ e tmps) (t : Nat) (x i : Operand) : VOk P ρ h w (Instr.indexAt t (ev tmps x) (ev tmps i)) (xIndexAddr P t x i e h) := by
  have hX := eval_rel hE x
  unfold xIndexAddr
  split
  · rename_i el id off len cap n hd hx hn
    obtain ⟨k, hk⟩ := natOf_rel (eval_rel hE i) hn
    rw [hx] at hX
    cases hc : cond (Nat.beq (szT P el) 0) false (Nat.blt n len) with
    | false => trivial
    | true =>
      cases hz : Nat.beq (szT P el) 0 with
      | true => rw [hz] at hc; simp at hc
      | false =>
        rw [hz] at hc
        have hz0 : szT P el ≠ 0 := fun hh => by rw [nbeq.2 hh] at hz; simp at hz
        have hlt := nblt.1 (by simpa using hc)
        have hsz := S.run_sizeOf (szT_pos hz0)
        obtain ⟨ex, o, c, he, hv, ho⟩ : ∃ ex o c, ρ id = some ex ∧ ev tmps x = .slice (some ⟨ex.block, o, none⟩) len c ∧ o = ex.off + off := by
          cases cap with
          | none =>
            simp only [VRel] at hX
            obtain ⟨ex, o, c, he, hv, hl, _, ho⟩ := hX
            exact ⟨ex, o, c, he, hv, by rcases ho with ho | ho <;> omega⟩
          | some c =>
            simp only [VRel] at hX
            obtain ⟨ex, o, he, hv, hl, ho⟩ := hX
            exact ⟨ex, o, c, he, hv, by rcases ho with ho | ho <;> omega⟩
        rw [hv, hk]
        have hin : (0 : Int) ≤ n ∧ (n : Int) < len := by omega
        refine ⟨.pointer (some ⟨ex.block, o + n * szT P el, none⟩), by simp only [VRel]; exact ⟨ex, he, by rw [ho, Nat.add_assoc]; rfl⟩, fun w' => ?_⟩
        simp [Instr.indexAt, asIntOf, run_underlying (S.desc hd), hlt, hsz, add_at]
  · rename_i m el id off n hd hx hn
    obtain ⟨k, hk⟩ := natOf_rel (eval_rel hE i) hn
    rw [hx] at hX
    cases hc : cond (Nat.beq (szT P el) 0) false (Nat.blt n m) with
    | false => trivial
    | true =>
      cases hz : Nat.beq (szT P el) 0 with
      | true => rw [hz] at hc; simp at hc
      | false =>
        rw [hz] at hc
        have hz0 : szT P el ≠ 0 := fun hh => by rw [nbeq.2 hh] at hz; simp at hz
        have hlt := nblt.1 (by simpa using hc)
        have hsz := S.run_sizeOf (szT_pos hz0)
        obtain ⟨ex, he, hv⟩ := hX.ptr_inv
        rw [hv, hk]
        have hin : (0 : Int) ≤ n ∧ (n : Int) < m := by omega
        refine ⟨.pointer (some ⟨ex.block, ex.off + off + n * szT P el, none⟩), by simp only [VRel]; exact ⟨ex, he, by rw [Nat.add_assoc]; rfl⟩, fun w' => ?_⟩
        simp [Instr.indexAt, Instr.sureAddr, asIntOf, run_underlying (S.desc hd), hlt, hsz, add_at]
  · trivial
theorem index_sound (S : Sane P) (hE : ERel ρ e tmps) (t : Nat) (x i : Operand) : VOk P ρ h w (Instr.index t (ev tmps x) (ev tmps i)) (xIndex P t x i e h) := by
  have hX := eval_rel hE x
  unfold xIndex
  split
  · rename_i s n hd hx hn
    obtain ⟨k, hk⟩ := natOf_rel (eval_rel hE i) hn
    rw [hx] at hX
    obtain ⟨b, hv, hb⟩ := hX.str_inv
    cases hc : lhas (Nat.succ n) s with
    | false => trivial
    | true =>
      have hlt := (lhas_iff _ _).1 hc
      subst hb
      have hlt' : n < b.size := by
        have : n + 1 ≤ b.size := by simpa using hlt
        omega
      have hlt2 : n < b.data.toList.length := by simpa using hlt'
      rw [hv, hk]
      refine ⟨.int .u8 (b[n].toNat : Int), ?_, fun w' => ?_⟩
      · simp only [VRel, cond_true]
        rw [lget_eq]
        have : (List.map UInt8.toNat b.data.toList).getD n 0 = b[n].toNat := by
          rw [List.getD_eq_getElem?_getD, List.getElem?_map, List.getElem?_eq_getElem hlt2]
          rfl
        rw [this]; rfl
      · have h0 : (0 : Int) ≤ n := by omega
        simp [Instr.index, asIntOf, run_underlying (S.desc hd), hlt']
  · rename_i m el cs n hd hx hn
    obtain ⟨k, hk⟩ := natOf_rel (eval_rel hE i) hn
    rw [hx] at hX
    simp only [VRel] at hX
    obtain ⟨c, hv, c1, c2⟩ := hX
    cases hc : cond (hasT P el) (Nat.blt n m) false with
    | false => trivial
    | true =>
      cases hh : hasT P el with
      | false => rw [hh] at hc; simp at hc
      | true =>
        rw [hh] at hc
        have hlt := nblt.1 (by simpa using hc)
        obtain ⟨d, hdd⟩ := hasT_iff.1 hh
        simp only [cond_true]
        split
        · rename_i v hcut
          obtain ⟨u, u1, u2⟩ := part_sound S c1 c2 hdd hcut
          rw [hv, hk]
          have hin : (0 : Int) ≤ n ∧ (n : Int) < m := by omega
          refine ⟨u, u1, fun w' => ?_⟩
          have u2' : ∀ w, (part el c (n * szT P el)).run P w = .ok u w := u2
          simp [Instr.index, asIntOf, run_underlying (S.desc hd), hlt, S.run_sizeOf (descT_info hdd), u2']
        · trivial
  · trivial
theorem extract_sound (hE : ERel ρ e tmps) (x : Operand) (i : Nat) : VOk P ρ h w (Instr.extract (ev tmps x) i) (xExtract x i e h) := by
  have hX := eval_rel hE x
  unfold xExtract
  split
  · rename_i vs hx
    rw [hx] at hX
    simp only [VRel] at hX
    obtain ⟨us, hv, hr⟩ := hX
    cases hc : lhas (Nat.succ i) vs with
    | false => trivial
    | true =>
      have hlt : i < vs.length := (lhas_iff _ _).1 hc
      obtain ⟨u, u1, u2⟩ := hr.get i _ (List.getElem?_eq_getElem hlt)
      rw [hv]
      refine ⟨u, ?_, fun w' => ?_⟩
      · show VRel ρ (lget .poison i vs) u
        rw [lget_eq, List.getD_eq_getElem?_getD, List.getElem?_eq_getElem hlt]; exact u2
      · have : us[i]? = some u := by simpa using u1
        simp [Instr.extract, this]
  · trivial
theorem typeAssert_sound (S : Sane P) (hE : ERel ρ e tmps) (x : Operand) (xt t : Nat) (ok : Bool) : VOk P ρ h w (Instr.typeAssert (ev tmps x) xt t ok) (xTypeAssert P x xt t ok e h) := by
  have hX := eval_rel hE x
  have hfail : ∀ (d : TypeDesc), descT P t = some d → ∀ z, zeroT P t = some z → ∀ so dy m, ∃ u, VRel ρ (.tuple [z, .bool false]) u ∧
      ∀ w', (do if true = true then pure (.tuple #[← zeroValue t, .bool false]) else runtimePanic (.typeAssertion so dy t m) : Sem Value).run P w' = .ok u w' := by
    intro d hd z hz so dy m
    obtain ⟨i, v, a1, a2, rfl⟩ := zeroT_info hz
    refine ⟨.tuple #[v, .bool false], ?_, fun w' => ?_⟩
    · simp only [VRel]
      exact ⟨_, rfl, VRels.cons (ofV_rel ρ v) (VRels.cons VRel.bool VRels.nil)⟩
    · simp [zeroValue, typeInfo, S.info a1, a2]
  unfold xTypeAssert
  split
  · trivial
  · rename_i d hn hd hx
    rw [hx] at hX
    simp only [VRel] at hX
    cases ok with
    | false => trivial
    | true =>
      simp only [cond_true]
      split
      · rename_i z hz
        obtain ⟨u, u1, u2⟩ := hfail d hd z hz (some xt) none ""
        refine ⟨u, u1, fun w' => ?_⟩
        rw [hX]
        have := u2 w'
        unfold Instr.typeAssert
        simp only [Sem.run_bind, run_underlying (S.desc hd), Result.andThen_ok]
        cases d <;> first | exact (hn _ rfl).elim | exact this
      · trivial
  · rename_i d u v hn hd hx
    rw [hx] at hX
    simp only [VRel] at hX
    obtain ⟨uv, hv, hr⟩ := hX
    rw [hv]
    cases hut : Nat.beq u t with
    | true =>
      have := nbeq.1 hut
      subst this
      cases ok with
      | true =>
        refine ⟨.tuple #[uv, .bool true], ?_, fun w' => ?_⟩
        · simp only [cond_true, VRel]
          exact ⟨_, rfl, VRels.cons hr (VRels.cons VRel.bool VRels.nil)⟩
        · unfold Instr.typeAssert
          simp only [Sem.run_bind, run_underlying (S.desc hd), Result.andThen_ok]
          cases d <;> first | exact (hn _ rfl).elim | simp
      | false =>
        refine ⟨uv, hr, fun w' => ?_⟩
        unfold Instr.typeAssert
        simp only [Sem.run_bind, run_underlying (S.desc hd), Result.andThen_ok]
        cases d <;> first | exact (hn _ rfl).elim | simp
    | false =>
      have hne : u ≠ t := fun he => by rw [nbeq.2 he] at hut; simp at hut
      simp only [cond_false]
      cases ok with
      | false => trivial
      | true =>
        simp only [cond_true]
        split
        · rename_i z hz
          obtain ⟨q, q1, q2⟩ := hfail d hd z hz (some xt) (some u) ""
          refine ⟨q, q1, fun w' => ?_⟩
          have := q2 w'
          unfold Instr.typeAssert
          simp only [Sem.run_bind, run_underlying (S.desc hd), Result.andThen_ok]
          cases d <;> first | exact (hn _ rfl).elim | (simp only [hne, if_false]; exact this)
        · trivial
  · trivial
end Go.Proofs.YtfkpcifchgnmnaaGreatDoor.Ev
end

noncomputable section
namespace Go.Proofs.YtfkpcifchgnmnaaGreatDoor.Ev
variable {P : Program} {ρ : Emb} {h : H} {w : World} {e : Env} {tmps : Array Value}

theorem liftEq_sound {f : AV → AV → Bool} (hf : ∀ a b, f a b = true → a = b) : ∀ (a b : List AV), liftEq f a b = true → a = b
  | [], [], _ => rfl
  | [], _ :: _, h => by change false = true at h; simp at h
  | _ :: _, [], h => by change false = true at h; simp at h
  | x :: a, y :: b, h => by
    change cond (f x y) (liftEq f a b) false = true at h
    cases hxy : f x y with
    | false => rw [hxy] at h; simp at h
    | true => rw [hxy] at h; rw [hf x y hxy, liftEq_sound hf a b h]
theorem avEq_sound : ∀ (n : Nat) (a b : AV), avEq n a b = true → a = b := by
  intro n
  induction n with
  | zero => intro a b hb; change false = true at hb; simp at hb
  | succ n ih =>
    intro a b hb
    have hl := liftEq_sound ih
    unfold avEq at hb
    simp only at hb
    split at hb
    · rename_i x y; cases x <;> cases y <;> simp_all
    · rename_i k x k' y
      cases hk : kbeq k k' with
      | false => rw [hk] at hb; simp at hb
      | true => rw [hk] at hb; rw [kbeq_iff.1 hk, (ibeq_iff x y).1 (by simpa using hb)]
    · rename_i x y; rw [(listEq_iff x y).1 hb]
    · rfl
    · rename_i i o j q
      cases hk : Nat.beq i j with
      | false => rw [hk] at hb; simp at hb
      | true => rw [hk] at hb; simp only [cond_true] at hb; rw [nbeq.1 hk, nbeq.1 hb]
    · rfl
    · rename_i i o n' c j q m d
      cases h1 : Nat.beq i j with
      | false => rw [h1] at hb; simp at hb
      | true =>
        cases h2 : Nat.beq o q with
        | false => rw [h1, h2] at hb; simp at hb
        | true =>
          cases h3 : Nat.beq n' m with
          | false => rw [h1, h2, h3] at hb; simp at hb
          | true =>
            rw [h1, h2, h3] at hb
            simp only [cond_true] at hb
            rw [nbeq.1 h1, nbeq.1 h2, nbeq.1 h3, nbeq.1 hb]
    · rename_i i o n' j q m
      cases h1 : Nat.beq i j with
      | false => rw [h1] at hb; simp at hb
      | true =>
        cases h2 : Nat.beq o q with
        | false => rw [h1, h2] at hb; simp at hb
        | true =>
          rw [h1, h2] at hb
          simp only [cond_true] at hb
          rw [nbeq.1 h1, nbeq.1 h2, nbeq.1 hb]
    · rfl
    · rename_i i j; rw [nbeq.1 hb]
    · rfl
    · rename_i f a b g c d
      cases h1 : Nat.beq f g with
      | false => rw [h1] at hb; simp at hb
      | true =>
        rw [h1] at hb
        simp only [cond_true] at hb
        cases h2 : liftEq (avEq n) a c with
        | false =>
          unfold avEq at h2
          rw [h2] at hb; simp at hb
        | true =>
          have h2' := hl _ _ h2
          unfold avEq at h2
          rw [h2] at hb
          simp only [cond_true] at hb
          rw [nbeq.1 h1, h2', hl b d hb]
    · rename_i t v u x
      cases h1 : Nat.beq t u with
      | false => rw [h1] at hb; simp at hb
      | true =>
        rw [h1] at hb
        simp only [cond_true] at hb
        rw [nbeq.1 h1, ih v x hb]
    · rfl
    · rename_i a b; rw [hl a b hb]
    · rename_i a b; rw [hl a b hb]
    · simp at hb

theorem keyOk_sound (S : Sane P) : ∀ (n t : Nat) (x : AV), keyOk P n t x = true → ∀ X, VRel ρ x X → ∀ m, n ≤ m → ∀ em w, (Instr.checkKey em m t X).run P w = .ok () w := by
  intro n
  induction n with
  | zero => intro t x hx; change false = true at hx; simp at hx
  | succ n ih =>
    intro t x hx X hX m hm em w
    obtain ⟨k, rfl, hk⟩ := nat_le_succ hm
    unfold keyOk at hx
    simp only at hx
    split at hx
    · simp at hx
    · rename_i fs hd
      have hu := S.desc hd
      split at hx
      · rename_i xs
        simp only [VRel] at hX
        obtain ⟨c, rfl, c1, c2⟩ := hX
        simp only [Instr.checkKey, Sem.run_bind, run_underlying hu, Result.andThen_ok]
        rw [← Array.forIn_toList]
        generalize fs.toList = l at hx
        induction l generalizing w with
        | nil => simp
        | cons f l ihl =>
          simp only at hx
          split at hx
          · rename_i a ha
            obtain ⟨hh, ha⟩ := condNone ha
            obtain ⟨d, hdf⟩ := hasT_iff.1 hh
            obtain ⟨u, u1, u2⟩ := part_sound S c1 c2 hdf ha
            cases hka : keyOk P n f.type a with
            | false => unfold keyOk at hka; rw [hka] at hx; simp at hx
            | true =>
              have h1 := ih _ _ hka u u1 k hk em
              unfold keyOk at hka
              rw [hka] at hx
              simp only [cond_true] at hx
              have h2 := ihl w hx
              by_cases hn : f.name = "_"
              · simpa [List.forIn_cons, hn] using h2
              · simpa [List.forIn_cons, hn, u2, h1] using h2
          · simp at hx
      · simp at hx
    · rename_i q el hd
      have hu := S.desc hd
      split at hx
      · rename_i xs
        simp only [VRel] at hX
        obtain ⟨c, rfl, c1, c2⟩ := hX
        cases hel : hasT P el with
        | false => rw [hel] at hx; simp at hx
        | true =>
          rw [hel] at hx
          simp only [cond_true] at hx
          obtain ⟨d, hdf⟩ := hasT_iff.1 hel
          have hsz := S.run_sizeOf (descT_info hdf)
          simp only [Instr.checkKey, Sem.run_bind, run_underlying hu, Result.andThen_ok]
          simp only [Std.Legacy.Range.forIn_eq_forIn_range', Std.Legacy.Range.size, Nat.sub_zero, Nat.add_one_sub_one, Nat.div_one]
          rw [List.range_eq_range'] at hx
          generalize List.range' 0 q = l at hx
          induction l generalizing w with
          | nil => simp
          | cons f l ihl =>
            simp only at hx
            split at hx
            · rename_i a ha
              obtain ⟨u, u1, u2⟩ := part_sound S c1 c2 hdf ha
              have u2' : ∀ w, (part el c (f * szT P el)).run P w = .ok u w := u2
              cases hka : keyOk P n el a with
              | false => unfold keyOk at hka; rw [hka] at hx; simp at hx
              | true =>
                have h1 := ih _ _ hka u u1 k hk em
                unfold keyOk at hka
                rw [hka] at hx
                simp only [cond_true] at hx
                have h2 := ihl w hx
                simpa [List.forIn_cons, hsz, u2', h1] using h2
            · simp at hx
      · simp at hx
    · rename_i hd; simp only [Instr.checkKey, Sem.run_bind, run_underlying (S.desc hd), Result.andThen_ok]; rfl
    · rename_i hd; simp only [Instr.checkKey, Sem.run_bind, run_underlying (S.desc hd), Result.andThen_ok]; rfl
    · rename_i hd; simp only [Instr.checkKey, Sem.run_bind, run_underlying (S.desc hd), Result.andThen_ok]; rfl
    · simp at hx
end Go.Proofs.YtfkpcifchgnmnaaGreatDoor.Ev
end
