/-
  What is proved here: what the evaluator says of a function without arguments holds of the machine. Conditions: none.
-/
import Derived.Test.YtfkpcifchgnmnaaGreatDoorEvD
import Derived.Lib.Bytealg
import GoSem.ClaimFn
import GoSem.ClaimGoes
set_option linter.unusedVariables false
set_option linter.unusedSimpArgs false
set_option linter.unusedSectionVars false
noncomputable section
namespace Go.Proofs.YtfkpcifchgnmnaaGreatDoor.Ev

/-! calls that are joined -/
mutual
theorem VRel.back {ρ ρ' : Emb} (s : Sub ρ ρ') : ∀ (a : AV) (v0 v : Value), VRel ρ a v0 → VRel ρ' a v → VRel ρ a v
  | .poison, _, _, _, _ => by simp [VRel]
  | .bool b, _, v, _, h => by simp only [VRel] at *; exact h
  | .int k n, _, v, _, h => by simp only [VRel] at *; exact h
  | .str x, _, v, _, h => by simp only [VRel] at *; exact h
  | .nilp, _, v, _, h => by simp only [VRel] at *; exact h
  | .ptr id off, _, v, h0, h => by
    simp only [VRel] at *
    obtain ⟨e0, b0, _⟩ := h0
    obtain ⟨e, b, r⟩ := h
    rw [s _ _ b0] at b; injection b with b; subst b
    exact ⟨_, b0, r⟩
  | .nils, _, v, _, h => by simp only [VRel] at *; exact h
  | .slice id off len (some c), _, v, h0, h => by
    simp only [VRel] at *
    obtain ⟨e0, _, b0, _⟩ := h0
    obtain ⟨e, o, b, r⟩ := h
    rw [s _ _ b0] at b; injection b with b; subst b
    exact ⟨_, o, b0, r⟩
  | .slice id off len none, _, v, h0, h => by
    simp only [VRel] at *
    obtain ⟨e0, _, _, b0, _⟩ := h0
    obtain ⟨e, o, c, b, r⟩ := h
    rw [s _ _ b0] at b; injection b with b; subst b
    exact ⟨_, o, c, b0, r⟩
  | .nilm, _, v, _, h => by simp only [VRel] at *; exact h
  | .map id, _, v, h0, h => by
    simp only [VRel] at *
    obtain ⟨e0, b0, _⟩ := h0
    obtain ⟨e, b, r⟩ := h
    rw [s _ _ b0] at b; injection b with b; subst b
    exact ⟨_, b0, r⟩
  | .func (.func f) a b, _, v, h0, h => by
    simp only [VRel] at *
    obtain ⟨x0, y0, _, p0, q0⟩ := h0
    obtain ⟨x, y, r, p, q⟩ := h
    exact ⟨x, y, r, VRels.back s _ _ _ p0 p, VRels.back s _ _ _ q0 q⟩
  | .func (.yield l) a b, _, v, h0, h => by
    simp only [VRel] at *
    obtain ⟨e0, b0, _⟩ := h0
    obtain ⟨e, b, r⟩ := h
    rw [s _ _ b0] at b; injection b with b; subst b
    exact ⟨_, b0, r⟩
  | .nilf, _, v, _, h => by simp only [VRel] at *; exact h
  | .iface t x, _, v, h0, h => by
    simp only [VRel] at *
    obtain ⟨u0, _, p0⟩ := h0
    obtain ⟨u, r, p⟩ := h
    exact ⟨u, r, VRel.back s _ _ _ p0 p⟩
  | .nili, _, v, _, h => by simp only [VRel] at *; exact h
  | .agg l, _, v, h0, h => by
    simp only [VRel] at *
    obtain ⟨us, _, p0, _⟩ := h0
    obtain ⟨vs, r, p, q⟩ := h
    exact ⟨vs, r, VRels.back s _ _ _ p0 p, q⟩
  | .tuple l, _, v, h0, h => by
    simp only [VRel] at *
    obtain ⟨us, _, p0⟩ := h0
    obtain ⟨vs, r, p⟩ := h
    exact ⟨vs, r, VRels.back s _ _ _ p0 p⟩
theorem VRels.back {ρ ρ' : Emb} (s : Sub ρ ρ') : ∀ (l : List AV) (us vs : List Value), VRels ρ l us → VRels ρ' l vs → VRels ρ l vs
  | [], _, vs, _, h => by simp only [VRels] at *; exact h
  | a :: l, _, vs, h0, h => by
    simp only [VRels] at *
    obtain ⟨v0, ws0, _, p0, q0⟩ := h0
    obtain ⟨v, ws, r, p, q⟩ := h
    exact ⟨v, ws, r, VRel.back s _ _ _ p0 p, VRels.back s _ _ _ q0 q⟩
end
theorem MRels.back {ρ ρ' : Emb} (s : Sub ρ ρ') : ∀ (l : List (AV × AV × Nat)) (m0 m : List MapEntry), MRels ρ l m0 → MRels ρ' l m → MRels ρ l m
  | [], _, m, _, h => by simp only [MRels] at *; exact h
  | (k, v, b) :: l, _, m, h0, h => by
    simp only [MRels] at *
    obtain ⟨x0, ys0, _, p0, q0, _, u0⟩ := h0
    obtain ⟨x, ys, r, p, q, t, u⟩ := h
    exact ⟨x, ys, r, p0.back s _ _ _ p, q0.back s _ _ _ q, t, MRels.back s _ _ _ u0 u⟩
theorem ORel.back {P : Program} {ρ ρ' : Emb} (s : Sub ρ ρ') {e : Ext} {x0 x : Option Obj} : ∀ {o : AObj}, ORel P ρ e x0 o → ORel P ρ' e x o → ORel P ρ e x o
  | .none, _, _ => trivial
  | .arr cs elem sz p, h0, h => by
    obtain ⟨c0, _, _, _, _, b⟩ := h0
    obtain ⟨c, a1, a2, a3, a4, a6⟩ := h
    refine ⟨c, a1, a2, a3, a4, fun i a hi => ?_⟩
    obtain ⟨v0, _, t0, _⟩ := b i a hi
    obtain ⟨v, r, t, u⟩ := a6 i a hi
    exact ⟨v, r, VRel.back s _ _ _ t0 t, u⟩
  | .map es clock, h0, h => by
    obtain ⟨_, es0, _, b⟩ := h0
    obtain ⟨a0, es', a1, a2⟩ := h
    exact ⟨a0, es', a1, MRels.back s _ _ _ b a2⟩
  | .mapIter m since seen stepped, h0, h => by
    obtain ⟨_, m0, _, b⟩ := h0
    obtain ⟨a0, m', a1, a2⟩ := h
    refine ⟨a0, m', a1, ?_⟩
    cases m with
    | none => exact a2
    | some id =>
      obtain ⟨em0, c1, _⟩ := b
      obtain ⟨em, b1, b2⟩ := a2
      rw [s _ _ c1] at b1; injection b1 with b1; subst b1
      exact ⟨_, c1, b2⟩
  | .loop st pending tm ps a b, h0, h => by
    obtain ⟨l0, _, _, _, _, _, _, c, _⟩ := h0
    obtain ⟨l, a1, a2, a3, a4, a5, a6, a7, a8⟩ := h
    exact ⟨l, a1, a2, a3, a4, a5, a6, fun t => VRel.back s _ _ _ (c t) (a7 t), a8⟩
  | .deferred, _, h => h

section
variable {P : Program} {ρ : Emb} {h : H} {w : World}
theorem WRel.guard (r : WRel P ρ h w) : WRel P ρ h.guard w := ⟨r.dom, r.obj, r.sep, Nat.le_refl _, r.pos, r.peer, r.above⟩
/-- what was there is as it was -/
theorem Post.back (W : WRel P ρ h w) {ρ' : Emb} {h' : H} {w' : World} (p : Post P ρ h.guard w ρ' h' w') : Post P ρ h w ρ h w' := by
  refine ⟨Sub.refl ρ, fun _ _ h => .inl h, ⟨fun i e he => ?_, fun i e he => ?_, W.sep, W.low, W.pos, W.peer, W.above⟩, p.keep, fun _ h => .inl h, rfl, fun _ _ => rfl, Nat.le_refl _, fun _ _ _ => rfl⟩
  · have := W.dom i e he
    have := p.keep.size
    omega
  · have h1 := p.rel.obj i e (p.sub i e he)
    rw [p.old i (W.dom i e he).2.1] at h1
    exact (W.obj i e he).back p.sub h1

theorem flat_rel {ρ ρ' : Emb} {a : AV} {v : Value} (hf : flat a = true) (hv : VRel ρ a v) : VRel ρ' a v := by
  cases a <;> first | (simp only [VRel] at *; exact hv) | (simp [flat] at hf)
theorem flatL_mem : ∀ {l : List AV}, flatL l = true → ∀ a ∈ l, flat a = true
  | [], _, a, ha => by simp at ha
  | x :: l, h, a, ha => by
    change cond (flat x) (flatL l) false = true at h
    cases hx : flat x with
    | false => rw [hx] at h; simp at h
    | true =>
      rw [hx] at h
      rcases List.mem_cons.1 ha with rfl | ha
      · exact hx
      · exact flatL_mem h a ha

theorem sumEq_spec {x y s : Sum} (h : sumEq x y = s) (hn : s ≠ .no) : x = s ∧ y = s := by
  cases x with
  | no => simp only [sumEq] at h; exact absurd h.symm hn
  | flat a =>
    cases y with
    | flat b =>
      simp only [sumEq] at h
      cases hb : avEq 1 a b with
      | false => rw [hb] at h; exact absurd h.symm hn
      | true =>
        rw [hb] at h
        have := avEq_sound 1 a b hb
        subst this
        exact ⟨h, h⟩
    | _ => simp only [sumEq] at h; exact absurd h.symm hn
  | nils =>
    cases y with
    | nils => simp only [sumEq] at h; exact ⟨h, h⟩
    | _ => simp only [sumEq] at h; exact absurd h.symm hn
  | row e sz len l =>
    cases y with
    | row e' sz' len' l' =>
      simp only [sumEq] at h
      cases h1 : Nat.beq e e' with
      | false => rw [h1] at h; exact absurd h.symm hn
      | true =>
        cases h2 : Nat.beq sz sz' with
        | false => rw [h1, h2] at h; exact absurd h.symm hn
        | true =>
          cases h3 : Nat.beq len len' with
          | false => rw [h1, h2, h3] at h; exact absurd h.symm hn
          | true =>
            cases h4 : liftEq (avEq 1) l l' with
            | false => rw [h1, h2, h3, h4] at h; exact absurd h.symm hn
            | true =>
              rw [h1, h2, h3, h4] at h
              have e1 := nbeq.1 h1
              have e2 := nbeq.1 h2
              have e3 := nbeq.1 h3
              have e4 := liftEq_sound (avEq_sound 1) l l' h4
              subst e1; subst e2; subst e3; subst e4
              exact ⟨h, h⟩
    | _ => simp only [sumEq] at h; exact absurd h.symm hn
theorem joinSum_ok {Q : AV → H → Prop} {lo : Nat} : ∀ {o : Out}, VMeets Q o → ∀ s, joinSum lo o = s → s ≠ .no → ∃ v h', Q v h' ∧ sumOf lo v h' = s
  | .fail, _, s, hs, hn => absurd hs.symm hn
  | .code _ _ _, _, s, hs, hn => absurd hs.symm hn
  | .val v h', hr, s, hs, _ => ⟨v, h', hr, hs⟩
  | .fork a b, hr, s, hs, hn => by
    change sumEq (joinSum lo a) (joinSum lo b) = s at hs
    obtain ⟨h1, h2⟩ := sumEq_spec hs hn
    rcases hr with hr | hr
    · exact joinSum_ok hr s h1 hn
    · exact joinSum_ok hr s h2 hn

theorem sumOf_flat {lo : Nat} {v : AV} {h' : H} {a : AV} (hs : sumOf lo v h' = .flat a) : v = a ∧ flat a = true := by
  unfold sumOf at hs
  split at hs
  · cases hs
  · split at hs
    · split at hs
      · rename_i l _
        cases hf : flatL l <;> rw [hf] at hs <;> cases hs
      · cases hs
    · cases hs
  · cases hf : flat v with
    | false => rw [hf] at hs; cases hs
    | true => rw [hf] at hs; injection hs with hs; exact ⟨hs, hs ▸ hf⟩
theorem sumOf_nils {lo : Nat} {v : AV} {h' : H} (hs : sumOf lo v h' = .nils) : v = .nils := by
  unfold sumOf at hs
  split at hs
  · rfl
  · split at hs
    · split at hs
      · rename_i l _
        cases hf : flatL l <;> rw [hf] at hs <;> cases hs
      · cases hs
    · cases hs
  · cases hf : flat v <;> rw [hf] at hs <;> cases hs
theorem sumOf_row {lo : Nat} {v : AV} {h' : H} {e sz len : Nat} {l : List AV} (hs : sumOf lo v h' = .row e sz len l) : ∃ id off cap cs p, v = .slice id off len cap ∧ h'.get id = .arr cs e sz p ∧ lo ≤ id ∧ (p = 0 ∨ lo ≤ p) ∧ (∀ c, cap = some c → c = len) ∧ sz ≠ 0 ∧
    ltake? (len * sz) (ldrop off cs) = some l ∧ flatL l = true := by
  unfold sumOf at hs
  split at hs
  · cases hs
  · rename_i id off len' cap
    split at hs
    · rename_i cs e' sz' p hg
      split at hs
      · rename_i l' hl
        cases hf : flatL l' with
        | false => rw [hf] at hs; cases hs
        | true =>
          rw [hf] at hs
          injection hs with s1 s2 s3 s4
          subst s1; subst s2; subst s3; subst s4
          cases h1 : Nat.ble lo id with
          | false => rw [h1] at hl; simp at hl
          | true =>
            rw [h1] at hl
            cases h2 : (cond (Nat.beq p 0) true (Nat.ble lo p)) with
            | false => rw [h2] at hl; simp at hl
            | true =>
              rw [h2] at hl
              simp only [cond_true] at hl
              cases h5 : Nat.beq sz' 0 with
              | true => simp only [h5, cond_true, cond_false] at hl; cases hl
              | false =>
              have hsz0 : sz' ≠ 0 := fun hh => by rw [hh] at h5; simp at h5
              simp only [h5, cond_false] at hl
              cases h3 : (match cap with | none => true | some c => Nat.beq c len') with
              | false =>
                cases cap with
                | none => simp at h3
                | some c => simp only at h3; simp only [h3, cond_false] at hl; cases hl
              | true =>
                have hl' : ltake? (Nat.mul len' sz') (ldrop off cs) = some l' := by
                  cases cap with
                  | none => exact hl
                  | some c => simp only at h3; simp only [h3, cond_true] at hl; exact hl
                refine ⟨id, off, cap, cs, p, rfl, hg, nble.1 h1, ?_, fun c hc => ?_, hsz0, hl', hf⟩
                · cases h4 : Nat.beq p 0 with
                  | true => exact .inl (nbeq.1 h4)
                  | false => rw [h4] at h2; exact .inr (nble.1 h2)
                · subst hc
                  exact nbeq.1 h3
      · cases hs
    · cases hs
  · cases hf : flat v <;> rw [hf] at hs <;> cases hs

theorem join_ok (W : WRel P ρ h w) {G : Value → World → Prop} {o : Out} (ho : VMeets (fun v h' => ∃ ρ' w' u, Post P ρ h.guard w ρ' h' w' ∧ VRel ρ' v u ∧ h'.ds = h.guard.ds ∧ G u w') o) :
    VMeets (fun v h' => ∃ ρ' w' u, Post P ρ h w ρ' h' w' ∧ VRel ρ' v u ∧ h'.ds = h.ds ∧ G u w') (joinOut h (joinSum h.next o)) := by
  generalize hs : joinSum h.next o = s
  by_cases hn : s = .no
  · subst hn; trivial
  obtain ⟨v, h', ⟨ρ', w', u, p, hv, _, g⟩, hsum⟩ := joinSum_ok ho s hs hn
  have pb := Post.back W p
  cases s with
  | no => exact (hn rfl).elim
  | flat a =>
    obtain ⟨rfl, hf⟩ := sumOf_flat hsum
    exact ⟨ρ, w', u, pb, flat_rel hf hv, rfl, g⟩
  | nils =>
    have := sumOf_nils hsum
    subst this
    exact ⟨ρ, w', u, pb, by simp only [VRel] at *; exact hv, rfl, g⟩
  | row e sz len l =>
    obtain ⟨id, off, cap, cs, pe, rfl, hg, hid, hpe, hcap, hsz0, hl, hf⟩ := sumOf_row hsum
    obtain ⟨ex, ob, c, hex, rfl, hlc, hob, hcc⟩ := slice_inv hv
    obtain ⟨c0, c1, c2, c3, c4, c5⟩ := p.rel.arr hex hg
    have hdom := p.rel.dom id ex hex
    rw [ldrop_eq] at hl
    obtain ⟨l1, l2⟩ := ltake?_some hl
    have hlen : l.length = len * sz := by rw [l2]; simp at l1 ⊢; omega
    have hget : ∀ i a, l[i]? = some a → cs[off + i]? = some a := fun i a hi => by
      have hil : i < len * sz := by rw [← hlen]; exact (List.getElem?_eq_some_iff.1 hi).1
      rw [l2, List.getElem?_take_of_lt hil, List.getElem?_drop] at hi
      exact hi
    have hblk : w.heap.size ≤ ex.block := by
      rcases Nat.lt_or_ge ex.block w.heap.size with hlt | hge
      · have hfoot : Foot ρ' h' ex.block := ⟨id, ex, hex, by rw [hg]; simp, rfl⟩
        rcases p.foot _ hfoot with ⟨i, ei, hi, hne, hb⟩ | hge
        · have hin := (W.dom i ei hi)
          have hgi : h'.get i = h.get i := p.old i hin.2.1
          rcases p.rel.sep i id ei ex (p.sub i ei hi) hex (by have : h.guard.next = h.next := rfl; omega) hb with hh | hh | hh
          · rw [hgi] at hh; exact (hne hh).elim
          · rw [hg] at hh; cases hh
          · obtain ⟨x1, x2, x3, x4, x5, x6, _, g2⟩ := hh
            rw [hg] at g2
            injection g2 with _ _ _ g2
            subst g2
            rcases hpe with h0 | h0
            · omega
            · omega
        · exact hge
      · exact hge
    have hsz : len * sz ≤ c * sz := Nat.mul_le_mul_right sz hlc
    have hfit : c ≠ 0 → ob = ex.off + off ∧ ob + c * sz ≤ c0.size := by
      intro hc0
      have hob' : ob = ex.off + off := hob.resolve_left hc0
      refine ⟨hob', ?_⟩
      rcases hcc with h1 | ⟨_, h1⟩
      · have := hcap c h1
        subst this
        simp at l1
        have : 0 < c * sz := Nat.mul_pos (Nat.pos_of_ne_zero hc0) (Nat.pos_of_ne_zero hsz0)
        omega
      · rw [c2] at h1
        omega
    obtain ⟨ofs, hofs, hfit2⟩ : ∃ ofs, (c = 0 ∨ ob = ofs) ∧ ofs + c * sz ≤ c0.size ∧ (c ≠ 0 → ofs = ex.off + off) := by
      by_cases hc0 : c = 0
      · exact ⟨0, .inl hc0, by rw [hc0]; simp, fun h => (h hc0).elim⟩
      · exact ⟨ob, .inr rfl, (hfit hc0).2, fun _ => (hfit hc0).1⟩
    have padd := pb.addAt (.arr l e sz 0) (some ⟨ex.block, ofs, c * sz, sz⟩) (fun e' he' => by
      injection he' with he'; subst he'
      refine ⟨hblk, hdom.2.2, ?_, PeerIn.zero, c0, c1, rfl, by rw [hlen]; exact hsz, hfit2.1, fun i a hi => ?_⟩
      · rintro ⟨i, ei, hi, _, hb⟩
        have := (W.dom i ei hi).2.2
        simp only at hb
        omega
      · have hil : i < len * sz := by rw [← hlen]; exact (List.getElem?_eq_some_iff.1 hi).1
        have hc0 : c ≠ 0 := fun hh => by
          have : len = 0 := by omega
          rw [this] at hil; simp at hil
        obtain ⟨v, v1, v2, v3⟩ := c5 _ _ (hget i a hi)
        refine ⟨v, ?_, flat_rel (flatL_mem hf a (List.mem_of_getElem? hi)) v2, v3⟩
        simp only
        rw [hfit2.2 hc0, Nat.add_assoc]; exact v1)
    refine ⟨_, w', _, padd, ?_, H.ds_add _ _, g⟩
    simp only [VRel]
    exact ⟨⟨ex.block, ofs, c * sz, sz⟩, ob, c, by simp, rfl, hlc, by simp, by simpa using hofs⟩
end
end Go.Proofs.YtfkpcifchgnmnaaGreatDoor.Ev
end

noncomputable section
namespace Go.Proofs.YtfkpcifchgnmnaaGreatDoor.Ev

theorem same_sound : ∀ (n : Nat) (a b : AV), same n a b = true → a = b := by
  intro n
  induction n with
  | zero => intro a b hb; change false = true at hb; simp at hb
  | succ n ih =>
    intro a b hb
    have hl := liftEq_sound ih
    unfold same at hb
    simp only at hb
    split at hb
    · rfl
    · rw [hl _ _ hb]
    · rw [hl _ _ hb]
    · rename_i t v u w
      cases h1 : Nat.beq t u with
      | false => rw [h1] at hb; simp at hb
      | true => rw [h1] at hb; simp only [cond_true] at hb; rw [nbeq.1 h1, ih v w hb]
    · rename_i f a b g c d
      cases h1 : Nat.beq f g with
      | false => rw [h1] at hb; simp at hb
      | true =>
        rw [h1] at hb; simp only [cond_true] at hb
        cases h2 : liftEq (same n) a c with
        | false => unfold same at h2; rw [h2] at hb; simp at hb
        | true =>
          have h2' := h2
          unfold same at h2; rw [h2] at hb; simp only [cond_true] at hb
          rw [nbeq.1 h1, hl a c h2', hl b d hb]
    · exact avEq_sound 1 _ _ hb
theorem sameEs_sound : ∀ (a b : List (AV × AV × Nat)), sameEs a b = true → a = b
  | [], [], _ => rfl
  | [], _ :: _, h => by change false = true at h; simp at h
  | _ :: _, [], h => by change false = true at h; simp at h
  | x :: a, y :: b, h => by
    change cond (same 8 x.1 y.1) (cond (same 8 x.2.1 y.2.1) (cond (Nat.beq x.2.2 y.2.2) (sameEs a b) false) false) false = true at h
    cases h1 : same 8 x.1 y.1 with
    | false => rw [h1] at h; simp at h
    | true =>
      cases h2 : same 8 x.2.1 y.2.1 with
      | false => rw [h1, h2] at h; simp at h
      | true =>
        cases h3 : Nat.beq x.2.2 y.2.2 with
        | false => rw [h1, h2, h3] at h; simp at h
        | true =>
          rw [h1, h2, h3] at h
          rw [sameEs_sound a b h, show x = y from Prod.ext (same_sound 8 _ _ h1) (Prod.ext (same_sound 8 _ _ h2) (nbeq.1 h3))]
theorem sameO_sound {x y : AObj} (h : sameO x y = true) : x = y := by
  unfold sameO at h
  split at h
  · rfl
  · rename_i cs e s p cs' e' s' p'
    cases h1 : Nat.beq e e' with
    | false => rw [h1] at h; simp at h
    | true =>
      cases h2 : Nat.beq s s' with
      | false => rw [h1, h2] at h; simp at h
      | true =>
        cases h3 : Nat.beq p p' with
        | false => rw [h1, h2, h3] at h; simp at h
        | true =>
          rw [h1, h2, h3] at h
          rw [nbeq.1 h1, nbeq.1 h2, nbeq.1 h3, liftEq_sound (same_sound 8) cs cs' h]
  · rename_i es c es' c'
    cases h1 : Nat.beq c c' with
    | false => rw [h1] at h; simp at h
    | true => rw [h1] at h; rw [nbeq.1 h1, sameEs_sound es es' h]
  · cases h

theorem hasIn_iff (x : Nat) : ∀ (l : List (Nat × AObj)), hasIn l x = true ↔ ∃ o, (x, o) ∈ l
  | [] => by simp [hasIn]
  | y :: l => by
    have ih := hasIn_iff x l
    show cond (Nat.beq y.1 x) true (hasIn l x) = true ↔ _
    cases h1 : Nat.beq y.1 x with
    | true =>
      have := nbeq.1 h1
      simp only [cond_true, true_iff]
      exact ⟨y.2, by rw [← this]; simp⟩
    | false =>
      have h2 : y.1 ≠ x := fun hh => by rw [nbeq.2 hh] at h1; cases h1
      simp only [cond_false, ih, List.mem_cons]
      constructor
      · rintro ⟨o, ho⟩; exact ⟨o, .inr ho⟩
      · rintro ⟨o, ho | ho⟩
        · exact absurd (by rw [← ho]) h2
        · exact ⟨o, ho⟩
theorem litTree_out (t : Tr AObj) (i : Nat) : ∀ (l : List (Nat × AObj)), hasIn l i = false → (litTree l t).get .none (pathOf i) = t.get .none (pathOf i)
  | [], _ => rfl
  | x :: l, h => by
    change cond (Nat.beq x.1 i) true (hasIn l i) = false at h
    cases h1 : Nat.beq x.1 i with
    | true => rw [h1] at h; simp at h
    | false =>
      rw [h1] at h
      have h2 : x.1 ≠ i := fun hh => by rw [nbeq.2 hh] at h1; cases h1
      show ((litTree l t).set .none x.2 (pathOf x.1)).get .none (pathOf i) = _
      rw [Tr.get_set, if_neg (fun hh => h2 (pathOf_inj hh).symm)]
      exact litTree_out t i l h
theorem litTree_in {t : Tr AObj} {q : Nat → AObj → Prop} : ∀ (l : List (Nat × AObj)), (∀ x ∈ l, q x.1 x.2) → ∀ i, hasIn l i = true → q i ((litTree l t).get .none (pathOf i))
  | [], _, i, h => by cases h
  | x :: l, hq, i, h => by
    show q i (((litTree l t).set .none x.2 (pathOf x.1)).get .none (pathOf i))
    rw [Tr.get_set]
    by_cases h2 : x.1 = i
    · subst h2
      rw [if_pos rfl]
      exact hq x (by simp)
    · rw [if_neg (fun hh => h2 (pathOf_inj hh).symm)]
      refine litTree_in l (fun y hy => hq y (by simp [hy])) i ?_
      change cond (Nat.beq x.1 i) true (hasIn l i) = true at h
      cases h1 : Nat.beq x.1 i with
      | true => exact (h2 (nbeq.1 h1)).elim
      | false => rw [h1] at h; exact h

/-- THE FRAME: what a call does to the part of memory that it looks at, it does to all of it -/
theorem frame_post {P : Program} {ρ ρ' : Emb} {h g g' h' : H} {w w' : World} (W : WRel P ρ h w) {inI outI : Nat → Prop} (hn : g.next = h.next) (hl : g.lo = 1) (hl' : h.lo = 1)
    (ha : ∀ i, inI i → g.get i = h.get i) (hb : ∀ i, ¬ inI i → g.get i = .none) (hc : ∀ i cs e s p, g.get i = .arr cs e s p → p = 0 ∨ inI p)
    (hd : ∀ i, inI i → outI i) (he : ∀ i, outI i → inI i ∨ h.next ≤ i) (hf : ∀ i, outI i → h'.get i = g'.get i) (hg : ∀ i, ¬ outI i → h'.get i = h.get i) (h1 : ∀ i, inI i → 1 ≤ i)
    (hn' : h'.next = g'.next) (hlo : h'.lo = h.lo) (p : Post P ρ g w ρ' g' w') : Post P ρ h w ρ' h' w' := by
  have fresh : ∀ i e, ρ' i = some e → ρ i = some e ∨ h.next ≤ i := fun i e hi => hn ▸ p.fresh i e hi
  have inside : ∀ i, g.get i ≠ .none → inI i := fun i hi => Classical.byContradiction fun hh => hi (hb i hh)
  -- what lies outside shares no block with what lies inside
  have apart : ∀ i e, ρ i = some e → ¬ inI i → h.get i ≠ .none → ¬ Foot ρ g e.block := by
    rintro i e hi hni hne ⟨j, ej, hj, hgj, hbj⟩
    have hij := inside j hgj
    have hne' : i ≠ j := fun hh => hni (hh ▸ hij)
    rcases W.sep i j e ej hi hj hne' hbj.symm with x | x | ⟨_, _, _, cs, e2, s2, _, x⟩
    · exact hne x
    · exact hgj (by rw [ha j hij]; exact x)
    · rcases hc j cs e2 s2 i (by rw [ha j hij]; exact x) with h0 | h0
      · have := (W.dom i e hi).1; omega
      · exact hni h0
  have outside : ∀ i e, ρ' i = some e → ¬ outI i → h.get i ≠ .none → ρ i = some e ∧ ¬ inI i ∧ i < h.next := by
    intro i e hi ho hne
    have hlt : i < h.next := Nat.lt_of_not_le fun hh => hne (W.above i hh)
    exact ⟨(fresh i e hi).resolve_right (by omega), fun hh => ho (hd i hh), hlt⟩
  have far : ∀ i j ei ej, ρ' i = some ei → ρ' j = some ej → outI i → ¬ outI j → ei.block = ej.block → h'.get i = .none ∨ h'.get j = .none := by
    intro i j ei ej hi hj hoi hoj hbl
    rw [hf i hoi, hg j hoj]
    by_cases hgi : g'.get i = .none
    · exact .inl hgi
    · refine .inr (Classical.byContradiction fun hne => ?_)
      obtain ⟨hj', hnj, hjl⟩ := outside j ej hj hoj hne
      rcases p.foot ei.block ⟨i, ei, hi, hgi, rfl⟩ with x | x
      · rw [hbl] at x; exact apart j ej hj' hnj hne x
      · have := (W.dom j ej hj').2.2; omega
  have footUp : ∀ b, Foot ρ g b → Foot ρ h b := by
    rintro b ⟨i, e, hi, hgi, hbi⟩
    exact ⟨i, e, hi, by rw [← ha i (inside i hgi)]; exact hgi, hbi⟩
  refine ⟨p.sub, fresh, ⟨?_, ?_, ?_, ?_, ?_, ?_, ?_⟩, ⟨p.keep.size, fun b hb' hfb => p.keep.same b hb' fun hh => hfb (footUp b hh), p.keep.tape, p.keep.os, p.keep.output⟩, ?_, hlo, ?_, ?_, ?_⟩
  · intro i e hi; rw [hn']; exact p.rel.dom i e hi
  · intro i e hi
    by_cases ho : outI i
    · rw [hf i ho]; exact p.rel.obj i e hi
    · rw [hg i ho]
      by_cases hne : h.get i = .none
      · rw [hne]; trivial
      · obtain ⟨hi', hni, hil⟩ := outside i e hi ho hne
        rw [p.keep.same _ (W.dom i e hi').2.2 (apart i e hi' hni hne)]
        exact (W.obj i e hi').mono p.sub
  · intro i j ei ej hi hj hne hbl
    by_cases hoi : outI i
    · by_cases hoj : outI j
      · rw [hf i hoi, hf j hoj]
        rcases p.rel.sep i j ei ej hi hj hne hbl with x | x | ⟨cs, e1, s1, cs', e2, s2, x, y⟩
        · exact .inl x
        · exact .inr (.inl x)
        · exact .inr (.inr ⟨cs, e1, s1, cs', e2, s2, by rw [hf i hoi]; exact x, by rw [hf j hoj]; exact y⟩)
      · rcases far i j ei ej hi hj hoi hoj hbl with x | x
        · exact .inl x
        · exact .inr (.inl x)
    · by_cases hoj : outI j
      · rcases far j i ej ei hj hi hoj hoi hbl.symm with x | x
        · exact .inr (.inl x)
        · exact .inl x
      · rw [hg i hoi, hg j hoj]
        by_cases hni : h.get i = .none
        · exact .inl hni
        · by_cases hnj : h.get j = .none
          · exact .inr (.inl hnj)
          · obtain ⟨hi', _, _⟩ := outside i ei hi hoi hni
            obtain ⟨hj', _, _⟩ := outside j ej hj hoj hnj
            rcases W.sep i j ei ej hi' hj' hne hbl with x | x | ⟨cs, e1, s1, cs', e2, s2, x, y⟩
            · exact .inl x
            · exact .inr (.inl x)
            · exact .inr (.inr ⟨cs, e1, s1, cs', e2, s2, by rw [hg i hoi]; exact x, by rw [hg j hoj]; exact y⟩)
  · have := p.rel.low; have := p.lo; rw [hlo, hn']; omega
  · rw [hn']; exact p.rel.pos
  · intro i e hi
    by_cases ho : outI i
    · rw [hf i ho]; exact p.rel.peer i e hi
    · rw [hg i ho]
      by_cases hne : h.get i = .none
      · rw [hne]; exact PeerIn.none
      · exact (W.peer i e (outside i e hi ho hne).1).mono p.sub
  · intro i hi
    rw [hn'] at hi
    by_cases ho : outI i
    · rw [hf i ho]; exact p.rel.above i hi
    · rw [hg i ho]; exact W.above i (by have := p.next; omega)
  · rintro b ⟨i, e, hi, hgi, hbi⟩
    by_cases ho : outI i
    · rw [hf i ho] at hgi
      exact (p.foot b ⟨i, e, hi, hgi, hbi⟩).imp (footUp b) id
    · rw [hg i ho] at hgi
      exact .inl ⟨i, e, (outside i e hi ho hgi).1, hgi, hbi⟩
  · intro i hi
    by_cases ho : outI i
    · have := he i ho
      have hp := W.pos
      rcases this with x | x
      · have := h1 i x; omega
      · omega
    · exact hg i ho
  · rw [hn', ← hn]; exact p.next
  · intro i hi hr
    by_cases ho : outI i
    · have hin := (he i ho).resolve_right (by omega)
      rw [hf i ho, p.off i (by omega) hr, ha i hin]
    · exact hg i ho


/-- the part of memory that a list of numbers names -/
theorem WRel.part {P : Program} {ρ : Emb} {h g : H} {w : World} (W : WRel P ρ h w) (hn : g.next = h.next) (hl : g.lo = 1) (hc : ∀ i, g.get i = .none ∨ g.get i = h.get i) : WRel P ρ g w := by
  refine ⟨fun i e hie => ?_, fun i e hie => ?_, fun i j ei ej hii hjj hne hbl => ?_, ?_, ?_, fun i e hie => ?_, fun i hii => ?_⟩
  · have := W.dom i e hie; rw [← hn] at this; exact this
  · rcases hc i with x | x
    · rw [x]; trivial
    · rw [x]; exact W.obj i e hie
  · rcases hc i with x | x
    · exact .inl x
    · rcases hc j with y | y
      · exact .inr (.inl y)
      · rw [x, y]
        rcases W.sep i j ei ej hii hjj hne hbl with z | z | ⟨cs, e1, s1, cs', e2, s2, z1, z2⟩
        · exact .inl z
        · exact .inr (.inl z)
        · exact .inr (.inr ⟨cs, e1, s1, cs', e2, s2, by rw [x]; exact z1, by rw [y]; exact z2⟩)
  · rw [hn, hl]; exact W.pos
  · rw [hn]; exact W.pos
  · rcases hc i with x | x
    · rw [x]; exact PeerIn.none
    · rw [x]; exact W.peer i e hie
  · rcases hc i with x | x
    · exact x
    · rw [x]; exact W.above i (by rw [← hn]; exact hii)
end Go.Proofs.YtfkpcifchgnmnaaGreatDoor.Ev
end

noncomputable section
namespace Go.Proofs.YtfkpcifchgnmnaaGreatDoor.Ev

theorem hasNat_iff (x : Nat) : ∀ (l : List Nat), hasNat l x = true ↔ x ∈ l
  | [] => by simp [hasNat]
  | y :: l => by
    have ih := hasNat_iff x l
    show cond (Nat.beq y x) true (hasNat l x) = true ↔ _
    cases h1 : Nat.beq y x with
    | true => simp [nbeq.1 h1]
    | false =>
      have h2 : y ≠ x := fun hh => by rw [nbeq.2 hh] at h1; cases h1
      simp only [cond_false, ih, List.mem_cons]
      exact ⟨.inr, fun h => h.resolve_left fun hh => h2 hh.symm⟩

/-! numbers anew -/
section
variable {ρ2 ρ3 : Emb} {lo : Nat} {t : Tr Nat} (K : ∀ i q e, renI lo t i = q → q ≠ 0 → ρ2 i = some e → ρ3 q = some e)
include K
theorem VRels.ren {f : AV → AV} (hf : ∀ a v, VRel ρ2 a v → VRel ρ3 (f a) v) : ∀ {l : List AV} {vs : List Value}, VRels ρ2 l vs → VRels ρ3 (lmap f l) vs
  | [], vs, h => by simp only [VRels] at h; subst h; exact VRels.nil
  | a :: l, vs, h => by
    simp only [VRels] at h
    obtain ⟨v, ws, rfl, p, q⟩ := h
    exact VRels.cons (hf a v p) (VRels.ren hf q)
theorem VRel.ren : ∀ (n : Nat) (a : AV) (v : Value), VRel ρ2 a v → VRel ρ3 (renV lo t n a) v := by
  intro n
  induction n with
  | zero => intro a v _; show VRel ρ3 .poison v; simp [VRel]
  | succ n ih =>
    intro a v h
    cases a with
    | ptr i o =>
      show VRel ρ3 (match renI lo t i with | 0 => .poison | Nat.succ j => .ptr (Nat.succ j) o) v
      generalize hq : renI lo t i = q
      cases q with
      | zero => simp [VRel]
      | succ j =>
        simp only [VRel] at h ⊢
        obtain ⟨e, he, r⟩ := h
        exact ⟨e, K i _ e hq (by omega) he, r⟩
    | slice i o l c =>
      show VRel ρ3 (match renI lo t i with | 0 => .poison | Nat.succ j => .slice (Nat.succ j) o l c) v
      generalize hq : renI lo t i = q
      cases q with
      | zero => simp [VRel]
      | succ j =>
        cases c with
        | none =>
          simp only [VRel] at h ⊢
          obtain ⟨e, x, y, he, r⟩ := h
          exact ⟨e, x, y, K i _ e hq (by omega) he, r⟩
        | some c =>
          simp only [VRel] at h ⊢
          obtain ⟨e, x, he, r⟩ := h
          exact ⟨e, x, K i _ e hq (by omega) he, r⟩
    | map i =>
      show VRel ρ3 (match renI lo t i with | 0 => .poison | Nat.succ j => .map (Nat.succ j)) v
      generalize hq : renI lo t i = q
      cases q with
      | zero => simp [VRel]
      | succ j =>
        simp only [VRel] at h ⊢
        obtain ⟨e, he, r⟩ := h
        exact ⟨e, K i _ e hq (by omega) he, r⟩
    | func f a b =>
      cases f with
      | func f =>
        show VRel ρ3 (.func (.func f) (lmap (renV lo t n) a) (lmap (renV lo t n) b)) v
        simp only [VRel] at h ⊢
        obtain ⟨x, y, r, p, q⟩ := h
        exact ⟨x, y, r, VRels.ren K ih p, VRels.ren K ih q⟩
      | yield l => show VRel ρ3 .poison v; simp [VRel]
    | iface k x =>
      show VRel ρ3 (.iface k (renV lo t n x)) v
      simp only [VRel] at h ⊢
      obtain ⟨u, r, p⟩ := h
      exact ⟨u, r, ih x u p⟩
    | agg l =>
      show VRel ρ3 (.agg (lmap (renV lo t n) l)) v
      simp only [VRel] at h ⊢
      obtain ⟨vs, r, p, q⟩ := h
      exact ⟨vs, r, VRels.ren K ih p, q⟩
    | tuple l =>
      show VRel ρ3 (.tuple (lmap (renV lo t n) l)) v
      simp only [VRel] at h ⊢
      obtain ⟨vs, r, p⟩ := h
      exact ⟨vs, r, VRels.ren K ih p⟩
    | bool b => show VRel ρ3 (.bool b) v; simp only [VRel] at *; exact h
    | int k x => show VRel ρ3 (.int k x) v; simp only [VRel] at *; exact h
    | str s => show VRel ρ3 (.str s) v; simp only [VRel] at *; exact h
    | nilp => show VRel ρ3 .nilp v; simp only [VRel] at *; exact h
    | nils => show VRel ρ3 .nils v; simp only [VRel] at *; exact h
    | nilm => show VRel ρ3 .nilm v; simp only [VRel] at *; exact h
    | nilf => show VRel ρ3 .nilf v; simp only [VRel] at *; exact h
    | nili => show VRel ρ3 .nili v; simp only [VRel] at *; exact h
    | poison => show VRel ρ3 .poison v; simp [VRel]
theorem MRels.ren : ∀ {l : List (AV × AV × Nat)} {m : List MapEntry}, MRels ρ2 l m → MRels ρ3 (lmap (renE lo t) l) m
  | [], m, h => by simp only [MRels] at h; subst h; show MRels ρ3 [] []; simp [MRels]
  | (k, v, b) :: l, m, h => by
    simp only [MRels] at h
    obtain ⟨x, ys, rfl, p, q, r, u⟩ := h
    show MRels ρ3 ((renV lo t 8 k, renV lo t 8 v, b) :: lmap (renE lo t) l) (x :: ys)
    simp only [MRels]
    exact ⟨x, ys, rfl, VRel.ren K 8 _ _ p, VRel.ren K 8 _ _ q, r, MRels.ren u⟩
theorem ORel.ren {P : Program} {e : Ext} {x : Option Obj} : ∀ {o : AObj}, ORel P ρ2 e x o → ORel P ρ3 e x (renO lo t o)
  | .none, _ => trivial
  | .arr cs el sz p, h => by
    have key : ∀ q, ORel P ρ3 e x (.arr (lmap (renV lo t 8) cs) el sz q) := by
      intro q
      obtain ⟨c, a1, a2, a3, a4, a6⟩ := h
      refine ⟨c, a1, a2, by rw [lmap_eq, List.length_map]; exact a3, a4, fun i a hi => ?_⟩
      rw [lmap_eq, List.getElem?_map] at hi
      cases hci : cs[i]? with
      | none => rw [hci] at hi; cases hi
      | some a' =>
        rw [hci] at hi
        simp only [Option.map_some, Option.some.injEq] at hi
        subst hi
        obtain ⟨v, r, s, u⟩ := a6 i a' hci
        exact ⟨v, r, VRel.ren K 8 _ _ s, u⟩
    cases p with
    | zero => exact key 0
    | succ p =>
      show ORel P ρ3 e x (match renI lo t (Nat.succ p) with | 0 => .none | Nat.succ q => .arr (lmap (renV lo t 8) cs) el sz (Nat.succ q))
      generalize renI lo t (Nat.succ p) = q
      cases q with
      | zero => trivial
      | succ q => exact key _
  | .map es c, h => by
    obtain ⟨a0, es', a1, a2⟩ := h
    exact ⟨a0, es', a1, MRels.ren K a2⟩
  | .mapIter _ _ _ _, _ => trivial
  | .loop _ _ _ _ _ _, _ => trivial
  | .deferred, _ => trivial
theorem PeerIn.ren : ∀ {o : AObj}, PeerIn ρ2 o → PeerIn ρ3 (renO lo t o)
  | .none, _ => PeerIn.none
  | .arr cs el sz p, h => by
    cases p with
    | zero => exact PeerIn.zero
    | succ p =>
      show PeerIn ρ3 (match renI lo t (Nat.succ p) with | 0 => .none | Nat.succ q => .arr (lmap (renV lo t 8) cs) el sz (Nat.succ q))
      generalize hq : renI lo t (Nat.succ p) = q
      cases q with
      | zero => exact PeerIn.none
      | succ q =>
        intro _ _ _ _ hh
        injection hh with _ _ _ hh
        subst hh
        rcases h cs el sz _ rfl with x | ⟨e, x⟩
        · omega
        · exact .inr ⟨e, K _ _ e hq (by omega) x⟩
  | .map es c, _ => fun _ _ _ _ h => by cases h
  | .mapIter _ _ _ _, _ => PeerIn.none
  | .loop _ _ _ _ _ _, _ => PeerIn.none
  | .deferred, _ => PeerIn.none
end

theorem numbers_spec (b : Nat) : ∀ (l : List Nat) (n : Nat), (numbers n l).get 0 (pathOf b) = 0 ∨ (n ≤ (numbers n l).get 0 (pathOf b) ∧ l[(numbers n l).get 0 (pathOf b) - n]? = some b)
  | [], _ => .inl rfl
  | x :: l, n => by
    show ((numbers (Nat.succ n) l).set 0 n (pathOf x)).get 0 (pathOf b) = 0 ∨ _ ≤ ((numbers (Nat.succ n) l).set 0 n (pathOf x)).get 0 (pathOf b) ∧ (x :: l)[((numbers (Nat.succ n) l).set 0 n (pathOf x)).get 0 (pathOf b) - n]? = some b
    rw [Tr.get_set]
    by_cases h : b = x
    · subst h
      rw [if_pos rfl]
      exact .inr ⟨Nat.le_refl _, by simp⟩
    · rw [if_neg (fun hh => h (pathOf_inj hh))]
      rcases numbers_spec b l (Nat.succ n) with h1 | ⟨h1, h2⟩
      · exact .inl h1
      · refine .inr ⟨by omega, ?_⟩
        obtain ⟨q, hq⟩ : ∃ q, (numbers (Nat.succ n) l).get 0 (pathOf b) = q := ⟨_, rfl⟩
        rw [hq] at h1 h2 ⊢
        rw [show q - n = (q - Nat.succ n) + 1 by omega, List.getElem?_cons_succ]
        exact h2
def newAt (lo : Nat) (t : Tr Nat) (h : H) (n b : Nat) : AObj := cond (cond (Nat.ble lo b) (Nat.beq (t.get 0 (pathOf b)) n) false) (renO lo t (h.get b)) .none
theorem newsOf_mem (lo : Nat) (t : Tr Nat) (h : H) : ∀ (l : List Nat) (n : Nat) (x : Nat × AObj), x ∈ newsOf lo t h n l → n ≤ x.1 ∧ ∃ b, l[x.1 - n]? = some b ∧ x.2 = newAt lo t h x.1 b
  | [], _, x, hx => by simp [newsOf] at hx
  | b :: l, n, x, hx => by
    change x ∈ (n, newAt lo t h n b) :: newsOf lo t h (Nat.succ n) l at hx
    rcases List.mem_cons.1 hx with rfl | hx
    · exact ⟨Nat.le_refl _, b, by simp, rfl⟩
    · obtain ⟨h1, b', h2, h3⟩ := newsOf_mem lo t h l (Nat.succ n) x hx
      refine ⟨by omega, b', ?_, h3⟩
      rw [show x.1 - n = (x.1 - Nat.succ n) + 1 by omega, List.getElem?_cons_succ]
      exact h2
end Go.Proofs.YtfkpcifchgnmnaaGreatDoor.Ev
end

noncomputable section
namespace Go.Proofs.YtfkpcifchgnmnaaGreatDoor.Ev

theorem hasIn_append (a b : List (Nat × AObj)) (i : Nat) (h : hasIn (a ++ b) i = false) : hasIn a i = false ∧ hasIn b i = false := by
  constructor
  · cases hh : hasIn a i with
    | false => rfl
    | true =>
      obtain ⟨o, ho⟩ := (hasIn_iff i a).1 hh
      have := (hasIn_iff i (a ++ b)).2 ⟨o, List.mem_append_left _ ho⟩
      rw [h] at this; cases this
  · cases hh : hasIn b i with
    | false => rfl
    | true =>
      obtain ⟨o, ho⟩ := (hasIn_iff i b).1 hh
      have := (hasIn_iff i (a ++ b)).2 ⟨o, List.mem_append_right _ ho⟩
      rw [h] at this; cases this

/-- one way of a call, numbered anew -/
theorem esum_ok {P : Program} {ρ ρ2 : Emb} {g g2 : H} {w w2 : World} (Wg : WRel P ρ g w) (hlo : g.lo = 1) {R : List Nat} (hRin : ∀ i, g.get i ≠ .none → i ∈ R)
    (hR : ∀ i ∈ R, 1 ≤ i ∧ i < g.next ∧ sameO (g.get i) (g.get i) = true) (p : Post P ρ g w ρ2 g2 w2) {v : AV} {u : Value} (hv : VRel ρ2 v u) {new : List Nat} {t : Tr Nat} (ht : t = numbers g.next new)
    {L : List (Nat × AObj)} (hL : L = oldsOf g.next t g g2 R ++ newsOf g.next t g2 g.next new) :
    ∃ ρ3, Post P ρ g w ρ3 (memoH L (g.next + new.length)) w2 ∧ VRel ρ3 (renV g.next t 8 v) u := by
  have hn1 := Wg.pos
  -- where things lie
  let ρ3 : Emb := fun i => if i < g.next then ρ i else match new[i - g.next]? with | some b => ρ2 b | none => none
  have old3 : ∀ i, i < g.next → ρ3 i = ρ i := fun i hi => if_pos hi
  have new3 : ∀ i b, g.next ≤ i → new[i - g.next]? = some b → ρ3 i = ρ2 b := by
    intro i b hi hb
    show (if i < g.next then ρ i else match new[i - g.next]? with | some b => ρ2 b | none => none) = _
    rw [if_neg (by omega), hb]
  have new3' : ∀ i e, g.next ≤ i → ρ3 i = some e → ∃ b, new[i - g.next]? = some b ∧ ρ2 b = some e := by
    intro i e hi he
    have he' : (if i < g.next then ρ i else match new[i - g.next]? with | some b => ρ2 b | none => none) = some e := he
    rw [if_neg (by omega)] at he'
    cases hb : new[i - g.next]? with
    | none => rw [hb] at he'; cases he'
    | some b => rw [hb] at he'; exact ⟨b, rfl, he'⟩
  have low2 : ∀ i e, i < g.next → ρ2 i = some e → ρ i = some e := fun i e hi he => (p.fresh i e he).resolve_right (by omega)
  have K : ∀ i q e, renI g.next t i = q → q ≠ 0 → ρ2 i = some e → ρ3 q = some e := by
    intro i q e hq hq0 he
    unfold renI at hq
    cases hb : Nat.blt i g.next with
    | true =>
      rw [hb] at hq
      simp only [cond_true] at hq
      subst hq
      rw [old3 _ (nblt.1 hb)]
      exact low2 _ e (nblt.1 hb) he
    | false =>
      rw [hb] at hq
      simp only [cond_false] at hq
      rw [ht] at hq
      rcases numbers_spec i new g.next with h1 | ⟨h1, h2⟩
      · rw [hq] at h1; exact (hq0 h1).elim
      · rw [hq] at h1 h2
        rw [new3 q i h1 h2]; exact he
  have sub3 : Sub ρ ρ3 := fun i e he => by rw [old3 i (Wg.dom i e he).2.1]; exact he
  refine ⟨ρ3, ?_, VRel.ren K 8 v u hv⟩
  -- what lies there
  let obj : Nat → AObj → Prop := fun i o => (i < g.next → i ∈ R ∧ o = cond (sameO (g2.get i) (g.get i)) (g.get i) (renO g.next t (g2.get i))) ∧ (g.next ≤ i → ∃ b, new[i - g.next]? = some b ∧ o = newAt g.next t g2 i b)
  have hobj : ∀ x ∈ L, obj x.1 x.2 := by
    intro x hx
    rw [hL, List.mem_append] at hx
    rcases hx with hx | hx
    · unfold oldsOf at hx
      rw [lmap_eq, List.mem_map] at hx
      obtain ⟨i, hi, rfl⟩ := hx
      exact ⟨fun _ => ⟨hi, rfl⟩, fun hh => by have := (hR i hi).2.1; simp only at hh; omega⟩
    · obtain ⟨h1, b, h2, h3⟩ := newsOf_mem g.next t g2 new g.next x hx
      exact ⟨fun hh => by omega, fun _ => ⟨b, h2, h3⟩⟩
  have hin : ∀ i, hasIn L i = true → obj i ((memoH L (g.next + new.length)).get i) := fun i hi => litTree_in L hobj i hi
  have hout : ∀ i, hasIn L i = false → (memoH L (g.next + new.length)).get i = .none := fun i hi => by
    show (litTree L .nil).get .none (pathOf i) = _
    rw [litTree_out _ _ _ hi]; rfl
  have hinR : ∀ i, i ∈ R → hasIn L i = true := by
    intro i hi
    refine (hasIn_iff i L).2 ⟨cond (sameO (g2.get i) (g.get i)) (g.get i) (renO g.next t (g2.get i)), ?_⟩
    rw [hL, List.mem_append]
    left
    unfold oldsOf
    rw [lmap_eq, List.mem_map]
    exact ⟨i, hi, rfl⟩
  generalize hG : memoH L (g.next + new.length) = G at hin hout ⊢
  have hGn : G.next = g.next + new.length := by rw [← hG]; rfl
  have hGl : G.lo = 1 := by rw [← hG]; rfl
  -- an object that lies there, and where it came from
  have live : ∀ i e, ρ3 i = some e → G.get i ≠ .none → ∃ b, ρ2 b = some e ∧ g2.get b ≠ .none ∧
      ((i < g.next ∧ b = i ∧ ρ i = some e ∧ G.get i = cond (sameO (g2.get i) (g.get i)) (g.get i) (renO g.next t (g2.get i))) ∨
       (g.next ≤ i ∧ g.next ≤ b ∧ t.get 0 (pathOf b) = i ∧ G.get i = renO g.next t (g2.get b))) := by
    intro i e he hne
    have hi : hasIn L i = true := by
      cases hh : hasIn L i with
      | true => rfl
      | false => exact (hne (hout i hh)).elim
    obtain ⟨o1, o2⟩ := hin i hi
    rcases Nat.lt_or_ge i g.next with hlt | hge
    · obtain ⟨r1, r2⟩ := o1 hlt
      rw [old3 i hlt] at he
      refine ⟨i, p.sub _ _ he, ?_, .inl ⟨hlt, rfl, he, r2⟩⟩
      intro hz
      apply hne
      rw [r2, hz]
      cases hs : sameO .none (g.get i) with
      | true => exact (sameO_sound hs).symm
      | false => rfl
    · obtain ⟨b, r1, r2⟩ := o2 hge
      have hb : ρ2 b = some e := by rw [← new3 i b hge r1]; exact he
      unfold newAt at r2
      cases h1 : Nat.ble g.next b with
      | false => rw [h1] at r2; exact (hne r2).elim
      | true =>
        cases h2 : Nat.beq (t.get 0 (pathOf b)) i with
        | false => rw [h1, h2] at r2; exact (hne r2).elim
        | true =>
          rw [h1, h2] at r2
          refine ⟨b, hb, ?_, .inr ⟨hge, nble.1 h1, nbeq.1 h2, r2⟩⟩
          intro hz
          apply hne
          rw [r2, hz]; rfl
  have dom3 : ∀ i e, ρ3 i = some e → 1 ≤ i ∧ i < g.next + new.length ∧ e.block < w2.heap.size := by
    intro i e he
    rcases Nat.lt_or_ge i g.next with hlt | hge
    · rw [old3 i hlt] at he
      have := Wg.dom i e he
      have := p.keep.size
      omega
    · obtain ⟨b, h1, h2⟩ := new3' i e hge he
      have hb := (List.getElem?_eq_some_iff.1 h1).1
      have := (p.rel.dom b e h2).2.2
      omega
  -- a row's peer keeps its number
  have peers : ∀ i j e e' bi bj cs el sz, ρ3 j = some e' → G.get i ≠ .none →
      (i < g.next ∧ bi = i ∧ ρ i = some e ∧ G.get i = cond (sameO (g2.get i) (g.get i)) (g.get i) (renO g.next t (g2.get i))) ∨ (g.next ≤ i ∧ g.next ≤ bi ∧ t.get 0 (pathOf bi) = i ∧ G.get i = renO g.next t (g2.get bi)) →
      (j < g.next ∧ bj = j) ∨ (g.next ≤ j ∧ g.next ≤ bj ∧ t.get 0 (pathOf bj) = j) → ρ2 bj = some e' → g2.get bi = .arr cs el sz bj → ∃ cs', G.get i = .arr cs' el sz j := by
    intro i j e e' bi bj cs el sz hj hne hi hjj hbj hg
    have hj1 := (dom3 j e' hj).1
    have hbj1 := (p.rel.dom bj e' hbj).1
    have hren : renI g.next t bj = j := by
      unfold renI
      rcases hjj with ⟨x, rfl⟩ | ⟨x, y, z⟩
      · rw [nblt.2 x]; rfl
      · rw [show Nat.blt bj g.next = false from by
          cases hb : Nat.blt bj g.next with
          | false => rfl
          | true => have := nblt.1 hb; omega]
        exact z
    have renArr : renO g.next t (.arr cs el sz bj) = .arr (lmap (renV g.next t 8) cs) el sz j := by
      obtain ⟨q, rfl⟩ : ∃ q, bj = q + 1 := ⟨bj - 1, by omega⟩
      obtain ⟨r, rfl⟩ : ∃ r, j = r + 1 := ⟨j - 1, by omega⟩
      show (match renI g.next t (Nat.succ q) with | 0 => AObj.none | Nat.succ q => .arr (lmap (renV g.next t 8) cs) el sz (Nat.succ q)) = _
      rw [show renI g.next t (Nat.succ q) = Nat.succ r from hren]
    rcases hi with ⟨x1, rfl, x3, x4⟩ | ⟨x1, x2, x3, x4⟩
    · rw [hg] at x4
      cases hs : sameO (.arr cs el sz bj) (g.get bi) with
      | false =>
        rw [hs] at x4
        exact ⟨_, by rw [x4]; exact renArr⟩
      | true =>
        rw [hs] at x4
        have hgi := sameO_sound hs
        have hbj' : bj = j := by
          rcases Wg.peer bi e x3 cs el sz bj hgi.symm with z | ⟨e2, z⟩
          · omega
          · have := (Wg.dom bj e2 z).2.1
            rcases hjj with ⟨_, y⟩ | ⟨_, y, _⟩
            · exact y
            · omega
        subst hbj'
        exact ⟨cs, by rw [x4]; exact hgi.symm⟩
    · rw [hg] at x4
      exact ⟨_, by rw [x4]; exact renArr⟩
  refine ⟨sub3, ?_, ⟨?_, ?_, ?_, ?_, ?_, ?_, ?_⟩, p.keep, ?_, by rw [hGl, hlo], ?_, by rw [hGn]; omega, ?_⟩
  · intro i e he
    rcases Nat.lt_or_ge i g.next with hlt | hge
    · left; rw [old3 i hlt] at he; exact he
    · exact .inr hge
  · intro i e he; rw [hGn]; exact dom3 i e he
  · intro i e he
    by_cases hne : G.get i = .none
    · rw [hne]; trivial
    · obtain ⟨b, h1, _, h3⟩ := live i e he hne
      rcases h3 with ⟨x1, rfl, x3, x4⟩ | ⟨x1, x2, x3, x4⟩
      · rw [x4]
        have ob := p.rel.obj b e h1
        cases hs : sameO (g2.get b) (g.get b) with
        | false => exact ORel.ren K ob
        | true =>
          rw [sameO_sound hs] at ob
          exact ((Wg.obj b e x3).back p.sub ob).mono sub3
      · rw [x4]; exact ORel.ren K (p.rel.obj b e h1)
  · intro i j ei ej hi hj hne hbl
    by_cases hni : G.get i = .none
    · exact .inl hni
    · by_cases hnj : G.get j = .none
      · exact .inr (.inl hnj)
      · right; right
        obtain ⟨bi, i1, i2, i3⟩ := live i ei hi hni
        obtain ⟨bj, j1, j2, j3⟩ := live j ej hj hnj
        have hbb : bi ≠ bj := by
          intro hh
          subst hh
          rcases i3 with ⟨x1, x2, _, _⟩ | ⟨x1, x2, x3, _⟩
          · rcases j3 with ⟨y1, y2, _, _⟩ | ⟨y1, y2, _, _⟩
            · exact hne (x2.symm.trans y2)
            · omega
          · rcases j3 with ⟨y1, y2, _, _⟩ | ⟨_, _, y3, _⟩
            · omega
            · exact hne (x3.symm.trans y3)
        rcases p.rel.sep bi bj ei ej i1 j1 hbb hbl with z | z | ⟨cs, e1, s1, cs', e2, s2, z1, z2⟩
        · exact (i2 z).elim
        · exact (j2 z).elim
        · have si : (i < g.next ∧ bi = i) ∨ (g.next ≤ i ∧ g.next ≤ bi ∧ t.get 0 (pathOf bi) = i) := i3.imp (fun x => ⟨x.1, x.2.1⟩) (fun x => ⟨x.1, x.2.1, x.2.2.1⟩)
          have sj : (j < g.next ∧ bj = j) ∨ (g.next ≤ j ∧ g.next ≤ bj ∧ t.get 0 (pathOf bj) = j) := j3.imp (fun x => ⟨x.1, x.2.1⟩) (fun x => ⟨x.1, x.2.1, x.2.2.1⟩)
          obtain ⟨c1, q1⟩ := peers i j ei ej bi bj cs e1 s1 hj hni i3 sj j1 z1
          obtain ⟨c2, q2⟩ := peers j i ej ei bj bi cs' e2 s2 hi hnj j3 si i1 z2
          exact ⟨c1, e1, s1, c2, e2, s2, q1, q2⟩
  · rw [hGl, hGn]; omega
  · rw [hGn]; omega
  · intro i e he
    by_cases hne : G.get i = .none
    · rw [hne]; exact PeerIn.none
    · obtain ⟨b, h1, _, h3⟩ := live i e he hne
      rcases h3 with ⟨x1, rfl, x3, x4⟩ | ⟨x1, x2, x3, x4⟩
      · rw [x4]
        cases hs : sameO (g2.get b) (g.get b) with
        | false => exact PeerIn.ren K (p.rel.peer b e h1)
        | true => exact (Wg.peer b e x3).mono sub3
      · rw [x4]; exact PeerIn.ren K (p.rel.peer b e h1)
  · intro i hi
    rw [hGn] at hi
    apply hout
    cases hh : hasIn L i with
    | false => rfl
    | true =>
      obtain ⟨_, o2⟩ := hin i hh
      obtain ⟨b, r1, _⟩ := o2 (by omega)
      have := (List.getElem?_eq_some_iff.1 r1).1
      omega
  · rintro b ⟨i, e, he, hne, hb⟩
    obtain ⟨c, h1, h2, _⟩ := live i e he hne
    exact p.foot b ⟨c, e, h1, h2, hb⟩
  · intro i hi
    rw [hlo] at hi
    have h0 : i = 0 := by omega
    subst h0
    have hnot : ¬ (0 ∈ R) := fun hh => by have := (hR 0 hh).1; omega
    have g0 : g.get 0 = .none := Classical.byContradiction fun hh => hnot (hRin 0 hh)
    rw [g0]
    apply hout
    cases hh : hasIn L 0 with
    | false => rfl
    | true => exact (hnot ((hin 0 hh).1 (by omega)).1).elim
  · intro i hi hr
    cases hh : hasIn L i with
    | true =>
      obtain ⟨r1, r2⟩ := (hin i hh).1 hi
      rw [r2, p.off i hi hr, (hR i r1).2.2]
      rfl
    | false =>
      have hnot : ¬ (i ∈ R) := fun hm => by rw [hinR i hm] at hh; cases hh
      rw [hout i hh]
      exact (Classical.byContradiction fun hz => hnot (hRin i fun hy => hz hy.symm))
end Go.Proofs.YtfkpcifchgnmnaaGreatDoor.Ev
end

noncomputable section
namespace Go.Proofs.YtfkpcifchgnmnaaGreatDoor.Ev

theorem sameL_sound : ∀ (a b : List (Nat × AObj)), sameL a b = true → a = b
  | [], [], _ => rfl
  | [], _ :: _, h => by change false = true at h; simp at h
  | _ :: _, [], h => by change false = true at h; simp at h
  | x :: a, y :: b, h => by
    change cond (Nat.beq x.1 y.1) (cond (sameO x.2 y.2) (sameL a b) false) false = true at h
    cases h1 : Nat.beq x.1 y.1 with
    | false => rw [h1] at h; simp at h
    | true =>
      cases h2 : sameO x.2 y.2 with
      | false => rw [h1, h2] at h; simp at h
      | true =>
        rw [h1, h2] at h
        rw [sameL_sound a b h, show x = y from Prod.ext (nbeq.1 h1) (sameO_sound h2)]
theorem esumEq_spec {x y : ESum} {v : AV} {l : List (Nat × AObj)} {n : Nat} (h : esumEq x y = .yes v l n) : x = .yes v l n ∧ y = .yes v l n := by
  cases x with
  | no => cases h
  | yes a m k =>
    cases y with
    | no => cases h
    | yes a' m' k' =>
      simp only [esumEq] at h
      cases h1 : same 8 a a' with
      | false => rw [h1] at h; cases h
      | true =>
        cases h2 : Nat.beq k k' with
        | false => rw [h1, h2] at h; cases h
        | true =>
          cases h3 : sameL m m' with
          | false => rw [h1, h2, h3] at h; cases h
          | true =>
            rw [h1, h2, h3] at h
            have e1 := same_sound 8 _ _ h1
            have e2 := nbeq.1 h2
            have e3 := sameL_sound _ _ h3
            subst e1; subst e2; subst e3
            exact ⟨h, h⟩
theorem ejoin_tree {Q : AV → H → Prop} {g : H} {R : List Nat} : ∀ {o : Out}, VMeets Q o → ∀ v l n, ejoin g R o = .yes v l n → ∃ v0 h0, Q v0 h0 ∧ esumOf g R v0 h0 = .yes v l n
  | .fail, _, _, _, _, h => by cases h
  | .code _ _ _, _, _, _, _, h => by cases h
  | .val v0 h0, hq, _, _, _, h => ⟨v0, h0, hq, h⟩
  | .fork a b, hq, v, l, n, h => by
    obtain ⟨h1, h2⟩ := esumEq_spec (x := ejoin g R a) (y := ejoin g R b) h
    rcases hq with hq | hq
    · exact ejoin_tree hq v l n h1
    · exact ejoin_tree hq v l n h2
theorem partFits_spec {h : H} {R : List Nat} (hf : partFits h R = true) : ∀ i ∈ R, 1 ≤ i ∧ i < h.next ∧ sameO (h.get i) (h.get i) = true ∧ ∀ cs e s p, h.get i = .arr cs e s p → p = 0 ∨ p ∈ R := by
  intro i hi
  have := (lall_iff _ _).1 hf i hi
  cases h1 : Nat.ble 1 i with
  | false => rw [h1] at this; simp at this
  | true =>
    cases h2 : Nat.blt i h.next with
    | false => rw [h1, h2] at this; simp at this
    | true =>
      cases h3 : sameO (h.get i) (h.get i) with
      | false => rw [h1, h2, h3] at this; simp at this
      | true =>
        rw [h1, h2, h3] at this
        simp only [cond_true] at this
        refine ⟨nble.1 h1, nblt.1 h2, rfl, fun cs e s p hp => ?_⟩
        rw [hp] at this
        simp only [peerIn] at this
        cases h4 : Nat.beq p 0 with
        | true => exact .inl (nbeq.1 h4)
        | false => rw [h4] at this; exact .inr ((hasNat_iff p R).1 this)
theorem litTree_base (t t' : Tr AObj) (i : Nat) : ∀ (l : List (Nat × AObj)), hasIn l i = true → (litTree l t).get .none (pathOf i) = (litTree l t').get .none (pathOf i)
  | [], h => by cases h
  | x :: l, h => by
    show ((litTree l t).set .none x.2 (pathOf x.1)).get .none (pathOf i) = ((litTree l t').set .none x.2 (pathOf x.1)).get .none (pathOf i)
    rw [Tr.get_set, Tr.get_set]
    by_cases h2 : i = x.1
    · subst h2; rw [if_pos rfl, if_pos rfl]
    · rw [if_neg (fun hh => h2 (pathOf_inj hh)), if_neg (fun hh => h2 (pathOf_inj hh))]
      refine litTree_base t t' i l ?_
      change cond (Nat.beq x.1 i) true (hasIn l i) = true at h
      cases h1 : Nat.beq x.1 i with
      | true => exact (h2 (nbeq.1 h1).symm).elim
      | false => rw [h1] at h; exact h
theorem partH_in {h : H} {R : List Nat} {i : Nat} (hi : i ∈ R) : (partH h R).get i = h.get i := by
  have hm : hasIn (lmap (fun i => (i, h.get i)) R) i = true := (hasIn_iff i _).2 ⟨h.get i, by rw [lmap_eq, List.mem_map]; exact ⟨i, hi, rfl⟩⟩
  refine (litTree_in (t := .nil) (q := fun i o => o = h.get i) _ ?_ i hm)
  intro x hx
  rw [lmap_eq, List.mem_map] at hx
  obtain ⟨j, _, rfl⟩ := hx
  rfl
theorem partH_out {h : H} {R : List Nat} {i : Nat} (hi : i ∉ R) : (partH h R).get i = .none := by
  show (litTree _ .nil).get .none (pathOf i) = _
  rw [litTree_out]
  · rfl
  · cases hh : hasIn (lmap (fun i => (i, h.get i)) R) i with
    | false => rfl
    | true =>
      obtain ⟨o, ho⟩ := (hasIn_iff i _).1 hh
      rw [lmap_eq, List.mem_map] at ho
      obtain ⟨j, hj, he⟩ := ho
      injection he with he _
      subst he
      exact (hi hj).elim

section
variable {P : Program} {ρ : Emb} {h : H} {w : World}
theorem ejoined_ok (W : WRel P ρ h w) {G : Value → World → Prop} {call : H → Out} {args : List AV}
    (hc : ∀ g, WRel P ρ g w → VMeets (fun v h' => ∃ ρ' w' u, Post P ρ g w ρ' h' w' ∧ VRel ρ' v u ∧ h'.ds = g.ds ∧ G u w') (call g)) :
    VMeets (fun v h' => ∃ ρ' w' u, Post P ρ h w ρ' h' w' ∧ VRel ρ' v u ∧ h'.ds = h.ds ∧ G u w') (ejoined call args h) := by
  unfold ejoined
  generalize reach h 1000000 (idsL args []) .nil [] = R
  simp only
  cases h1 : Nat.beq h.lo 1 with
  | false => trivial
  | true =>
    cases h2 : partFits h R with
    | false => trivial
    | true =>
      simp only [cond_true]
      have hlo := nbeq.1 h1
      have fits := partFits_spec h2
      have Wg : WRel P ρ (partH h R) w := W.part rfl rfl fun i => by
        by_cases hi : i ∈ R
        · exact .inr (partH_in hi)
        · exact .inl (partH_out hi)
      generalize hs : ejoin (partH h R) R (call (partH h R)) = s
      cases s with
      | no => trivial
      | yes v l n =>
        obtain ⟨v0, h0, ⟨ρ', w', u, p, hv, _, g⟩, hsum⟩ := ejoin_tree (hc _ Wg) v l n hs
        unfold esumOf at hsum
        simp only at hsum
        generalize hnew : newIds (partH h R).next (reach h0 1000000 (idsV 8 v0 R) .nil []) = new at hsum
        injection hsum with s1 s2 s3
        rw [lapp_eq] at s2
        have s3' : (partH h R).next + new.length = n := by rw [← s3, llen_eq]; rfl
        obtain ⟨ρ3, p3, hv3⟩ := esum_ok (g := partH h R) Wg rfl (R := R) (fun i hi => Classical.byContradiction fun hh => hi (partH_out hh))
          (fun i hi => by obtain ⟨a, b, c, _⟩ := fits i hi; exact ⟨a, b, by rw [partH_in hi]; exact c⟩) p hv (new := new) rfl s2.symm
        rw [s3'] at p3
        rw [s1] at hv3
        refine ⟨ρ3, w', u, ?_, hv3, rfl, g⟩
        refine frame_post W (g := partH h R) (g' := memoH l n) (inI := fun i => i ∈ R) (outI := fun i => hasIn l i = true) rfl rfl hlo (fun i hi => partH_in hi) (fun i hi => partH_out hi) ?_ ?_ ?_ ?_ ?_ (fun i hi => (fits i hi).1) rfl rfl p3
        · intro i cs e s q hq
          by_cases hi : i ∈ R
          · rw [partH_in hi] at hq
            exact (fits i hi).2.2.2 cs e s q hq
          · rw [partH_out hi] at hq; cases hq
        · intro i hi
          refine (hasIn_iff i l).2 ?_
          rw [← s2]
          unfold oldsOf
          rw [lmap_eq]
          exact ⟨_, List.mem_append_left _ (List.mem_map.2 ⟨i, hi, rfl⟩)⟩
        · intro i hi
          obtain ⟨o, ho⟩ := (hasIn_iff i l).1 hi
          rw [← s2, List.mem_append] at ho
          rcases ho with ho | ho
          · unfold oldsOf at ho
            rw [lmap_eq, List.mem_map] at ho
            obtain ⟨j, hj, he⟩ := ho
            injection he with he _
            subst he
            exact .inl hj
          · exact .inr (newsOf_mem _ _ _ _ _ _ ho).1
        · intro i hi
          exact litTree_base h.tr .nil i l hi
        · intro i hi
          exact litTree_out h.tr i l (by simpa using hi)
theorem ifFork_ok {Q : AV → H → Prop} {o r : Out} (ho : VMeets Q o) (hr : VMeets Q r) : VMeets Q (ifFork o r) := by
  cases o with
  | fork _ _ => exact hr
  | _ => exact ho
end
end Go.Proofs.YtfkpcifchgnmnaaGreatDoor.Ev
end

noncomputable section
namespace Go.Proofs.YtfkpcifchgnmnaaGreatDoor.Ev
section
variable {P : Program} {sf : Self}

theorem leaf_here {ρ : Emb} {h : H} {w : World} {e : Env} {b : Frame} {a : Act} {k : List Item} {cs : List Frame} {n : Nat} {m : Machine} {x : Ex} (H0 : Here P ρ h w e b a n) (hl : Left P m b k cs x a w) : Leaf P ρ h w b k cs n m x e h :=
  ⟨ρ, w, a, Post.refl H0.rel, H0, hl⟩
theorem cmeets_steps {ρ : Emb} {h : H} {w : World} {e : Env} {b : Frame} {a : Act} {k : List Item} {cs : List Frame} {n : Nat} {m m' : Machine} {o : Out} (H0 : Here P ρ h w e b a n) (s : Steps P m m') (hm : CMeets (Leaf P ρ h w b k cs n m') o) : CMeets (Leaf P ρ h w b k cs n m) o :=
  CMeets.mono (fun _ _ _ hl => Leaf.of (Post.refl H0.rel) s hl) hm

theorem codes_ok (S : Sane P) (so : SelfOk P sf) : ∀ c e h, CodeOk P c e h (codeR P c sf e h)
  | .skip, e, h => fun ρ w b a k cs n H0 _ => leaf_here H0 (Steps.one stepR_skip)
  | .region id ops draw, e, h => fun ρ w b a k cs n H0 hok => by
    obtain ⟨h1, h2⟩ := hok
    show CMeets _ (Bool.rec (motive := fun _ => Rest) (opsR P ops ops.toList) (opsD P (Region.before ops).toList ops ops.toList 0 [] []) draw sf e h)
    cases draw with
    | false =>
      have := opsR_ok S so h1 ops.toList 0 rfl ρ h w e b a k cs H0
      rw [List.drop_zero] at this
      exact cmeets_steps H0 (.one stepR_region) this
    | true => exact opsD_ok S so h1 h2 H0
  | .seq x y, e, h => fun ρ w b a k cs n H0 hok => by
    show CMeets _ (seqOut (codeR P y) sf (codeR P x sf e h))
    refine cmeets_steps H0 (.one stepR_seq) (seqOut_ok (y := .code y) (exitTo_code · y k) (gotoIn_code · y k) (codes_ok S so x e h ρ w b a _ cs n H0 hok.1) ?_)
    intro ρ' w' a' e' h' H1
    exact codes_ok S so y e' h' ρ' w' b a' k cs n H1 hok.2
  | .cond c x y, e, h => fun ρ w b a k cs n H0 hok => by
    show CMeets _ (condOut (codeR P x) (codeR P y) sf e h (eval e c))
    refine condOut_ok H0 rfl fun t => ?_
    cases t with
    | false => exact codes_ok S so y e h ρ w b a k cs n H0 hok.2
    | true => exact codes_ok S so x e h ρ w b a k cs n H0 hok.1
  | .block id c, e, h => fun ρ w b a k cs n H0 hok => by
    show CMeets _ (blockOut id (codeR P c sf e h))
    exact cmeets_steps H0 (.one stepR_block) (blockOut_ok (codes_ok S so c e h ρ w b a _ cs n H0 hok))
  | .loop c, e, h => fun ρ w b a k cs n H0 hok => by
    show CMeets _ (seqOut (fun self e h => self (.loop c e h)) sf (codeR P c sf e h))
    refine cmeets_steps H0 (.one stepR_loop) (seqOut_ok (y := .inLoop c) (exitTo_inLoop · c k) (gotoIn_inLoop · c k) (codes_ok S so c e h ρ w b a _ cs n H0 hok) ?_)
    intro ρ' w' a' e' h' H1
    exact so.loop c e' h' ρ' w' b a' k cs n H1 hok
  | .rangeFunc f ps x y, e, h => fun ρ w b a k cs n H0 hok => rangeIn_ok so H0 hok.1 hok.2.1 hok.2.2
  | .exit id, e, h => fun ρ w b a k cs n H0 _ => leaf_here H0 ⟨k, rfl, Steps.refl P _⟩
  | .scope c, e, h => fun ρ w b a k cs n H0 hok => by
    show CMeets _ (scopeOut c sf (codeR P c sf e h))
    exact cmeets_steps H0 (.one stepR_scope) (scopeOut_ok so hok (codes_ok S so c e h ρ w b a _ cs n H0 hok))
  | .label l, e, h => fun ρ w b a k cs n H0 _ => leaf_here H0 (Steps.one stepR_label)
  | .goto l, e, h => fun ρ w b a k cs n H0 _ => leaf_here H0 ⟨k, rfl, Steps.refl P _⟩
  | .ret, e, h => fun ρ w b a k cs n H0 _ => leaf_here H0 ⟨k, Steps.refl P _⟩
  | .refuse _, e, h => fun _ _ _ _ _ _ _ _ _ => trivial

theorem loop_ok (S : Sane P) (so : SelfOk P sf) (c : Code) (e : Env) (h : H) : LoopOk P c e h (codeR P (.loop c) sf e h) := fun ρ w b a k cs n H0 hok => by
  show CMeets _ (seqOut (fun self e h => self (.loop c e h)) sf (codeR P c sf e h))
  refine cmeets_steps H0 (.one stepR_inLoop) (seqOut_ok (y := .inLoop c) (exitTo_inLoop · c k) (gotoIn_inLoop · c k) (codes_ok S so c e h ρ w b a _ cs n H0 hok) ?_)
  intro ρ' w' a' e' h' H1
  exact so.loop c e' h' ρ' w' b a' k cs n H1 hok
theorem scope_ok (S : Sane P) (so : SelfOk P sf) (s c : Code) (e : Env) (h : H) : ScopeOk P s c e h (scopeOut s sf (codeR P c sf e h)) := fun ρ w b a k cs n H0 hs hc =>
  scopeOut_ok so hs (codes_ok S so c e h ρ w b a _ cs n H0 hc)

/-! functions without a body -/
theorem isNamed_iff {fn : Func} {s : String} (h : isNamed fn s = true) : fn.name = s ∧ fn.origin = "" := by
  unfold isNamed at h
  cases hb : fn.name == s with
  | false => rw [hb] at h; simp at h
  | true =>
    rw [hb] at h
    simp only [cond_true] at h
    exact ⟨eq_of_beq hb, eq_of_beq h⟩
theorem callFunc_extern {f : FuncId} {fn : Func} {name : String} {e : Array Value → Sem Value} (hf : P.funcs[f]? = some fn) (hb : fn.body = none) (hn : isNamed fn name = true) (h1 : name ≠ "runtime.NumGoroutine")
    (h2 : Extern.allNextRows.lookup name = none) (h2' : Extern.allNextRows.lookup "" = none) (h3 : Extern.allGenericRows.lookup name = none) (h4 : Extern.allTypedRows.lookup name = none) (h5 : Extern.allRows.lookup name = some e)
    (us : Array Value) (w : World) : (callFunc f us).run P w = ((e us).run P w).andThen fun v w' => .ok (.value v) w' := by
  obtain ⟨n1, n2⟩ := isNamed_iff hn
  have g1 : Extern.findNext fn = none := by simp [Extern.findNext, n1, n2, h2, h2']
  have g2 : Extern.find fn = some e := by simp [Extern.find, n1, h3, h4, h5]
  unfold callFunc
  simp only [Sem.run_bind]
  have hp : (program : Sem Program).run P w = .ok P w := rfl
  simp only [hp, Result.andThen_ok, hf]
  have hne : (fn.name == "runtime.NumGoroutine") = false := by rw [n1]; simpa using h1
  simp only [hne, Bool.false_eq_true, if_false, hb, Option.isNone_none, if_true, Sem.run_bind, g1, g2]
  have hm : (mark (Mark.extern f)).run P w = .ok () w := rfl
  simp only [hm, Result.andThen_ok, Sem.run_pure]

theorem run_clone {t : TypeId} {r : Nat} {es : Array MapEntry} {clock : Nat} {w : World} (hb : w.heap[r]? = some (.map es clock)) :
    (Extern.MapsClone.clone #[.iface t (.map (some r))]).run P w = .ok (.iface t (.map (some w.heap.size))) { w with heap := w.heap.push (.map es clock) } := by
  have e : Extern.MapsClone.clone #[.iface t (.map (some r))] = (getObj r >>= fun o => match o with
      | .map entries clock => (newObj (.map entries clock) >>= fun n => pure (.iface t (.map (some n))))
      | _ => stuck "maps.clone: a map expected") := rfl
  rw [e]
  simp only [Sem.run_bind, run_getMap hb, Result.andThen_ok]
  rfl
theorem compare_spec : ∀ (a b : List UInt8), Lib.compareBytes a b = cond (listEq (a.map UInt8.toNat) (b.map UInt8.toNat)) 0 (cond (byteLess (a.map UInt8.toNat) (b.map UInt8.toNat)) (-1) 1)
  | [], [] => rfl
  | [], _ :: _ => rfl
  | _ :: _, [] => rfl
  | x :: a, y :: b => by
    have ih := compare_spec a b
    unfold Lib.compareBytes
    show _ = cond (cond (Nat.beq x.toNat y.toNat) (listEq (a.map UInt8.toNat) (b.map UInt8.toNat)) false) 0 (cond (cond (Nat.blt x.toNat y.toNat) true (cond (Nat.beq x.toNat y.toNat) (byteLess (a.map UInt8.toNat) (b.map UInt8.toNat)) false)) (-1) 1)
    by_cases hxy : x = y
    · subst hxy
      have h1 : Nat.beq x.toNat x.toNat = true := nbeq.2 rfl
      have h2 : Nat.blt x.toNat x.toNat = false := by
        cases hb : Nat.blt x.toNat x.toNat with
        | false => rfl
        | true => have := nblt.1 hb; omega
      rw [h1, h2]
      simp only [cond_true, cond_false]
      rw [← ih]
      simp
    · have h1 : Nat.beq x.toNat y.toNat = false := by
        cases hb : Nat.beq x.toNat y.toNat with
        | false => rfl
        | true => exact (hxy (UInt8.toNat_inj.1 (nbeq.1 hb))).elim
      rw [h1]
      simp only [cond_false]
      by_cases hlt : x < y
      · have h2 : Nat.blt x.toNat y.toNat = true := nblt.2 (UInt8.lt_iff_toNat_lt.1 hlt)
        rw [h2]; simp [hlt]
      · have h2 : Nat.blt x.toNat y.toNat = false := by
          cases hb : Nat.blt x.toNat y.toNat with
          | false => rfl
          | true => exact (hlt (UInt8.lt_iff_toNat_lt.2 (nblt.1 hb))).elim
        have h3 : y < x := UInt8.lt_of_le_of_ne (UInt8.not_lt.1 hlt) (Ne.symm hxy)
        rw [h2]; simp [hlt, h3]
theorem findNat_off (b : Nat) : ∀ (l : List Nat) (i : Nat), findNat b l i = (findNat b l 0).map (· + i)
  | [], _ => rfl
  | x :: l, i => by
    show cond (Nat.beq x b) (some i) (findNat b l (Nat.succ i)) = Option.map (· + i) (cond (Nat.beq x b) (some 0) (findNat b l (Nat.succ 0)))
    cases Nat.beq x b with
    | true => simp
    | false =>
      simp only [cond_false]
      rw [findNat_off b l (Nat.succ i), findNat_off b l (Nat.succ 0)]
      cases findNat b l 0 with
      | none => rfl
      | some j => simp; omega
theorem index_spec (c : UInt8) : ∀ (l : List UInt8), Lib.indexByte l c = match findNat c.toNat (l.map UInt8.toNat) 0 with | some i => (i : Int) | none => -1
  | [] => rfl
  | x :: l => by
    have ih := index_spec c l
    unfold Lib.indexByte
    show _ = match cond (Nat.beq x.toNat c.toNat) (some 0) (findNat c.toNat (l.map UInt8.toNat) (Nat.succ 0)) with | some i => (i : Int) | none => -1
    by_cases hxc : x = c
    · subst hxc
      rw [nbeq.2 rfl]
      simp
    · have h1 : Nat.beq x.toNat c.toNat = false := by
        cases hb : Nat.beq x.toNat c.toNat with
        | false => rfl
        | true => exact (hxc (UInt8.toNat_inj.1 (nbeq.1 hb))).elim
      have h2 : (x == c) = false := by simpa using hxc
      rw [h1, h2]
      simp only [Bool.false_eq_true, if_false, cond_false]
      rw [findNat_off, ih]
      cases findNat c.toNat (l.map UInt8.toNat) 0 with
      | none => rfl
      | some j =>
        have : ((j : Int) == -1) = false := by
          rw [beq_eq_false_iff_ne]; omega
        simp [this]
theorem externA_ok {f : FuncId} {fn : Func} (hf : P.funcs[f]? = some fn) (hb : fn.body = none) (args : List AV) (h : H) : CallOk P f args h (externA fn args h) := by
  intro ρ w us c cs W hus
  unfold externA
  cases h1 : isNamed fn "maps.clone" with
  | true =>
    simp only [cond_true]
    split
    · rename_i t m
      split
      · rename_i es cl hg
        obtain ⟨U, rfl, hU⟩ := hus.one
        simp only [VRel] at hU
        obtain ⟨u, rfl, em, hem, rfl⟩ := hU
        obtain ⟨_, es', m1, m2⟩ := W.map hem hg
        have hrun := callFunc_extern (P := P) hf hb h1 (by decide) rfl rfl rfl rfl rfl #[.iface t (.map (some em.block))] w
        rw [run_clone m1] at hrun
        have hp := Post.add W (.map es cl) (.map es' cl) 0 0 (fun _ _ _ _ hh => by cases hh) fun ρ' hs _ => ⟨rfl, es', rfl, m2.mono hs⟩
        refine ⟨_, _, _, hp, ?_, H.ds_add _ _, .inl hrun⟩
        simp only [VRel]
        exact ⟨_, rfl, ⟨w.heap.size, 0, 0, 0⟩, by simp, rfl⟩
      · trivial
    · trivial
  | false =>
    cases h2 : isNamed fn "internal/abi.NoEscape" with
    | true =>
      simp only [cond_true, cond_false]
      split
      · rename_i x
        obtain ⟨U, rfl, hU⟩ := hus.one
        have hrun := callFunc_extern (P := P) hf hb h2 (by decide) rfl rfl rfl rfl rfl #[U] w
        exact ⟨ρ, w, U, Post.refl W, hU, rfl, .inl hrun⟩
      · trivial
    | false =>
      cases h3 : isNamed fn "internal/bytealg.abigen_runtime_cmpstring" with
      | true =>
        simp only [cond_true, cond_false]
        split
        · rename_i s t
          obtain ⟨X, Y, rfl, hX, hY⟩ := hus.two
          simp only [VRel] at hX hY
          obtain ⟨a, rfl, rfl⟩ := hX
          obtain ⟨b, rfl, rfl⟩ := hY
          have hrun := callFunc_extern (P := P) hf hb h3 (by decide) rfl rfl rfl rfl rfl #[.string a, .string b] w
          rw [Lib.run_compareString] at hrun
          refine ⟨ρ, w, _, Post.refl W, ?_, rfl, .inl hrun⟩
          simp only [VRel, compare_spec]
        · trivial
      | false =>
        cases h4 : isNamed fn "internal/bytealg.IndexByteString" with
        | true =>
          simp only [cond_true, cond_false]
          split
          · rename_i s b
            cases hlt : Nat.blt b 256 with
            | false => trivial
            | true =>
              have hb256 := nblt.1 hlt
              obtain ⟨X, Y, rfl, hX, hY⟩ := hus.two
              simp only [VRel] at hX hY
              obtain ⟨a, rfl, rfl⟩ := hX
              subst hY
              have hrun := callFunc_extern (P := P) hf hb h4 (by decide) rfl rfl rfl rfl rfl #[.string a, .int .u8 (.ofNat b)] w
              rw [Lib.run_indexByteString] at hrun
              have hc : (Int.ofNat b).toNat.toUInt8.toNat = b := by simp; omega
              have hsp := index_spec (Int.ofNat b).toNat.toUInt8 a.data.toList
              rw [hc] at hsp
              simp only [cond_true]
              cases hfn : findNat b (a.data.toList.map UInt8.toNat) 0 with
              | none =>
                rw [hfn] at hsp
                rw [hsp] at hrun
                exact ⟨ρ, w, _, Post.refl W, by first | (simp only [VRel]; done) | (simp only [VRel]; rfl), rfl, .inl hrun⟩
              | some i =>
                rw [hfn] at hsp
                rw [hsp] at hrun
                exact ⟨ρ, w, _, Post.refl W, by first | (simp only [VRel]; done) | (simp only [VRel]; rfl), rfl, .inl hrun⟩
          · trivial
        | false => trivial

/-! a step of the evaluator, and many -/
theorem stepBody_ok (S : Sane P) (so : SelfOk P sf) (J : List Nat) (f : Nat) (args : List AV) (h : H) : CallOk P f args h (stepBody P J sf f args h) := by
  unfold stepBody
  cases hfn : funcT P f with
  | none => intro _ _ _ _ _ _ _; trivial
  | some fn =>
    have hf := S.func hfn
    simp only
    cases hnum : fn.name == "runtime.NumGoroutine" with
    | true => intro _ _ _ _ _ _ _; trivial
    | false =>
      simp only [cond_false]
      cases hb : fn.body with
      | none => exact externA_ok hf hb args h
      | some c =>
        have co := codes_ok (sf := sf) S so
        have henter : ∀ us w, (callFunc f us).run P w = .ok (.enter f us) w := fun us w => callFunc_enter hf hb (by simpa using hnum) us
        intro ρ w us c0 cs W hus
        cases hJ : hasNat J f with
        | false =>
          cases hE : hasNat J (Nat.add f 1048576) with
          | false =>
            refine VMeets.mono ?_ (bodyCall_ok S co hf hb W hus c0 cs)
            rintro v h' ⟨ρ', w', u, p, hv, hds, hs⟩
            exact ⟨ρ', w', u, p, hv, hds, .inr (.inr (.inl ⟨f, us, w, henter us w, hs⟩))⟩
          | true =>
            refine VMeets.mono ?_ (ifFork_ok (bodyCall_ok S co hf hb W hus c0 cs) (ejoined_ok (args := args) W (G := fun u w' => Steps P (lone (Frame.enter P f us .normal) (c0 :: cs) w) (lone (c0.finish u) cs w')) (call := fun g => bodyCall P fn c sf args g) fun g Wg => bodyCall_ok S co hf hb Wg hus c0 cs))
            rintro v h' ⟨ρ', w', u, p, hv, hds, hs⟩
            exact ⟨ρ', w', u, p, hv, hds, .inr (.inr (.inl ⟨f, us, w, henter us w, hs⟩))⟩
        | true =>
          refine VMeets.mono ?_ (join_ok W (G := fun u w' => Steps P (lone (Frame.enter P f us .normal) (c0 :: cs) w) (lone (c0.finish u) cs w')) (bodyCall_ok S co hf hb W.guard hus c0 cs))
          rintro v h' ⟨ρ', w', u, p, hv, hds, hs⟩
          exact ⟨ρ', w', u, p, hv, hds, .inr (.inr (.inl ⟨f, us, w, henter us w, hs⟩))⟩
end
end Go.Proofs.YtfkpcifchgnmnaaGreatDoor.Ev
end

noncomputable section
namespace Go.Proofs.YtfkpcifchgnmnaaGreatDoor.Ev
/-- a known call is what it says -/
def MemoOk (P : Program) (m : Memo) : Prop := memoFits m = true ∧ ∃ g', g'.next = m.nxt ∧ (∀ x ∈ m.outs, g'.get x.1 = x.2) ∧ CallOk P m.f m.args (memoH m.ins m.next) (.val m.v g')

theorem memoAt_some {f : Nat} {args : List AV} {h : H} {m : Memo} : ∀ {M : List Memo}, memoAt M f args h = some m → m ∈ M ∧ m.next = h.next ∧ m.f = f ∧ h.lo = 1 ∧ m.args = args ∧ ∀ x ∈ m.ins, h.get x.1 = x.2
  | [], hm => by cases hm
  | y :: M, hm => by
    have ih : memoAt M f args h = some m → _ := memoAt_some (M := M)
    change cond (Nat.beq y.next h.next) (cond (Nat.beq y.f f) (cond (Nat.beq h.lo 1) (cond (liftEq (same 8) y.args args) (cond (lall (fun x => sameO (h.get x.1) x.2) y.ins) (some y) (memoAt M f args h)) (memoAt M f args h)) (memoAt M f args h)) (memoAt M f args h)) (memoAt M f args h) = some m at hm
    have rest : memoAt M f args h = some m → m ∈ y :: M ∧ m.next = h.next ∧ m.f = f ∧ h.lo = 1 ∧ m.args = args ∧ ∀ x ∈ m.ins, h.get x.1 = x.2 := fun hh => ⟨List.mem_cons_of_mem _ (ih hh).1, (ih hh).2⟩
    cases h1 : Nat.beq y.next h.next with
    | false => rw [h1] at hm; exact rest hm
    | true =>
      cases h2 : Nat.beq y.f f with
      | false => rw [h1, h2] at hm; exact rest hm
      | true =>
        cases h3 : Nat.beq h.lo 1 with
        | false => rw [h1, h2, h3] at hm; exact rest hm
        | true =>
          cases h4 : liftEq (same 8) y.args args with
          | false => rw [h1, h2, h3, h4] at hm; exact rest hm
          | true =>
            cases h5 : lall (fun x => sameO (h.get x.1) x.2) y.ins with
            | false => rw [h1, h2, h3, h4, h5] at hm; exact rest hm
            | true =>
              rw [h1, h2, h3, h4, h5] at hm
              simp only [cond_true] at hm
              injection hm with hm
              subst hm
              exact ⟨by simp, nbeq.1 h1, nbeq.1 h2, nbeq.1 h3, liftEq_sound (same_sound 8) _ _ h4, fun x hx => sameO_sound ((lall_iff _ _).1 h5 x hx)⟩

theorem memoFits_spec {m : Memo} (h : memoFits m = true) : (∀ x ∈ m.ins, 1 ≤ x.1 ∧ hasIn m.outs x.1 = true ∧ ∀ cs e s p, x.2 = .arr cs e s p → p = 0 ∨ hasIn m.ins p = true) ∧ ∀ x ∈ m.outs, m.next ≤ x.1 ∨ hasIn m.ins x.1 = true := by
  unfold memoFits at h
  cases h1 : lall (fun x : Nat × AObj => cond (Nat.ble 1 x.1) (cond (hasIn m.outs x.1) (peerFits m.ins x.2) false) false) m.ins with
  | false => rw [h1] at h; simp at h
  | true =>
    rw [h1] at h
    cases h2 : Nat.ble 1 m.next with
    | false => rw [h2] at h; simp at h
    | true =>
      rw [h2] at h
      simp only [cond_true] at h
      refine ⟨fun x hx => ?_, fun x hx => ?_⟩
      · have := (lall_iff _ _).1 h1 x hx
        cases h3 : Nat.ble 1 x.1 with
        | false => rw [h3] at this; simp at this
        | true =>
          cases h4 : hasIn m.outs x.1 with
          | false => rw [h3, h4] at this; simp at this
          | true =>
            rw [h3, h4] at this
            simp only [cond_true] at this
            refine ⟨nble.1 h3, rfl, fun cs e s p hp => ?_⟩
            rw [hp] at this
            simp only [peerFits] at this
            cases h5 : Nat.beq p 0 with
            | true => exact .inl (nbeq.1 h5)
            | false => rw [h5] at this; exact .inr this
      · have := (lall_iff _ _).1 h x hx
        cases h3 : Nat.ble m.next x.1 with
        | true => exact .inl (nble.1 h3)
        | false => rw [h3] at this; exact .inr this

theorem memo_call {P : Program} {m : Memo} (ok : MemoOk P m) {h : H} (hn : m.next = h.next) (hl : h.lo = 1) (hi : ∀ x ∈ m.ins, h.get x.1 = x.2) : CallOk P m.f m.args h (.val m.v (memoTo m.outs m.nxt h)) := by
  obtain ⟨fits, g', g1, g2, g3⟩ := ok
  obtain ⟨f1, f2⟩ := memoFits_spec fits
  intro ρ w us c cs W hus
  have gin : ∀ i, hasIn m.ins i = true → (memoH m.ins m.next).get i = h.get i := fun i hh =>
    (litTree_in (q := fun i o => h.get i = o) m.ins hi i hh).symm
  have gout : ∀ i, ¬ hasIn m.ins i = true → (memoH m.ins m.next).get i = .none := fun i hh => by
    show (litTree m.ins .nil).get .none (pathOf i) = _
    rw [litTree_out _ _ _ (by simpa using hh)]; rfl
  have Wg : WRel P ρ (memoH m.ins m.next) w := by
    have cas : ∀ i, (memoH m.ins m.next).get i = .none ∨ ((memoH m.ins m.next).get i = h.get i ∧ hasIn m.ins i = true) := fun i => by
      by_cases hh : hasIn m.ins i = true
      · exact .inr ⟨gin i hh, hh⟩
      · exact .inl (gout i hh)
    exact W.part hn rfl fun i => (cas i).imp id And.left
  obtain ⟨ρ', w', u, p, hv, hds, hgo⟩ := g3 ρ w us c cs Wg hus
  refine ⟨ρ', w', u, ?_, hv, rfl, hgo⟩
  refine frame_post W (g := memoH m.ins m.next) (g' := g') (inI := fun i => hasIn m.ins i = true) (outI := fun i => hasIn m.outs i = true) hn rfl hl gin gout ?_ ?_ ?_ ?_ ?_ ?_ g1.symm rfl p
  · intro i cs e s q hq
    by_cases hh : hasIn m.ins i = true
    · obtain ⟨o, ho⟩ := (hasIn_iff i m.ins).1 hh
      refine (f1 _ ho).2.2 cs e s q ?_
      rw [gin i hh, hi _ ho] at hq
      exact hq
    · rw [gout i hh] at hq; cases hq
  · intro i hh
    obtain ⟨o, ho⟩ := (hasIn_iff i m.ins).1 hh
    exact (f1 _ ho).2.1
  · intro i hh
    obtain ⟨o, ho⟩ := (hasIn_iff i m.outs).1 hh
    rcases f2 _ ho with x | x
    · exact .inr (by rw [← hn]; exact x)
    · exact .inl x
  · intro i hh
    exact (litTree_in (t := h.tr) (q := fun i o => g'.get i = o) m.outs g2 i hh).symm
  · intro i hh
    exact litTree_out h.tr i m.outs (by simpa using hh)
  · intro i hh
    obtain ⟨o, ho⟩ := (hasIn_iff i m.ins).1 hh
    exact (f1 _ ho).1

section
variable {P : Program} {sf : Self}
theorem stepCall_ok (S : Sane P) (so : SelfOk P sf) (J : List Nat) {M : List Memo} (hM : ∀ m ∈ M, MemoOk P m) (f : Nat) (args : List AV) (h : H) : CallOk P f args h (stepCall P J M sf f args h) := by
  unfold stepCall
  cases hm : memoAt M f args h with
  | none => exact stepBody_ok S so J f args h
  | some m =>
    obtain ⟨m1, m2, m3, m4, m5, m6⟩ := memoAt_some hm
    subst m3; subst m5
    exact memo_call (hM m m1) m2 m4 m6
theorem step_ok (S : Sane P) (so : SelfOk P sf) (J : List Nat) {M : List Memo} (hM : ∀ m ∈ M, MemoOk P m) : SelfOk P (Ev.step P J M sf) :=
  ⟨fun c e h => loop_ok S so c e h, fun s c e h => scope_ok S so s c e h, fun f args h => stepCall_ok S so J hM f args h, fun f args h => stepCallv_ok S so (codes_ok S so) f args h⟩
theorem run_ok (S : Sane P) (J : List Nat) {M : List Memo} (hM : ∀ m ∈ M, MemoOk P m) : ∀ n, SelfOk P (run P J M n)
  | 0 => ⟨fun _ _ _ _ _ _ _ _ _ _ _ _ => trivial, fun _ _ _ _ _ _ _ _ _ _ _ _ _ _ => trivial, fun _ _ _ _ _ _ _ _ _ _ => trivial, fun _ _ _ _ _ _ _ _ _ _ _ _ => trivial⟩
  | n + 1 => step_ok S (run_ok S J hM n) J hM
/-- A CALL THAT THE EVALUATOR HAS RUN IS KNOWN -/
theorem memo_ok (S : Sane P) {J : List Nat} {M : List Memo} (hM : ∀ m ∈ M, MemoOk P m) {m : Memo} (h : memoB P J M m = true) : MemoOk P m := by
  unfold memoB at h
  cases hf : memoFits m with
  | false => rw [hf] at h; cases h
  | true =>
    rw [hf] at h
    simp only [cond_true] at h
    have so := stepBody_ok S (run_ok S J hM 999999) J m.f m.args (memoH m.ins m.next)
    revert h so
    generalize stepBody P J (run P J M 999999) m.f m.args (memoH m.ins m.next) = o
    intro h so
    cases o with
    | val v g =>
      simp only at h
      cases h1 : same 8 v m.v with
      | false => rw [h1] at h; simp at h
      | true =>
        cases h2 : Nat.beq g.next m.nxt with
        | false => rw [h1, h2] at h; simp at h
        | true =>
          rw [h1, h2] at h
          simp only [cond_true] at h
          have := same_sound 8 _ _ h1
          subst this
          exact ⟨hf, g, nbeq.1 h2, fun x hx => sameO_sound ((lall_iff _ _).1 h x hx), so⟩
    | _ => cases h
theorem yes_ok {Q : AV → H → Prop} : ∀ {o : Out}, yes o = true → VMeets Q o → ∃ h, Q (.bool true) h
  | .fail, h, _ => by cases h
  | .code _ _ _, h, _ => by cases h
  | .val v h', h, hq => by
    cases v with
    | bool b =>
      have hb : b = true := h
      subst hb
      exact ⟨h', hq⟩
    | _ => cases h
  | .fork a b, h, hq => by
    change cond (yes a) (yes b) false = true at h
    cases ha : yes a with
    | false => rw [ha] at h; cases h
    | true =>
      rw [ha] at h
      rcases hq with hq | hq
      · exact yes_ok ha hq
      · exact yes_ok h hq

/-- WHAT THE EVALUATOR SAYS HOLDS OF THE MACHINE: a function without arguments, entered anywhere, hands back true, and leaves all that was there as it was -/
theorem topM_sound (S : Sane P) {J : List Nat} {M : List Memo} (hM : ∀ m ∈ M, MemoOk P m) {f : Nat} (ht : topM P J M f = true) (hJ : hasNat J f = false) (hE : hasNat J (Nat.add f 1048576) = false) (w : World) :
    Calls P f #[] w fun e w' => e = .returned (.bool true) ∧ Keeps (fun _ => False) w w' := by
  have W : WRel P (fun _ => none) ⟨.nil, 1, 1, .fn []⟩ w := ⟨fun _ _ h => (by cases h), fun _ _ h => (by cases h), fun _ _ _ _ h => (by cases h), Nat.le_refl _, Nat.le_refl _, fun _ _ h => (by cases h), fun _ _ => rfl⟩
  intro cs
  have ht' : yes (stepBody P J (run P J M 999999) f [] ⟨.nil, 1, 1, .fn []⟩) = true := ht
  have so := run_ok S J hM 999999
  generalize run P J M 999999 = sf at ht' so
  unfold stepBody at ht'
  cases hfn : funcT P f with
  | none => rw [hfn] at ht'; cases ht'
  | some fn =>
    have hf := S.func hfn
    rw [hfn] at ht'
    simp only at ht'
    cases hnum : fn.name == "runtime.NumGoroutine" with
    | true => rw [hnum] at ht'; cases ht'
    | false =>
      rw [hnum] at ht'
      simp only [cond_false] at ht'
      cases hb : fn.body with
      | none =>
        exfalso
        rw [hb] at ht'
        simp only at ht'
        unfold externA at ht'
        cases h1 : isNamed fn "maps.clone" with
        | true => rw [h1] at ht'; cases ht'
        | false =>
          cases h2 : isNamed fn "internal/abi.NoEscape" with
          | true => rw [h1, h2] at ht'; cases ht'
          | false =>
            cases h3 : isNamed fn "internal/bytealg.abigen_runtime_cmpstring" with
            | true => rw [h1, h2, h3] at ht'; cases ht'
            | false =>
              cases h4 : isNamed fn "internal/bytealg.IndexByteString" with
              | true => rw [h1, h2, h3, h4] at ht'; cases ht'
              | false => rw [h1, h2, h3, h4] at ht'; cases ht'
      | some c =>
        rw [hb] at ht'
        simp only [hJ, hE] at ht'
        have hm := bodyCall_leaves S (codes_ok (sf := sf) S so) hf hb W (args := []) (us := #[]) VRels.nil cs
        obtain ⟨h', ρ', w', u, fr, p, hv, _, hs, hfr, hl⟩ := yes_ok ht' hm
        simp only [VRel] at hv
        subst hv
        refine ⟨.returned (.bool true), w', fr, ⟨rfl, p.keep.size, fun b hb _ => p.keep.same b hb ?_, p.keep.tape, p.keep.os, p.keep.output⟩, hs, hfr, hl⟩
        rintro ⟨i, e, he, _⟩
        cases he
theorem top_sound (S : Sane P) {J : List Nat} {f : Nat} (ht : top P J f = true) (hJ : hasNat J f = false) (hE : hasNat J (Nat.add f 1048576) = false) (w : World) :
    Calls P f #[] w fun e w' => e = .returned (.bool true) ∧ Keeps (fun _ => False) w w' := topM_sound S (fun _ h => by cases h) ht hJ hE w
end
end Go.Proofs.YtfkpcifchgnmnaaGreatDoor.Ev
end

noncomputable section
namespace Go.Proofs.YtfkpcifchgnmnaaGreatDoor.Ev
theorem bind_ok {ε α β : Type} {x : Except ε α} {f : α → Except ε β} {b : β} (h : (x >>= f) = .ok b) : ∃ a, x = .ok a ∧ f a = .ok b := by
  cases x with
  | error e => cases h
  | ok a => exact ⟨a, rfl, h⟩

theorem req_ok {c : Bool} {m : String} {u : Unit} (h : CheckCode.require c m = .ok u) : c = true := by
  unfold CheckCode.require at h
  cases c with
  | true => rfl
  | false => cases h
theorem forM_ok {α : Type} {g : α → Except String Unit} : ∀ {l : List α} {u : Unit}, l.forM g = .ok u → ∀ x ∈ l, g x = .ok ()
  | [], _, _, x, hx => by simp at hx
  | y :: l, u, h, x, hx => by
    have h' : (g y >>= fun _ => l.forM g) = .ok u := h
    obtain ⟨a, h1, h2⟩ := bind_ok h'
    rcases List.mem_cons.1 hx with rfl | hx
    · exact h1
    · exact forM_ok h2 x hx
theorem forMA_ok {α : Type} {g : α → Except String Unit} {a : Array α} {u : Unit} (h : a.forM g = .ok u) : ∀ x ∈ a.toList, g x = .ok () := by
  obtain ⟨l⟩ := a
  rw [List.forM_toArray' _ _ (by rfl)] at h
  exact forM_ok h
theorem region_okc {P : Program} {f : Func} {id : Nat} {ops : Array Oper} {draw : Bool} {u : Unit} (h : CheckCode.region P f id ops draw = .ok u) : Okc P f.ntmps (.region id ops draw) := by
  unfold CheckCode.region at h
  obtain ⟨_, h1, h⟩ := bind_ok h
  obtain ⟨_, _, h⟩ := bind_ok h
  refine ⟨fun o ho d hd => ?_, req_ok h⟩
  obtain ⟨i, hi⟩ := List.getElem?_of_mem ho
  have hm : (o, i) ∈ ops.toList.zipIdx := by rw [List.mem_zipIdx_iff_getElem?]; exact hi
  have h2 := forM_ok h1 _ hm
  simp only [hd] at h2
  obtain ⟨_, h3, _⟩ := bind_ok h2
  simpa using req_ok h3
theorem code_okc {P : Program} {f : Func} : ∀ (c : Code) (bs ls : List Nat) {u : Unit}, CheckCode.code P f bs ls c = .ok u → Okc P f.ntmps c
  | .skip, _, _, _, _ => trivial
  | .ret, _, _, _, _ => trivial
  | .label _, _, _, _, _ => trivial
  | .refuse _, _, _, _, _ => trivial
  | .exit _, _, _, _, _ => trivial
  | .goto _, _, _, _, _ => trivial
  | .region id ops draw, bs, ls, u, h => region_okc (by simpa only [CheckCode.code] using h)
  | .seq a b, bs, ls, u, h => by
    simp only [CheckCode.code] at h
    obtain ⟨_, h1, h2⟩ := bind_ok h
    exact ⟨code_okc a bs ls h1, code_okc b bs ls h2⟩
  | .cond c a b, bs, ls, u, h => by
    simp only [CheckCode.code] at h
    obtain ⟨_, _, h⟩ := bind_ok h
    obtain ⟨_, h1, h2⟩ := bind_ok h
    exact ⟨code_okc a bs ls h1, code_okc b bs ls h2⟩
  | .block id c, bs, ls, u, h => code_okc c (id :: bs) ls (by simpa only [CheckCode.code] using h)
  | .loop c, bs, ls, u, h => code_okc c bs ls (by simpa only [CheckCode.code] using h)
  | .scope c, bs, ls, u, h => code_okc c bs (CheckCode.spine c ++ ls) (by simpa only [CheckCode.code] using h)
  | .rangeFunc g ps a c, bs, ls, u, h => by
    simp only [CheckCode.code] at h
    obtain ⟨_, _, h⟩ := bind_ok h
    obtain ⟨_, h0, h⟩ := bind_ok h
    obtain ⟨_, _, h⟩ := bind_ok h
    obtain ⟨_, h1, h2⟩ := bind_ok h
    refine ⟨fun p hp => ?_, code_okc a [] [] h1, code_okc c bs ls h2⟩
    exact of_decide_eq_true (req_ok (forMA_ok h0 p hp))
theorem func_okc {P : Program} {f : Func} {c : Code} {u : Unit} (hb : f.body = some c) (h : CheckCode.func P f = .ok u) : Okc P f.ntmps c := by
  unfold CheckCode.func at h
  obtain ⟨_, _, h⟩ := bind_ok h
  obtain ⟨_, _, h⟩ := bind_ok h
  obtain ⟨_, _, h⟩ := bind_ok h
  simp only [hb] at h
  obtain ⟨_, _, h⟩ := bind_ok h
  obtain ⟨_, h1, _⟩ := bind_ok h
  exact code_okc c [] [] h1
theorem sane_of_check {P : Program} (h : P.check = .ok ()) (h1 : Nat.ble P.types.size 65536 = true) (h2 : Nat.ble P.funcs.size 65536 = true) (h3 : P.follows .mixedOrders = true) : Sane P := by
  refine ⟨?_, ?_, h3, fun i fn c hf hb => ?_⟩
  · have := nble.1 h1; omega
  · have := nble.1 h2; omega
  · unfold Program.check at h
    obtain ⟨_, h4, _⟩ := bind_ok h
    have hi : i ∈ List.range P.funcs.size := by
      rw [List.mem_range]
      exact (Array.getElem?_eq_some_iff.1 hf).1
    have h5 := forM_ok h4 i hi
    unfold CheckCode.funcAt at h5
    rw [hf] at h5
    simp only at h5
    cases h6 : CheckCode.func P fn with
    | error e => rw [h6] at h5; cases h5
    | ok u => exact func_okc hb h6
end Go.Proofs.YtfkpcifchgnmnaaGreatDoor.Ev
end

noncomputable section
namespace Go.Proofs.YtfkpcifchgnmnaaGreatDoor.Ev

/-! closed facts about great programs, reckoned with little memory -/
theorem funcT_eq {P : Program} (h : Nat.ble P.funcs.size 65536 = true) (f : Nat) : funcT P f = P.funcs[f]? := by
  have h1 := nble.1 h
  unfold funcT funcsOf
  rw [ofList_pathOf _ _ (by simp; omega)]
  simp
def leads (P : Program) (f : Nat) : List Nat := match funcT P f with | some fn => P.leadsTo fn | none => []
def viaFast (P : Program) (n : Nat) : List Nat → Tr Bool → List Nat → List Nat :=
  Nat.rec (motive := fun _ => List Nat → Tr Bool → List Nat → List Nat) (fun _ _ seen => seen.reverse) (fun _ ih todo t seen =>
    List.rec (motive := fun _ => List Nat) seen.reverse (fun f todo _ => cond (t.get false (pathOf f)) (ih todo t seen) (ih (lapp (leads P f) todo) (t.set false true (pathOf f)) (f :: seen))) todo) n
theorem viaFast_eq {P : Program} (hs : Nat.ble P.funcs.size 65536 = true) : ∀ (n : Nat) (todo : List Nat) (t : Tr Bool) (seen : List Nat), (∀ f, t.get false (pathOf f) = seen.contains f) → viaFast P n todo t seen = P.closureVia n todo seen
  | 0, todo, t, seen, _ => by cases todo <;> rfl
  | n + 1, [], t, seen, _ => rfl
  | n + 1, f :: todo, t, seen, ht => by
    show cond (t.get false (pathOf f)) (viaFast P n todo t seen) (viaFast P n (lapp (leads P f) todo) (t.set false true (pathOf f)) (f :: seen)) = _
    rw [ht]
    unfold Program.closureVia
    cases hc : seen.contains f with
    | true =>
      simp only [cond_true, if_true]
      exact viaFast_eq hs n todo t seen ht
    | false =>
      simp only [cond_false, Bool.false_eq_true, if_false]
      rw [viaFast_eq hs n _ _ (f :: seen), lapp_eq]
      · congr 2
        unfold leads
        rw [funcT_eq hs]
        cases P.funcs[f]? <;> rfl
      · intro g
        rw [Tr.get_set, List.contains_cons, ← ht]
        by_cases hg : g = f
        · subst hg; simp
        · have h1 : ¬ pathOf g = pathOf f := fun h => hg (pathOf_inj h)
          simp [h1, hg]
def fuelFast (P : Program) : Nat := List.rec (motive := fun _ => Nat) 1 (fun g _ n => Nat.add n (Nat.succ (llen (P.leadsTo g)))) P.funcs.toList
theorem fuelFast_eq (P : Program) : fuelFast P = 1 + (P.funcs.toList.map fun g => (P.leadsTo g).length + 1).sum := by
  unfold fuelFast
  induction P.funcs.toList with
  | nil => rfl
  | cons g l ih =>
    show Nat.add _ (Nat.succ (llen (P.leadsTo g))) = _
    rw [ih, llen_eq, List.map_cons, List.sum_cons]
    show 1 + (l.map fun g => (P.leadsTo g).length + 1).sum + ((P.leadsTo g).length + 1) = _
    omega
def closureFast (P : Program) (f : Nat) : List Nat := viaFast P (fuelFast P) [f] .nil []
theorem closureFast_eq {P : Program} (hs : Nat.ble P.funcs.size 65536 = true) (f : Nat) : closureFast P f = P.closure f := by
  unfold closureFast Program.closure
  rw [viaFast_eq hs _ _ _ _ (fun _ => rfl), fuelFast_eq]

def anyFast (g : Func → Bool) (P : Program) (l : List Nat) : Bool := List.rec (motive := fun _ => Bool) false (fun f _ r => cond (match funcT P f with | some fn => g fn | none => false) true r) l
theorem anyFast_eq {P : Program} (hs : Nat.ble P.funcs.size 65536 = true) (g : Func → Bool) (l : List Nat) : anyFast g P l = l.any fun f => (P.funcs[f]?).any g := by
  induction l with
  | nil => rfl
  | cons f l ih =>
    show cond (match funcT P f with | some fn => g fn | none => false) true (anyFast g P l) = _
    rw [ih, List.any_cons, funcT_eq hs]
    cases P.funcs[f]? with
    | none => rfl
    | some fn => simp only [Option.any_some]; cases g fn <;> rfl
theorem unfollowed_fast {P : Program} (hs : Nat.ble P.funcs.size 65536 = true) {f : Nat} (h : anyFast (fun fn => match fn.body with | some c => c.unfollowed | none => entryCalls fn) P (closureFast P f) = true) : P.unfollowed f = true := by
  rw [anyFast_eq hs, closureFast_eq hs] at h
  exact h
theorem recurses_fast {P : Program} {f : Nat} (h : P.unfollowed f = true) : P.recurses f = true := by
  unfold Program.recurses
  rw [h]; rfl
def placeFast (P : Program) (l : List Nat) : List String :=
  List.rec (motive := fun _ => List String) [] (fun f _ r => match funcT P f with | some fn => cond (fn.ours || fn.body.isNone || fn.name == "runtime.NumGoroutine") (fn.name :: r) r | none => r) l
theorem inPlace_fast {P : Program} (hs : Nat.ble P.funcs.size 65536 = true) (f : Nat) : placeFast P (closureFast P f) = P.inPlace f := by
  unfold Program.inPlace
  rw [closureFast_eq hs]
  generalize P.closure f = l
  induction l with
  | nil => rfl
  | cons g l ih =>
    show (match funcT P g with | some fn => cond (fn.ours || fn.body.isNone || fn.name == "runtime.NumGoroutine") (fn.name :: placeFast P l) (placeFast P l) | none => placeFast P l) = _
    rw [ih, funcT_eq hs, List.filterMap_cons]
    cases P.funcs[g]? with
    | none => rfl
    | some fn =>
      simp only [Option.bind_some]
      cases fn.ours || fn.body.isNone || fn.name == "runtime.NumGoroutine" <;> rfl
def namedFast (P : Program) (l : List Nat) : List Nat := List.rec (motive := fun _ => List Nat) [] (fun f _ r => match funcT P f with | some fn => (match fn.body with | some c => lapp c.globalsNamed r | none => r) | none => r) l
theorem namedFast_eq {P : Program} (hs : Nat.ble P.funcs.size 65536 = true) (l : List Nat) : namedFast P l = l.flatMap fun g => ((P.funcs[g]?).bind (·.body)).elim [] Code.globalsNamed := by
  induction l with
  | nil => rfl
  | cons g l ih =>
    show (match funcT P g with | some fn => (match fn.body with | some c => lapp c.globalsNamed (namedFast P l) | none => namedFast P l) | none => namedFast P l) = _
    rw [ih, funcT_eq hs, List.flatMap_cons]
    cases P.funcs[g]? with
    | none => rfl
    | some fn =>
      simp only [Option.bind_some]
      cases fn.body with
      | none => rfl
      | some c => simp only [Option.elim_some]; rw [lapp_eq]
def entryFast (P : Program) (l : List Nat) : List String := List.rec (motive := fun _ => List String) [] (fun f _ r => match funcT P f with | some fn => (match fn.body with | none => (match entryReads.lookup fn.name with | some n => n :: r | none => r) | some _ => r) | none => r) l
theorem entryFast_eq {P : Program} (hs : Nat.ble P.funcs.size 65536 = true) (l : List Nat) : entryFast P l = l.filterMap fun g => (P.funcs[g]?).bind fun fn => if fn.body.isNone then entryReads.lookup fn.name else none := by
  induction l with
  | nil => rfl
  | cons g l ih =>
    show (match funcT P g with | some fn => (match fn.body with | none => (match entryReads.lookup fn.name with | some n => n :: entryFast P l | none => entryFast P l) | some _ => entryFast P l) | none => entryFast P l) = _
    rw [ih, funcT_eq hs, List.filterMap_cons]
    cases P.funcs[g]? with
    | none => rfl
    | some fn =>
      simp only [Option.bind_some]
      cases fn.body with
      | some c => rfl
      | none =>
        simp only [Option.isNone_none, if_true]
        cases entryReads.lookup fn.name <;> rfl
theorem varsNamed_fast {P : Program} (hs : Nat.ble P.funcs.size 65536 = true) (f : Nat) : (((namedFast P (closureFast P f)).eraseDups.filterMap fun g => (P.globals[g]?).map (·.name)) ++ entryFast P (closureFast P f)).eraseDups = P.varsNamed f := by
  unfold Program.varsNamed
  rw [namedFast_eq hs, entryFast_eq hs, closureFast_eq hs]

/-- no function starts a goroutine -/
theorem goes_none {P : Program} (h : P.funcs.any Func.goes = false) (f : FuncId) : P.goes f = false := by
  have key : ∀ g : Nat, (P.funcs[g]?).any Func.goes = false := by
    intro g
    cases hg : P.funcs[g]? with
    | none => rfl
    | some fn =>
      simp only [Option.any_some]
      cases hf : fn.goes with
      | false => rfl
      | true =>
        have : P.funcs.any Func.goes = true := Array.any_eq_true'.2 ⟨fn, Array.mem_of_getElem? hg, hf⟩
        rw [h] at this; cases this
  unfold Program.goes
  rw [h, Bool.and_false, Bool.or_false, List.any_eq_false]
  intro g _
  rw [key g]; simp
theorem goesBy_none {P : Program} {c : OpenClaim} (h : P.funcs.any Func.goes = false) (hs : c.start = .entering) : false = c.goesBy P := by
  unfold OpenClaim.goesBy Program.goesAt Program.goesFrom
  rw [hs]
  cases P.funcNamed c.func with
  | none => rfl
  | some f => simp only [Option.any_some]; rw [goes_none h]; rfl
end Go.Proofs.YtfkpcifchgnmnaaGreatDoor.Ev
end
